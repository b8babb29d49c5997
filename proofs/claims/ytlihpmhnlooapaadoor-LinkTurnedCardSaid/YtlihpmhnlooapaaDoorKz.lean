/- An interface, and all that it has: the function that adds itself. -/
import Derived.Test.YtlihpmhnlooapaaDoorKy
namespace Go.Proofs.YtlihpmhnlooapaaDoor
open Go.RowKit Go.Proofs.YtlihpmhnlooapaaDoorW.PrintWords Go.Maps Go.WideMaps

theorem contains_any (A : Option Addr) (c : Nat) (xs : List Int) (x : Int) (w : World) (h : kI.C w A xs.length xs) (hb : xs.length ≤ 9223372036854775807) :
    Calls Tryd.prog 75 #[.slice A xs.length c, .int .i64 x] w fun e w' => e = .returned (.bool (xs.contains x)) ∧ w' = w := by
  by_cases hn : 0 < xs.length
  · obtain ⟨b, off, hA⟩ := C_plain h hn (by decide)
    subst hA
    have := Tryd.slices_Contains_int b off xs.length c xs x w (Nat.le_refl _) hb (fun j hj => C_scalar (h1 := fun _ => rfl) h 0 j hj)
    rw [List.take_length] at this
    exact this
  · have h0 : xs = [] := List.eq_nil_of_length_eq_zero (by omega)
    subst h0
    exact Tryd.slices_Contains_int_empty A c x w

theorem nodup_len (N : Nat) : ∀ l : List Nat, l.Nodup → (∀ x ∈ l, x < N) → l.length ≤ N := by
  induction N with
  | zero =>
    intro l _ h
    cases l with
    | nil => exact Nat.le_refl _
    | cons a l => exact absurd (h a List.mem_cons_self) (by omega)
  | succ N ih =>
    intro l hd h
    by_cases hm : N ∈ l
    · have := ih (l.erase N) (hd.erase N) (fun x hx => by
        have h1 := (hd.mem_erase_iff).1 hx
        have := h x h1.2
        omega)
      rw [List.length_erase_of_mem hm] at this
      omega
    · have := ih l hd (fun x hx => by
        have h1 := h x hx
        have : x ≠ N := fun e => hm (e ▸ hx)
        omega)
      omega
def Fit (N : Nat) (out : List Nat) : Prop := out.Nodup ∧ ∀ x ∈ out, x < N
theorem Fit.len {N : Nat} {out : List Nat} (h : Fit N out) : out.length ≤ N := nodup_len N out h.1 h.2
theorem Fit.put {N : Nat} {out : List Nat} (h : Fit N out) {f : Nat} (hf : f < N) (hn : f ∉ out) : Fit N (out ++ [f]) := by
  refine ⟨?_, fun x hx => ?_⟩
  · rw [List.nodup_append]
    refine ⟨h.1, by simp, fun a ha b hb e => ?_⟩
    simp at hb
    subst hb
    subst e
    exact hn ha
  · rcases List.mem_append.1 hx with hx | hx
    · exact h.2 x hx
    · simp at hx; omega
theorem R_ne {α : Type} {d : Kd α} {e : Nat} {w : World} {base : Nat} {ok : Nat → Prop} {v : Value} {xs : List α} (h : d.R e w base ok v xs) {g t : Nat} {cs : Array Value} (hb : w.heap[g]? = some (.cells cs t (0, 0))) (ht : e ≠ t) : some g ≠ v.ownBlock := by
  intro hg
  obtain ⟨inner, ho⟩ := Kd.R_own h
  obtain ⟨cells, hc⟩ := own_typed ho g hg.symm
  rw [hc] at hb
  injection hb with hb
  injection hb with h1 h2 h3
  exact ht h2
/-- The worlds of one class's adding: b1 and b5 hold what is captured, b4 what has been found. -/
structure LW (w0 : World) (p b1 b4 b5 N : Nat) (out : List Nat) (w : World) : Prop where
  below : Below w0.heap.size w0 w
  k1 : w.heap[b1]? = some (.cells #[.pointer (some ⟨p, 0, none⟩)] 23 (0, 0))
  k5 : w.heap[b5]? = some (.cells #[.func (.func 114) #[] #[.pointer (some ⟨b4, 0, none⟩), .pointer (some ⟨b1, 0, none⟩), .pointer (some ⟨b5, 0, none⟩)]] 145 (0, 0))
  row : ∃ A c, w.heap[b4]? = some (.cells #[.slice A out.length c] 31 (0, 0)) ∧ kI.R 3 w w0.heap.size (fun _ => True) (.slice A out.length c) (ints out)
  fit : Fit N out
  base : w0.heap.size ≤ b4
section
variable {w0 w w1 : World} {p b1 b4 b5 N : Nat} {out : List Nat}
theorem LW.step (h : LW w0 p b1 b4 b5 N out w) (hb : Below w.heap.size w w1) : LW w0 p b1 b4 b5 N out w1 := by
  obtain ⟨A, c, h1, h2⟩ := h.row
  exact ⟨below_weaken h.below h.below.size hb, blk_below h.k1 hb, blk_below h.k5 hb, ⟨A, c, blk_below h1 hb, Kd.R_below h2 hb⟩, h.fit, h.base⟩
theorem LW.put (h : LW w0 p b1 b4 b5 N out w) {v v1 : Value} (hv : kI.R 3 w w0.heap.size (fun _ => True) v (ints out)) {f : Nat} (hf : f < N) (hn : f ∉ out) (hR : kI.R 3 w1 w0.heap.size (fun _ => True) v1 (ints out ++ [(f : Int)])) (hB : Below w0.heap.size w0 w1) (hG : w.grownBy w1 v.ownBlock) :
    w1.heap[b4]? = some (.cells #[v] 31 (0, 0)) → LW w0 p b1 b4 b5 N (out ++ [f]) (w1.setCell ⟨b4, 0, none⟩ v1) := by
  intro k4
  have k1 := blk_grown h.k1 hG (R_ne hv h.k1 (by decide))
  have k5 := blk_grown h.k5 hG (R_ne hv h.k5 (by decide))
  have n1 := blk_ne k1 k4 (by decide)
  have n5 := blk_ne k5 k4 (by decide)
  have he : ints (out ++ [f]) = ints out ++ [(f : Int)] := by simp [ints]
  rw [← he] at hR
  obtain ⟨A, c, rfl⟩ := Kd.R_slice hR
  have hl : (ints (out ++ [f])).length = (out ++ [f]).length := by simp [ints]
  rw [hl] at hR ⊢
  refine ⟨hB.setCell h.base _, blk_far k1 n1 _, blk_far k5 n5 _, ⟨A, c, blk_put k4 0 _ rfl, ?_⟩, h.fit.put hf hn, h.base⟩
  exact Kd.R_mono (Kd.R_step (Kd.R_types hR k4 (by decide)) (fun k hk _ => Below.heap_setCell w1 ⟨b4, 0, none⟩ _ k hk.2)) (fun _ hk => hk.1)
end
theorem addF_unfold {N : Nat} {L : List Cl} {S : List Int} {F : List (List Int)} (G : GoodSet N L S F) {f : Nat} (hf : f < N) (out : List Nat) : Link.addF (fsF F) (N + 2) out f = if f ∈ out then out else (fsF F f).foldl (Link.addF (fsF F) (N + 2)) (out ++ [f]) := by
  have := G.addF_depth (N + 2) (N + 3) f out hf (by have := Link.rank_le (sup := supF S) (fs := fsF F) N f; omega) (by have := Link.rank_le (sup := supF S) (fs := fsF F) N f; omega)
  rw [this]
  rfl
def AddAll (S : List Int) (F : List (List Int)) (w0 : World) (p b1 b4 b5 N : Nat) (d : Nat) : Prop :=
  ∀ (f : Nat) (out : List Nat) (w : World), f < N → Link.rank N (supF S) (fsF F) f < d → LW w0 p b1 b4 b5 N out w →
    Calls Tryd.prog 114 #[.int .i64 f, .pointer (some ⟨b4, 0, none⟩), .pointer (some ⟨b1, 0, none⟩), .pointer (some ⟨b5, 0, none⟩)] w (fun e w' => e = .returned (.tuple #[]) ∧ LW w0 p b1 b4 b5 N (Link.addF (fsF F) (N + 2) out f) w')
set_option maxRecDepth 100000 in
set_option maxHeartbeats 8000000 in
theorem add_step (p g N cap m gs cs gf cf : Nat) (aV : Value) (L : List Cl) (S : List Int) (F : List (List Int)) (w0 : World) (hV : SV p g N cap m gs cs gf cf aV L S F w0) (G : GoodSet N L S F) (b1 b4 b5 d : Nat) (ih : AddAll S F w0 p b1 b4 b5 N d) : AddAll S F w0 p b1 b4 b5 N (d + 1) := by
  intro f out w hf hrk hLW
  have IH := hid ih
  have hNb := hV.big
  have HV := hid hV
  have HG := hid G
  have HRK := hid hrk
  obtain ⟨A, c, k4, hR⟩ := hLW.row
  have hl := hLW.fit.len
  have HL := hid hLW
  have hil : (ints out).length = out.length := by simp [ints]
  have HC : Hid (kI.C w A (ints out).length (ints out)) := (Kd.R_reads' hR).2.2
  have hx4 := blk_cell k4 0
  have HCT := hid (contains_any A c (ints out) (f : Int) w HC.out (by rw [hil]; omega))
  rw [hil] at HCT
  have HR := hid hR
  have HK4 := hid k4
  have hcb : (ints out).contains (f : Int) = decide (f ∈ out) := by
    rw [Bool.eq_iff_iff]
    simp [ints]
    constructor
    · rintro ⟨a, ha, e⟩
      have : a = f := by omega
      rw [← this]; exact ha
    · intro h
      exact ⟨f, h, rfl⟩
  have HU := hid (addF_unfold G hf out)
  have lf : (f : Int) < N := by omega
  clear hil HC hR hV G hrk hLW ih
  rw [hcb] at HCT
  clear hcb
  by_cases hin : f ∈ out
  · have HE := hid (show Link.addF (fsF F) (N + 2) out f = out by rw [HU.out, if_pos hin])
    have HCT' := hid (show Calls _ _ _ w (fun e w' => e = .returned (.bool true) ∧ w' = w) by have := HCT.out; rw [decide_eq_true hin] at this; exact this)
    clear hin HCT
    go_enter Tryd.func114, Tryd.ntmps114
    go_wp2_with (go_at_call 75; refine HCT'.out.mono ?_; rintro e w' ⟨rfl, rfl⟩)
    refine bodyPost_ret (results_none rfl _ _ _) rfl ?_
    exact ⟨rfl, by rw [HE.out]; exact HL.out⟩
  · have HE := hid (show Link.addF (fsF F) (N + 2) out f = (fsF F f).foldl (Link.addF (fsF F) (N + 2)) (out ++ [f]) by rw [HU.out, if_neg hin])
    have HCT' := hid (show Calls _ _ _ w (fun e w' => e = .returned (.bool false) ∧ w' = w) by have := HCT.out; rw [decide_eq_false hin] at this; exact this)
    have HIN := hid hin
    clear hin HCT
    obtain ⟨A2, c2, d1, hlc, hC2⟩ := HV.out.facesAt f hf
    obtain ⟨hfl, hfr⟩ := HV.out.facesR f hf
    have HFR := hid hfr
    have HC2 := hid hC2
    have h3 := HV.out.blk
    have HX := hid (fun W (hb : Below w0.heap.size w0 W) => (⟨blk_cell (blk_below h3 hb) 3, (hb.cell (World.block_lt_of_cell? w0 _ d1)).trans d1⟩ : W.cell? ⟨p, 3, none⟩ = some (.slice (some ⟨gf, 0, none⟩) N cf) ∧ W.cell? ⟨gf, f, none⟩ = some (.slice A2 (F.getD f []).length c2)))
    clear hfr hC2 h3 d1
    go_enter Tryd.func114, Tryd.ntmps114
    go_upto_region 2 with (first | (go_at_call 75; refine HCT'.out.mono ?_; rintro e w' ⟨rfl, rfl⟩) | (at_builtin; refine Kd.R_append kI w0.heap.size rfl (.tmp 10) (.tmp 12) 31 3 _ 8 rfl Tryd.underlying31 infoInt rfl (by decide) (by decide) _ (ints out) (f : Int) [.int .i64 (f : Int)] (fun _ => True) (fun _ => False) rfl rfl rfl (fun _ h => h.elim) (fun _ _ => trivial) HR.out HL.out.below HL.out.below.size (by simp; omega) ?_; intro v1 w1 hR1 hB1 hG1 _; have k41 := blk_grown HK4.out hG1 (R_ne HR.out HK4.out (by decide)); have H2 := hid (HL.out.put HR.out hf HIN.out hR1 hB1 hG1 k41); obtain ⟨A1, n1, c1, rfl⟩ := R_sl hR1; have e1 := blk_cell k41 0; have e2 := blk_frozen k41 0))
    generalize World.setCell _ _ _ = w2 at *
    have hx1 := blk_cell H2.out.k1 0
    obtain ⟨c3, d1⟩ := HX.out w2 H2.out.below
    clear k4 hx4 hB1 hG1 k41 hR1 e1 e2
    have hlm : (fsF F f).length = (F.getD f []).length := by simp [fsF]
    have HM := hid hlm
    have HRK2 := hid HRK.out
    generalize hM : (F.getD f []).length = M at *
    have HMM := hid hM
    clear hM hlm
    go_wp2
    go_loopw [6, 22] (fun gV iV wr => ∃ q : Nat, q ≤ M ∧ iV = .int .i64 q ∧ Hid (LW w0 p b1 b4 b5 N (((fsF F f).take q).foldl (Link.addF (fsF F) (N + 2)) (out ++ [f])) wr)) (fun _ iV _ => M - (intOf iV).toNat)
    case atStart => exact ⟨0, by omega, rfl, H2⟩
    obtain ⟨q, hq, rfl, HW⟩ := hrel
    by_cases hqM : q < M
    · obtain ⟨b, off, hA⟩ := C_plain HC2.out (by omega) (by decide)
      subst hA
      have hcell := C_scalar (h1 := fun _ => rfl) HC2.out 0 q (by rw [HMM.out]; exact hqM)
      obtain ⟨v, hv⟩ : ∃ v : Nat, (F.getD f [])[q]? = some (v : Int) := by
        have hm : (F.getD f [])[q]'(by rw [HMM.out]; exact hqM) ∈ F.getD f [] := List.getElem_mem _
        obtain ⟨r0, _⟩ := HFR.out _ hm
        obtain ⟨v, hv⟩ := Int.eq_ofNat_of_zero_le r0
        exact ⟨v, by rw [List.getElem?_eq_getElem (by rw [HMM.out]; exact hqM), hv]⟩
      obtain ⟨_, hvN⟩ := HFR.out _ (List.mem_of_getElem? hv)
      have hvq : (fsF F f)[q]? = some v := by simp only [fsF, List.getElem?_map, hv]; rfl
      have hs : Link.Step (supF S) (fsF F) f v := .inr (List.mem_of_getElem? hvq)
      have hrv := HG.out.rank_lt hf hs
      rw [List.getD_eq_getElem?_getD, hv] at hcell
      simp only [Option.getD_some] at hcell
      have d2 := (HW.out.below.cell (World.block_lt_of_cell? w0 _ hcell)).trans hcell
      have d3 := blk_cell HW.out.k5 0
      have HN := hid (show ((fsF F f).take (q + 1)).foldl (Link.addF (fsF F) (N + 2)) (out ++ [f]) = Link.addF (fsF F) (N + 2) (((fsF F f).take q).foldl (Link.addF (fsF F) (N + 2)) (out ++ [f])) v by
        rw [List.take_add_one, hvq]; simp)
      have HIH := hid (IH.out v _ wr (by omega) (by have := HRK.out; omega) HW.out)
      clear hcell hv hvq hs hrv hx1 c3 d1
      go_wp2_with (go_at_call 114; refine HIH.out.mono ?_; rintro e w3 ⟨rfl, hW3⟩; have HW3 := hid hW3; clear hW3)
      go_roundw
      case rel => exact ⟨q + 1, by omega, by go_num, by rw [HN.out]; exact HW3⟩
      case measure => simp [intOf]; omega
    · have HF := hid (show LW w0 p b1 b4 b5 N (Link.addF (fsF F) (N + 2) out f) wr by
        have := HW.out
        rw [List.take_of_length_le (by rw [HM.out]; omega)] at this
        rw [HE.out]
        exact this)
      go_wp2
      go_end0
      exact ⟨rfl, HF.out⟩
theorem add_all (p g N cap m gs cs gf cf : Nat) (aV : Value) (L : List Cl) (S : List Int) (F : List (List Int)) (w0 : World) (hV : SV p g N cap m gs cs gf cf aV L S F w0) (G : GoodSet N L S F) (b1 b4 b5 d : Nat) : AddAll S F w0 p b1 b4 b5 N d := by
  induction d with
  | zero => intro f out w _ h; omega
  | succ d ih => exact add_step p g N cap m gs cs gf cf aV L S F w0 hV G b1 b4 b5 d ih
end Go.Proofs.YtlihpmhnlooapaaDoor
