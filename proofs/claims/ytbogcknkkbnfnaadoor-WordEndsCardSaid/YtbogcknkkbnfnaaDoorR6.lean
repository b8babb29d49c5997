/- Texts laid as one: Nf Nh Nj. -/
import Derived.Test.YtbogcknkkbnfnaaDoorNe
/- The document's answer, of classes that are a set: chain, with, Above, Below, Common. -/
namespace Go.Proofs.YtbogcknkkbnfnaaDoor
open Go.RowKit Go.Proofs.YtbogcknkkbnfnaaDoorW.PrintWords Go.Maps Go.WideMaps

/-- Only a slice's own block has grown. -/
structure Grw (w w' : World) (v v' : Value) : Prop where
  size : w.heap.size ≤ w'.heap.size
  block : ∀ k, k < w.heap.size → some k ≠ v.ownBlock → w'.heap[k]? = w.heap[k]?
  own : v'.ownBlock = v.ownBlock ∨ ∃ b, v'.ownBlock = some b ∧ w.heap.size ≤ b
theorem Grw.of {w w' : World} (v : Value) (h : Below w.heap.size w w') : Grw w w' v v := ⟨h.size, fun k hk _ => h.block k hk, .inl rfl⟩
theorem Grw.mk' {w w' : World} {v v' : Value} (hG : w.grownBy w' v.ownBlock) (hat : v'.ownBlock = v.ownBlock ∨ ∃ b, v'.ownBlock = some b ∧ w.heap.size ≤ b) : Grw w w' v v' := ⟨hG.size, fun k hk hne => hG.block k hk hne, hat⟩
theorem Grw.trans {w w1 w2 : World} {v v1 v2 : Value} (h : Grw w w1 v v1) (k : Grw w1 w2 v1 v2) : Grw w w2 v v2 := by
  have hs := h.size
  refine ⟨Nat.le_trans h.size k.size, fun j hj hne => ?_, ?_⟩
  · rw [k.block j (by omega) (fun e => ?_), h.block j hj hne]
    rcases h.own with h1 | ⟨b, h1, h2⟩
    · exact hne (by rw [e, h1])
    · rw [h1] at e
      injection e with e
      omega
  · rcases k.own with h1 | ⟨b, h1, h2⟩
    · rw [h1]; exact h.own
    · exact .inr ⟨b, h1, by omega⟩
/-- A row made before stays. -/
theorem Grw.row {w w1 w2 : World} {v v' x : Value} {xs : List Int} (h : Grw w1 w2 v v') (hv : ∀ j, v.ownBlock = some j → j < w.heap.size) (hR : kI.R 3 w1 w.heap.size (fun _ => True) x xs) : kI.R 3 w2 w.heap.size (fun _ => True) x xs :=
  Kd.R_mono (Kd.R_step (Kd.R_bound hR) (fun k hk hlt => h.block k hlt (fun e => by have := hv k e.symm; have := hk.2.1; omega))) (fun _ _ => trivial)
/-- A set of the document's, as a whole: its classes are a set. -/
structure GV (p g c : Nat) (r : List Cl) (N : Nat) (S : List Int) (F : List (List Int)) (w : World) : Prop where
  mv : MV p g c r w
  hN : (builtL ++ r).length = N
  hS : supsL (builtL ++ r) (builtL ++ r).length = S
  hF : facesL (builtL ++ r) (builtL ++ r).length = F
  join : joinErr (builtL ++ r) = none
  good : GoodSet N (builtL ++ r) S F
section
variable {p g c N : Nat} {r : List Cl} {S : List Int} {F : List (List Int)} {w : World}
theorem GV.step (h : GV p g c r N S F w) {w' : World} (hb : Below w.heap.size w w') : GV p g c r N S F w' := ⟨h.mv.step hb, h.hN, h.hS, h.hF, h.join, h.good⟩
theorem GV.len (h : GV p g c r N S F w) : (refB ++ r).length = N ∧ 8 ≤ N ∧ N ≤ 72 := by
  have h1 := h.mv.len
  have h2 := h.mv.big
  have h3 := h.hN
  exact ⟨by omega, by omega, by omega⟩
theorem GV.facesEq (h : GV p g c r N S F w) {i : Nat} (hi : i < N) : ((builtL ++ r).getD i zCl).faces.map (fnd (builtL ++ r)) = F.getD i [] := by
  have hi2 : i < (builtL ++ r).length := by rw [h.hN]; exact hi
  rw [← h.hF, fsF_at hi2]
  unfold fsI
  exact List.map_congr_left (fun t ht => (fnd_some ((join_all h.join hi2).2 t ht)).1)
theorem GV.supEq (h : GV p g c r N S F w) {i : Nat} (h0 : 0 < i) (hi : i < N) : fnd (builtL ++ r) ((builtL ++ r).getD i zCl).super = supF S i := by
  have hi2 : i < (builtL ++ r).length := by rw [h.hN]; exact hi
  rw [← h.hS, supF_at hi2, (fnd_some (join_all h.join hi2).1).1]
  unfold supI
  rw [if_neg (by omega)]
theorem GV.facesR (h : GV p g c r N S F w) {i : Nat} (hi : i < N) : (F.getD i []).length ≤ 8796093022207 ∧ ∀ f ∈ F.getD i [], 0 ≤ f ∧ f < N := by
  have hi2 : i < (builtL ++ r).length := by rw [h.hN]; exact hi
  have hm : (builtL ++ r).getD i zCl ∈ builtL ++ r := getD_mem hi2
  have hok : clOk ((builtL ++ r).getD i zCl) := (List.mem_append.1 hm).elim (builtL_ok _) (h.mv.ok _)
  have := hok.2.2.1
  rw [← h.hF, fsF_at hi2]
  unfold fsI
  refine ⟨by rw [List.length_map]; omega, fun f hf => ?_⟩
  obtain ⟨s, _, rfl⟩ := List.mem_map.1 hf
  rw [← h.hN]
  exact numI_range _ s (by have := len_built r; omega)
theorem GV.mem {i x : Nat} (h : GV p g c r N S F w) (hi : i < N) : x ∈ Link.aboveL N (supF S) (fsF F) i ↔ Link.Reach (supF S) (fsF F) i x := h.good.mem_above hi
theorem gSuper (h : GV p g c r N S F w) {i : Nat} (hi : i < N) : Calls Tryd.prog 92 #[.pointer (some ⟨p, 0, none⟩), .int .i64 i] w fun e w' => e = .returned (.int .i64 (supF S i)) ∧ Below w.heap.size w w' := by
  by_cases h0 : i = 0
  · subst h0
    rw [h.good.sup0]
    exact rSuper_out h.mv (by omega)
  · have := rSuper_in h.mv (i := i) (by omega) (by rw [h.len.1]; exact hi)
    rw [h.supEq (by omega) hi] at this
    exact this
theorem gIfaces (h : GV p g c r N S F w) {i : Nat} (hi : i < N) : Calls Tryd.prog 94 #[.pointer (some ⟨p, 0, none⟩), .int .i64 i] w fun e w' => ∃ A c, e = .returned (.slice A (F.getD i []).length c) ∧ kI.R 3 w' w.heap.size (fun _ => True) (.slice A (F.getD i []).length c) (F.getD i []) ∧ Below w.heap.size w w' := by
  have := rIfaces_in h.mv (i := i) (by rw [h.len.1]; exact hi)
  rw [h.facesEq hi] at this
  refine this.mono ?_
  rintro e w' ⟨v, rfl, hR, hB⟩
  obtain ⟨A', c', rfl⟩ := Kd.R_slice hR
  exact ⟨A', c', rfl, hR, hB⟩
theorem gHas (h : GV p g c r N S F w) (i : Int) (b : Bool) (hb : decide (0 ≤ i ∧ i < N) = b) : Calls Tryd.prog 129 #[.pointer (some ⟨p, 0, none⟩), .int .i64 i] w fun e w' => e = .returned (.bool b) ∧ w' = w :=
  rHas_any h.mv i b (by rw [h.len.1]; exact hb)
set_option maxRecDepth 100000 in
set_option maxHeartbeats 4000000 in
theorem gChain (h : GV p g c r N S F w) {i : Nat} (hi : i < N) : Calls Tryd.prog 130 #[.pointer (some ⟨p, 0, none⟩), .int .i64 i] w fun e w' => ∃ A c, e = .returned (.slice A (Link.chainL N (supF S) i).length c) ∧ kI.R 3 w' w.heap.size (fun _ => True) (.slice A (Link.chainL N (supF S) i).length c) (ints (Link.chainL N (supF S) i)) ∧ Below w.heap.size w w' := by
  have HG := hid h.good
  have HSU := hid (fun (i : Nat) (hi : i < N) (W : World) (hW : Below w.heap.size w W) => gSuper (h.step hW) hi)
  have hb := h.len.2
  clear h
  go_enter Tryd.func130, Tryd.ntmps130
  go_wp2
  go_loopw [1, 5] (fun iV oV wr => ∃ (k : Int) (pre : List Nat), iV = .int .i64 k ∧ Hid (kI.R 3 wr w.heap.size (fun _ => True) oV (ints pre)) ∧ Hid (Below w.heap.size w wr) ∧ Hid (ChainAt N (supF S) i pre k)) (fun iV _ _ => mkR N (supF S) (fsF F) (intOf iV))
  case atStart => exact ⟨_, [], rfl, Kd.R_nil _ _ _ _ _, Below.refl _ _, .inr ⟨i, rfl, hi, rfl⟩⟩
  obtain ⟨k, pre, rfl, HR, HB, HC⟩ := hrel
  by_cases hk : k = -1
  · subst hk
    have HE := hid (show pre = Link.chainL N (supF S) i by
      rcases HC.out with ⟨_, h⟩ | ⟨j, h, _⟩
      · exact h
      · omega)
    go_wp2
    go_ret
    have hR := HR.out
    rw [HE.out] at hR
    obtain ⟨A', c', rfl⟩ := Kd.R_slice hR
    rw [ints_len] at hR ⊢
    exact ⟨A', c', rfl, hR, HB.out⟩
  · obtain ⟨j, rfl, hj⟩ : ∃ j : Nat, k = j ∧ j < N := by
      rcases HC.out with ⟨h, _⟩ | ⟨j, h1, h2, _⟩
      · exact absurd h hk
      · exact ⟨j, h1, h2⟩
    have hl := HC.out.len
    have HS := hid (HC.out.next HG.out)
    clear hk
    go_wp2_with (first
      | (at_builtin; refine Kd.R_append kI w.heap.size rfl (.tmp 8) (.tmp 10) 75 3 _ 8 rfl Tryd.underlying75 infoInt rfl (by decide) (by decide) _ (ints pre) (j : Int) [.int .i64 (j : Int)] (fun _ => True) (fun _ => False) rfl rfl rfl (fun _ h => h.elim) (fun _ _ => trivial) HR.out HB.out HB.out.size (by simp; omega) ?_; intro v1 w1 hR1 hB1 _ _; have HR1 := hid (show kI.R 3 w1 w.heap.size (fun _ => True) v1 (ints (pre ++ [j])) from by rw [show ints (pre ++ [j]) = ints pre ++ [(j : Int)] by simp [ints]]; exact hR1); have HB1 := hid hB1; clear hR1 hB1)
      | (go_at_call 92; refine (HSU.out j hj _ HB1.out).mono ?_; rintro e w2 ⟨rfl, hB2⟩; have HB2 := hid (below_weaken HB1.out HB1.out.size hB2); have HR2 := hid (Kd.R_below HR1.out hB2); clear hB2))
    go_roundw
    case rel => exact ⟨_, pre ++ [j], rfl, HR2, HB2, HS.out.1⟩
    case measure => exact HS.out.2
/-- with: what is added. -/
def WithAll (p N : Nat) (S : List Int) (F : List (List Int)) (w0 : World) (d : Nat) : Prop :=
  ∀ (f : Nat) (out : List Nat) (v : Value) (w : World), f < N → Link.rank N (supF S) (fsF F) f < d → Fit N out → Below w0.heap.size w0 w → kI.R 3 w w0.heap.size (fun _ => True) v (ints out) →
    Calls Tryd.prog 131 #[.pointer (some ⟨p, 0, none⟩), v, .int .i64 f] w (fun e w' => ∃ v', e = .returned v' ∧ Below w0.heap.size w0 w' ∧ kI.R 3 w' w0.heap.size (fun _ => True) v' (ints (Link.addF (fsF F) (N + 2) out f)) ∧ Grw w w' v v')
theorem ints_mem (l : List Nat) (x : Nat) : decide ((x : Int) ∈ ints l) = decide (x ∈ l) := by
  have := ints_contains l x
  rw [← this, Bool.eq_iff_iff, decide_eq_true_iff, List.contains_iff_mem]
set_option maxRecDepth 100000 in
set_option maxHeartbeats 8000000 in
theorem with_step (p g c : Nat) (r : List Cl) (N : Nat) (S : List Int) (F : List (List Int)) (w0 : World) (hV : GV p g c r N S F w0) (d : Nat) (ih : WithAll p N S F w0 d) : WithAll p N S F w0 (d + 1) := by
  intro f out v w hf hrk hfit hB hR
  obtain ⟨A, c1, rfl⟩ := Kd.R_slice hR
  have IH := hid ih
  have hNb := hV.len.2
  have HG := hid hV.good
  have HRK := hid hrk
  have hl := hfit.len
  have HFT := hid hfit
  have HB := hid hB
  have HR := hid hR
  have hil : (ints out).length = out.length := ints_len out
  have HH := hid (rhas_any A c1 (ints out) (f : Int) w (Kd.R_reads' hR).2.2 (by omega))
  rw [ints_mem] at HH
  have HU := hid (addF_unfold hV.good hf out)
  have HFA := hid (fun (W : World) (hW : Below w0.heap.size w0 W) => gIfaces (hV.step hW) hf)
  obtain ⟨hfl, hfr⟩ := hV.facesR hf
  have HFR := hid hfr
  have lf : (f : Int) < N := by omega
  clear hR hV hrk ih hfit hB hfr
  rw [hil] at HH HR ⊢
  by_cases hin : f ∈ out
  · have HE := hid (show Link.addF (fsF F) (N + 2) out f = out by rw [HU.out, if_pos hin])
    rw [decide_eq_true hin] at HH
    clear hin
    go_enter Tryd.func131, Tryd.ntmps131
    go_wp2_with (go_at_call 132; refine HH.out.mono ?_; rintro e w' ⟨rfl, rfl⟩)
    go_ret
    exact ⟨_, rfl, HB.out, by rw [HE.out]; exact HR.out, Grw.of _ (Below.refl _ _)⟩
  · have HE := hid (show Link.addF (fsF F) (N + 2) out f = (fsF F f).foldl (Link.addF (fsF F) (N + 2)) (out ++ [f]) by rw [HU.out, if_neg hin])
    have HP := hid (HFT.out.put hf hin)
    rw [decide_eq_false hin] at HH
    clear hin
    generalize hfs : F.getD f [] = fs at *
    have HFS := hid hfs
    clear hfs
    go_enter Tryd.func131, Tryd.ntmps131
    go_upto_region 5 with (first
      | (go_at_call 132; refine HH.out.mono ?_; rintro e w' ⟨rfl, hw⟩; obtain rfl := hw.symm)
      | (at_builtin; refine Kd.R_append kI w0.heap.size rfl (.tmp 13) (.tmp 15) 75 3 _ 8 rfl Tryd.underlying75 infoInt rfl (by decide) (by decide) _ (ints out) (f : Int) [.int .i64 (f : Int)] (fun _ => True) (fun _ => False) rfl rfl rfl (fun _ h => h.elim) (fun _ _ => trivial) HR.out HB.out HB.out.size (by simp; omega) ?_; intro v1 w1 hR1 hB1 hG1 hat1; have HG1 := hid (show Grw w w1 (.slice A out.length c1) v1 from Grw.mk' hG1 hat1); have HR1 := hid (show kI.R 3 w1 w0.heap.size (fun _ => True) v1 (ints (out ++ [f])) from by rw [show ints (out ++ [f]) = ints out ++ [(f : Int)] by simp [ints]]; exact hR1); have HB1 := hid hB1; clear hR1 hB1 hG1 hat1)
      | (go_at_call 94; refine (HFA.out _ HB1.out).mono ?_; rintro e w2 ⟨Am, cm, rfl, hRm, hBm⟩; have HRm := hid hRm; have HBm := hid hBm; clear hRm hBm))
    have HLV := hid (Kd.R_lt HR1.out)
    have HR2 := hid (Kd.R_below HR1.out HBm.out)
    have HB2 := hid (below_weaken HB1.out HB1.out.size HBm.out)
    have HG2 := hid (HG1.out.trans (Grw.of v1 HBm.out))
    have hlm : (fsF F f).length = fs.length := by simp only [fsF, List.length_map]; rw [HFS.out]
    have HM := hid hlm
    generalize hM : fs.length = M at *
    have HMM := hid hM
    clear hM hlm HR1 HB1 HG1 HH HR HBm
    go_wp2
    go_loopw [1, 8] (fun lV iV wr => ∃ q : Nat, q ≤ M ∧ iV = .int .i64 q ∧ Hid (Below w0.heap.size w0 wr) ∧ Hid (kI.R 3 wr w0.heap.size (fun _ => True) lV (ints (((fsF F f).take q).foldl (Link.addF (fsF F) (N + 2)) (out ++ [f])))) ∧ Hid (Grw w2 wr v1 lV) ∧ Hid (Fit N (((fsF F f).take q).foldl (Link.addF (fsF F) (N + 2)) (out ++ [f])))) (fun _ iV _ => M - (intOf iV).toNat)
    case atStart => exact ⟨0, by omega, rfl, HB2, HR2, Grw.of _ (Below.refl _ _), HP⟩
    obtain ⟨q, hq, rfl, HBr, HRr, HGr, HFr⟩ := hrel
    by_cases hqM : q < M
    · have hrow := HGr.out.row HLV.out HRm.out
      have hCm := (Kd.R_reads' hrow).2.2
      obtain ⟨b, off, hA⟩ := C_plain hCm (by rw [HMM.out]; omega) (by decide)
      subst hA
      have hcell := C_scalar (h1 := fun _ => rfl) hCm 0 q (by rw [HMM.out]; exact hqM)
      obtain ⟨x, hv⟩ : ∃ x : Nat, fs[q]? = some (x : Int) := by
        have hm : fs[q]'(by rw [HMM.out]; exact hqM) ∈ fs := List.getElem_mem _
        obtain ⟨r0, _⟩ := HFR.out _ hm
        obtain ⟨x, hv⟩ := Int.eq_ofNat_of_zero_le r0
        exact ⟨x, by rw [List.getElem?_eq_getElem (by rw [HMM.out]; exact hqM), hv]⟩
      obtain ⟨_, hvN⟩ := HFR.out _ (List.mem_of_getElem? hv)
      have hvq : (fsF F f)[q]? = some x := by simp only [fsF, List.getElem?_map]; rw [HFS.out, hv]; rfl
      have hs : Link.Step (supF S) (fsF F) f x := .inr (List.mem_of_getElem? hvq)
      have hrv := HG.out.rank_lt hf hs
      rw [List.getD_eq_getElem?_getD, hv] at hcell
      simp only [Option.getD_some] at hcell
      have HN := hid (show ((fsF F f).take (q + 1)).foldl (Link.addF (fsF F) (N + 2)) (out ++ [f]) = Link.addF (fsF F) (N + 2) (((fsF F f).take q).foldl (Link.addF (fsF F) (N + 2)) (out ++ [f])) x by
        rw [List.take_add_one, hvq]; simp)
      have HFN := hid (fold_fit HG.out (N + 2) x _ (by omega) HFr.out)
      have HIH := hid (IH.out x _ _ wr (by omega) (by have := HRK.out; omega) HFr.out HBr.out HRr.out)
      clear hv hvq hs hrv hrow hCm
      go_wp2_with (go_at_call 131; refine HIH.out.mono ?_; rintro e w3 ⟨v3, rfl, hB3, hR3, hG3⟩; have HB3 := hid hB3; have HR3 := hid hR3; have HG3 := hid (HGr.out.trans hG3); clear hB3 hR3 hG3)
      go_roundw
      case rel => exact ⟨q + 1, by omega, by go_num, HB3, by rw [HN.out]; exact HR3, HG3, by rw [HN.out]; exact HFN⟩
      case measure => simp [intOf]; omega
    · have HF := hid (show kI.R 3 wr w0.heap.size (fun _ => True) u1 (ints (Link.addF (fsF F) (N + 2) out f)) by
        have := HRr.out
        rw [List.take_of_length_le (by rw [HM.out]; omega)] at this
        rw [HE.out]
        exact this)
      go_wp2
      go_ret
      exact ⟨_, rfl, HBr.out, HF.out, HG2.out.trans HGr.out⟩
theorem with_all (p g c : Nat) (r : List Cl) (N : Nat) (S : List Int) (F : List (List Int)) (w0 : World) (hV : GV p g c r N S F w0) (d : Nat) : WithAll p N S F w0 d := by
  induction d with
  | zero => intro f out v w _ h; omega
  | succ d ih => exact with_step p g c r N S F w0 hV d ih
theorem rank_ok (N : Nat) (S : List Int) (F : List (List Int)) (f : Nat) : Link.rank N (supF S) (fsF F) f < N + 1 := by
  have := Link.rank_le (sup := supF S) (fs := fsF F) N f
  omega
set_option maxRecDepth 100000 in
set_option maxHeartbeats 8000000 in
theorem gAbove (h : GV p g c r N S F w) {i : Nat} (hi : i < N) : Calls Tryd.prog 96 #[.pointer (some ⟨p, 0, none⟩), .int .i64 i] w fun e w' => ∃ A c, e = .returned (.slice A (Link.aboveL N (supF S) (fsF F) i).length c) ∧ kI.R 3 w' w.heap.size (fun _ => True) (.slice A (Link.aboveL N (supF S) (fsF F) i).length c) (ints (Link.aboveL N (supF S) (fsF F) i)) ∧ Below w.heap.size w w' := by
  have hNb := h.len.2
  have HG := hid h.good
  have HH := hid (gHas h i true (inD hi))
  have HCH := hid (fun (W : World) (hW : Below w.heap.size w W) => gChain (h.step hW) hi)
  have HIF := hid (fun (k : Nat) (hk : k < N) (W : World) (hW : Below w.heap.size w W) => gIfaces (h.step hW) hk)
  have HWI := hid (with_all p g c r N S F w h (N + 1))
  have HFR := hid (fun (k : Nat) (hk : k < N) => h.facesR hk)
  have HCF := hid (chain_fit h.good hi)
  have HCL := hid (fun k => h.good.chain_lt (k := k) hi)
  clear h
  have HAB := hid (show Link.aboveL N (supF S) (fsF F) i = (Link.chainL N (supF S) i).foldl (fun out k => (fsF F k).foldl (Link.addF (fsF F) (N + 2)) out) (Link.chainL N (supF S) i) from rfl)
  have hcl := HCF.out.len
  generalize Link.aboveL N (supF S) (fsF F) i = ab at *
  generalize Link.chainL N (supF S) i = ch at *
  go_enter Tryd.func96, Tryd.ntmps96
  go_upto_region 4 with (first
    | (go_at_call 129; refine HH.out.mono ?_; rintro e w' ⟨rfl, hw⟩; obtain rfl := hw.symm)
    | (go_at_call 130; refine (HCH.out _ (Below.refl _ _)).mono ?_; rintro e w1 ⟨A1, c1, rfl, hR1, hB1⟩; have HR1 := hid hR1; have HB1 := hid hB1; clear hR1 hB1))
  go_upto_region 5 with (go_at_call 130; refine (HCH.out _ HB1.out).mono ?_; rintro e w2 ⟨A2, c2, rfl, hR2, hB2⟩; have HR2 := hid hR2; have HBX2 := hid hB2; have HB2 := hid (below_weaken HB1.out HB1.out.size hB2); clear hR2 hB2)
  have HRO := hid (Kd.R_below HR1.out HBX2.out)
  have HLV := hid (Kd.R_lt HR1.out)
  clear HR1 HH HCH HBX2
  obtain ⟨M, hM⟩ : ∃ M, ch.length = M := ⟨_, rfl⟩
  have HM := hid hM
  rw [hM] at hcl HR2 HRO HLV ⊢
  clear hM
  generalize hv1 : Value.slice A1 M c1 = v1 at *
  clear hv1
  go_wp2
  go_loopw [5, 7] (fun oV iV wr => ∃ q : Nat, q ≤ M ∧ iV = .int .i64 q ∧ Hid (Below w.heap.size w wr) ∧ Hid (kI.R 3 wr w.heap.size (fun _ => True) oV (ints ((ch.take q).foldl (fun out k => (fsF F k).foldl (Link.addF (fsF F) (N + 2)) out) ch))) ∧ Hid (Grw w2 wr v1 oV) ∧ Hid (Fit N ((ch.take q).foldl (fun out k => (fsF F k).foldl (Link.addF (fsF F) (N + 2)) out) ch))) (fun _ iV _ => M - (intOf iV).toNat)
  case atStart => exact ⟨0, by omega, rfl, HB2, HRO, Grw.of _ (Below.refl _ _), HCF⟩
  obtain ⟨q, hq, rfl, HBr, HRr, HGr, HFr⟩ := hrel
  obtain ⟨oV, rfl⟩ : ∃ X, X = u5 := ⟨_, rfl⟩
  obtain ⟨wo, rfl⟩ : ∃ X, X = wr := ⟨_, rfl⟩
  by_cases hqM : q < M
  · obtain ⟨k, hk⟩ : ∃ k, ch[q]? = some k := ⟨_, List.getElem?_eq_getElem (by rw [HM.out]; exact hqM)⟩
    have hkN := HCL.out k (List.mem_of_getElem? hk)
    have hil : (ints ch).length = M := by rw [ints_len]; exact HM.out
    have hrow := HGr.out.row HLV.out HR2.out
    have hC2 := (Kd.R_reads' hrow).2.2
    rw [hil] at hC2
    obtain ⟨b, off, hA⟩ := C_plain hC2 (by omega) (by decide)
    subst hA
    have d1 := C_scalar (h1 := fun _ => rfl) hC2 0 q (by rw [hil]; exact hqM)
    rw [List.getD_eq_getElem?_getD, List.getElem?_map, hk] at d1
    simp only [Option.map_some, Option.getD_some] at d1
    have HN := hid (show (ch.take (q + 1)).foldl (fun out k => (fsF F k).foldl (Link.addF (fsF F) (N + 2)) out) ch = (fsF F k).foldl (Link.addF (fsF F) (N + 2)) ((ch.take q).foldl (fun out k => (fsF F k).foldl (Link.addF (fsF F) (N + 2)) out) ch) by
      rw [List.take_add_one, hk]; simp)
    generalize (ch.take q).foldl (fun out k => (fsF F k).foldl (Link.addF (fsF F) (N + 2)) out) ch = out0 at *
    have hfr := HFR.out k hkN
    have hfl := hfr.1
    have HFK := hid hfr.2
    have HIK := hid (HIF.out k hkN)
    clear hk hrow hC2 hfr
    generalize hfs : F.getD k [] = fs at *
    have HFS := hid hfs
    clear hfs
    go_upto_region 9 with (go_at_call 94; refine (HIK.out _ HBr.out).mono ?_; rintro e w3 ⟨Am, cm, rfl, hRm, hBm⟩; have HRm := hid hRm; have HBm := hid hBm; clear hRm hBm)
    have HLO := hid (Kd.R_lt HRr.out)
    have HR3 := hid (Kd.R_below HRr.out HBm.out)
    have HB3 := hid (below_weaken HBr.out HBr.out.size HBm.out)
    have HG3 := hid (HGr.out.trans (Grw.of oV HBm.out))
    have hlm : (fsF F k).length = fs.length := by simp only [fsF, List.length_map]; rw [HFS.out]
    have HMK := hid hlm
    generalize hMk : fs.length = Mk at *
    have HMM := hid hMk
    clear hMk hlm HRr HBr HGr HBm d1
    go_wp2
    go_loopw [5, 9] (fun lV jV ws => ∃ j : Nat, j ≤ Mk ∧ jV = .int .i64 j ∧ Hid (Below w.heap.size w ws) ∧ Hid (kI.R 3 ws w.heap.size (fun _ => True) lV (ints (((fsF F k).take j).foldl (Link.addF (fsF F) (N + 2)) out0))) ∧ Hid (Grw w3 ws oV lV) ∧ Hid (Fit N (((fsF F k).take j).foldl (Link.addF (fsF F) (N + 2)) out0))) (fun _ jV _ => Mk - (intOf jV).toNat)
    case atStart => exact ⟨0, by omega, rfl, HB3, HR3, Grw.of _ (Below.refl _ _), HFr⟩
    obtain ⟨j, hj, rfl, HBs, HRs, HGs, HFs⟩ := hrel
    by_cases hjM : j < Mk
    · have hrow := HGs.out.row HLO.out HRm.out
      have hCm := (Kd.R_reads' hrow).2.2
      obtain ⟨b, off, hA⟩ := C_plain hCm (by rw [HMM.out]; omega) (by decide)
      subst hA
      have hcell := C_scalar (h1 := fun _ => rfl) hCm 0 j (by rw [HMM.out]; exact hjM)
      obtain ⟨x, hv⟩ : ∃ x : Nat, fs[j]? = some (x : Int) := by
        have hm : fs[j]'(by rw [HMM.out]; exact hjM) ∈ fs := List.getElem_mem _
        obtain ⟨r0, _⟩ := HFK.out _ hm
        obtain ⟨x, hv⟩ := Int.eq_ofNat_of_zero_le r0
        exact ⟨x, by rw [List.getElem?_eq_getElem (by rw [HMM.out]; exact hjM), hv]⟩
      obtain ⟨_, hvN⟩ := HFK.out _ (List.mem_of_getElem? hv)
      have hvq : (fsF F k)[j]? = some x := by simp only [fsF, List.getElem?_map]; rw [HFS.out, hv]; rfl
      rw [List.getD_eq_getElem?_getD, hv] at hcell
      simp only [Option.getD_some] at hcell
      have HNj := hid (show ((fsF F k).take (j + 1)).foldl (Link.addF (fsF F) (N + 2)) out0 = Link.addF (fsF F) (N + 2) (((fsF F k).take j).foldl (Link.addF (fsF F) (N + 2)) out0) x by
        rw [List.take_add_one, hvq]; simp)
      have HFN := hid (fold_fit HG.out (N + 2) x _ (by omega) HFs.out)
      have HIH := hid (HWI.out x _ _ wr (by omega) (rank_ok _ _ _ _) HFs.out HBs.out HRs.out)
      clear hv hvq hrow hCm
      go_wp2_with (go_at_call 131; refine HIH.out.mono ?_; rintro e w4 ⟨v4, rfl, hB4, hR4, hG4⟩; have HB4 := hid hB4; have HR4 := hid hR4; have HG4 := hid (HGs.out.trans hG4); clear hB4 hR4 hG4)
      go_roundw
      case rel => exact ⟨j + 1, by omega, by go_num, HB4, by rw [HNj.out]; exact HR4, HG4, by rw [HNj.out]; exact HFN⟩
      case measure => simp [intOf]; omega
    · have HT := hid (show ((fsF F k).take j) = fsF F k from List.take_of_length_le (by rw [HMK.out]; omega))
      go_wp2
      go_roundw
      case rel => exact ⟨q + 1, by omega, by go_num, HBs, by rw [HN.out, ← HT.out]; exact HRs, HG3.out.trans HGs.out, by rw [HN.out, ← HT.out]; exact HFs⟩
      case measure => simp [intOf]; omega
  · have hR := HRr.out
    rw [List.take_of_length_le (by rw [HM.out]; omega), ← HAB.out] at hR
    obtain ⟨A', c', rfl⟩ := Kd.R_slice hR
    have HR' := hid hR
    clear hR
    rw [ints_len] at HR' ⊢
    go_wp2
    go_ret
    exact ⟨A', c', rfl, HR'.out, HBr.out⟩
set_option maxRecDepth 100000 in
set_option maxHeartbeats 4000000 in
theorem gAbove_out (h : GV p g c r N S F w) {i : Int} (hi : ¬ (0 ≤ i ∧ i < N)) : Calls Tryd.prog 96 #[.pointer (some ⟨p, 0, none⟩), .int .i64 i] w fun e w' => e = .returned (.slice none 0 0) ∧ w' = w := by
  have HH := hid (gHas h i false (decide_eq_false hi))
  clear h hi
  go_enter Tryd.func96, Tryd.ntmps96
  go_wp2_with (go_at_call 129; refine HH.out.mono ?_; rintro e' w' ⟨rfl, rfl⟩)
  go_ret
  exact ⟨rfl, rfl⟩
end
end Go.Proofs.YtbogcknkkbnfnaaDoor

/- The document's ring. -/
namespace Go.Proofs.YtbogcknkkbnfnaaDoor
open Go.RowKit Go.Proofs.YtbogcknkkbnfnaaDoorW.PrintWords Go.Maps Go.WideMaps

theorem upsN_eq {r : List Cl} (hj : joinErr (builtL ++ r) = none) {i : Nat} (hi : i < (builtL ++ r).length) : upsN r i = upsI (supsL (builtL ++ r) (builtL ++ r).length) (facesL (builtL ++ r) (builtL ++ r).length) i := by
  have hf : ((builtL ++ r).getD i zCl).faces.map (fnd (builtL ++ r)) = (facesL (builtL ++ r) (builtL ++ r).length).getD i [] := by
    rw [fsF_at hi]
    unfold fsI
    exact List.map_congr_left (fun t ht => (fnd_some ((join_all hj hi).2 t ht)).1)
  unfold upsN upsI
  rw [hf]
  by_cases h0 : i = 0
  · rw [if_pos h0, if_pos h0]; rfl
  · rw [if_neg h0, if_neg h0, (fnd_some (join_all hj hi).1).1]
    unfold succI
    rw [show (supsL (builtL ++ r) (builtL ++ r).length).getD i 0 = supI (builtL ++ r) i from getD_range _ _ _ _ hi]
    unfold supI
    rw [if_neg h0]
    rfl
theorem upsI_range {r : List Cl} {i : Nat} (hi : i < (builtL ++ r).length) : ∀ u ∈ upsI (supsL (builtL ++ r) (builtL ++ r).length) (facesL (builtL ++ r) (builtL ++ r).length) i, 0 ≤ u ∧ u < (builtL ++ r).length := by
  intro u hu
  have h8 : 0 < (builtL ++ r).length := by omega
  have hf : ∀ u ∈ (facesL (builtL ++ r) (builtL ++ r).length).getD i [], 0 ≤ u ∧ u < (builtL ++ r).length := by
    intro u hu
    rw [fsF_at hi] at hu
    obtain ⟨s, _, rfl⟩ := List.mem_map.1 hu
    exact numI_range _ s h8
  unfold upsI at hu
  by_cases h0 : i = 0
  · rw [if_pos h0] at hu; exact hf u hu
  · rw [if_neg h0] at hu
    rcases List.mem_cons.1 hu with rfl | hu
    · rw [show (supsL (builtL ++ r) (builtL ++ r).length).getD i 0 = supI (builtL ++ r) i from getD_range _ _ _ _ hi]
      unfold supI
      rw [if_neg h0]
      exact numI_range _ _ h8
    · exact hf u hu
theorem upsI_len {p g c : Nat} {r : List Cl} {w : World} (h : MV p g c r w) {i : Nat} (hi : i < (builtL ++ r).length) : (upsI (supsL (builtL ++ r) (builtL ++ r).length) (facesL (builtL ++ r) (builtL ++ r).length) i).length ≤ 8796093022208 := by
  have hf : ((facesL (builtL ++ r) (builtL ++ r).length).getD i []).length ≤ 8796093022207 := by
    have hm : (builtL ++ r).getD i zCl ∈ builtL ++ r := getD_mem hi
    have hok : clOk ((builtL ++ r).getD i zCl) := (List.mem_append.1 hm).elim (builtL_ok _) (h.ok _)
    have := hok.2.2.1
    rw [fsF_at hi]
    unfold fsI
    rw [List.length_map]
    omega
  unfold upsI
  split
  · omega
  · unfold succI
    rw [List.length_cons]
    omega
/-- The worlds of the document's look for a ring. -/
structure BS (w0 : World) (g N : Nat) (Sn : List Bool) (w : World) : Prop where
  below : Below w0.heap.size w0 w
  seen : w.heap[g]? = some (.cells (Sn.map Value.bool).toArray 4 (0, 0))
  len : Sn.length = N
  base : w0.heap.size ≤ g
section
variable {w0 w w' : World} {g N : Nat} {Sn : List Bool}
theorem BS.step (h : BS w0 g N Sn w) (hb : Below w.heap.size w w') : BS w0 g N Sn w' := ⟨below_weaken h.below h.below.size hb, blk_below h.seen hb, h.len, h.base⟩
theorem BS.cell (h : BS w0 g N Sn w) (j : Nat) (hj : j < N) : w.cell? ⟨g, j, none⟩ = some (.bool (Sn.getD j false)) := by
  rw [blk_cell h.seen j]
  have hl := h.len
  simp only [List.getElem?_toArray, List.getElem?_map]
  rw [List.getElem?_eq_getElem (by omega)]
  simp [List.getD, show j < Sn.length by omega]
theorem BS.mark (h : BS w0 g N Sn w) (j : Nat) : BS w0 g N (Sn.set j true) (w.setCell ⟨g, j, none⟩ (.bool true)) ∧ KpB g w (w.setCell ⟨g, j, none⟩ (.bool true)) := by
  refine ⟨⟨h.below.setCell h.base _, blk_put h.seen j _ ?_, by rw [List.length_set]; exact h.len, h.base⟩, by simp [World.setCell], fun k _ hk => Below.heap_setCell w ⟨g, j, none⟩ _ k hk⟩
  simp only [List.setIfInBounds_toArray]
  rw [List.map_set]
end
theorem KpB.ints {g : Nat} {w w1 : World} {base : Nat} {v : Value} {xs : List Int} {Sn : List Bool} (hk : KpB g w w1) (h : kI.R 3 w base (fun _ => True) v xs) (hg : w.heap[g]? = some (.cells (Sn.map Value.bool).toArray 4 (0, 0))) : kI.R 3 w1 base (fun _ => True) v xs := hk.row h hg (by decide)
theorem getD_rep (N j : Nat) : (List.replicate N false).getD j false = false := by
  simp only [List.getD, List.getElem?_replicate]
  split <;> rfl
set_option maxRecDepth 100000 in
set_option maxHeartbeats 8000000 in
theorem rRing_any {p g c : Nat} {r : List Cl} {w : World} (h : MV p g c r w) (hj : joinErr (builtL ++ r) = none) {i : Nat} (hi : i < (builtL ++ r).length) :
    Calls Tryd.prog 102 #[.pointer (some ⟨p, 0, none⟩), .int .i64 i] w fun e w' => ∃ b : Bool, e = .returned (.bool b) ∧ Below w.heap.size w w' ∧ (b = true ↔ Rch (supsL (builtL ++ r) (builtL ++ r).length) (facesL (builtL ++ r) (builtL ++ r).length) i i) := by
  have hlen := h.len
  have hNb := h.big
  have c0 := blk_cell h.blk 0
  have zp := blk_lt h.blk
  have HUP := hid (fun (k : Nat) (hk : k < (builtL ++ r).length) (W : World) (hW : Below w.heap.size w W) => (show Calls Tryd.prog 133 #[.pointer (some ⟨p, 0, none⟩), .int .i64 k] W fun e w' => ∃ A c, e = .returned (.slice A (upsI (supsL (builtL ++ r) (builtL ++ r).length) (facesL (builtL ++ r) (builtL ++ r).length) k).length c) ∧ kI.R 3 w' W.heap.size (fun _ => True) (.slice A (upsI (supsL (builtL ++ r) (builtL ++ r).length) (facesL (builtL ++ r) (builtL ++ r).length) k).length c) (upsI (supsL (builtL ++ r) (builtL ++ r).length) (facesL (builtL ++ r) (builtL ++ r).length) k) ∧ Below W.heap.size W w' from by
    refine (ups_any (h.step hW) (i := k) (by omega)).mono ?_
    rintro e w' ⟨v, rfl, hR, hB⟩
    rw [upsN_eq hj hk] at hR
    obtain ⟨A', c', rfl⟩ := Kd.R_slice hR
    exact ⟨A', c', rfl, hR, hB⟩))
  have HRG := hid (fun (k : Nat) (hk : k < (builtL ++ r).length) => upsI_range hk)
  have HLN := hid (fun (k : Nat) (hk : k < (builtL ++ r).length) => upsI_len h hk)
  have HS0 := hid (show (supsL (builtL ++ r) (builtL ++ r).length).getD 0 0 = -1 by rw [show (supsL (builtL ++ r) (builtL ++ r).length).getD 0 0 = supI (builtL ++ r) 0 from getD_range _ _ _ _ (by omega)]; rfl)
  clear h hj
  generalize supsL (builtL ++ r) (builtL ++ r).length = S at *
  generalize facesL (builtL ++ r) (builtL ++ r).length = F at *
  rw [hlen.1] at hNb c0 hlen
  have h8 := hlen.2
  clear hlen
  generalize (builtL ++ r).length = N at *
  have hmk := mk_bools N hNb
  have li : (i : Int) < N := by omega
  go_enter Tryd.func102, Tryd.ntmps102
  go_upto_region 2 with fail
  have k1 := blk_new w (.cells (Array.replicate N (.bool false)) 4)
  have HB1 := hid (below_alloc (Below.refl w.heap.size w) (.cells (Array.replicate N (.bool false)) 4))
  have HBS := hid (show BS w w.heap.size N (List.replicate N false) (w.alloc (.cells (Array.replicate N (.bool false)) 4)) from ⟨HB1.out, by rw [List.map_replicate, List.toArray_replicate]; exact k1, by simp, Nat.le_refl _⟩)
  clear k1 hmk
  obtain ⟨gq, hgq⟩ : ∃ gq, w.heap.size = gq := ⟨_, rfl⟩
  have HGQ := hid hgq
  generalize w.alloc (.cells (Array.replicate N (.bool false)) 4) = w1 at *
  rw [hgq]
  rw [show BS w w.heap.size N (List.replicate N false) w1 = BS w gq N (List.replicate N false) w1 by rw [hgq]] at HBS
  clear hgq
  go_upto_region 3 with (go_at_call 133; refine (HUP.out i hi _ HBS.out.below).mono ?_; rintro e w2 ⟨Au, cu, rfl, hRu, hBu⟩; have HRu := hid hRu; have HBu := hid hBu; clear hRu hBu)
  have HB2 := hid (HBS.out.step HBu.out)
  clear HBS HBu HB1
  have HUI := hid (HRG.out i hi)
  have hul := HLN.out i hi
  obtain ⟨M, hM⟩ : ∃ M, (upsI S F i).length = M := ⟨_, rfl⟩
  have HM := hid hM
  rw [hM] at HRu hul ⊢
  clear hM
  go_wp2
  go_loopw [7] (fun iV wr => ∃ (q : Nat) (b : List Bool), q ≤ M ∧ iV = .int .i64 q ∧ Hid (BS w gq N b wr) ∧ Hid (KpB gq w2 wr) ∧ Hid (∀ u : Nat, b.getD u false = true ↔ (u : Int) ∈ (upsI S F i).take q)) (fun iV _ => M - (intOf iV).toNat)
  case atStart => exact ⟨0, _, by omega, rfl, HB2, KpB.refl _ _, fun u => by rw [getD_rep]; simp⟩
  obtain ⟨q, b, hq, rfl, HBr, HK, HD⟩ := hrel
  by_cases hqM : q < M
  · obtain ⟨u, hu⟩ : ∃ u, (upsI S F i)[q]? = some u := ⟨_, List.getElem?_eq_getElem (by rw [HM.out]; exact hqM)⟩
    obtain ⟨hu0, huN⟩ := HUI.out u (List.mem_of_getElem? hu)
    obtain ⟨x, rfl⟩ := Int.eq_ofNat_of_zero_le hu0
    have hxN : x < N := by omega
    have hC := (Kd.R_reads' (HK.out.ints HRu.out HB2.out.seen)).2.2
    obtain ⟨bb, off, hA⟩ := C_plain hC (by rw [HM.out]; omega) (by decide)
    subst hA
    have d1 := C_scalar (h1 := fun _ => rfl) hC 0 q (by rw [HM.out]; exact hqM)
    rw [List.getD_eq_getElem?_getD, hu, Option.getD_some] at d1
    have d5 := HBr.out.cell x hxN
    have d6 := blk_frozen HBr.out.seen x
    obtain ⟨hM1, hM2⟩ := HBr.out.mark x
    have HM1 := hid hM1
    have HM2 := hid (HK.out.trans hM2)
    have HD2 := hid (show ∀ v : Nat, (b.set x true).getD v false = true ↔ (v : Int) ∈ (upsI S F i).take (q + 1) from fun v => by
      rw [getD_setT (by rw [HBr.out.len]; exact hxN), List.take_add_one, hu, List.mem_append, HD.out v]
      simp only [Option.toList_some, List.mem_singleton]
      constructor
      · rintro (h | h)
        · exact .inr (by omega)
        · exact .inl h
      · rintro (h | h)
        · exact .inr h
        · exact .inl (by omega))
    clear hu hC hM1 hM2 hu0 huN
    go_wp2
    go_roundw
    case rel => exact ⟨q + 1, _, by omega, by go_num, HM1, HM2, HD2⟩
    case measure => simp [intOf]; omega
  · have HD0 := hid (show ∀ u : Nat, b.getD u false = true ↔ (u : Int) ∈ upsI S F i from fun u => by
      rw [HD.out u, List.take_of_length_le (by rw [HM.out]; omega)])
    have HBL := hid HBr.out.len
    have HSC := hid (show ∀ v, v < b.length → ∀ u : Nat, (u : Int) ∈ upsI S F v → u < b.length from fun v hv u hu => by
      rw [HBL.out] at hv ⊢
      have := HRG.out v hv u hu
      omega)
    clear HD HRu HK HB2 HUI
    go_wp2
    go_loopw [8] (fun nV wr => ∃ (n : Nat) (b1 : List Bool), n ≤ N ∧ nV = .int .i64 n ∧ Hid (BS w gq N b1 wr) ∧ Hid (RingAt (upsI S F) b b1 n)) (fun nV _ => N - (intOf nV).toNat)
    case atStart => exact ⟨0, b, by omega, rfl, HBr, Spread.refl _ _, .inr (Nat.zero_le _)⟩
    obtain ⟨n, b1, hn, rfl, HBn, HR⟩ := hrel
    have e0 := (HBn.out.below.cell (World.block_lt_of_cell? w _ c0)).trans c0
    by_cases hnN : n < N
    · have HL1 := hid HBn.out.len
      go_wp2
      go_loopw [9] (fun kV ws => ∃ (k : Nat) (b2 : List Bool), k ≤ N ∧ kV = .int .i64 k ∧ Hid (BS w gq N b2 ws) ∧ Hid (RoundAt (upsI S F) b1 b2 k)) (fun kV _ => N - (intOf kV).toNat)
      case atStart => exact ⟨0, b1, by omega, rfl, HBn, RoundAt.start _ _⟩
      obtain ⟨k, b2, hk, rfl, HBk, HRk⟩ := hrel
      have e1 := (HBk.out.below.cell (World.block_lt_of_cell? w _ c0)).trans c0
      by_cases hkN : k < N
      · have d5 := HBk.out.cell k hkN
        have lk : (k : Int) < N := by omega
        cases hb : b2.getD k false with
        | false =>
          rw [hb] at d5
          have HRn := hid (HRk.out.skip hb)
          clear hb
          go_wp2
          go_roundw
          case rel => exact ⟨k + 1, b2, by omega, by go_num, HBk, HRn⟩
          case measure => simp [intOf]; omega
        | true =>
          rw [hb] at d5
          have HST := hid (SetAt.start HRk.out hb)
          clear hb
          go_upto_region 15 with (go_at_call 133; refine (HUP.out k hkN _ HBk.out.below).mono ?_; rintro e w4 ⟨Av, cv, rfl, hRv, hBv⟩; have HRv := hid hRv; have HBv := hid hBv; clear hRv hBv)
          have HB4 := hid (HBk.out.step HBv.out)
          clear HBv d5 e1
          have HVI := hid (HRG.out k hkN)
          have hvl := HLN.out k hkN
          obtain ⟨Mv, hMv⟩ : ∃ Mv, (upsI S F k).length = Mv := ⟨_, rfl⟩
          have HMv := hid hMv
          rw [hMv] at HRv hvl ⊢
          clear hMv
          go_wp2
          go_loopw [11] (fun jV wt => ∃ (j : Nat) (b3 : List Bool), j ≤ Mv ∧ jV = .int .i64 j ∧ Hid (BS w gq N b3 wt) ∧ Hid (KpB gq w4 wt) ∧ Hid (SetAt (upsI S F) b1 b3 k j)) (fun jV _ => Mv - (intOf jV).toNat)
          case atStart => exact ⟨0, b2, by omega, rfl, HB4, KpB.refl _ _, HST⟩
          obtain ⟨j, b3, hj, rfl, HBj, HKj, HSj⟩ := hrel
          by_cases hjM : j < Mv
          · obtain ⟨u, hu⟩ : ∃ u, (upsI S F k)[j]? = some u := ⟨_, List.getElem?_eq_getElem (by rw [HMv.out]; exact hjM)⟩
            obtain ⟨hu0, huN⟩ := HVI.out u (List.mem_of_getElem? hu)
            obtain ⟨x, rfl⟩ := Int.eq_ofNat_of_zero_le hu0
            have hxN : x < N := by omega
            have hC := (Kd.R_reads' (HKj.out.ints HRv.out HB4.out.seen)).2.2
            obtain ⟨bb, off, hA⟩ := C_plain hC (by rw [HMv.out]; omega) (by decide)
            subst hA
            have d1 := C_scalar (h1 := fun _ => rfl) hC 0 j (by rw [HMv.out]; exact hjM)
            rw [List.getD_eq_getElem?_getD, hu, Option.getD_some] at d1
            have d5 := HBj.out.cell x hxN
            have d6 := blk_frozen HBj.out.seen x
            obtain ⟨hM1, hM2⟩ := HBj.out.mark x
            have HM1 := hid hM1
            have HM2 := hid (HKj.out.trans hM2)
            have HSN := hid (HSj.out.next hu (by rw [HL1.out]; exact hxN))
            clear hu hC hM1 hM2 hu0 huN
            go_wp2
            go_roundw
            case rel => exact ⟨j + 1, _, by omega, by go_num, HM1, HM2, HSN⟩
            case measure => simp [intOf]; omega
          · have HRn := hid (show RoundAt (upsI S F) b1 b3 (k + 1) from by
              have := HSj.out
              rw [show j = (upsI S F k).length by rw [HMv.out]; omega] at this
              exact this.done)
            go_wp2
            go_roundw
            case rel => exact ⟨k + 1, b3, by omega, by go_num, HBj, HRn⟩
            case measure => simp [intOf]; omega
      · have HRn := hid (show RingAt (upsI S F) b b2 (n + 1) from HR.out.next (by rw [HL1.out, show N = k by omega]; exact HRk.out))
        go_wp2
        go_roundw
        case rel => exact ⟨n + 1, b2, by omega, by go_num, HBk, HRn⟩
        case measure => simp [intOf]; omega
    · have HF := hid (ring_final HS0.out HD0.out (show RingAt (upsI S F) b b1 b.length by rw [HBL.out, show N = n by omega]; exact HR.out) HSC.out)
      have d5 := HBn.out.cell i hi
      go_wp2
      go_ret
      exact ⟨_, rfl, HBn.out.below, HF.out⟩
end Go.Proofs.YtbogcknkkbnfnaaDoor

/- The document's answer: Below, Common; both sides' answers at any number. -/
namespace Go.Proofs.YtbogcknkkbnfnaaDoor
open Go.RowKit Go.Proofs.YtbogcknkkbnfnaaDoorW.PrintWords Go.Maps Go.WideMaps

section
variable {p g c N : Nat} {r : List Cl} {S : List Int} {F : List (List Int)} {w : World}
theorem gAbove_C (h : GV p g c r N S F w) {i : Nat} (hi : i < N) : Calls Tryd.prog 96 #[.pointer (some ⟨p, 0, none⟩), .int .i64 i] w fun e w' => ∃ A c, e = .returned (.slice A (Link.aboveL N (supF S) (fsF F) i).length c) ∧ kI.C w' A (Link.aboveL N (supF S) (fsF F) i).length (ints (Link.aboveL N (supF S) (fsF F) i)) ∧ Below w.heap.size w w' := by
  refine (gAbove h hi).mono ?_
  rintro e w' ⟨A, c, rfl, hR, hB⟩
  have h3 := (Kd.R_reads' hR).2.2
  rw [ints_len] at h3
  exact ⟨A, c, rfl, h3, hB⟩
set_option maxRecDepth 100000 in
set_option maxHeartbeats 4000000 in
theorem gBelow_in (h : GV p g c r N S F w) {a b : Nat} (ha : a < N) (hb : b < N) : Calls Tryd.prog 97 #[.pointer (some ⟨p, 0, none⟩), .int .i64 a, .int .i64 b] w fun e w' => e = .returned (.bool (decide (b ∈ Link.aboveL N (supF S) (fsF F) a))) ∧ Below w.heap.size w w' := by
  have HH := hid (fun (i : Int) (q : decide (0 ≤ i ∧ i < N) = true) => gHas h i true q)
  have Q1 := hid (inD ha)
  have Q2 := hid (inD hb)
  by_cases h0 : b = 0
  · have HT := hid (show decide (b ∈ Link.aboveL N (supF S) (fsF F) a) = true from decide_eq_true (by rw [h0]; exact (h.mem ha).2 (h.good.top ha)))
    rw [HT.out]
    have b1 : ((b : Int) == 0) = true := by simp [h0]
    clear h h0 HT
    go_enter Tryd.func97, Tryd.ntmps97
    go_wp2_with (go_at_call 129; refine (HH.out _ (by first | exact Q1.out | exact Q2.out)).mono ?_; rintro e w' ⟨rfl, rfl⟩)
    go_ret
    exact ⟨rfl, Below.refl _ _⟩
  · have b1 : ((b : Int) == 0) = false := by simp; omega
    have HA := hid (gAbove_C h ha)
    have hl := (above_fit h.good ha).len
    have hN := h.len.2.2
    clear h h0
    generalize Link.aboveL N (supF S) (fsF F) a = ab at *
    have HI := hid (fun (A : Option Addr) (c : Nat) (W : World) (hC : kI.C W A ab.length (ints ab)) => (show Calls Tryd.prog 132 #[.slice A ab.length c, .int .i64 b] W fun e w' => e = .returned (.bool (decide (b ∈ ab))) ∧ w' = W from by
      have hil := ints_len ab
      rw [← hil] at hC
      have := rhas_any A c (ints ab) (b : Int) W hC (by omega)
      rw [ints_mem, hil] at this
      exact this))
    go_enter Tryd.func97, Tryd.ntmps97
    go_wp2_with (first
      | (go_at_call 129; refine (HH.out _ (by first | exact Q1.out | exact Q2.out)).mono ?_; rintro e w' ⟨rfl, hw⟩; obtain rfl := hw.symm)
      | (go_at_call 96; refine HA.out.mono ?_; rintro e w1 ⟨A1, c1, rfl, hC1, hB1⟩; have HC1 := hid hC1; have HB1 := hid hB1; clear hC1 hB1)
      | (go_at_call 132; refine (HI.out _ _ _ HC1.out).mono ?_; rintro e w' ⟨rfl, hw⟩; obtain rfl := hw.symm))
    go_ret
    exact ⟨rfl, HB1.out⟩
set_option maxRecDepth 100000 in
set_option maxHeartbeats 4000000 in
theorem gBelow_out (h : GV p g c r N S F w) {a b : Int} (hab : ¬ ((0 ≤ a ∧ a < N) ∧ (0 ≤ b ∧ b < N))) : Calls Tryd.prog 97 #[.pointer (some ⟨p, 0, none⟩), .int .i64 a, .int .i64 b] w fun e w' => e = .returned (.bool false) ∧ Below w.heap.size w w' := by
  have HH := hid (fun (i : Int) (v : Bool) (q : decide (0 ≤ i ∧ i < N) = v) => gHas h i v q)
  by_cases ha : 0 ≤ a ∧ a < N
  · have Q1 := hid (decide_eq_true ha)
    have Q2 := hid (decide_eq_false (fun hb => hab ⟨ha, hb⟩))
    clear h hab ha
    go_enter Tryd.func97, Tryd.ntmps97
    go_wp2_with (go_at_call 129; refine (HH.out _ _ (by first | exact Q1.out | exact Q2.out)).mono ?_; rintro e w' ⟨rfl, hw⟩; obtain rfl := hw.symm)
    go_ret
    exact ⟨rfl, Below.refl _ _⟩
  · have Q1 := hid (decide_eq_false ha)
    clear h hab ha
    go_enter Tryd.func97, Tryd.ntmps97
    go_wp2_with (go_at_call 129; refine (HH.out _ _ Q1.out).mono ?_; rintro e w' ⟨rfl, rfl⟩)
    go_ret
    exact ⟨rfl, Below.refl _ _⟩
set_option maxRecDepth 100000 in
set_option maxHeartbeats 4000000 in
theorem gCommon_out (h : GV p g c r N S F w) {a b : Int} (hab : ¬ ((0 ≤ a ∧ a < N) ∧ (0 ≤ b ∧ b < N))) : Calls Tryd.prog 98 #[.pointer (some ⟨p, 0, none⟩), .int .i64 a, .int .i64 b] w fun e w' => e = .returned (.int .i64 (-1)) ∧ Below w.heap.size w w' := by
  have HH := hid (fun (i : Int) (v : Bool) (q : decide (0 ≤ i ∧ i < N) = v) => gHas h i v q)
  by_cases ha : 0 ≤ a ∧ a < N
  · have Q1 := hid (decide_eq_true ha)
    have Q2 := hid (decide_eq_false (fun hb => hab ⟨ha, hb⟩))
    clear h hab ha
    go_enter Tryd.func98, Tryd.ntmps98
    go_wp2_with (go_at_call 129; refine (HH.out _ _ (by first | exact Q1.out | exact Q2.out)).mono ?_; rintro e w' ⟨rfl, hw⟩; obtain rfl := hw.symm)
    go_ret
    exact ⟨rfl, Below.refl _ _⟩
  · have Q1 := hid (decide_eq_false ha)
    clear h hab ha
    go_enter Tryd.func98, Tryd.ntmps98
    go_wp2_with (go_at_call 129; refine (HH.out _ _ Q1.out).mono ?_; rintro e w' ⟨rfl, rfl⟩)
    go_ret
    exact ⟨rfl, Below.refl _ _⟩
set_option maxRecDepth 100000 in
set_option maxHeartbeats 4000000 in
theorem gCommon_in (h : GV p g c r N S F w) {a b : Nat} (ha : a < N) (hb : b < N) : Calls Tryd.prog 98 #[.pointer (some ⟨p, 0, none⟩), .int .i64 a, .int .i64 b] w fun e w' => e = .returned (.int .i64 (Link.commonL N (supF S) a b)) ∧ Below w.heap.size w w' := by
  have HH := hid (fun (i : Int) (q : decide (0 ≤ i ∧ i < N) = true) => gHas h i true q)
  have Q1 := hid (inD ha)
  have Q2 := hid (inD hb)
  obtain ⟨ch, hch⟩ : ∃ ch : Nat → List Nat, ch = fun i => Link.chainL N (supF S) i := ⟨_, rfl⟩
  have HC := hid (fun (i : Nat) (W : World) (hi : i < N) (hW : Below w.heap.size w W) => (show Calls Tryd.prog 130 #[.pointer (some ⟨p, 0, none⟩), .int .i64 i] W fun e w' => ∃ A c, e = .returned (.slice A (ch i).length c) ∧ Below W.heap.size W w' ∧ kI.C w' A (ch i).length (ints (ch i)) from by
    rw [hch]
    refine (gChain (h.step hW) hi).mono ?_
    rintro e w' ⟨A, c, rfl, hR, hB⟩
    have h3 := (Kd.R_reads' hR).2.2
    rw [ints_len] at h3
    exact ⟨A, c, rfl, hB, h3⟩))
  have hbig := h.len.2
  have hfa : (ch a).length ≤ N := by rw [hch]; exact (chain_fit h.good ha).len
  have hfb : (ch b).length ≤ N := by rw [hch]; exact (chain_fit h.good hb).len
  have HCO := hid (show Link.commonL N (supF S) a b = match (ch a).find? (fun k => decide (k ∈ ch b)) with | some k => (k : Int) | none => -1 by rw [hch]; rfl)
  generalize Link.commonL N (supF S) a b = co at *
  clear h hch
  go_enter Tryd.func98, Tryd.ntmps98
  go_upto_region 4 with (first | (go_at_call 129; refine (HH.out _ (by first | exact Q1.out | exact Q2.out)).mono ?_; rintro e w' ⟨rfl, hw⟩; obtain rfl := hw.symm) | (go_at_call 130; refine (HC.out _ _ (by assumption) (by first | exact Below.refl _ _ | assumption)).mono ?_; rintro e wb ⟨Ab, cb, rfl, hBb, hCb⟩; have HCb := hid hCb; clear hCb))
  rename_i wq Aq cq hBq HCq _ _ _ _
  have HCb2 := hid HCb.out
  have HBT := hid (below_weaken hBq hBq.size hBb)
  have HCA := hid (Kd.C_below HCq.out hBb)
  clear hBq hBb HCq HC HH HCb
  have HCC := hid (fun (x : Nat) => (show Calls Tryd.prog 132 #[.slice Ab (ch b).length cb, .int .i64 x] wb fun e w' => e = .returned (.bool (decide (x ∈ ch b))) ∧ w' = wb from by
    have hil := ints_len (ch b)
    have hC2 : kI.C wb Ab (ints (ch b)).length (ints (ch b)) := by rw [hil]; exact HCb2.out
    have := rhas_any Ab cb (ints (ch b)) (x : Int) wb hC2 (by omega)
    rw [ints_mem, hil] at this
    exact this))
  clear HCb2
  obtain ⟨M, hM⟩ : ∃ M, (ch a).length = M := ⟨_, rfl⟩
  rw [hM] at hfa HCA ⊢
  have HM := hid hM
  clear hM
  go_wp2
  go_loop [9] (fun v => ∃ q : Nat, q ≤ M ∧ v = .int .i64 q ∧ Hid (∀ x ∈ (ch a).take q, decide (x ∈ ch b) = false)) (fun v => M - (intOf v).toNat)
  case atStart => exact ⟨0, by omega, rfl, fun x hx => by simp at hx⟩
  obtain ⟨q, hq, rfl, HD⟩ := hrel
  by_cases hlt : q < M
  · have hce : (ch a)[q]? = some ((ch a)[q]'(by rw [HM.out]; exact hlt)) := List.getElem?_eq_getElem _
    obtain ⟨k, hk⟩ : ∃ k, (ch a)[q]? = some k := ⟨_, hce⟩
    have hC2 : kI.C wb Aq (ints (ch a)).length (ints (ch a)) := by rw [ints_len, HM.out]; exact HCA.out
    obtain ⟨b2, off2, hA⟩ := C_plain hC2 (by rw [ints_len, HM.out]; omega) (by decide)
    subst hA
    have d1 := C_scalar (h1 := fun _ => rfl) hC2 0 q (by rw [ints_len, HM.out]; exact hlt)
    rw [List.getD_eq_getElem?_getD, List.getElem?_map, hk] at d1
    simp only [Option.map_some, Option.getD_some] at d1
    have HK := hid hk
    have HX := hid (HCC.out k)
    clear hce hk hC2
    cases hin : decide (k ∈ ch b) with
    | true =>
      rw [hin] at HX
      have HF := hid (find_at (P := fun x => decide (x ∈ ch b)) HD.out HK.out hin)
      clear hin
      go_wp2_with (go_at_call 132; refine HX.out.mono ?_; rintro e w' ⟨rfl, rfl⟩)
      go_ret
      exact ⟨by rw [HCO.out, HF.out]; rfl, HBT.out⟩
    | false =>
      rw [hin] at HX
      have HF := hid hin
      clear hin
      go_wp2_with (go_at_call 132; refine HX.out.mono ?_; rintro e w' ⟨rfl, rfl⟩)
      go_round
      case rel => exact ⟨q + 1, by omega, by go_num, fun x hx => by
        rw [List.take_add_one, HK.out, List.mem_append] at hx
        rcases hx with hx | hx
        · exact HD.out x hx
        · simp at hx; rw [hx]; exact HF.out⟩
      case measure => simp [intOf]; omega
  · have HF := hid (show (ch a).find? (fun x => decide (x ∈ ch b)) = none from List.find?_eq_none.2 (fun x hx => by
      have := HD.out x (by rw [List.take_of_length_le (by rw [HM.out]; omega)]; exact hx)
      rw [this]; decide))
    go_wp2
    go_ret
    exact ⟨by rw [HCO.out, HF.out]; rfl, HBT.out⟩
/-! Both sides, at any number. -/
/-- What stands above number x. -/
def aZ (N : Nat) (S : List Int) (F : List (List Int)) (x : Int) : List Int := if 0 ≤ x ∧ x < N then ints (Link.aboveL N (supF S) (fsF F) x.toNat) else []
def bZ (N : Nat) (S : List Int) (F : List (List Int)) (x y : Int) : Bool := if (0 ≤ x ∧ x < N) ∧ (0 ≤ y ∧ y < N) then decide (y.toNat ∈ Link.aboveL N (supF S) (fsF F) x.toNat) else false
def cZ (N : Nat) (S : List Int) (x y : Int) : Int := if (0 ≤ x ∧ x < N) ∧ (0 ≤ y ∧ y < N) then Link.commonL N (supF S) x.toNat y.toNat else -1
theorem aZ_len (h : GV p g c r N S F w) (x : Int) : (aZ N S F x).length ≤ 72 := by
  unfold aZ
  split
  · rename_i hx
    have h1 := (above_fit h.good (show x.toNat < N by omega)).len
    have h2 := h.len.2.2
    rw [ints_len]
    omega
  · simp
theorem gAboveZ (h : GV p g c r N S F w) (x : Int) : Calls Tryd.prog 96 #[.pointer (some ⟨p, 0, none⟩), .int .i64 x] w fun e w' => ∃ A c, e = .returned (.slice A (aZ N S F x).length c) ∧ kI.R 3 w' w.heap.size (fun _ => True) (.slice A (aZ N S F x).length c) (aZ N S F x) ∧ Below w.heap.size w w' := by
  by_cases hx : 0 ≤ x ∧ x < N
  · obtain ⟨i, rfl⟩ := Int.eq_ofNat_of_zero_le hx.1
    have e : aZ N S F i = ints (Link.aboveL N (supF S) (fsF F) i) := by unfold aZ; rw [if_pos hx, Int.toNat_natCast]
    rw [e, ints_len]
    exact gAbove h (by omega)
  · have e : aZ N S F x = [] := by unfold aZ; rw [if_neg hx]
    rw [e]
    refine (gAbove_out h hx).mono ?_
    rintro e' w' ⟨rfl, rfl⟩
    exact ⟨none, 0, rfl, Kd.R_nil _ _ _ _ _, Below.refl _ _⟩
theorem gBelowZ (h : GV p g c r N S F w) (x y : Int) : Calls Tryd.prog 97 #[.pointer (some ⟨p, 0, none⟩), .int .i64 x, .int .i64 y] w fun e w' => e = .returned (.bool (bZ N S F x y)) ∧ Below w.heap.size w w' := by
  by_cases hx : (0 ≤ x ∧ x < N) ∧ (0 ≤ y ∧ y < N)
  · obtain ⟨i, rfl⟩ := Int.eq_ofNat_of_zero_le hx.1.1
    obtain ⟨j, rfl⟩ := Int.eq_ofNat_of_zero_le hx.2.1
    have e : bZ N S F i j = decide (j ∈ Link.aboveL N (supF S) (fsF F) i) := by unfold bZ; rw [if_pos hx, Int.toNat_natCast, Int.toNat_natCast]
    rw [e]
    exact gBelow_in h (by omega) (by omega)
  · have e : bZ N S F x y = false := by unfold bZ; rw [if_neg hx]
    rw [e]
    exact gBelow_out h hx
theorem gCommonZ (h : GV p g c r N S F w) (x y : Int) : Calls Tryd.prog 98 #[.pointer (some ⟨p, 0, none⟩), .int .i64 x, .int .i64 y] w fun e w' => e = .returned (.int .i64 (cZ N S x y)) ∧ Below w.heap.size w w' := by
  by_cases hx : (0 ≤ x ∧ x < N) ∧ (0 ≤ y ∧ y < N)
  · obtain ⟨i, rfl⟩ := Int.eq_ofNat_of_zero_le hx.1.1
    obtain ⟨j, rfl⟩ := Int.eq_ofNat_of_zero_le hx.2.1
    have e : cZ N S i j = Link.commonL N (supF S) i j := by unfold cZ; rw [if_pos hx, Int.toNat_natCast, Int.toNat_natCast]
    rw [e]
    exact gCommon_in h (by omega) (by omega)
  · have e : cZ N S x y = -1 := by unfold cZ; rw [if_neg hx]
    rw [e]
    exact gCommon_out h hx
end
section
variable {B p N : Nat} {L : List Cl} {S : List Int} {F : List (List Int)} {w : World}
set_option maxRecDepth 100000 in
set_option maxHeartbeats 4000000 in
theorem common_out (h : IsSet B p L w) {a b : Int} (hab : ¬ ((0 ≤ a ∧ a < L.length) ∧ (0 ≤ b ∧ b < L.length))) : Calls Tryd.prog 38 #[.pointer (some ⟨p, 0, none⟩), .int .i64 a, .int .i64 b] w fun e w' => e = .returned (.int .i64 (-1)) ∧ Below w.heap.size w w' := by
  have HH := hid (fun (i : Int) (v : Bool) (q : decide (0 ≤ i ∧ i < L.length) = v) => hasQ h i v q)
  by_cases ha : 0 ≤ a ∧ a < L.length
  · have Q1 := hid (decide_eq_true ha)
    have Q2 := hid (decide_eq_false (fun hb => hab ⟨ha, hb⟩))
    clear h hab ha
    go_enter Tryd.func38, Tryd.ntmps38
    go_wp2_with (go_at_call 64; refine (HH.out _ _ (by first | exact Q1.out | exact Q2.out)).mono ?_; rintro e w' ⟨rfl, hw⟩; obtain rfl := hw.symm)
    go_ret
    exact ⟨rfl, Below.refl _ _⟩
  · have Q1 := hid (decide_eq_false ha)
    clear h hab ha
    go_enter Tryd.func38, Tryd.ntmps38
    go_wp2_with (go_at_call 64; refine (HH.out _ _ Q1.out).mono ?_; rintro e w' ⟨rfl, rfl⟩)
    go_ret
    exact ⟨rfl, Below.refl _ _⟩
/-- A set of the program's, whose numbers are N, S and F. -/
structure PV (B p N : Nat) (L : List Cl) (S : List Int) (F : List (List Int)) (w : World) : Prop where
  st : IsSet B p L w
  hN : L.length = N
  hS : supsL L L.length = S
  hF : facesL L L.length = F
theorem PV.step (h : PV B p N L S F w) {w' : World} (hb : Below w.heap.size w w') : PV B p N L S F w' := ⟨h.st.step hb, h.hN, h.hS, h.hF⟩
theorem PV.above (h : PV B p N L S F w) (i : Nat) : aboveOf L i = Link.aboveL N (supF S) (fsF F) i := by unfold aboveOf; rw [h.hS, h.hF, h.hN]
theorem PV.common (h : PV B p N L S F w) (i j : Nat) : commonOf L i j = Link.commonL N (supF S) i j := by unfold commonOf; rw [h.hS, h.hN]
theorem sAboveZ (h : PV B p N L S F w) (x : Int) : Calls Tryd.prog 32 #[.pointer (some ⟨p, 0, none⟩), .int .i64 x] w fun e w' => ∃ A c, e = .returned (.slice A (aZ N S F x).length c) ∧ kI.R 3 w' w.heap.size (fun _ => True) (.slice A (aZ N S F x).length c) (aZ N S F x) ∧ Below w.heap.size w w' := by
  by_cases hx : 0 ≤ x ∧ x < N
  · obtain ⟨i, rfl⟩ := Int.eq_ofNat_of_zero_le hx.1
    have e : aZ N S F i = ints (Link.aboveL N (supF S) (fsF F) i) := by unfold aZ; rw [if_pos hx, Int.toNat_natCast]
    rw [e]
    have := above_in h.st (i := i) (by rw [h.hN]; omega)
    rw [h.above] at this
    refine this.mono ?_
    rintro e' w' ⟨v, rfl, hR, hB⟩
    obtain ⟨A', c', rfl⟩ := Kd.R_slice hR
    exact ⟨A', c', rfl, hR, hB⟩
  · have e : aZ N S F x = [] := by unfold aZ; rw [if_neg hx]
    rw [e]
    refine (above_out h.st (by rw [h.hN]; exact hx)).mono ?_
    rintro e' w' ⟨rfl, rfl⟩
    exact ⟨none, 0, rfl, Kd.R_nil _ _ _ _ _, Below.refl _ _⟩
theorem sBelowZ (h : PV B p N L S F w) (x y : Int) : Calls Tryd.prog 31 #[.pointer (some ⟨p, 0, none⟩), .int .i64 x, .int .i64 y] w fun e w' => e = .returned (.bool (bZ N S F x y)) ∧ w' = w := by
  by_cases hx : 0 ≤ x ∧ x < N
  · by_cases hy : 0 ≤ y ∧ y < N
    · obtain ⟨i, rfl⟩ := Int.eq_ofNat_of_zero_le hx.1
      obtain ⟨j, rfl⟩ := Int.eq_ofNat_of_zero_le hy.1
      have e : bZ N S F i j = decide (j ∈ Link.aboveL N (supF S) (fsF F) i) := by unfold bZ; rw [if_pos ⟨hx, hy⟩, Int.toNat_natCast, Int.toNat_natCast]
      rw [e, ← h.above]
      exact below_in h.st (by rw [h.hN]; omega) (by rw [h.hN]; omega)
    · obtain ⟨i, rfl⟩ := Int.eq_ofNat_of_zero_le hx.1
      have e : bZ N S F i y = false := by unfold bZ; rw [if_neg (fun hh => hy hh.2)]
      rw [e]
      exact below_out2 h.st (by rw [h.hN]; omega) (by rw [h.hN]; exact hy)
  · have e : bZ N S F x y = false := by unfold bZ; rw [if_neg (fun hh => hx hh.1)]
    rw [e]
    exact below_out1 h.st (by rw [h.hN]; exact hx)
theorem sCommonZ (h : PV B p N L S F w) (x y : Int) : Calls Tryd.prog 38 #[.pointer (some ⟨p, 0, none⟩), .int .i64 x, .int .i64 y] w fun e w' => e = .returned (.int .i64 (cZ N S x y)) ∧ Below w.heap.size w w' := by
  by_cases hx : (0 ≤ x ∧ x < N) ∧ (0 ≤ y ∧ y < N)
  · obtain ⟨i, rfl⟩ := Int.eq_ofNat_of_zero_le hx.1.1
    obtain ⟨j, rfl⟩ := Int.eq_ofNat_of_zero_le hx.2.1
    have e : cZ N S i j = Link.commonL N (supF S) i j := by unfold cZ; rw [if_pos hx, Int.toNat_natCast, Int.toNat_natCast]
    rw [e, ← h.common]
    exact common_in h.st (by rw [h.hN]; omega) (by rw [h.hN]; omega)
  · have e : cZ N S x y = -1 := by unfold cZ; rw [if_neg hx]
    rw [e]
    exact common_out h.st (by rw [h.hN]; exact hx)
end
end Go.Proofs.YtbogcknkkbnfnaaDoor

