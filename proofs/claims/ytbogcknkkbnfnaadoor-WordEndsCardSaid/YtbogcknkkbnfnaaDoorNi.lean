/- The document's New. Printed by mkni.py. -/
import Derived.Test.YtbogcknkkbnfnaaDoorNg
import Derived.Test.YtbogcknkkbnfnaaDoorR6
import Derived.Deep.RegionLaw
namespace Go.Proofs.YtbogcknkkbnfnaaDoor
open Go.RowKit Go.Proofs.YtbogcknkkbnfnaaDoorW.PrintWords Go.Maps Go.WideMaps

def refEl (j : Nat) : El := ⟨zSl, bn j, if j = 0 then ⟨#[]⟩ else if j = 1 then bn 0 else bn 1, false, zSl, zSl, zSl⟩
def refEls : List El := (List.range 8).map refEl
def refPs : List (El × Cl) := (List.range 8).map (fun j => (refEl j, refCl j))
theorem refPs_fst : refPs.map (·.1) = refEls := by unfold refPs refEls; rw [List.map_map]; rfl
theorem refPs_snd : refPs.map (·.2) = refB := by unfold refPs refB; rw [List.map_map]; rfl
theorem refPs_el (w : World) : ∀ z ∈ refPs, ElCl w z.1 z.2 := by
  intro z hz
  obtain ⟨j, _, rfl⟩ := List.mem_map.1 hz
  exact ⟨rfl, rfl, rfl, rfl, rfl, rfl, rfl, Nat.le_refl _, ⟨rfl, Nat.zero_le _, fun h => absurd h (Nat.lt_irrefl 0)⟩⟩
theorem refEls_take {q : Nat} (h : q < 8) : refEls.take (q + 1) = refEls.take q ++ [refEl q] := by
  rw [List.take_succ_eq_append_getElem (by simpa [refEls] using h)]
  simp [refEls]
theorem bi_get {q : Nat} (h : q < 8) : biCells[q]? = some (.string (bn q)) := by
  match q, h with
  | 0, _ => rfl
  | 1, _ => rfl
  | 2, _ => rfl
  | 3, _ => rfl
  | 4, _ => rfl
  | 5, _ => rfl
  | 6, _ => rfl
  | 7, _ => rfl
set_option maxRecDepth 100000 in
theorem names_any (w : World) : Calls Tryd.prog 99 #[] w fun e w' => ∃ g, e = .returned (.slice (some ⟨g, 0, none⟩) 8 8) ∧ w'.heap[g]? = some (.cells biCells 9 (0, 0)) ∧ Below w.heap.size w w' := by
  go_enter Tryd.func99, Tryd.ntmps99
  go_wp2
  go_ret
  exact ⟨_, rfl, blk_new w (.cells biCells 9), below_alloc (Below.refl _ _) _⟩
/-- The list while it is made. -/
structure LS (w0 : World) (p g : Nat) (v : Value) (es : List El) (w : World) : Prop where
  below : Below w0.heap.size w0 w
  blk : w.heap[p]? = some (.cells #[v] 136 (0, 0))
  row : kEl.R 57 w w0.heap.size (fun _ => True) v es
  nm : w.heap[g]? = some (.cells biCells 9 (0, 0))
section
variable {w0 w w' : World} {p g : Nat} {v : Value} {es : List El}
theorem LS.step (h : LS w0 p g v es w) (hb : Below w.heap.size w w') : LS w0 p g v es w' := ⟨below_weaken h.below h.below.size hb, blk_below h.blk hb, Kd.R_below h.row hb, blk_below h.nm hb⟩
theorem LS.put {W w1 : World} {v1 : Value} {es1 : List El} (h : LS w0 p g v es w) (hW : ∀ i : Nat, W.heap[i]? = w.heap[i]?) (hp : w0.heap.size ≤ p) (hQ : kEl.R 57 w1 w0.heap.size (fun _ => True) v1 es1) (hB : Below w0.heap.size w0 w1) (hG : W.grownBy w1 v.ownBlock) : LS w0 p g v1 es1 (w1.setCell ⟨p, 0, none⟩ v1) := by
  have hk := blk_grown (w := W) ((hW p).trans h.blk) hG (Kd.R_ne h.row h.blk (by decide))
  have hn := blk_grown (w := W) ((hW g).trans h.nm) hG (Kd.R_ne h.row h.nm (by decide))
  exact ⟨hB.setCell hp _, blk_put hk 0 _ rfl, Kd.R_set hQ hk (by decide) 0 _, blk_far hn (blk_ne hn hk (by decide)) _⟩
theorem LS.name (h : LS w0 p g v es w) {q : Nat} (hq : q < 8) : w.cell? ⟨g, q, none⟩ = some (.string (bn q)) := by rw [blk_cell h.nm q]; exact bi_get hq
end
/-- A set of the document's, in memory from B on; the interfaces' names lie as they did in wl. -/
structure RSet (wl : World) (B p : Nat) (r : List Cl) (w : World) : Prop where
  ex : ∃ (v : Value) (R : List (El × Cl)), w.heap[p]? = some (.cells #[v] 136 (0, 0)) ∧ kEl.R 57 w B (fun _ => True) v (R.map (·.1)) ∧ R.map (·.2) = refB ++ r ∧ ∀ z ∈ R, ElCl wl z.1 z.2
  base : B ≤ p
  big : (refB ++ r).length ≤ 72
  ok : ∀ x ∈ r, clOk x
theorem RSet.move {wl : World} {B p : Nat} {r : List Cl} {w w' : World} (h : RSet wl B p r w) (hm : ∀ k, B ≤ k → k < w.heap.size → w'.heap[k]? = w.heap[k]?) : RSet wl B p r w' := by
  obtain ⟨v, R, h1, h2, h3, h4⟩ := h.ex
  exact ⟨⟨v, R, (hm p h.base (blk_lt h1)).trans h1, Kd.R_mono (Kd.R_step (Kd.R_bound h2) (fun k hk hlt => hm k hk.2.1 hlt)) (fun _ _ => trivial), h3, h4⟩, h.base, h.big, h.ok⟩
theorem RSet.step {wl : World} {B p : Nat} {r : List Cl} {w w' : World} (h : RSet wl B p r w) (hb : Below w.heap.size w w') : RSet wl B p r w' := h.move (fun k _ hk => hb.block k hk)
theorem RSet.mv {wl : World} {B p : Nat} {r : List Cl} {w : World} (h : RSet wl B p r w) (hB : Below wl.heap.size wl w) : ∃ g c, MV p g c r w := by
  obtain ⟨v, R, h1, h2, h3, h4⟩ := h.ex
  have hl : (R.map (·.1)).length = (refB ++ r).length := by rw [← h3, List.length_map, List.length_map]
  have h8 : 8 ≤ (refB ++ r).length := by rw [ref_len]; exact len_built r
  obtain ⟨g, c, hv, _⟩ := Kd.R_form h2 (by omega)
  rw [hv] at h1 h2
  have h5 := (Kd.R_reads' h2).2.2
  have h6 := C_of_els h5 (fun z hz => (h4 z hz).below hB)
  rw [h3, hl] at h6
  rw [hl] at h1
  exact ⟨g, c, h1, h6, h.big, h.ok⟩
/-- .. with its number of classes. -/
structure QV (p g c N : Nat) (r : List Cl) (w : World) : Prop where
  mv : MV p g c r w
  hN : (builtL ++ r).length = N
section
variable {p g c N : Nat} {r : List Cl} {w : World}
theorem QV.step (h : QV p g c N r w) {w' : World} (hb : Below w.heap.size w w') : QV p g c N r w' := ⟨h.mv.step hb, h.hN⟩
theorem QV.rlen (h : QV p g c N r w) : (refB ++ r).length = N := by rw [ref_len]; exact h.hN
theorem QV.big (h : QV p g c N r w) : 8 ≤ N ∧ N ≤ 72 := by
  have h1 := h.mv.big
  have h2 := h.mv.len
  have h3 := h.rlen
  omega
theorem QV.find (h : QV p g c N r w) (s : ByteArray) (z : Int) (hz : fnd (builtL ++ r) s = z) (W : World) (hW : Below w.heap.size w W) : Calls Tryd.prog 101 #[.slice (some ⟨g, 0, none⟩) N c, .string s] W fun e w' => e = .returned (.int .i64 z) ∧ w' = W := by
  have := (h.mv.step hW).find s
  rw [h.rlen, hz] at this
  exact this
/-- Class i, as it lies. -/
structure At (p g c N : Nat) (r : List Cl) (i : Nat) (e : El) (A : Option Addr) (M fc : Nat) (F : List ByteArray) (w : World) : Prop where
  n : e.n = ((builtL ++ r).getD i zCl).name
  s : e.s = ((builtL ++ r).getD i zCl).super
  b : e.b = ((builtL ++ r).getD i zCl).face
  hF : ((builtL ++ r).getD i zCl).faces = F
  len : F.length = M
  fC : Kd.string.C w A M F
  fl : M ≤ 8796093022208
  cells : ∀ W, Below w.heap.size w W → (W.cell? ⟨p, 0, none⟩ = some (.slice (some ⟨g, 0, none⟩) N c) ∧ W.cell? ⟨g, i * 7, none⟩ = some (.slice e.p.a e.p.n e.p.c) ∧ W.cell? ⟨g, i * 7 + 1, none⟩ = some (.string e.n) ∧ W.cell? ⟨g, i * 7 + 2, none⟩ = some (.string e.s) ∧ W.cell? ⟨g, i * 7 + 3, none⟩ = some (.bool e.b) ∧ W.cell? ⟨g, i * 7 + 4, none⟩ = some (.slice A M fc) ∧ W.cell? ⟨g, i * 7 + 5, none⟩ = some (.slice e.l.a e.l.n e.l.c) ∧ W.cell? ⟨g, i * 7 + 6, none⟩ = some (.slice e.m.a e.m.n e.m.c))
theorem QV.at (h : QV p g c N r w) {i : Nat} (h0 : 0 < i) (hi : i < N) : ∃ e A M fc F, At p g c N r i e A M fc F w := by
  have hl := h.rlen
  obtain ⟨e, hE, c0, c1, c2, c3, c4, c5, c6⟩ := el_at h.mv.row i (by omega)
  rw [ref_at r h0] at hE
  have hm : (builtL ++ r).getD i zCl ∈ builtL ++ r := getD_mem (by rw [h.hN]; exact hi)
  have hok : clOk ((builtL ++ r).getD i zCl) := (List.mem_append.1 hm).elim (builtL_ok _) (h.mv.ok _)
  have h3 := hok.2.2.1
  have hfn := hE.fn
  rw [hfn] at c4
  refine ⟨e, e.f.a, _, e.f.c, _, hE.n, hE.s, hE.b, rfl, rfl, hE.fC, by omega, fun W hW => ?_⟩
  have key : ∀ {a : Addr} {v : Value}, w.cell? a = some v → W.cell? a = some v := fun h => (hW.cell (World.block_lt_of_cell? w _ h)).trans h
  have hp := blk_cell h.mv.blk 0
  rw [hl] at hp
  exact ⟨key hp, key c0, key c1, key c2, key c3, key c4, key c5, key c6⟩
/-- The bit of a class that is found. -/
theorem QV.face (h : QV p g c N r w) {u : Nat} (hu : u < N) (W : World) (hW : Below w.heap.size w W) : W.cell? ⟨g, u * 7 + 3, none⟩ = some (.bool ((builtL ++ r).getD u zCl).face) := by
  have hl := h.rlen
  obtain ⟨e, hE, c0, c1, c2, c3, _⟩ := el_at h.mv.row u (by omega)
  rw [hE.b, (ref_faces r u).2] at c3
  exact (hW.cell (World.block_lt_of_cell? w _ c3)).trans c3
end
theorem newErr_1 {L : List Cl} {s : ByteArray} (h1 : dupErr L = some s) : newErr L = some (s, 92) := by unfold newErr; rw [h1]
theorem newErr_2 {L : List Cl} {s : ByteArray} (h1 : dupErr L = none) (h2 : joinErr L = some s) : newErr L = some (s, 90) := by unfold newErr; rw [h1, h2]
theorem newErr_3 {L : List Cl} {s : ByteArray} (h1 : dupErr L = none) (h2 : joinErr L = none) (h3 : firstNo L (upFit L (supsL L L.length)) = some s) : newErr L = some (s, 90) := by unfold newErr; rw [h1, h2, h3]
theorem newErr_4 {L : List Cl} {s : ByteArray} (h1 : dupErr L = none) (h2 : joinErr L = none) (h3 : firstNo L (upFit L (supsL L L.length)) = none) (h4 : firstNo L (facesP L (facesL L L.length)) = some s) : newErr L = some (s, 90) := by unfold newErr; rw [h1, h2, h3, h4]
theorem newErr_5 {L : List Cl} {s : ByteArray} (h1 : dupErr L = none) (h2 : joinErr L = none) (h3 : firstNo L (upFit L (supsL L L.length)) = none) (h4 : firstNo L (facesP L (facesL L L.length)) = none) (h5 : firstNo L (ringP (supsL L L.length) (facesL L L.length)) = some s) : newErr L = some (s, 91) := by unfold newErr; rw [h1, h2, h3, h4, h5]
theorem newErr_0 {L : List Cl} (h1 : dupErr L = none) (h2 : joinErr L = none) (h3 : firstNo L (upFit L (supsL L L.length)) = none) (h4 : firstNo L (facesP L (facesL L L.length)) = none) (h5 : firstNo L (ringP (supsL L L.length) (facesL L L.length)) = none) : newErr L = none := by unfold newErr; rw [h1, h2, h3, h4, h5]
/-- What the document's New comes to. -/
def RefPost (wl : World) (l : List Cl) (w : World) (e : Ending) (w' : World) : Prop :=
  Below w.heap.size w w' ∧ if 64 < l.length then e = .returned (.tuple #[.pointer none, .string ⟨#[]⟩, .int .i64 5]) else
    ∃ r, Srtd r l ∧ match newErr (builtL ++ r) with
      | some (s, x) => e = .returned (.tuple #[.pointer none, .string s, .int .i64 x])
      | none => ∃ p, e = .returned (.tuple #[.pointer (some ⟨p, 0, none⟩), .string ⟨#[]⟩, .int .i64 0]) ∧ RSet wl w.heap.size p r w'
set_option maxRecDepth 100000 in
set_option maxHeartbeats 0 in
theorem refNew_any (A : Option Addr) (c : Nat) (l : List Cl) (wl w : World) (hC : kCl.C wl A l.length l) (hBl : Below wl.heap.size wl w) (hbig : l.length ≤ 9223372036854775807) (hok : ∀ x ∈ l, clOk x) :
    Calls Tryd.prog 47 #[.slice A l.length c] w (RefPost wl l w) := by
  by_cases h64 : 64 < l.length
  · have HP := hid (show ∀ e w', Below w.heap.size w w' → e = .returned (.tuple #[.pointer none, .string ⟨#[]⟩, .int .i64 5]) → RefPost wl l w e w' from fun e w' h1 h2 => ⟨h1, by rw [if_pos h64]; exact h2⟩)
    clear hC hok hBl
    generalize l.length = n at *
    go_enter Tryd.func47, Tryd.ntmps47
    go_wp2
    go_ret3
    exact HP.out _ _ (Below.refl _ _) rfl
  · have HH := hid (show ∀ (r : List Cl) (s : ByteArray) (x : Int) (e : Ending) (w' : World), Srtd r l → newErr (builtL ++ r) = some (s, x) → Below w.heap.size w w' → e = .returned (.tuple #[.pointer none, .string s, .int .i64 x]) → RefPost wl l w e w' from fun r s x e w' hs hn h1 h2 => ⟨h1, by rw [if_neg h64]; exact ⟨r, hs, by rw [hn]; exact h2⟩⟩)
    have HOK := hid (show ∀ (r : List Cl) (p : Nat) (e : Ending) (w' : World), Srtd r l → newErr (builtL ++ r) = none → Below w.heap.size w w' → e = .returned (.tuple #[.pointer (some ⟨p, 0, none⟩), .string ⟨#[]⟩, .int .i64 0]) → RSet wl w.heap.size p r w' → RefPost wl l w e w' from fun r p e w' hs hn h1 h2 h3 => ⟨h1, by rw [if_neg h64]; exact ⟨r, hs, by rw [hn]; exact ⟨p, h2, h3⟩⟩⟩)
    obtain ⟨P, hP, hel, hE⟩ := els_C hC
    have HE := hid (Kd.C_below hE hBl)
    have HEL := hid hel
    have HPL := hid hP
    have HCL := hid hok
    have HBL := hid hBl
    have hl : l.length ≤ 64 := by omega
    clear hC hok h64 hP hel hE hBl hbig
    obtain ⟨n, hn⟩ : ∃ n, l.length = n := ⟨_, rfl⟩
    have HN := hid hn
    rw [hn] at hl HE ⊢
    clear hn
    go_enter Tryd.func47, Tryd.ntmps47
    go_upto_region 4 with fail
    have k0 := blk_new w (.cells #[.slice none 0 0] 136)
    have HB1 := hid (below_alloc (Below.refl w.heap.size w) (.cells #[.slice none 0 0] 136))
    obtain ⟨p, hp⟩ : ∃ p, w.heap.size = p := ⟨_, rfl⟩
    have HP0 := hid (show w.heap.size ≤ p by omega)
    have K0 := hid (show (w.alloc (.cells #[.slice none 0 0] 136)).heap[p]? = some (.cells #[.slice none 0 0] 136 (0, 0)) by rw [← hp]; exact k0)
    rw [hp]
    clear k0 hp
    generalize w.alloc (.cells #[.slice none 0 0] 136) = w1 at *
    go_upto_region 5 with (go_at_call 99; refine (names_any _).mono ?_; rintro e w2 ⟨g, rfl, hg, hB⟩; have HLS := hid (show LS w p g (.slice none 0 0) [] w2 from ⟨below_weaken HB1.out HB1.out.size hB, blk_below K0.out hB, Kd.R_nil _ _ _ _ _, hg⟩); clear hg hB)
    clear K0 HB1
    go_wp2
    go_loopw [7] (fun iV wr => ∃ (q : Nat) (v : Value), q ≤ 8 ∧ iV = .int .i64 q ∧ Hid (LS w p g v (refEls.take q) wr)) (fun iV _ => 8 - (intOf iV).toNat)
    case atStart => exact ⟨0, _, by omega, rfl, HLS⟩
    clear HLS
    obtain ⟨q, v, hq, rfl, HLr⟩ := hrel
    by_cases hlt : q < 8
    · have hx := HLr.out.name hlt
      by_cases h0 : q = 0
      · subst h0
        go_wp2_with fail
        have H8 := hid (HLr.out.step (below_alloc (Below.refl _ _) (.cells #[.slice none 0 0, .string (bn 0), .string ⟨#[]⟩, .bool false, .slice none 0 0, .slice none 0 0, .slice none 0 0] 57)))
        have k8 := blk_new wr (.cells #[.slice none 0 0, .string (bn 0), .string ⟨#[]⟩, .bool false, .slice none 0 0, .slice none 0 0, .slice none 0 0] 57)
        clear hx
        generalize wr.alloc (.cells #[.slice none 0 0, .string (bn 0), .string ⟨#[]⟩, .bool false, .slice none 0 0, .slice none 0 0, .slice none 0 0] 57) = w8 at *
        generalize wr.heap.size = b8 at *
        have c0 := blk_cell k8 0
        have c1 := blk_cell k8 1
        have c2 := blk_cell k8 2
        have c3 := blk_cell k8 3
        have c4 := blk_cell k8 4
        have c5 := blk_cell k8 5
        have c6 := blk_cell k8 6
        have hx0 := blk_cell H8.out.blk 0
        have hf0 := blk_frozen H8.out.blk 0
        have zp := blk_lt H8.out.blk
        have hB8 := hid H8.out.below
        have hR8 := hid H8.out.row
        have hK8 := hid H8.out.blk
        have hN8 := hid (Kd.R_ne H8.out.row H8.out.blk (by decide))
        go_region_law ((rw [alloc_drew]); refine Kd.R_append_step kEl w.heap.size (by rfl) (.tmp 46) (.tmp 48) 22 57 _ 136 (by rfl) Tryd.underlying22 infoCls (by rfl) (by decide) (by decide) v (refEls.take 0) (refEl 0) [.slice none 0 0, .string (bn 0), .string ⟨#[]⟩, .bool false, .slice none 0 0, .slice none 0 0, .slice none 0 0] (fun _ => True) (fun _ => False) (by rfl) (by rfl) (by have := kEl_M w8.drew w.heap.size (fun _ => False) (refEl 0); exact this) (fun _ h => h.elim) (fun _ _ => trivial) (by exact Kd.R_drew hR8.out) (by exact below_drew hB8.out) (by exact hB8.out.size) (by simp [refEls]; try omega) ?_; intro v1 w1 hQ1 hB1 hG1 hat1; obtain ⟨A1, n1, k1, rfl⟩ := R_sl hQ1; have hk1 := hid (blk_grown (w := w8.drew) hK8.out hG1 hN8.out); have hx1 := blk_cell hk1.out 0; have hf1 := blk_frozen hk1.out 0)
        all_goals
          have hP := hid (H8.out.put (w := w8) (W := w8.drew) (fun _ => rfl) HP0.out hQ1 hB1 hG1)
          clear hQ1 hB1 hG1 hat1 hk1 hx1 hf1 hx0 hf0 c0 c1 c2 c3 c4 c5 c6 k8
          go_wp2
          go_roundw
          case rel => exact ⟨0 + 1, _, by omega, by go_num, by rw [refEls_take (by omega)]; exact hP⟩
          case measure => simp [intOf]; try omega
      · by_cases h1 : q = 1
        · subst h1
          go_wp2_with fail
          have H8 := hid (HLr.out.step (below_alloc (Below.refl _ _) (.cells #[.slice none 0 0, .string (bn 1), .string ⟨#[79, 98, 106, 101, 99, 116]⟩, .bool false, .slice none 0 0, .slice none 0 0, .slice none 0 0] 57)))
          have k8 := blk_new wr (.cells #[.slice none 0 0, .string (bn 1), .string ⟨#[79, 98, 106, 101, 99, 116]⟩, .bool false, .slice none 0 0, .slice none 0 0, .slice none 0 0] 57)
          clear hx
          generalize wr.alloc (.cells #[.slice none 0 0, .string (bn 1), .string ⟨#[79, 98, 106, 101, 99, 116]⟩, .bool false, .slice none 0 0, .slice none 0 0, .slice none 0 0] 57) = w8 at *
          generalize wr.heap.size = b8 at *
          have c0 := blk_cell k8 0
          have c1 := blk_cell k8 1
          have c2 := blk_cell k8 2
          have c3 := blk_cell k8 3
          have c4 := blk_cell k8 4
          have c5 := blk_cell k8 5
          have c6 := blk_cell k8 6
          have hx0 := blk_cell H8.out.blk 0
          have hf0 := blk_frozen H8.out.blk 0
          have zp := blk_lt H8.out.blk
          have hB8 := hid H8.out.below
          have hR8 := hid H8.out.row
          have hK8 := hid H8.out.blk
          have hN8 := hid (Kd.R_ne H8.out.row H8.out.blk (by decide))
          go_region_law ((rw [alloc_drew]); refine Kd.R_append_step kEl w.heap.size (by rfl) (.tmp 46) (.tmp 48) 22 57 _ 136 (by rfl) Tryd.underlying22 infoCls (by rfl) (by decide) (by decide) v (refEls.take 1) (refEl 1) [.slice none 0 0, .string (bn 1), .string ⟨#[79, 98, 106, 101, 99, 116]⟩, .bool false, .slice none 0 0, .slice none 0 0, .slice none 0 0] (fun _ => True) (fun _ => False) (by rfl) (by rfl) (by have := kEl_M w8.drew w.heap.size (fun _ => False) (refEl 1); exact this) (fun _ h => h.elim) (fun _ _ => trivial) (by exact Kd.R_drew hR8.out) (by exact below_drew hB8.out) (by exact hB8.out.size) (by simp [refEls]; try omega) ?_; intro v1 w1 hQ1 hB1 hG1 hat1; obtain ⟨A1, n1, k1, rfl⟩ := R_sl hQ1; have hk1 := hid (blk_grown (w := w8.drew) hK8.out hG1 hN8.out); have hx1 := blk_cell hk1.out 0; have hf1 := blk_frozen hk1.out 0)
          all_goals
            have hP := hid (H8.out.put (w := w8) (W := w8.drew) (fun _ => rfl) HP0.out hQ1 hB1 hG1)
            clear hQ1 hB1 hG1 hat1 hk1 hx1 hf1 hx0 hf0 c0 c1 c2 c3 c4 c5 c6 k8
            go_wp2
            go_roundw
            case rel => exact ⟨1 + 1, _, by omega, by go_num, by rw [refEls_take (by omega)]; exact hP⟩
            case measure => simp [intOf]; try omega
        · have HSU := hid (show (refEl q).cells = [.slice none 0 0, .string (bn q), .string ⟨#[84, 104, 114, 111, 119, 97, 98, 108, 101]⟩, .bool false, .slice none 0 0, .slice none 0 0, .slice none 0 0] by unfold El.cells refEl; simp only [if_neg h0, if_neg h1]; rfl)
          have b0 : ((q : Int) == 0) = false := by simp; omega
          have b1 : ((q : Int) == 1) = false := by simp; omega
          go_wp2_with fail
          have H8 := hid (HLr.out.step (below_alloc (Below.refl _ _) (.cells #[.slice none 0 0, .string (bn q), .string ⟨#[84, 104, 114, 111, 119, 97, 98, 108, 101]⟩, .bool false, .slice none 0 0, .slice none 0 0, .slice none 0 0] 57)))
          have k8 := blk_new wr (.cells #[.slice none 0 0, .string (bn q), .string ⟨#[84, 104, 114, 111, 119, 97, 98, 108, 101]⟩, .bool false, .slice none 0 0, .slice none 0 0, .slice none 0 0] 57)
          clear hx
          generalize wr.alloc (.cells #[.slice none 0 0, .string (bn q), .string ⟨#[84, 104, 114, 111, 119, 97, 98, 108, 101]⟩, .bool false, .slice none 0 0, .slice none 0 0, .slice none 0 0] 57) = w8 at *
          generalize wr.heap.size = b8 at *
          have c0 := blk_cell k8 0
          have c1 := blk_cell k8 1
          have c2 := blk_cell k8 2
          have c3 := blk_cell k8 3
          have c4 := blk_cell k8 4
          have c5 := blk_cell k8 5
          have c6 := blk_cell k8 6
          have hx0 := blk_cell H8.out.blk 0
          have hf0 := blk_frozen H8.out.blk 0
          have zp := blk_lt H8.out.blk
          have hB8 := hid H8.out.below
          have hR8 := hid H8.out.row
          have hK8 := hid H8.out.blk
          have hN8 := hid (Kd.R_ne H8.out.row H8.out.blk (by decide))
          go_region_law ((rw [alloc_drew]); refine Kd.R_append_step kEl w.heap.size (by rfl) (.tmp 46) (.tmp 48) 22 57 _ 136 (by rfl) Tryd.underlying22 infoCls (by rfl) (by decide) (by decide) v (refEls.take q) (refEl q) [.slice none 0 0, .string (bn q), .string ⟨#[84, 104, 114, 111, 119, 97, 98, 108, 101]⟩, .bool false, .slice none 0 0, .slice none 0 0, .slice none 0 0] (fun _ => True) (fun _ => False) (by rfl) (by rfl) (by have := kEl_M w8.drew w.heap.size (fun _ => False) (refEl q); rw [HSU.out] at this; exact this) (fun _ h => h.elim) (fun _ _ => trivial) (by exact Kd.R_drew hR8.out) (by exact below_drew hB8.out) (by exact hB8.out.size) (by simp [refEls]; try omega) ?_; intro v1 w1 hQ1 hB1 hG1 hat1; obtain ⟨A1, n1, k1, rfl⟩ := R_sl hQ1; have hk1 := hid (blk_grown (w := w8.drew) hK8.out hG1 hN8.out); have hx1 := blk_cell hk1.out 0; have hf1 := blk_frozen hk1.out 0)
          all_goals
            have hP := hid (H8.out.put (w := w8) (W := w8.drew) (fun _ => rfl) HP0.out hQ1 hB1 hG1)
            clear hQ1 hB1 hG1 hat1 hk1 hx1 hf1 hx0 hf0 c0 c1 c2 c3 c4 c5 c6 k8
            go_wp2
            go_roundw
            case rel => exact ⟨q + 1, _, by omega, by go_num, by rw [refEls_take (by omega)]; exact hP⟩
            case measure => simp [intOf]; try omega
    · obtain rfl : q = 8 := by omega
      have HL8 := hid (show LS w p g v refEls wr by have := HLr.out; rw [List.take_of_length_le (by simp [refEls])] at this; exact this)
      clear HLr hlt hq
      rw [show (((8 : Nat) : Int)) = 8 from rfl]
      go_upto_region 14 with fail
      go_cut [59] (fun _ wx => ∃ (v' : Value) (R : List (El × Cl)), Hid (R.Perm P) ∧ Hid (SrtdE R) ∧ Hid (LS w p g v' (refEls ++ R.map (·.1)) wx))
      case first =>
        have hpl : P.length ≤ 64 := by have := HE.out.1; rw [List.length_map] at this; omega
        have hx0 := blk_cell HL8.out.blk 0
        have hf0 := blk_frozen HL8.out.blk 0
        obtain ⟨A0, n0, c0, rfl⟩ := R_sl HL8.out.row
        have zp := blk_lt HL8.out.blk
        go_region_law (first
          | (refine Kd.R_append_rows_step kEl (Rr := kEl.K w3) w.heap.size (by rfl) (.tmp 56) (.tmp 58) 22 57 _ 136 (by rfl) Tryd.underlying22 infoCls (by rfl) (by decide) (by decide) (.slice A0 n0 c0) refEls (R.map (fun z : El × Cl => z.1)) As R.length cs (fun _ => True) (fun _ => False) (by rfl) (by rfl) HL3.out.row HCs.out (fun e cs h => by rw [kEl_open h]; exact kEl_M _ _ _ e) (fun _ h => h.elim) (fun _ _ => trivial) HL3.out.below HL3.out.below.size (by have := HPM.out.length_eq; simp [refEls]; omega) ?_; intro v1 w4 hR1 hB1 hG1 hat1; obtain ⟨A1, n1, c1, rfl⟩ := R_sl hR1; have hk4 := hid (blk_grown HL3.out.blk hG1 (Kd.R_ne HL3.out.row HL3.out.blk (by decide))); have hx4 := blk_cell hk4.out 0; have hf4 := blk_frozen hk4.out 0)
          | (go_simp; refine (sorted_any A n c P wl _ (Kd.C_below HE.out (below_drew HL8.out.below)) HEL.out hl).mono ?_; rintro e w3 ⟨vs, R, rfl, hRs, hBs, hPM, hSR⟩; have HRs := hid hRs; have HPM := hid hPM; have HSR := hid hSR; have HL3 := hid (HL8.out.step (below_weaken (below_drew (Below.refl wr.heap.size wr)) (Nat.le_refl _) hBs)); clear hRs hBs hPM hSR; obtain ⟨As, cs, rfl⟩ := Kd.R_slice HRs.out; have HCs := hid (show kEl.C w3 As R.length (R.map (fun z : El × Cl => z.1)) from by have := (Kd.R_reads' HRs.out).2.2; rw [List.length_map] at this; exact this); have hx3 := blk_cell HL3.out.blk 0; dsimp only))
        all_goals
          have hPUT := hid (HL3.out.put (W := w3) (fun _ => rfl) HP0.out hR1 hB1 hG1)
          go_wp2
          go_meet
          exact ⟨_, R, HPM, HSR, hPUT⟩
      case rest =>
        obtain ⟨v', R, HPM, HSR, HLC⟩ := hcut
        obtain ⟨r, hr⟩ : ∃ r, R.map (fun z : El × Cl => z.2) = r := ⟨_, rfl⟩
        have HSRT := hid (show Srtd r l from ⟨by rw [← hr, ← HPL.out]; exact HPM.out.map _, by rw [← hr, List.pairwise_map]; exact HSR.out⟩)
        have HRS := hid (show RSet wl w.heap.size p r wc from ⟨⟨v', refPs ++ R, HLC.out.blk, by rw [List.map_append, refPs_fst]; exact HLC.out.row, by rw [List.map_append, refPs_snd, hr], fun z hz => (List.mem_append.1 hz).elim (refPs_el wl z) (fun h => HEL.out z (HPM.out.mem_iff.1 h))⟩, HP0.out, by rw [List.length_append, refB_len, HSRT.out.1.length_eq, HN.out]; omega, fun x hx => HCL.out x (HSRT.out.1.mem_iff.1 hx)⟩)
        obtain ⟨gm, cm, hMV⟩ := HRS.out.mv (below_weaken HBL.out HBL.out.size HLC.out.below)
        obtain ⟨N, hNN⟩ : ∃ N, (builtL ++ r).length = N := ⟨_, rfl⟩
        have HQ := hid (show QV p gm cm N r wc from ⟨hMV, hNN⟩)
        have HBC := hid HLC.out.below
        have HBT := hid (fun (W : World) (hW : Below wc.heap.size wc W) => below_weaken HBC.out HBC.out.size hW)
        have hNb := HQ.out.big
        have HNN := hid hNN
        have hp0 : wc.cell? ⟨p, 0, none⟩ = some (.slice (some ⟨gm, 0, none⟩) N cm) := by have := blk_cell HQ.out.mv.blk 0; rw [HQ.out.rlen] at this; exact this
        have HC0 := hid (fun (W : World) (hW : Below wc.heap.size wc W) => (hW.cell (World.block_lt_of_cell? wc _ hp0)).trans hp0)
        have hq0 := HC0.out wc (Below.refl _ _)
        clear hMV hNN hr HPM HSR HLC HEL HPL HCL HE HP0 HL8 hp0
        go_wp2
        go_loopw [9] (fun iV wr => ∃ i : Nat, 8 ≤ i ∧ i ≤ N ∧ iV = .int .i64 i ∧ Hid (Below wc.heap.size wc wr) ∧ Hid (∀ j, 8 ≤ j → j < i → fnd (builtL ++ r) ((builtL ++ r).getD j zCl).name = (j : Int))) (fun iV _ => N - (intOf iV).toNat)
        case atStart => exact ⟨8, by omega, by omega, rfl, Below.refl _ _, fun j h1 h2 => by omega⟩
        clear hq0
        obtain ⟨i, h8, hi, rfl, HBr, HD⟩ := hrel
        by_cases hlt : i < N
        · as_aux_lemma =>
          obtain ⟨e, Af, M, fc, F, hA⟩ := HQ.out.at (by omega : 0 < i) hlt
          have li : (i : Int) < N := by omega
          have HA := hid hA
          clear hA
          obtain ⟨c0, _, c1, _⟩ := HA.out.cells wr HBr.out
          obtain ⟨u, hu⟩ : ∃ u, fnd (builtL ++ r) e.n = u := ⟨_, rfl⟩
          have HF := hid (HQ.out.find e.n u hu)
          by_cases hui : u = (i : Int)
          · subst hui
            have b0 : ((i : Int) != (i : Int)) = false := by simp
            have HDN := hid (show ∀ j, 8 ≤ j → j < i + 1 → fnd (builtL ++ r) ((builtL ++ r).getD j zCl).name = (j : Int) from fun j h1 h2 => by
              by_cases ej : j = i
              · rw [ej, ← HA.out.n]; exact hu
              · exact HD.out j h1 (by omega))
            clear hu
            go_wp2_with fail
            go_quiet ((go_at_call 101; exact Calls.quiet_of_same (HF.out _ (pw_below_drewN HBr.out _))))
            have HBd := hid (pw_below_drewN HBr.out nq)
            go_wp2_with fail
            go_roundw
            case rel => exact ⟨i + 1, by omega, by omega, by go_num, HBd, HDN⟩
            case measure => simp [intOf]; omega
          · have b0 : (u != (i : Int)) = true := by simp [hui]
            have HER := hid (show newErr (builtL ++ r) = some (e.n, 92) from newErr_1 (by
              rw [HA.out.n]
              exact dupErr_at (by rw [HNN.out]; exact hlt) HD.out (by rw [← HA.out.n, hu]; exact hui)))
            clear hui hu
            go_wp2_with fail
            go_quiet ((go_at_call 101; exact Calls.quiet_of_same (HF.out _ (pw_below_drewN HBr.out _))))
            have HBd := hid (pw_below_drewN HBr.out nq)
            obtain ⟨d0, _, d1, _⟩ := HA.out.cells _ HBd.out
            clear c0 c1
            generalize wr.drewN nq = wd at *
            go_wp2_with fail
            go_quiet (fail)
            go_wp2
            go_ret3
            exact HH.out r _ _ _ _ HSRT.out HER.out (HBT.out _ (pw_below_drewN HBd.out _)) rfl
        · as_aux_lemma =>
          have HDUP := hid (show dupErr (builtL ++ r) = none from dupErr_no (fun j h1 h2 => HD.out j h1 (by rw [HNN.out] at h2; omega)))
          have hq0 := HC0.out wr HBr.out
          clear HD
          go_wp2
          clear hq0 hlt h8 hi
          go_loopw [10] (fun iV wr => ∃ i : Nat, 8 ≤ i ∧ i ≤ N ∧ iV = .int .i64 i ∧ Hid (Below wc.heap.size wc wr) ∧ Hid (∀ j, 8 ≤ j → j < i → joinBad (builtL ++ r) j = none)) (fun iV _ => N - (intOf iV).toNat)
          case atStart => exact ⟨8, by omega, by omega, rfl, HBr, fun j h1 h2 => by omega⟩
          clear HBr
          obtain ⟨i, h8, hi, rfl, HBr, HD⟩ := hrel
          by_cases hlt : i < N
          · as_aux_lemma =>
            obtain ⟨e, Af, M, fc, F, hA⟩ := HQ.out.at (by omega : 0 < i) hlt
            have li : (i : Int) < N := by omega
            have HA := hid hA
            clear hA
            obtain ⟨c0, _, _, c2, _, c4, _⟩ := HA.out.cells wr HBr.out
            cases hs : (numOf (builtL ++ r) e.s).isNone with
            | true =>
              have HF := hid (HQ.out.find e.s (-1) (fnd_none hs))
              have HER := hid (show newErr (builtL ++ r) = some (e.s, 90) from newErr_2 HDUP.out (by
                have := join_at (by rw [HNN.out]; exact hlt) HD.out (joinBad_super (by rw [← HA.out.s]; exact hs))
                rw [← HA.out.s] at this
                exact this))
              clear hs
              go_wp2_with fail
              go_quiet ((go_at_call 101; exact Calls.quiet_of_same (HF.out _ (pw_below_drewN HBr.out _))))
              have HBd := hid (pw_below_drewN HBr.out nq)
              obtain ⟨d0, _, _, d2, _⟩ := HA.out.cells _ HBd.out
              clear c0 c2 c4
              generalize wr.drewN nq = wd at *
              go_wp2_with fail
              go_quiet (fail)
              go_wp2
              go_ret3
              exact HH.out r _ _ _ _ HSRT.out HER.out (HBT.out _ (pw_below_drewN HBd.out _)) rfl
            | false =>
              obtain ⟨hf, hz0, hzN⟩ := fnd_some hs
              obtain ⟨m, hm⟩ := Int.eq_ofNat_of_zero_le hz0
              have HF := hid (HQ.out.find e.s (m : Int) (by rw [hf, hm]))
              have HS := hid hs
              clear hs hf hz0 hzN hm
              go_wp2_with fail
              go_quiet ((go_at_call 101; exact Calls.quiet_of_same (HF.out _ (pw_below_drewN HBr.out _))))
              have HBd := hid (pw_below_drewN HBr.out nq)
              obtain ⟨d0, _, _, _, _, d4, _⟩ := HA.out.cells _ HBd.out
              have hfl := HA.out.fl
              clear c0 c2 c4 HF
              generalize wr.drewN nq = wd at *
              go_wp2_with fail
              go_loopw [11] (fun kV wr => ∃ k : Nat, k ≤ M ∧ kV = .int .i64 k ∧ Hid (Below wc.heap.size wc wr) ∧ Hid (∀ t ∈ F.take k, (numOf (builtL ++ r) t).isNone = false)) (fun kV _ => M - (intOf kV).toNat)
              case atStart => exact ⟨0, by omega, rfl, HBd, hid (by simp)⟩
              clear d0 d4 HBd
              obtain ⟨k, hk, rfl, HBk, HDk⟩ := hrel
              obtain ⟨d0, _, _, _, _, d4, _⟩ := HA.out.cells wr HBk.out
              by_cases hkM : k < M
              · as_aux_lemma =>
                obtain ⟨s, hs⟩ : ∃ s, F[k]? = some s := ⟨_, List.getElem?_eq_getElem (by rw [HA.out.len]; exact hkM)⟩
                have hC := Kd.C_below HA.out.fC HBk.out
                obtain ⟨b, off, hA2⟩ := C_plain hC (by omega) (by decide)
                subst hA2
                have ds := C_scalar (h1 := fun _ => rfl) hC ⟨#[]⟩ k (by rw [HA.out.len]; exact hkM)
                rw [List.getD_eq_getElem?_getD, hs, Option.getD_some] at ds
                cases hn : (numOf (builtL ++ r) s).isNone with
                | true =>
                  have HF := hid (HQ.out.find s (-1) (fnd_none hn))
                  have HER := hid (show newErr (builtL ++ r) = some (s, 90) from newErr_2 HDUP.out (join_at (by rw [HNN.out]; exact hlt) HD.out (joinBad_face (by rw [← HA.out.s]; exact HS.out) (by rw [HA.out.hF]; exact HDk.out) (by rw [HA.out.hF]; exact hs) hn)))
                  clear hn hs hC
                  go_wp2_with fail
                  go_quiet ((go_at_call 101; exact Calls.quiet_of_same (HF.out _ (pw_below_drewN HBk.out _))))
                  have HBd := hid (pw_below_drewN HBk.out nq)
                  have HBe := hid (pw_below_drewN (Below.refl wr.heap.size wr) nq)
                  have es := (HBe.out.cell (World.block_lt_of_cell? wr _ ds)).trans ds
                  obtain ⟨e0, _, _, _, _, e4, _⟩ := HA.out.cells _ HBd.out
                  clear d0 d4 ds HBe
                  generalize wr.drewN nq = wd at *
                  go_wp2_with fail
                  go_quiet (fail)
                  go_wp2
                  go_ret3
                  exact HH.out r _ _ _ _ HSRT.out HER.out (HBT.out _ (pw_below_drewN HBd.out _)) rfl
                | false =>
                  obtain ⟨hf, hz0, hzN⟩ := fnd_some hn
                  obtain ⟨m, hm⟩ := Int.eq_ofNat_of_zero_le hz0
                  have HF := hid (HQ.out.find s (m : Int) (by rw [hf, hm]))
                  have HDN := hid (show ∀ t ∈ F.take (k + 1), (numOf (builtL ++ r) t).isNone = false from fun t ht => by
                    rw [List.take_add_one, hs, List.mem_append] at ht
                    rcases ht with ht | ht
                    · exact HDk.out t ht
                    · simp only [Option.toList_some, List.mem_singleton] at ht; rw [ht]; exact hn)
                  clear hn hs hC hf hz0 hzN hm
                  go_wp2_with fail
                  go_quiet ((go_at_call 101; exact Calls.quiet_of_same (HF.out _ (pw_below_drewN HBk.out _))))
                  have HBd := hid (pw_below_drewN HBk.out nq)
                  go_wp2_with fail
                  go_roundw
                  case rel => exact ⟨k + 1, by omega, by go_num, HBd, HDN⟩
                  case measure => simp [intOf]; omega
              · as_aux_lemma =>
                have HDN := hid (show ∀ j, 8 ≤ j → j < i + 1 → joinBad (builtL ++ r) j = none from fun j h1 h2 => by
                  by_cases ej : j = i
                  · rw [ej]
                    refine joinBad_no (by rw [← HA.out.s]; exact HS.out) (fun t ht => ?_)
                    rw [HA.out.hF] at ht
                    exact HDk.out t (by rw [List.take_of_length_le (by rw [HA.out.len]; omega)]; exact ht)
                  · exact HD.out j h1 (by omega))
                go_wp2
                go_roundw
                case rel => exact ⟨i + 1, by omega, by omega, by go_num, HBk, HDN⟩
                case measure => simp [intOf]; omega
          · as_aux_lemma =>
            have HJ := hid (show joinErr (builtL ++ r) = none from join_no (fun j h1 h2 => HD.out j h1 (by rw [HNN.out] at h2; omega)))
            have hq0 := HC0.out wr HBr.out
            clear HD
            go_wp2
            clear hq0 hlt h8 hi
            go_loopw [12] (fun iV wr => ∃ i : Nat, 8 ≤ i ∧ i ≤ N ∧ iV = .int .i64 i ∧ Hid (Below wc.heap.size wc wr) ∧ Hid (∀ j, 8 ≤ j → j < i → upFit (builtL ++ r) (supsL (builtL ++ r) (builtL ++ r).length) j = true)) (fun iV _ => N - (intOf iV).toNat)
            case atStart => exact ⟨8, by omega, by omega, rfl, HBr, fun j h1 h2 => by omega⟩
            clear HBr
            obtain ⟨i, h8, hi, rfl, HBr, HD⟩ := hrel
            by_cases hlt : i < N
            · as_aux_lemma =>
              obtain ⟨e, Af, M, fc, F, hA⟩ := HQ.out.at (by omega : 0 < i) hlt
              have li : (i : Int) < N := by omega
              have HA := hid hA
              clear hA
              have hil : i < (builtL ++ r).length := by rw [HNN.out]; exact hlt
              have hsf := (join_all HJ.out hil).1
              obtain ⟨hf, hz0, hzN⟩ := fnd_some hsf
              obtain ⟨m, hm⟩ := Int.eq_ofNat_of_zero_le hz0
              have hmN : m < N := by rw [hm, HNN.out] at hzN; omega
              have HF := hid (HQ.out.find e.s (m : Int) (by rw [HA.out.s, hf, hm]))
              have HUB := hid (show upFit (builtL ++ r) (supsL (builtL ++ r) (builtL ++ r).length) i = !(((builtL ++ r).getD m zCl).face || (e.b && !nmEq e.s (bn 0))) from by
                rw [upFit_ref (by omega) hil hsf, upBad, hm, HA.out.s, HA.out.b]
                rfl)
              have HDF := hid (HQ.out.face hmN)
              have HDN := hid (fun (hu : upFit (builtL ++ r) (supsL (builtL ++ r) (builtL ++ r).length) i = true) => (show ∀ j, 8 ≤ j → j < i + 1 → upFit (builtL ++ r) (supsL (builtL ++ r) (builtL ++ r).length) j = true from fun j h1 h2 => by
                by_cases ej : j = i
                · rw [ej]; exact hu
                · exact HD.out j h1 (by omega)))
              have HER := hid (fun (hu : upFit (builtL ++ r) (supsL (builtL ++ r) (builtL ++ r).length) i = false) => (show newErr (builtL ++ r) = some (e.n, 90) from newErr_3 HDUP.out HJ.out (by
                rw [HA.out.n]
                exact first_at (fun i h => up_built r h) hil HD.out hu)))
              obtain ⟨c0, c7, c1, c2, c3, c4, c5, c6⟩ := HA.out.cells wr HBr.out
              have zg := World.block_lt_of_cell? wr _ c1
              clear hsf hf hz0 hzN hm hil
              generalize ((builtL ++ r).getD m zCl).face = fm at *
              generalize heb : e.b = eb at *
              clear heb
              go_wp2_with fail
              have k8 := hid (blk_new wr (.cells #[.slice e.p.a e.p.n e.p.c, .string e.n, .string e.s, .bool eb, .slice Af M fc, .slice e.l.a e.l.n e.l.c, .slice e.m.a e.m.n e.m.c] 57))
              have HB8 := hid (HBr.out.alloc HBr.out.size (.cells #[.slice e.p.a e.p.n e.p.c, .string e.n, .string e.s, .bool eb, .slice Af M fc, .slice e.l.a e.l.n e.l.c, .slice e.m.a e.m.n e.m.c] 57))
              clear c0 c7 c1 c2 c3 c4 c5 c6 zg
              generalize wr.alloc (.cells #[.slice e.p.a e.p.n e.p.c, .string e.n, .string e.s, .bool eb, .slice Af M fc, .slice e.l.a e.l.n e.l.c, .slice e.m.a e.m.n e.m.c] 57) = w8 at *
              generalize wr.heap.size = b8 at *
              have d0 := HC0.out w8 HB8.out
              have d1 := blk_cell k8.out 1
              have d2 := blk_cell k8.out 2
              have d3 := blk_cell k8.out 3
              have df := HDF.out w8 HB8.out
              have q0 : (e.s.toList == [79, 98, 106, 101, 99, 116]) = nmEq e.s ⟨#[79, 98, 106, 101, 99, 116]⟩ := by rw [← nm_beq, ByteArray.toList_eq ⟨#[79, 98, 106, 101, 99, 116]⟩]
              have HQ0 := hid (show nmEq e.s (bn 0) = nmEq e.s ⟨#[79, 98, 106, 101, 99, 116]⟩ from rfl)
              rw [HQ0.out] at HUB
              clear HQ0
              generalize nmEq e.s ⟨#[79, 98, 106, 101, 99, 116]⟩ = no at *
              cases fm with
              | true =>
                have HE1 := hid (HER.out HUB.out)
                go_wp2_with fail
                go_quiet ((go_at_call 101; exact Calls.quiet_of_same (HF.out _ (pw_below_drewN HB8.out _))))
                have HBd := hid (pw_below_drewN HB8.out nq)
                have f1 := blk_cell (blk_below k8.out (pw_below_drewN (Below.refl w8.heap.size w8) nq)) 1
                clear d0 d1 d2 d3 df
                generalize w8.drewN nq = wd at *
                go_wp2_with fail
                go_quiet (fail)
                go_wp2
                go_ret3
                exact HH.out r _ _ _ _ HSRT.out HE1.out (HBT.out _ (pw_below_drewN HBd.out _)) rfl
              | false =>
                cases eb with
                | false =>
                  have HD1 := hid (HDN.out HUB.out)
                  go_wp2_with fail
                  go_quiet ((go_at_call 101; exact Calls.quiet_of_same (HF.out _ (pw_below_drewN HB8.out _))))
                  have HBd := hid (pw_below_drewN HB8.out nq)
                  go_wp2_with fail
                  go_roundw
                  case rel => exact ⟨i + 1, by omega, by omega, by go_num, HBd, HD1⟩
                  case measure => simp [intOf]; omega
                | true =>
                  cases no with
                  | true =>
                    have HD1 := hid (HDN.out HUB.out)
                    go_wp2_with fail
                    go_quiet ((go_at_call 101; exact Calls.quiet_of_same (HF.out _ (pw_below_drewN HB8.out _))))
                    have HBd := hid (pw_below_drewN HB8.out nq)
                    go_wp2_with fail
                    go_roundw
                    case rel => exact ⟨i + 1, by omega, by omega, by go_num, HBd, HD1⟩
                    case measure => simp [intOf]; omega
                  | false =>
                    have HE1 := hid (HER.out HUB.out)
                    go_wp2_with fail
                    go_quiet ((go_at_call 101; exact Calls.quiet_of_same (HF.out _ (pw_below_drewN HB8.out _))))
                    have HBd := hid (pw_below_drewN HB8.out nq)
                    have f1 := blk_cell (blk_below k8.out (pw_below_drewN (Below.refl w8.heap.size w8) nq)) 1
                    clear d0 d1 d2 d3 df
                    generalize w8.drewN nq = wd at *
                    go_wp2_with fail
                    go_quiet (fail)
                    go_wp2
                    go_ret3
                    exact HH.out r _ _ _ _ HSRT.out HE1.out (HBT.out _ (pw_below_drewN HBd.out _)) rfl
            · as_aux_lemma =>
              have HUP := hid (show firstNo (builtL ++ r) (upFit (builtL ++ r) (supsL (builtL ++ r) (builtL ++ r).length)) = none from first_no (fun i h => up_built r h) (fun j h1 h2 => HD.out j h1 (by rw [HNN.out] at h2; omega)))
              have hq0 := HC0.out wr HBr.out
              clear HD
              go_wp2
              clear hq0 hlt h8 hi
              go_loopw [14] (fun iV wr => ∃ i : Nat, 8 ≤ i ∧ i ≤ N ∧ iV = .int .i64 i ∧ Hid (Below wc.heap.size wc wr) ∧ Hid (∀ j, 8 ≤ j → j < i → facesP (builtL ++ r) (facesL (builtL ++ r) (builtL ++ r).length) j = true)) (fun iV _ => N - (intOf iV).toNat)
              case atStart => exact ⟨8, by omega, by omega, rfl, HBr, fun j h1 h2 => by omega⟩
              clear HBr
              obtain ⟨i, h8, hi, rfl, HBr, HD⟩ := hrel
              by_cases hlt : i < N
              · as_aux_lemma =>
                obtain ⟨e, Af, M, fc, F, hA⟩ := HQ.out.at (by omega : 0 < i) hlt
                have li : (i : Int) < N := by omega
                have HA := hid hA
                clear hA
                have hil : i < (builtL ++ r).length := by rw [HNN.out]; exact hlt
                have HFF := hid (show ∀ t ∈ F, (numOf (builtL ++ r) t).isNone = false from fun t ht => (join_all HJ.out hil).2 t (by rw [HA.out.hF]; exact ht))
                have HFP := hid (show facesP (builtL ++ r) (facesL (builtL ++ r) (builtL ++ r).length) i = true ↔ ∀ k, k < F.length → faceBadN (builtL ++ r) F k = false from by
                  have := facesP_ref hil (by rw [HA.out.hF]; exact HFF.out)
                  rw [HA.out.hF] at this
                  exact this)
                have HER := hid (fun (k : Nat) (hk : k < M) (hb : faceBadN (builtL ++ r) F k = true) => (show newErr (builtL ++ r) = some (e.n, 90) from newErr_4 HDUP.out HJ.out HUP.out (by
                  rw [HA.out.n]
                  refine first_at (fun i h => facesP_built r h) hil HD.out (Bool.eq_false_iff.2 (fun h => ?_))
                  have := HFP.out.1 h k (by rw [HA.out.len]; exact hk)
                  rw [this] at hb
                  cases hb)))
                obtain ⟨c0, c7, c1, c2, c3, c4, c5, c6⟩ := HA.out.cells wr HBr.out
                have zg := World.block_lt_of_cell? wr _ c1
                have hfl := HA.out.fl
                clear hil
                go_wp2_with fail
                have k8 := hid (blk_new wr (.cells #[.slice e.p.a e.p.n e.p.c, .string e.n, .string e.s, .bool e.b, .slice Af M fc, .slice e.l.a e.l.n e.l.c, .slice e.m.a e.m.n e.m.c] 57))
                have HB8 := hid (HBr.out.alloc HBr.out.size (.cells #[.slice e.p.a e.p.n e.p.c, .string e.n, .string e.s, .bool e.b, .slice Af M fc, .slice e.l.a e.l.n e.l.c, .slice e.m.a e.m.n e.m.c] 57))
                clear c0 c7 c1 c2 c3 c4 c5 c6 zg
                generalize wr.alloc (.cells #[.slice e.p.a e.p.n e.p.c, .string e.n, .string e.s, .bool e.b, .slice Af M fc, .slice e.l.a e.l.n e.l.c, .slice e.m.a e.m.n e.m.c] 57) = w8 at *
                generalize wr.heap.size = b8 at *
                go_loopw [16] (fun kV wr => ∃ k : Nat, k ≤ M ∧ kV = .int .i64 k ∧ Hid (Below w8.heap.size w8 wr) ∧ Hid (∀ k', k' < k → faceBadN (builtL ++ r) F k' = false)) (fun kV _ => M - (intOf kV).toNat)
                case atStart => exact ⟨0, by omega, rfl, Below.refl _ _, fun k' h => by omega⟩
                obtain ⟨k, hk, rfl, HBk, HDk⟩ := hrel
                have d4 := blk_cell (blk_below k8.out HBk.out) 4
                by_cases hkM : k < M
                · as_aux_lemma =>
                  obtain ⟨s, hs⟩ : ∃ s, F[k]? = some s := ⟨_, List.getElem?_eq_getElem (by rw [HA.out.len]; exact hkM)⟩
                  have HSK := hid hs
                  clear hs
                  go_wp2_with fail
                  clear d4
                  go_loopw [17] (fun jV wr => ∃ j : Nat, j ≤ k ∧ jV = .int .i64 j ∧ Hid (Below w8.heap.size w8 wr) ∧ Hid (∀ t ∈ F.take j, nmEq t s = false)) (fun jV _ => k - (intOf jV).toNat)
                  case atStart => exact ⟨0, by omega, rfl, HBk, hid (by simp)⟩
                  clear HBk
                  obtain ⟨j, hj, rfl, HBj, HDj⟩ := hrel
                  have d4 := blk_cell (blk_below k8.out HBj.out) 4
                  have d1 := blk_cell (blk_below k8.out HBj.out) 1
                  have hC := Kd.C_below HA.out.fC (below_weaken HB8.out HB8.out.size HBj.out)
                  obtain ⟨b, off, hA2⟩ := C_plain hC (by omega) (by decide)
                  subst hA2
                  have ds := C_scalar (h1 := fun _ => rfl) hC ⟨#[]⟩ k (by rw [HA.out.len]; exact hkM)
                  rw [List.getD_eq_getElem?_getD, HSK.out, Option.getD_some] at ds
                  by_cases hjk : j < k
                  · as_aux_lemma =>
                    obtain ⟨t, ht⟩ : ∃ t, F[j]? = some t := ⟨_, List.getElem?_eq_getElem (by rw [HA.out.len]; omega)⟩
                    have dt := C_scalar (h1 := fun _ => rfl) hC ⟨#[]⟩ j (by rw [HA.out.len]; omega)
                    rw [List.getD_eq_getElem?_getD, ht, Option.getD_some] at dt
                    have q0 := nm_beq t s
                    cases hq : nmEq t s with
                    | true =>
                      rw [hq] at q0
                      have HE1 := hid (HER.out k hkM (by
                        unfold faceBadN
                        rw [Bool.or_eq_true, List.any_eq_true]
                        refine .inl ⟨t, List.mem_take_iff_getElem.2 ⟨j, by rw [HA.out.len]; omega, ?_⟩, ?_⟩
                        · exact (List.getElem?_eq_some_iff.1 ht).2
                        · rw [List.getD_eq_getElem?_getD, HSK.out, Option.getD_some]; exact hq))
                      clear hq ht hC
                      go_wp2_with fail
                      go_quiet (fail)
                      have HBd := hid (pw_below_drewN HBj.out nq)
                      have f1 := blk_cell (blk_below k8.out HBd.out) 1
                      clear d1 d4 ds dt
                      generalize wr.drewN nq = wd at *
                      go_wp2_with fail
                      go_quiet (fail)
                      go_wp2
                      go_ret3
                      exact HH.out r _ _ _ _ HSRT.out HE1.out (HBT.out _ (below_weaken HB8.out HB8.out.size (pw_below_drewN HBd.out _))) rfl
                    | false =>
                      rw [hq] at q0
                      have HDN := hid (show ∀ x ∈ F.take (j + 1), nmEq x s = false from fun x hx => by
                        rw [List.take_add_one, ht, List.mem_append] at hx
                        rcases hx with hx | hx
                        · exact HDj.out x hx
                        · simp only [Option.toList_some, List.mem_singleton] at hx; rw [hx]; exact hq)
                      clear hq ht hC
                      go_wp2_with fail
                      go_quiet (fail)
                      have HBd := hid (pw_below_drewN HBj.out nq)
                      go_wp2_with fail
                      go_roundw
                      case rel => exact ⟨j + 1, by omega, by go_num, HBd, HDN⟩
                      case measure => simp [intOf]; omega
                  · as_aux_lemma =>
                    obtain rfl : j = k := by omega
                    have hsm := HFF.out s (List.mem_of_getElem? HSK.out)
                    obtain ⟨hf, hz0, hzN⟩ := fnd_some hsm
                    obtain ⟨m, hm⟩ := Int.eq_ofNat_of_zero_le hz0
                    have hmN : m < N := by rw [hm, HNN.out] at hzN; omega
                    have HBW := hid (below_weaken HB8.out HB8.out.size HBj.out)
                    have HF := hid (HQ.out.find s (m : Int) (by rw [hf, hm]))
                    have df := HQ.out.face hmN wr HBW.out
                    have d0 := HC0.out wr HBW.out
                    have HFB := hid (show faceBadN (builtL ++ r) F j = !((builtL ++ r).getD m zCl).face from by
                      unfold faceBadN
                      rw [List.getD_eq_getElem?_getD, HSK.out, Option.getD_some, hm]
                      have : (F.take j).any (fun t => nmEq t s) = false := by
                        rw [List.any_eq_false]
                        intro t ht
                        rw [HDj.out t ht]
                        decide
                      rw [this]
                      rfl)
                    clear hsm hf hz0 hzN hm hC
                    generalize ((builtL ++ r).getD m zCl).face = fm at *
                    cases fm with
                    | false =>
                      have HE1 := hid (HER.out j hkM HFB.out)
                      go_wp2_with fail
                      go_quiet ((go_at_call 101; exact Calls.quiet_of_same (HF.out _ (pw_below_drewN HBW.out _))))
                      have HBd := hid (pw_below_drewN HBj.out nq)
                      have f1 := blk_cell (blk_below k8.out HBd.out) 1
                      clear d1 d4 ds d0 df
                      generalize wr.drewN nq = wd at *
                      go_wp2_with fail
                      go_quiet (fail)
                      go_wp2
                      go_ret3
                      exact HH.out r _ _ _ _ HSRT.out HE1.out (HBT.out _ (below_weaken HB8.out HB8.out.size (pw_below_drewN HBd.out _))) rfl
                    | true =>
                      have HDN := hid (show ∀ k', k' < j + 1 → faceBadN (builtL ++ r) F k' = false from fun k' h => by
                        by_cases ek : k' = j
                        · rw [ek]; exact HFB.out
                        · exact HDk.out k' (by omega))
                      go_wp2_with fail
                      go_quiet ((go_at_call 101; exact Calls.quiet_of_same (HF.out _ (pw_below_drewN HBW.out _))))
                      have HBd := hid (pw_below_drewN HBj.out nq)
                      go_wp2_with fail
                      go_roundw
                      case rel => exact ⟨j + 1, by omega, by go_num, HBd, HDN⟩
                      case measure => simp [intOf]; omega
                · have HDN := hid (show ∀ j, 8 ≤ j → j < i + 1 → facesP (builtL ++ r) (facesL (builtL ++ r) (builtL ++ r).length) j = true from fun j h1 h2 => by
                    by_cases ej : j = i
                    · rw [ej]; exact HFP.out.2 (fun k' h => HDk.out k' (by rw [HA.out.len] at h; omega))
                    · exact HD.out j h1 (by omega))
                  have HBW := hid (below_weaken HB8.out HB8.out.size HBk.out)
                  go_wp2
                  go_roundw
                  case rel => exact ⟨i + 1, by omega, by omega, by go_num, HBW, HDN⟩
                  case measure => simp [intOf]; omega
              · as_aux_lemma =>
                have HFA := hid (show firstNo (builtL ++ r) (facesP (builtL ++ r) (facesL (builtL ++ r) (builtL ++ r).length)) = none from first_no (fun i h => facesP_built r h) (fun j h1 h2 => HD.out j h1 (by rw [HNN.out] at h2; omega)))
                have hq0 := HC0.out wr HBr.out
                clear HD
                go_wp2
                clear hq0 hlt h8 hi
                go_loopw [18] (fun iV wr => ∃ i : Nat, 8 ≤ i ∧ i ≤ N ∧ iV = .int .i64 i ∧ Hid (Below wc.heap.size wc wr) ∧ Hid (∀ j, 8 ≤ j → j < i → ringP (supsL (builtL ++ r) (builtL ++ r).length) (facesL (builtL ++ r) (builtL ++ r).length) j = true)) (fun iV _ => N - (intOf iV).toNat)
                case atStart => exact ⟨8, by omega, by omega, rfl, HBr, fun j h1 h2 => by omega⟩
                clear HBr
                obtain ⟨i, h8, hi, rfl, HBr, HD⟩ := hrel
                have d0 := HC0.out wr HBr.out
                by_cases hlt : i < N
                · as_aux_lemma =>
                  obtain ⟨e, Af, M, fc, F, hA⟩ := HQ.out.at (by omega : 0 < i) hlt
                  have li : (i : Int) < N := by omega
                  have HA := hid hA
                  have HRI := hid (rRing_any (HQ.out.mv.step HBr.out) HJ.out (i := i) (by rw [HNN.out]; exact hlt))
                  clear hA
                  go_wp2_with (go_at_call 102; refine HRI.out.mono ?_; rintro e' w' ⟨b, rfl, hB, hb⟩; have HBx := hid (below_weaken HBr.out HBr.out.size hB); have Hb := hid hb; clear hB hb; cases b)
                  · have HDN := hid (show ∀ j, 8 ≤ j → j < i + 1 → ringP (supsL (builtL ++ r) (builtL ++ r).length) (facesL (builtL ++ r) (builtL ++ r).length) j = true from fun j h1 h2 => by
                      by_cases ej : j = i
                      · rw [ej]; exact ringP_yes (fun hr => by have := Hb.out.2 hr; cases this)
                      · exact HD.out j h1 (by omega))
                    go_wp2_with fail
                    go_roundw
                    case rel => exact ⟨i + 1, by omega, by omega, by go_num, HBx, HDN⟩
                    case measure => simp [intOf]; omega
                  · have HE1 := hid (show newErr (builtL ++ r) = some (e.n, 91) from newErr_5 HDUP.out HJ.out HUP.out HFA.out (by
                      rw [HA.out.n]
                      exact first_at (fun i h => ring_built r h) (by rw [HNN.out]; exact hlt) HD.out (ringP_no (Hb.out.1 (by first | rfl | trivial)))))
                    obtain ⟨e0, _, e1, _⟩ := HA.out.cells _ HBx.out
                    clear d0
                    go_wp2_with fail
                    go_quiet (fail)
                    go_wp2
                    go_ret3
                    exact HH.out r _ _ _ _ HSRT.out HE1.out (HBT.out _ (pw_below_drewN HBx.out _)) rfl
                · have HNE := hid (newErr_0 HDUP.out HJ.out HUP.out HFA.out (first_no (fun i h => ring_built r h) (fun j h1 h2 => HD.out j h1 (by rw [HNN.out] at h2; omega))))
                  go_wp2
                  go_ret3
                  exact HOK.out r p _ _ HSRT.out HNE.out (HBT.out _ HBr.out) rfl (HRS.out.step HBr.out)
end Go.Proofs.YtbogcknkkbnfnaaDoor
