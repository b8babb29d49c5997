/- Blocks: what Above holds while it goes over and over. -/
import Derived.Test.YthjjkpkohhmgcaaVp
import Derived.Deep.LoopGhost
namespace Go.Proofs.Ythjjkpkohhmgcaa
open Go.RowKit Go.Proofs.YthjjkpkohhmgcaaW.PrintWords Go.Proofs.Ythjjkpkohhmgcaa.Dom

def outRow (N : Nat) (up : Nat → Option Nat) : Array Value := ((List.range N).map fun c => Value.int .i64 (outV up c)).toArray
theorem outRow_get {N c : Nat} (up : Nat → Option Nat) (h : c < N) : (outRow N up)[c]? = some (.int .i64 (outV up c)) := by
  simp [outRow, h]
theorem outRow_put {N b r : Nat} (up : Nat → Option Nat) (h0 : b ≠ 0) : (outRow N up).setIfInBounds b (.int .i64 (r : Int)) = outRow N (put up b r) := by
  apply Array.toList_inj.1
  unfold outRow
  simp only [List.setIfInBounds_toArray]
  apply List.ext_getElem?
  intro i
  rw [outV_put b r h0]
  by_cases hi : i < N
  · rw [List.getElem?_set]
    by_cases e : b = i
    · subst e; simp [hi]
    · simp [hi, e, Ne.symm e]
  · rw [List.getElem?_eq_none (by simp; omega), List.getElem?_eq_none (by simp; omega)]
theorem outRow_start {N : Nat} : (rpt N N).setIfInBounds 0 (.int .i64 0) = outRow N (fun _ => none) := by
  apply Array.toList_inj.1
  unfold outRow rpt
  simp only [List.setIfInBounds_toArray]
  apply List.ext_getElem?
  intro i
  by_cases hi : i < N
  · rw [List.getElem?_set]
    by_cases e : 0 = i
    · subst e; simp [hi, outV]
    · simp [hi, e, outV, Ne.symm e]
  · rw [List.getElem?_eq_none (by simp; omega), List.getElem?_eq_none (by simp; omega)]
/-- What changes while it goes over and over: the row of those right above. -/
structure PB (wr : World) (N g ko : Nat) (up : Nat → Option Nat) (w : World) : Prop where
  below : Below wr.heap.size wr w
  ko : w.heap[ko]? = some (.cells #[.slice (some ⟨g, 0, none⟩) N N] 27 (0, 0))
  out : w.heap[g]? = some (.cells (outRow N up) 3 (0, 0))
  bg : wr.heap.size ≤ g
section
variable {wr w w1 : World} {N g ko : Nat} {up : Nat → Option Nat}
theorem PB.step (h : PB wr N g ko up w) (hb : Below w.heap.size w w1) : PB wr N g ko up w1 :=
  ⟨h.below.trans (hb.mono h.below.size), blk_below h.ko hb, blk_below h.out hb, h.bg⟩
theorem below_drewN' (w : World) (k : Nat) : Below w.heap.size w (w.drewN k) := by
  refine ⟨rfl, rfl, rfl, Nat.le_refl _, fun _ _ => rfl⟩
theorem PB.drewN (h : PB wr N g ko up w) (k : Nat) : PB wr N g ko up (w.drewN k) := h.step (below_drewN' w k)
theorem PB.drew (h : PB wr N g ko up w) : PB wr N g ko up w.drew := h.step (below_drew (Below.refl _ _))
theorem PB.at (h : PB wr N g ko up w) {x : Nat} (hx : x < N) : w.cell? ⟨g, x, none⟩ = some (.int .i64 (outV up x)) := by
  rw [blk_cell h.out, outRow_get up hx]
theorem PB.put (h : PB wr N g ko up w) {b r : Nat} (h0 : b ≠ 0) : PB wr N g ko (put up b r) (w.setCell ⟨g, b, none⟩ (.int .i64 (r : Int))) :=
  ⟨h.below.setCell h.bg _, blk_far h.ko (blk_ne h.ko h.out (by decide)) _, blk_put h.out b _ (outRow_put up h0), h.bg⟩
theorem PB.made {w7 : World} (h1 : w7.heap[g]? = some (.cells (rpt N N) 3 (0, 0))) (h2 : Below wr.heap.size wr w7) (h3 : wr.heap.size ≤ g) :
    PB wr N g w7.heap.size (fun _ => none) ((w7.alloc (.cells #[.slice (some ⟨g, 0, none⟩) N N] 27)).setCell ⟨g, 0, none⟩ (.int .i64 0)) := by
  have hlt := blk_lt h1
  exact ⟨(below_alloc h2 _).setCell h3 _, blk_far (blk_new w7 _) (by show w7.heap.size ≠ g; omega) _, blk_put (blk_alloc h1 _) 0 _ outRow_start, h3⟩
/-- The end: the root has none right above. -/
theorem PB.last (h : PB wr N g ko up w) (h0 : up 0 = none) {x : Nat} (hx : x < N) : (w.setCell ⟨g, 0, none⟩ (.int .i64 (-1))).cell? ⟨g, x, none⟩ = some (.int .i64 (match up x with | some o => (o : Int) | none => -1)) := by
  rw [blk_cell (blk_put h.out 0 (.int .i64 (-1)) rfl)]
  by_cases e : x = 0
  · subst e
    rw [h0]
    simp [outRow, hx]
  · rw [Array.getElem?_setIfInBounds_ne (Ne.symm e), outRow_get up hx]
    unfold outV
    rw [if_neg e]
    cases up x <;> rfl
end
/-- What has been looked at so far in a pass. -/
def Fix (G : Graph) (up : Nat → Option Nat) (i : Nat) : Prop := ∀ b, G.R b → b ≠ 0 → G.pl b < i → ∃ o, up b = some o ∧ At G up b o
theorem Fix.start (G : Graph) (up : Nat → Option Nat) : Fix G up 1 := fun b hb h0 hlt => by have := G.pos b hb h0; omega
theorem Fix.step {G : Graph} {up : Nat → Option Nat} {i b r : Nat} (h : Fix G up i) (hb : G.R b) (hi : G.pl b = i) (e : up b = some r) (A : At G up b r) : Fix G up (i + 1) := by
  intro c hc h0 hlt
  by_cases hcb : c = b
  · subst hcb; exact ⟨r, e, A⟩
  · exact h c hc h0 (by have : G.pl c ≠ G.pl b := fun e => hcb (G.inj c b hc hb e); omega)
/-- What a pass has done: nothing, or it has gone up. -/
def Did (G : Graph) (up0 up : Nat → Option Nat) (n i : Nat) (mb : Bool) : Prop := (mb = false → up = up0 ∧ Fix G up i) ∧ (mb = true → pot G up n < pot G up0 n)
theorem Did.start (G : Graph) (up : Nat → Option Nat) (n : Nat) : Did G up up n 1 false := ⟨fun _ => ⟨rfl, Fix.start G up⟩, fun h => by cases h⟩
theorem Did.stay {G : Graph} {up0 up : Nat → Option Nat} {n i b r : Nat} {mb : Bool} (h : Did G up0 up n i mb) (hb : G.R b) (hi : G.pl b = i) (e : up b = some r) (A : At G up b r) : Did G up0 up n (i + 1) mb :=
  ⟨fun hm => ⟨(h.1 hm).1, (h.1 hm).2.step hb hi e A⟩, h.2⟩
theorem Did.up {G : Graph} {up0 up : Nat → Option Nat} {n i b r : Nat} {mb : Bool} (h : Did G up0 up n i mb) (hI : Inv G up i) (hb : G.R b) (hi : G.pl b = i) (h0 : b ≠ 0) (A : At G up b r) (hne : up b ≠ some r) (hn : b < n) (hpl : ∀ x, G.R x → G.pl x < n) : Did G up0 (put up b r) n (i + 1) true := by
  refine ⟨fun h => (by cases h), fun _ => ?_⟩
  have h1 := pot_lt hI hb hi h0 A hne hn hpl
  cases mb with
  | false => rw [(h.1 rfl).1] at h1 ⊢; exact h1
  | true => have := h.2 rfl; omega
/-- Nothing has changed in a whole pass. -/
theorem final_of {G : Graph} {up : Nat → Option Nat} {i m : Nat} (hI : Inv G up i) (hF : Fix G up m) (hm : ∀ x, G.R x → G.pl x < m) {b x : Nat} (hb : G.R b) : Anc up x b ↔ ¬ Av G.E x b := by
  refine hI.final (fun c hc => ?_) (fun c o e => ?_) hb
  · by_cases h0 : c = 0
    · exact .inl h0
    · obtain ⟨o, e, _⟩ := hF c hc h0 (hm c hc)
      exact .inr ⟨o, e⟩
  · obtain ⟨h1, h2, _⟩ := hI.tree c o e
    obtain ⟨o', e', A⟩ := hF c h1 h2 (hm c h1)
    rw [e] at e'
    cases e'
    exact A
/-- The one found so far, as it stands in its slot. -/
def atV (a : Option Nat) : Int := match a with | some r => (r : Int) | none => -1
end Go.Proofs.Ythjjkpkohhmgcaa
