/- Rings: what climbing comes to, in plain words; the worlds it goes through. -/
import Derived.Test.YtlihpmhnlooapaaDoorKu
namespace Go.Proofs.YtlihpmhnlooapaaDoor
open Go.RowKit Go.Proofs.YtlihpmhnlooapaaDoorW.PrintWords Go.Maps Go.WideMaps

/-- Those to which one step up leads. -/
def succI (S : List Int) (F : List (List Int)) (k : Nat) : List Int := S.getD k 0 :: F.getD k []
/-- One step at the least. -/
inductive Rch (S : List Int) (F : List (List Int)) : Nat → Nat → Prop
  | one {k u : Nat} : (u : Int) ∈ succI S F k → Rch S F k u
  | more {k u j : Nat} : (u : Int) ∈ succI S F k → Rch S F u j → Rch S F k j
def Fine (S : List Int) (F : List (List Int)) (i : Nat) (Sn : List Bool) (v : Nat) : Prop := ∀ u ∈ succI S F v, u ≠ (i : Int) ∧ (u = -1 ∨ Sn.getD u.toNat false = true)
def unseen (Sn : List Bool) : Nat := (Sn.filter (fun b => !b)).length
theorem unseen_set {Sn : List Bool} {u : Nat} (hu : u < Sn.length) (h : Sn.getD u false = false) : unseen (Sn.set u true) + 1 = unseen Sn := by
  induction Sn generalizing u with
  | nil => simp at hu
  | cons a l ih =>
    cases u with
    | zero =>
      simp at h
      subst h
      simp [unseen]
    | succ u =>
      simp at hu
      have := ih hu (by simpa using h)
      cases a <;> simp [unseen] at this ⊢ <;> omega
/-- What climbing from k answers. -/
structure ClimbOut (S : List Int) (F : List (List Int)) (i k : Nat) (Sn : List Bool) (b : Bool) (Sn1 : List Bool) : Prop where
  len : Sn1.length = Sn.length
  un : unseen Sn1 ≤ unseen Sn
  mono : ∀ j, Sn.getD j false = true → Sn1.getD j false = true
  yes : b = true → Rch S F k i
  no : b = false → Fine S F i Sn1 k ∧ ∀ v, Sn1.getD v false = true → Sn.getD v false = false → Fine S F i Sn1 v
/-- How far it has come: q of the steps up have been looked at. -/
structure ClimbAt (S : List Int) (F : List (List Int)) (i k q : Nat) (Sn Sn1 : List Bool) : Prop where
  len : Sn1.length = Sn.length
  un : unseen Sn1 ≤ unseen Sn
  mono : ∀ j, Sn.getD j false = true → Sn1.getD j false = true
  past : ∀ u ∈ (succI S F k).take q, u ≠ (i : Int) ∧ (u = -1 ∨ Sn1.getD u.toNat false = true)
  fine : ∀ v, Sn1.getD v false = true → Sn.getD v false = false → Fine S F i Sn1 v
section
variable {S : List Int} {F : List (List Int)} {i k q : Nat} {Sn Sn1 Sn2 : List Bool}
theorem ClimbAt.start (S : List Int) (F : List (List Int)) (i k : Nat) (Sn : List Bool) : ClimbAt S F i k 0 Sn Sn :=
  ⟨rfl, Nat.le_refl _, fun _ h => h, fun u hu => by simp at hu, fun v h1 h2 => by rw [h1] at h2; cases h2⟩
theorem ClimbAt.pass (h : ClimbAt S F i k q Sn Sn1) {u : Int} (hu : (succI S F k)[q]? = some u) (h1 : u ≠ (i : Int)) (h2 : u = -1 ∨ Sn1.getD u.toNat false = true) : ClimbAt S F i k (q + 1) Sn Sn1 := by
  refine ⟨h.len, h.un, h.mono, fun x hx => ?_, h.fine⟩
  rw [List.take_add_one, hu, List.mem_append] at hx
  rcases hx with hx | hx
  · exact h.past x hx
  · simp at hx; subst hx; exact ⟨h1, h2⟩
theorem getD_set_true {l : List Bool} {u j : Nat} (hu : u < l.length) : (l.set u true).getD j false = true ↔ j = u ∨ l.getD j false = true := by
  simp only [List.getD, List.getElem?_set]
  by_cases e : u = j
  · subst e; simp [hu]
  · rw [if_neg e]
    exact ⟨.inr, fun h => h.resolve_left (fun h => e h.symm)⟩
theorem ClimbAt.down (h : ClimbAt S F i k q Sn Sn1) {u : Nat} (hu : (succI S F k)[q]? = some (u : Int)) (h1 : (u : Int) ≠ (i : Int)) (hul : u < Sn1.length) (h2 : Sn1.getD u false = false) (c : ClimbOut S F i u (Sn1.set u true) false Sn2) : ClimbAt S F i k (q + 1) Sn Sn2 := by
  have hu2 : Sn2.getD u false = true := c.mono u ((getD_set_true hul).2 (.inl rfl))
  have m12 : ∀ j, Sn1.getD j false = true → Sn2.getD j false = true := fun j hj => c.mono j ((getD_set_true hul).2 (.inr hj))
  have mf : ∀ v, Fine S F i Sn1 v → Fine S F i Sn2 v := fun v hf x hx => ⟨(hf x hx).1, (hf x hx).2.imp id (m12 _)⟩
  obtain ⟨n1, n2⟩ := c.no rfl
  refine ⟨by rw [c.len, List.length_set, h.len], ?_, fun j hj => m12 j (h.mono j hj), fun x hx => ?_, fun v hv hs => ?_⟩
  · have := unseen_set hul h2
    have := c.un
    have := h.un
    omega
  · rw [List.take_add_one, hu, List.mem_append] at hx
    rcases hx with hx | hx
    · exact ⟨(h.past x hx).1, (h.past x hx).2.imp id (m12 _)⟩
    · simp at hx; subst hx; exact ⟨h1, .inr (by simpa using hu2)⟩
  · cases e : Sn1.getD v false with
    | true => exact mf v (h.fine v e hs)
    | false =>
      by_cases ev : v = u
      · subst ev; exact n1
      · refine n2 v hv ?_
        cases e2 : (Sn1.set u true).getD v false with
        | false => rfl
        | true =>
          rcases (getD_set_true hul).1 e2 with h | h
          · exact absurd h ev
          · rw [e] at h; cases h
theorem ClimbAt.lower (h : ClimbAt S F i k q Sn Sn1) {u : Nat} (hul : u < Sn1.length) (h2 : Sn1.getD u false = false) : unseen (Sn1.set u true) < unseen Sn := by
  have := unseen_set hul h2
  have := h.un
  omega
theorem ClimbAt.yes (h : ClimbAt S F i k q Sn Sn1) {u : Int} (hu : (succI S F k)[q]? = some u) (h1 : u = (i : Int)) : ClimbOut S F i k Sn true Sn1 :=
  ⟨h.len, h.un, h.mono, fun _ => .one (by rw [← h1]; exact List.mem_of_getElem? hu), fun h => by cases h⟩
theorem ClimbAt.yes2 (h : ClimbAt S F i k q Sn Sn1) {u : Nat} (hu : (succI S F k)[q]? = some (u : Int)) (hul : u < Sn1.length) (h2 : Sn1.getD u false = false) (c : ClimbOut S F i u (Sn1.set u true) true Sn2) : ClimbOut S F i k Sn true Sn2 := by
  refine ⟨by rw [c.len, List.length_set, h.len], ?_, fun j hj => c.mono j ((getD_set_true hul).2 (.inr (h.mono j hj))), fun _ => .more (List.mem_of_getElem? hu) (c.yes rfl), fun h => by cases h⟩
  have := unseen_set hul h2
  have := c.un
  have := h.un
  omega
theorem ClimbAt.no (h : ClimbAt S F i k q Sn Sn1) (hq : (succI S F k).length ≤ q) : ClimbOut S F i k Sn false Sn1 := by
  refine ⟨h.len, h.un, h.mono, (fun h => by cases h), fun _ => ⟨fun u hu => h.past u ?_, h.fine⟩⟩
  rw [List.take_of_length_le hq]
  exact hu
/-- Nothing seen ahead, and the answer: does i stand below itself? -/
theorem ClimbOut.ring {n : Nat} {b : Bool} (h : ClimbOut S F i i (List.replicate n false) b Sn1) : (b = true ↔ Rch S F i i) := by
  refine ⟨h.yes, fun hr => ?_⟩
  cases b with
  | true => rfl
  | false =>
    exfalso
    obtain ⟨n1, n2⟩ := h.no rfl
    have hall : ∀ v, Sn1.getD v false = true → Fine S F i Sn1 v := fun v hv => n2 v hv (by
      simp only [List.getD, List.getElem?_replicate]
      split <;> rfl)
    have key : ∀ a j, Rch S F a j → Fine S F i Sn1 a → j ≠ i := by
      intro a j hr
      induction hr with
      | one hu =>
        intro hf e
        exact (hf _ hu).1 (by rw [e])
      | more hu _ ih =>
        intro hf
        refine ih (hall _ ?_)
        rcases (hf _ hu).2 with h | h
        · omega
        · simpa using h
    exact key i i hr n1 rfl
end

/-- Only block g has changed, and what is new. -/
structure KpB (g : Nat) (w w' : World) : Prop where
  size : w.heap.size ≤ w'.heap.size
  block : ∀ i, i < w.heap.size → i ≠ g → w'.heap[i]? = w.heap[i]?
theorem KpB.refl (g : Nat) (w : World) : KpB g w w := ⟨Nat.le_refl _, fun _ _ _ => rfl⟩
theorem KpB.trans {g : Nat} {a b c : World} (h : KpB g a b) (k : KpB g b c) : KpB g a c := ⟨Nat.le_trans h.size k.size, fun i hi hg => (k.block i (Nat.lt_of_lt_of_le hi h.size) hg).trans (h.block i hi hg)⟩
theorem KpB.of {g : Nat} {a b : World} (h : Below a.heap.size a b) : KpB g a b := ⟨h.size, fun i hi _ => h.block i hi⟩
theorem KpB.blk {g i : Nat} {a b : World} {o : Obj} (h : KpB g a b) (hi : i ≠ g) (hb : a.heap[i]? = some o) : b.heap[i]? = some o := (h.block i (blk_lt hb) hi).trans hb
theorem KpB.row {α : Type} {d : Kd α} {e g t : Nat} {w w1 : World} {base : Nat} {ok : Nat → Prop} {v : Value} {xs : List α} {cells : Array Value} (hk : KpB g w w1) (h : d.R e w base ok v xs) (hg : w.heap[g]? = some (.cells cells t (0, 0))) (ht : ∀ q, q ∈ e :: d.E → q ≠ t) : d.R e w1 base ok v xs :=
  Kd.R_mono (Kd.R_step (Kd.R_types h hg ht) (fun k hk' hlt => hk.block k hlt hk'.2)) (fun _ hk => hk.1)
/-- The worlds of one look for a ring: b1 to b4 hold what is captured, gq what has been seen. -/
structure RS (w0 : World) (p i b1 b2 b3 b4 gq N cq : Nat) (tl : List Value) (Sn : List Bool) (w : World) : Prop where
  below : Below w0.heap.size w0 w
  k1 : w.heap[b1]? = some (.cells #[.pointer (some ⟨p, 0, none⟩)] 23 (0, 0))
  k2 : w.heap[b2]? = some (.cells #[.int .i64 i] 3 (0, 0))
  k3 : w.heap[b3]? = some (.cells #[.slice (some ⟨gq, 0, none⟩) N cq] 85 (0, 0))
  k4 : w.heap[b4]? = some (.cells #[.func (.func 113) #[] #[.pointer (some ⟨b1, 0, none⟩), .pointer (some ⟨b2, 0, none⟩), .pointer (some ⟨b3, 0, none⟩), .pointer (some ⟨b4, 0, none⟩)]] 54 (0, 0))
  seen : w.heap[gq]? = some (.cells (Sn.map Value.bool ++ tl).toArray 4 (0, 0))
  len : Sn.length = N
  base : w0.heap.size ≤ gq
section
variable {w0 w w' : World} {p i b1 b2 b3 b4 gq N cq : Nat} {tl : List Value} {Sn : List Bool}
theorem RS.step (h : RS w0 p i b1 b2 b3 b4 gq N cq tl Sn w) (hb : Below w.heap.size w w') : RS w0 p i b1 b2 b3 b4 gq N cq tl Sn w' :=
  ⟨below_weaken h.below h.below.size hb, blk_below h.k1 hb, blk_below h.k2 hb, blk_below h.k3 hb, blk_below h.k4 hb, blk_below h.seen hb, h.len, h.base⟩
theorem RS.cell (h : RS w0 p i b1 b2 b3 b4 gq N cq tl Sn w) (j : Nat) (hj : j < N) : w.cell? ⟨gq, j, none⟩ = some (.bool (Sn.getD j false)) := by
  rw [blk_cell h.seen j]
  have hl := h.len
  simp only [List.getElem?_toArray]
  rw [List.getElem?_append_left (by simp; omega), List.getElem?_map, List.getElem?_eq_getElem (by omega)]
  simp [List.getD, show j < Sn.length by omega]
theorem RS.mark (h : RS w0 p i b1 b2 b3 b4 gq N cq tl Sn w) (j : Nat) (hj : j < N) : RS w0 p i b1 b2 b3 b4 gq N cq tl (Sn.set j true) (w.setCell ⟨gq, j, none⟩ (.bool true)) ∧ KpB gq w (w.setCell ⟨gq, j, none⟩ (.bool true)) := by
  have hl := h.len
  have n1 := blk_ne h.k1 h.seen (by decide)
  have n2 := blk_ne h.k2 h.seen (by decide)
  have n3 := blk_ne h.k3 h.seen (by decide)
  have n4 := blk_ne h.k4 h.seen (by decide)
  refine ⟨⟨h.below.setCell h.base _, blk_far h.k1 n1 _, blk_far h.k2 n2 _, blk_far h.k3 n3 _, blk_far h.k4 n4 _, blk_put h.seen j _ ?_, by rw [List.length_set]; exact hl, h.base⟩, by simp [World.setCell], fun k _ hk => Below.heap_setCell w ⟨gq, j, none⟩ _ k hk⟩
  simp only [List.setIfInBounds_toArray]
  rw [List.set_append_left _ _ (by simp; omega), List.map_set]
end
end Go.Proofs.YtlihpmhnlooapaaDoor
