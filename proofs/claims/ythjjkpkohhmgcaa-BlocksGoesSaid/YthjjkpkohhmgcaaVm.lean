/- Blocks: rows that grow, each by itself: those that go to a block. -/
import Derived.Test.YthjjkpkohhmgcaaVl
namespace Go.Proofs.Ythjjkpkohhmgcaa
open Go.RowKit Go.Proofs.YthjjkpkohhmgcaaW.PrintWords

def updV (V : Nat → Value) (t : Nat) (v : Value) : Nat → Value := fun x => if x = t then v else V x
def updF (F : Nat → List Nat) (t : Nat) (l : List Nat) : Nat → List Nat := fun x => if x = t then l else F x
structure AHs (ga n : Nat) (V : Nat → Value) (F : Nat → List Nat) (base : Nat) (w : World) : Prop where
  blk : w.heap[ga]? = some (.cells ((List.range n).map V).toArray 27 (0, 0))
  row : ∀ t, t < n → kI.R 3 w base (fun _ => True) (V t) (ints (F t))
  apart : ∀ t t', t < n → t' < n → t ≠ t' → ∀ k, (V t).ownBlock = some k → (V t').ownBlock ≠ some k
theorem AHs.made {ga n base : Nat} {w : World} (h : w.heap[ga]? = some (.cells (Array.replicate n (.slice none 0 0)) 27 (0, 0))) : AHs ga n (fun _ => .slice none 0 0) (fun _ => []) base w := by
  refine ⟨?_, fun t _ => Kd.R_nil _ _ _ _ _, fun t t' _ _ _ k hk => by simp [Value.ownBlock] at hk⟩
  rw [h]
  have : ((List.range n).map (fun _ => Value.slice none 0 0)).toArray = Array.replicate n (.slice none 0 0) := by
    apply Array.toList_inj.1
    apply List.ext_getElem?
    intro i
    by_cases hi : i < n
    · simp [hi]
    · rw [List.getElem?_eq_none (by simp; omega), List.getElem?_eq_none (by simp; omega)]
  rw [this]
/-- A row stands where its own block does. -/
theorem R_own_move {w w1 : World} {base : Nat} {v : Value} {xs : List Int} (h : kI.R 3 w base (fun _ => True) v xs) (hm : ∀ k, v.ownBlock = some k → k < w.heap.size → w1.heap[k]? = w.heap[k]?) : kI.R 3 w1 base (fun _ => True) v xs := by
  have h2 : kI.R 3 w base (fun k => v.ownBlock = some k) v xs := Kd.R_of_own (h1 := fun _ => rfl) (Kd.own_of_R (h1 := fun _ => rfl) h) (fun k hk => hk)
  exact Kd.R_mono (Kd.R_step h2 (fun k hk hlt => hm k hk hlt)) (fun _ _ => trivial)
theorem AHs.step {ga n base : Nat} {V : Nat → Value} {F : Nat → List Nat} {w w1 : World} (h : AHs ga n V F base w) (hb : Below w.heap.size w w1) : AHs ga n V F base w1 :=
  ⟨blk_below h.blk hb, fun t ht => Kd.R_below (h.row t ht) hb, h.apart⟩
theorem AHs.put {ga n base : Nat} {V : Nat → Value} {F : Nat → List Nat} {w w1 : World} (h : AHs ga n V F base w) {t : Nat} (ht : t < n) {v1 : Value} {b : Nat} (hR : kI.R 3 w1 base (fun _ => True) v1 (ints (F t) ++ [(b : Int)])) (hG : w.grownBy w1 (V t).ownBlock) (hat : v1.ownBlock = (V t).ownBlock ∨ ∃ k, v1.ownBlock = some k ∧ w.heap.size ≤ k) :
    w1.heap[ga]? = some (.cells ((List.range n).map V).toArray 27 (0, 0)) ∧ AHs ga n (updV V t v1) (updF F t (F t ++ [b])) base (w1.setCell ⟨ga, t, none⟩ v1) := by
  have k1 := blk_grown h.blk hG (Kd.R_ne (h.row t ht) h.blk (by decide))
  refine ⟨k1, blk_put k1 t v1 ?_, fun x hx => ?_, fun x y hx hy hne k hk => ?_⟩
  · apply Array.toList_inj.1
    simp only [List.setIfInBounds_toArray]
    apply List.ext_getElem?
    intro i
    by_cases hi : i < n
    · rw [List.getElem?_set]
      by_cases e : t = i
      · subst e; simp [hi, updV]
      · simp [hi, e, updV, Ne.symm e]
    · rw [List.getElem?_eq_none (by simp; omega), List.getElem?_eq_none (by simp; omega)]
  · by_cases e : x = t
    · subst e
      have e1 : updV V x v1 x = v1 := by simp [updV]
      have e2 : updF F x (F x ++ [b]) x = F x ++ [b] := by simp [updF]
      rw [e1, e2, show ints (F x ++ [b]) = ints (F x) ++ [(b : Int)] by simp [ints]]
      exact Kd.R_set hR k1 (by decide) _ _
    · have e1 : updV V t v1 x = V x := by simp [updV, e]
      have e2 : updF F t (F t ++ [b]) x = F x := by simp [updF, e]
      rw [e1, e2]
      exact Kd.R_set (R_own_move (h.row x hx) (fun k hk hlt => hG.block k hlt (fun he => h.apart x t hx ht e k hk he.symm))) k1 (by decide) _ _
  · have old : ∀ z, z < n → z ≠ t → ∀ k, (V z).ownBlock = some k → v1.ownBlock ≠ some k := by
      intro z hz hzt k hk hv
      rcases hat with h1 | ⟨k', h1, h2⟩
      · exact h.apart z t hz ht hzt k hk (h1 ▸ hv)
      · rw [h1] at hv
        injection hv with hv
        have := Kd.R_lt (h.row z hz) k hk
        omega
    by_cases ex : x = t
    · subst ex
      have e1 : updV V x v1 x = v1 := by simp [updV]
      have e2 : updV V x v1 y = V y := by simp [updV, Ne.symm hne]
      rw [e1] at hk
      rw [e2]
      exact fun hy2 => old y hy (Ne.symm hne) k hy2 hk
    · have e1 : updV V t v1 x = V x := by simp [updV, ex]
      rw [e1] at hk
      by_cases ey : y = t
      · subst ey
        have e2 : updV V y v1 y = v1 := by simp [updV]
        rw [e2]
        exact old x hx ex k hk
      · have e2 : updV V t v1 y = V y := by simp [updV, ey]
        rw [e2]
        exact h.apart x y hx hy hne k hk
end Go.Proofs.Ythjjkpkohhmgcaa
