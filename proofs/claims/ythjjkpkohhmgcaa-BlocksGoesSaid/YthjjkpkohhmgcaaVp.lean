/- Blocks: places and comers in memory. -/
import Derived.Test.YthjjkpkohhmgcaaVn
namespace Go.Proofs.Ythjjkpkohhmgcaa
open Go.RowKit Go.Proofs.YthjjkpkohhmgcaaW.PrintWords

/-- The worlds of Above's first loop: the places of the first q in order, those that have been found to go to each. -/
structure PA (w2 : World) (O : List Nat) (N B q : Nat) (F : Nat → List Nat) (wr : World) : Prop where
  size : w2.heap.size = B
  below : Below B w2 wr
  kp : wr.heap[B + 1]? = some (.cells #[.slice (some ⟨B, 0, none⟩) N N] 27 (0, 0))
  pl : wr.heap[B]? = some (.cells ((stRow N (placeF O q)).map (Value.int .i64)).toArray 3 (0, 0))
  ah : ∃ V, AHs (B + 1 + 1) N V F (B + 1) wr
section
variable {w2 wr : World} {O : List Nat} {N B q : Nat} {F : Nat → List Nat}
theorem PA.mark (h : PA w2 O N B q F wr) (hn : O.Nodup) {b : Nat} (hb : O[q]? = some b) : PA w2 O N B (q + 1) F (wr.setCell ⟨B, b, none⟩ (.int .i64 (q : Int))) := by
  obtain ⟨V, hA⟩ := h.ah
  have e : ((stRow N (placeF O q)).map (Value.int .i64)).toArray.setIfInBounds b (.int .i64 (q : Int)) = ((stRow N (placeF O (q + 1))).map (Value.int .i64)).toArray := by
    rw [placeF_step hn hb, ← stRow_set]
    simp
  refine ⟨h.size, h.below.setCell (Nat.le_refl _) _, blk_far h.kp (by show B + 1 ≠ B; omega) _, blk_put h.pl b _ e, V, blk_far hA.blk (by show B + 1 + 1 ≠ B; omega) _, fun t ht => ?_, hA.apart⟩
  exact R_own_move (hA.row t ht) (fun k hk _ => Below.heap_setCell wr ⟨B, b, none⟩ _ k (by have := Kd.R_base (hA.row t ht) k hk; show k ≠ B; omega))
theorem PA.step {w1 : World} (h : PA w2 O N B q F wr) (hb : Below wr.heap.size wr w1) : PA w2 O N B q F w1 := by
  obtain ⟨V, hA⟩ := h.ah
  have hs : B ≤ wr.heap.size := by have := blk_lt h.pl; omega
  exact ⟨h.size, h.below.trans (hb.mono hs), blk_below h.kp hb, blk_below h.pl hb, V, hA.step hb⟩
theorem PA.put {w1 : World} {V : Nat → Value} (h : PA w2 O N B q F wr) (hA : AHs (B + 1 + 1) N V F (B + 1) wr) {t : Nat} (ht : t < N) {v1 : Value} {b : Nat} (hR : kI.R 3 w1 (B + 1) (fun _ => True) v1 (ints (F t) ++ [(b : Int)])) (hB : Below (B + 1) wr w1) (hG : wr.grownBy w1 (V t).ownBlock) (hat : v1.ownBlock = (V t).ownBlock ∨ ∃ k, v1.ownBlock = some k ∧ wr.heap.size ≤ k) :
    w1.heap[B + 1 + 1]? = some (.cells ((List.range N).map V).toArray 27 (0, 0)) ∧ PA w2 O N B q (updF F t (F t ++ [b])) (w1.setCell ⟨B + 1 + 1, t, none⟩ v1) := by
  obtain ⟨k1, hA2⟩ := hA.put ht hR hG hat
  have hne : some B ≠ (V t).ownBlock := fun e => by have := Kd.R_base (hA.row t ht) B e.symm; omega
  have kp := blk_grown h.kp hG (Kd.R_ne (hA.row t ht) h.kp (by decide))
  have pl := blk_grown h.pl hG hne
  exact ⟨k1, h.size, (h.below.trans (hB.mono (by omega))).setCell (by show B ≤ B + 1 + 1; omega) _, blk_far kp (by show B + 1 ≠ B + 1 + 1; omega) _, blk_far pl (by show B ≠ B + 1 + 1; omega) _, _, hA2⟩
end
end Go.Proofs.Ythjjkpkohhmgcaa
