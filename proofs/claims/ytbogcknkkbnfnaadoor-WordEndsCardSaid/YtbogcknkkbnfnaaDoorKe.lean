/- A row of classes in one block: read at a place, written at a place. -/
import Derived.Test.YtbogcknkkbnfnaaDoorKd
namespace Go.Proofs.YtbogcknkkbnfnaaDoor
open Go.RowKit Go.Proofs.YtbogcknkkbnfnaaDoorW.PrintWords

/-- The block g holds the elements, and behind them tl. -/
def Row (g : Nat) (tl : List Value) (d : List El) (w : World) : Prop := w.heap[g]? = some (.cells (d.flatMap El.cells ++ tl).toArray 57 (0, 0))
theorem flat_len (d : List El) : (d.flatMap El.cells).length = d.length * 7 := by
  induction d with
  | nil => rfl
  | cons a d ih => simp only [List.flatMap_cons, List.length_append, ih, List.length_cons, El.cells, List.length_nil]; omega
theorem flat_get (d : List El) (tl : List Value) (i j : Nat) (hi : i < d.length) (hj : j < 7) : (d.flatMap El.cells ++ tl)[i * 7 + j]? = (d.getD i zEl).cells[j]? := by
  induction d generalizing i with
  | nil => simp at hi
  | cons a d ih =>
    cases i with
    | zero =>
      simp only [List.flatMap_cons, List.append_assoc, Nat.zero_mul, Nat.zero_add, List.getD_cons_zero]
      exact List.getElem?_append_left (by simpa [El.cells] using hj)
    | succ i =>
      simp only [List.length_cons, Nat.add_lt_add_iff_right] at hi
      simp only [List.flatMap_cons, List.append_assoc, List.getD_cons_succ]
      rw [List.getElem?_append_right (by simp only [El.cells, List.length_cons, List.length_nil]; omega)]
      have e : (i + 1) * 7 + j - a.cells.length = i * 7 + j := by simp only [El.cells, List.length_cons, List.length_nil]; omega
      rw [e]
      exact ih i hi
theorem Row.cell {g : Nat} {tl : List Value} {d : List El} {w : World} (h : Row g tl d w) (i j : Nat) (hi : i < d.length) (hj : j < 7) : w.cell? ⟨g, i * 7 + j, none⟩ = (d.getD i zEl).cells[j]? := by
  rw [blk_cell h (i * 7 + j)]
  simp only [List.getElem?_toArray]
  exact flat_get d tl i j hi hj
theorem Row.frozen {g : Nat} {tl : List Value} {d : List El} {w : World} (h : Row g tl d w) (j : Nat) : w.frozen? ⟨g, j, none⟩ = false := blk_frozen h j
theorem Row.lt {g : Nat} {tl : List Value} {d : List El} {w : World} (h : Row g tl d w) : g < w.heap.size := blk_lt h
theorem flat_set (d : List El) (tl : List Value) (i : Nat) (e : El) (hi : i < d.length) :
    ((((((((d.flatMap El.cells ++ tl).set (i * 7) (.slice e.p.a e.p.n e.p.c)).set (i * 7 + 1) (.string e.n)).set (i * 7 + 2) (.string e.s)).set (i * 7 + 3) (.bool e.b)).set (i * 7 + 4) (.slice e.f.a e.f.n e.f.c)).set (i * 7 + 5) (.slice e.l.a e.l.n e.l.c)).set (i * 7 + 6) (.slice e.m.a e.m.n e.m.c)) = (d.set i e).flatMap El.cells ++ tl := by
  induction d generalizing i with
  | nil => simp at hi
  | cons a d ih =>
    cases i with
    | zero => rfl
    | succ i =>
      simp only [List.length_cons, Nat.add_lt_add_iff_right] at hi
      have := ih i hi
      simp only [List.set_cons_succ, List.flatMap_cons]
      rw [List.append_assoc, List.append_assoc, ← this]
      have e7 : (i + 1) * 7 = i * 7 + 7 := by omega
      rw [e7]
      rfl
/-- Element i, written. -/
def putEl (w : World) (g i : Nat) (e : El) : World :=
  ((((((w.setCell ⟨g, i * 7, none⟩ (.slice e.p.a e.p.n e.p.c)).setCell ⟨g, i * 7 + 1, none⟩ (.string e.n)).setCell ⟨g, i * 7 + 2, none⟩ (.string e.s)).setCell ⟨g, i * 7 + 3, none⟩ (.bool e.b)).setCell ⟨g, i * 7 + 4, none⟩ (.slice e.f.a e.f.n e.f.c)).setCell ⟨g, i * 7 + 5, none⟩ (.slice e.l.a e.l.n e.l.c)).setCell ⟨g, i * 7 + 6, none⟩ (.slice e.m.a e.m.n e.m.c)
theorem Row.put {g : Nat} {tl : List Value} {d : List El} {w : World} (h : Row g tl d w) (i : Nat) (e : El) (hi : i < d.length) : Row g tl (d.set i e) (putEl w g i e) := by
  unfold putEl Row
  refine blk_put (blk_put (blk_put (blk_put (blk_put (blk_put (blk_put h (i * 7) (.slice e.p.a e.p.n e.p.c) rfl) (i * 7 + 1) (.string e.n) rfl) (i * 7 + 2) (.string e.s) rfl) (i * 7 + 3) (.bool e.b) rfl) (i * 7 + 4) (.slice e.f.a e.f.n e.f.c) rfl) (i * 7 + 5) (.slice e.l.a e.l.n e.l.c) rfl) (i * 7 + 6) (.slice e.m.a e.m.n e.m.c) ?_
  simp only [List.setIfInBounds_toArray]
  rw [flat_set d tl i e hi]
theorem Row.below {g : Nat} {tl : List Value} {d : List El} {w w' : World} (h : Row g tl d w) (hb : Below w.heap.size w w') : Row g tl d w' := blk_below h hb
end Go.Proofs.YtbogcknkkbnfnaaDoor
