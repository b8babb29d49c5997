/- A region that draws its order and whose calls make memory, but change nothing that was there: one walk of the text's order serves every order. -/
import Derived.Test.YthjjkpkohhmgcaaOp
import Derived.Deep.Quiet
import Derived.BigQuiet
import Derived.Below
namespace Go.Proofs.Ythjjkpkohhmgcaa
open Go Go.RowKit

open Classical in
/-- A world, if what w0 has lies in it as it lay; else w0. -/
noncomputable def ov (w0 W : World) : World := if Below w0.heap.size w0 W then W else w0
theorem ov_below (w0 W : World) : Below w0.heap.size w0 (ov w0 W) := by
  unfold ov
  split
  · assumption
  · exact Below.refl _ _
theorem ov_of {w0 w : World} (h : Below w0.heap.size w0 w) : ∃ W, w = ov w0 W := ⟨w, by unfold ov; rw [if_pos h]⟩
theorem ov_cell {w0 : World} {b j : Nat} {v : Value} (h : w0.cell? ⟨b, j, none⟩ = some v) (W : World) : (ov w0 W).cell? ⟨b, j, none⟩ = some v := ((ov_below w0 W).cell (World.block_lt_of_cell? w0 _ h)).trans h
theorem calls_ov {P : Program} {f : FuncId} {args : Array Value} {w0 W : World} {v : Value}
    (h : Calls P f args (ov w0 W) fun e w' => e = .returned v ∧ Below (ov w0 W).heap.size (ov w0 W) w') : Calls P f args (ov w0 W) fun e w'' => e = .returned v ∧ ∃ W', w'' = ov w0 W' :=
  h.mono fun _ _ ⟨he, hb⟩ => ⟨he, ov_of ((ov_below w0 W).trans (hb.mono (ov_below w0 W).size))⟩
theorem calls_ov_same {P : Program} {f : FuncId} {args : Array Value} {w0 W : World} {v : Value}
    (h : Calls P f args (ov w0 W) fun e w' => e = .returned v ∧ w' = ov w0 W) : Calls P f args (ov w0 W) fun e w'' => e = .returned v ∧ ∃ W', w'' = ov w0 W' :=
  h.mono fun _ _ ⟨he, hb⟩ => ⟨he, W, hb⟩
theorem wp_region_ov {P : Program} {w0 : World} {id : Nat} {Q : Exit → Act → World → Prop} {a : Act} {w : World} {l : List Oper} (hm : P.follows .mixedOrders = true) (hB : Region.lexB .any l.toArray = true) (hw : Below w0.heap.size w0 w)
    (h : wpQuiet P l.toArray (fun w' => ∃ W, w' = ov w0 W) (fun a' => ∀ w', (∃ W, w' = ov w0 W) → Q .normal a' w') l a) : (Code.region id l.toArray true).wp P Q a w :=
  wp_region_quiet (C := fun w' => ∃ W, w' = ov w0 W) hm hB (ov_of (show Below w0.heap.size w0 w.drew from hw.drew)) (by simpa using h)
end Go.Proofs.Ythjjkpkohhmgcaa
