/-
  No cell of these rows narrows 'for every input' (looked for: loops, veiled, ifaces, maps, wideKeys, modest, calm, conditions, laid).
  DERIVED. THE GIVEN ROWS OF THIS SEAT. 6 by the template 'for every input the law returns true; each argument reads behind the call as it read before'; 0 by the template 'total and deterministic' (their statements: YthjjkpkohhmgcaaTotals.lean).
  GIVEN WITH THE SEED: the statements are not yours to turn. If you find one false, say at which input.
  Laid BY PROGRAM, IN A SANDBOX (cutbox-rows.mjs): the forced cells as the released guide's own fill.sh prints them over the translation c0f0c3d67c7ac2e1… (all of the seat's roots in one cut). By AI agents, Wed Nov 11 2026. No macro, syntax, notation, axiom, sorry.
-/
import Derived.Test.YthjjkpkohhmgcaaChecked
import GoSem.Claim
import GoSem.ClaimJoined
import GoSem.ClaimMapViews
import Derived.JoinedTies
import Derived.KernelRfl
namespace Go.Proofs.Ythjjkpkohhmgcaa
/- THE CELL 'sum', in the pinned program and in every row, IS THE sha256 OF THE DUMP (.gsa) THAT YthjjkpkohhmgcaaProg.lean LOADS. Nothing in Lean hashes anything: it is a label: what it is worth is what the hold of that sum in a sandbox is worth. -/
noncomputable def Try.pinned : Pinned := { name := "ythjjkpkohhmgcaa", sum := "c0f0c3d67c7ac2e1e2c3ff1265bd0124da89a6d04d7401287d7ce67117438c4d", checked := Try.checked }
namespace Rows
def none {H : Type} : Left H := { results := [], args := [] }

/-- 'warpbeamlaw17.BlocksLooks': WHATEVER THE INPUT: true; the input reads as it did. -/
def blocksLooksSpec : ChangeSpec := { name := "blocksLooks", fn := fun _ => fun
  | [d] => { results := [.lit (.bool true)], args := [d] }
  | _ => none }
def blocksLooksRow : OpenClaim := { program := "ythjjkpkohhmgcaa", sum := "c0f0c3d67c7ac2e1e2c3ff1265bd0124da89a6d04d7401287d7ce67117438c4d", func := "warpbeam/warpbeamlaw17.BlocksLooks", spec := "blocksLooks", unfollowed := true, recurses := true, apart := false }
def BlocksLooksSaid : Prop := blocksLooksRow.holds Try.pinned (OpenSpec.ofChange blocksLooksSpec)

/-- ITS FALSE NEIGHBOUR: 'it returns false'. Refute it at one input. -/
def blocksLooksWrong : ChangeSpec := { name := "blocksLooks", fn := fun _ => fun
  | [d] => { results := [.lit (.bool false)], args := [d] }
  | _ => none }
def BlocksLooksWrongFalsely : Prop := blocksLooksRow.holds Try.pinned (OpenSpec.ofChange blocksLooksWrong)

/-- 'warpbeamlaw17.BlocksJoin': WHATEVER THE INPUT: true; the input reads as it did. -/
def blocksJoinSpec : ChangeSpec := { name := "blocksJoin", fn := fun _ => fun
  | [d1, d2] => { results := [.lit (.bool true)], args := [d1, d2] }
  | _ => none }
def blocksJoinRow : OpenClaim := { program := "ythjjkpkohhmgcaa", sum := "c0f0c3d67c7ac2e1e2c3ff1265bd0124da89a6d04d7401287d7ce67117438c4d", func := "warpbeam/warpbeamlaw17.BlocksJoin", spec := "blocksJoin", unfollowed := true, recurses := true, apart := false }
def BlocksJoinSaid : Prop := blocksJoinRow.holds Try.pinned (OpenSpec.ofChange blocksJoinSpec)

/-- ITS FALSE NEIGHBOUR: 'it returns false'. Refute it at one input. -/
def blocksJoinWrong : ChangeSpec := { name := "blocksJoin", fn := fun _ => fun
  | [d1, d2] => { results := [.lit (.bool false)], args := [d1, d2] }
  | _ => none }
def BlocksJoinWrongFalsely : Prop := blocksJoinRow.holds Try.pinned (OpenSpec.ofChange blocksJoinWrong)

/-- 'warpbeamlaw17.BlocksGoes': WHATEVER THE INPUT: true; the input reads as it did. -/
def blocksGoesSpec : ChangeSpec := { name := "blocksGoes", fn := fun _ => fun
  | [d1, d2] => { results := [.lit (.bool true)], args := [d1, d2] }
  | _ => none }
def blocksGoesRow : OpenClaim := { program := "ythjjkpkohhmgcaa", sum := "c0f0c3d67c7ac2e1e2c3ff1265bd0124da89a6d04d7401287d7ce67117438c4d", func := "warpbeam/warpbeamlaw17.BlocksGoes", spec := "blocksGoes", unfollowed := true, recurses := true, apart := false }
def BlocksGoesSaid : Prop := blocksGoesRow.holds Try.pinned (OpenSpec.ofChange blocksGoesSpec)

/-- ITS FALSE NEIGHBOUR: 'it returns false'. Refute it at one input. -/
def blocksGoesWrong : ChangeSpec := { name := "blocksGoes", fn := fun _ => fun
  | [d1, d2] => { results := [.lit (.bool false)], args := [d1, d2] }
  | _ => none }
def BlocksGoesWrongFalsely : Prop := blocksGoesRow.holds Try.pinned (OpenSpec.ofChange blocksGoesWrong)

/-- 'warpbeamlaw17.BlocksOrder': WHATEVER THE INPUT: true; the input reads as it did. -/
def blocksOrderSpec : ChangeSpec := { name := "blocksOrder", fn := fun _ => fun
  | [d] => { results := [.lit (.bool true)], args := [d] }
  | _ => none }
def blocksOrderRow : OpenClaim := { program := "ythjjkpkohhmgcaa", sum := "c0f0c3d67c7ac2e1e2c3ff1265bd0124da89a6d04d7401287d7ce67117438c4d", func := "warpbeam/warpbeamlaw17.BlocksOrder", spec := "blocksOrder", unfollowed := true, recurses := true, apart := false }
def BlocksOrderSaid : Prop := blocksOrderRow.holds Try.pinned (OpenSpec.ofChange blocksOrderSpec)

/-- ITS FALSE NEIGHBOUR: 'it returns false'. Refute it at one input. -/
def blocksOrderWrong : ChangeSpec := { name := "blocksOrder", fn := fun _ => fun
  | [d] => { results := [.lit (.bool false)], args := [d] }
  | _ => none }
def BlocksOrderWrongFalsely : Prop := blocksOrderRow.holds Try.pinned (OpenSpec.ofChange blocksOrderWrong)

/-- 'warpbeamlaw17.BlocksAbove': WHATEVER THE INPUT: true; the input reads as it did. -/
def blocksAboveSpec : ChangeSpec := { name := "blocksAbove", fn := fun _ => fun
  | [d] => { results := [.lit (.bool true)], args := [d] }
  | _ => none }
def blocksAboveRow : OpenClaim := { program := "ythjjkpkohhmgcaa", sum := "c0f0c3d67c7ac2e1e2c3ff1265bd0124da89a6d04d7401287d7ce67117438c4d", func := "warpbeam/warpbeamlaw17.BlocksAbove", spec := "blocksAbove", unfollowed := true, recurses := true, apart := false }
def BlocksAboveSaid : Prop := blocksAboveRow.holds Try.pinned (OpenSpec.ofChange blocksAboveSpec)

/-- ITS FALSE NEIGHBOUR: 'it returns false'. Refute it at one input. -/
def blocksAboveWrong : ChangeSpec := { name := "blocksAbove", fn := fun _ => fun
  | [d] => { results := [.lit (.bool false)], args := [d] }
  | _ => none }
def BlocksAboveWrongFalsely : Prop := blocksAboveRow.holds Try.pinned (OpenSpec.ofChange blocksAboveWrong)

/-- 'warpbeamlaw17.BlocksKnown': WHATEVER THE INPUT: true; the input reads as it did. -/
def blocksKnownSpec : ChangeSpec := { name := "blocksKnown", fn := fun _ => fun
  | [] => { results := [.lit (.bool true)], args := [] }
  | _ => none }
def blocksKnownRow : OpenClaim := { program := "ythjjkpkohhmgcaa", sum := "c0f0c3d67c7ac2e1e2c3ff1265bd0124da89a6d04d7401287d7ce67117438c4d", func := "warpbeam/warpbeamlaw17.BlocksKnown", spec := "blocksKnown", unfollowed := true, recurses := true, apart := false }
def BlocksKnownSaid : Prop := blocksKnownRow.holds Try.pinned (OpenSpec.ofChange blocksKnownSpec)

/-- ITS FALSE NEIGHBOUR: 'it returns false'. Refute it at one input. -/
def blocksKnownWrong : ChangeSpec := { name := "blocksKnown", fn := fun _ => fun
  | [] => { results := [.lit (.bool false)], args := [] }
  | _ => none }
def BlocksKnownWrongFalsely : Prop := blocksKnownRow.holds Try.pinned (OpenSpec.ofChange blocksKnownWrong)

/- THE SECOND FORM. 'bulk': how many values and letters a reading holds, each counted each time it is reached (what is shared counts as often as it is met; a slice's spare places count too). A statement '..UptoSaid' is the law's where the arguments, and the package variables that the reading takes, are together of bulk at most 1048576: NARROWER than '..Said'. Prove '..Said' where nothing that the law and all that it calls make is longer than what came in: it says more and counts as full. Else prove '..UptoSaid'. A law counts once. -/
mutual
def uptoBulk {H : Type} : DataW H → Nat
  | .lit (.string bytes) => bytes.length + 1
  | .lit _ => 1
  | .nil => 1
  | .ptr d => uptoBulk d + 1
  | .slice elems spare => uptoBulkAll elems + uptoBulkAll spare + 1
  | .agg parts => uptoBulkAll parts + 1
  | .iface _ d => uptoBulk d + 1
  | .map entries => uptoBulkEntries entries + 1
  | .held _ => 1
def uptoBulkAll {H : Type} : List (DataW H) → Nat
  | [] => 0
  | d :: r => uptoBulk d + uptoBulkAll r
def uptoBulkEntries {H : Type} : List (Lit × DataW H) → Nat
  | [] => 0
  | x :: r => uptoBulkEntry x + uptoBulkEntries r
def uptoBulkEntry {H : Type} : Lit × DataW H → Nat
  | (.string bytes, d) => bytes.length + uptoBulk d + 1
  | (_, d) => uptoBulk d + 1
 end
def uptoSmall : (H : Type) → List (DataW H) → Bool := fun _ ds => decide (uptoBulkAll ds ≤ 1048576)
def OpenSpec.upto (s : _root_.Go.ChangeSpec) : _root_.Go.OpenSpec := { _root_.Go.OpenSpec.ofChange s with cond := some uptoSmall }

/-- 'warpbeamlaw17.BlocksLooks', WHERE WHAT IT READS IS OF BULK AT MOST 1048576: true; the input reads as it did. -/
def blocksLooksUptoRow : OpenClaim := { program := "ythjjkpkohhmgcaa", sum := "c0f0c3d67c7ac2e1e2c3ff1265bd0124da89a6d04d7401287d7ce67117438c4d", func := "warpbeam/warpbeamlaw17.BlocksLooks", spec := "blocksLooks", unfollowed := true, recurses := true, apart := false, narrowed := true }
def BlocksLooksUptoSaid : Prop := blocksLooksUptoRow.holds Try.pinned (OpenSpec.upto blocksLooksSpec)

/-- 'warpbeamlaw17.BlocksJoin', WHERE WHAT IT READS IS OF BULK AT MOST 1048576: true; the input reads as it did. -/
def blocksJoinUptoRow : OpenClaim := { program := "ythjjkpkohhmgcaa", sum := "c0f0c3d67c7ac2e1e2c3ff1265bd0124da89a6d04d7401287d7ce67117438c4d", func := "warpbeam/warpbeamlaw17.BlocksJoin", spec := "blocksJoin", unfollowed := true, recurses := true, apart := false, narrowed := true }
def BlocksJoinUptoSaid : Prop := blocksJoinUptoRow.holds Try.pinned (OpenSpec.upto blocksJoinSpec)

/-- 'warpbeamlaw17.BlocksGoes', WHERE WHAT IT READS IS OF BULK AT MOST 1048576: true; the input reads as it did. -/
def blocksGoesUptoRow : OpenClaim := { program := "ythjjkpkohhmgcaa", sum := "c0f0c3d67c7ac2e1e2c3ff1265bd0124da89a6d04d7401287d7ce67117438c4d", func := "warpbeam/warpbeamlaw17.BlocksGoes", spec := "blocksGoes", unfollowed := true, recurses := true, apart := false, narrowed := true }
def BlocksGoesUptoSaid : Prop := blocksGoesUptoRow.holds Try.pinned (OpenSpec.upto blocksGoesSpec)

/-- 'warpbeamlaw17.BlocksOrder', WHERE WHAT IT READS IS OF BULK AT MOST 1048576: true; the input reads as it did. -/
def blocksOrderUptoRow : OpenClaim := { program := "ythjjkpkohhmgcaa", sum := "c0f0c3d67c7ac2e1e2c3ff1265bd0124da89a6d04d7401287d7ce67117438c4d", func := "warpbeam/warpbeamlaw17.BlocksOrder", spec := "blocksOrder", unfollowed := true, recurses := true, apart := false, narrowed := true }
def BlocksOrderUptoSaid : Prop := blocksOrderUptoRow.holds Try.pinned (OpenSpec.upto blocksOrderSpec)

/-- 'warpbeamlaw17.BlocksAbove', WHERE WHAT IT READS IS OF BULK AT MOST 1048576: true; the input reads as it did. -/
def blocksAboveUptoRow : OpenClaim := { program := "ythjjkpkohhmgcaa", sum := "c0f0c3d67c7ac2e1e2c3ff1265bd0124da89a6d04d7401287d7ce67117438c4d", func := "warpbeam/warpbeamlaw17.BlocksAbove", spec := "blocksAbove", unfollowed := true, recurses := true, apart := false, narrowed := true }
def BlocksAboveUptoSaid : Prop := blocksAboveUptoRow.holds Try.pinned (OpenSpec.upto blocksAboveSpec)

/-- 'warpbeamlaw17.BlocksKnown', WHERE WHAT IT READS IS OF BULK AT MOST 1048576: true; the input reads as it did. -/
def blocksKnownUptoRow : OpenClaim := { program := "ythjjkpkohhmgcaa", sum := "c0f0c3d67c7ac2e1e2c3ff1265bd0124da89a6d04d7401287d7ce67117438c4d", func := "warpbeam/warpbeamlaw17.BlocksKnown", spec := "blocksKnown", unfollowed := true, recurses := true, apart := false, narrowed := true }
def BlocksKnownUptoSaid : Prop := blocksKnownUptoRow.holds Try.pinned (OpenSpec.upto blocksKnownSpec)

end Rows
end Go.Proofs.Ythjjkpkohhmgcaa
