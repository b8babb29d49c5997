/-
  NARROWER THAN 'FOR EVERY INPUT', by the rows' own cells (each row's printed sentence says how): LinkAbove: laid · LinkOrder: laid · LinkCommon: laid · LinkTurned: laid · LinkSteps: laid · LinkNumbers: laid · LinkTypes: laid · LinkArrays: laid · LinkKnown: laid.
  DERIVED. THE GIVEN ROWS OF THIS SEAT. 9 by the template 'for every input the law returns true; each argument reads behind the call as it read before'; 0 by the template 'total and deterministic' (their statements: YtooogbkaofmdaaaDoorTotals.lean).
  GIVEN WITH THE SEED: the statements are not yours to turn. If you find one false, say at which input.
  Laid BY PROGRAM, IN A SANDBOX (cutbox-rows.mjs): the forced cells as the released guide's own fill.sh prints them over the translation e1f876d7a7255f3e… (all of the seat's roots in one cut). By AI agents, Wed Nov 11 2026. No macro, syntax, notation, axiom, sorry.
-/
import Derived.Test.YtooogbkaofmdaaaDoorChecked
import GoSem.Claim
import GoSem.ClaimJoined
import GoSem.ClaimMapViews
import Derived.JoinedTies
import Derived.KernelRfl
namespace Go.Proofs.YtooogbkaofmdaaaDoor
/- THE CELL 'sum', in the pinned program and in every row, IS THE sha256 OF THE DUMP (.gsa) THAT YtooogbkaofmdaaaDoorProg.lean LOADS. Nothing in Lean hashes anything: it is a label: what it is worth is what the hold of that sum in a sandbox is worth. -/
noncomputable def Tryd.pinned : Pinned := { name := "ytooogbkaofmdaaadoor", sum := "e1f876d7a7255f3e7df128c8373599344c598fc1a91bc45f8b9b05caa398fc80", checked := Tryd.checked }
namespace Rows
def none {H : Type} : Left H := { results := [], args := [] }

/- WHAT THE LISTED PACKAGE-LEVEL VARIABLES READ AS WHEN THE CALL BEGINS. Each datum BY PROGRAM (the guide's laid-datum.mjs) off the statement by which the dump's own 'gosem.cut.vars' lays the variable. In a bare row this is a premise. The card (YtooogbkaofmdaaaDoorCards.lean) ties it to the program's text. -/
def laid_warpbeam_link_builtIn {H : Type} : DataW H := .agg [.lit (.string [79, 98, 106, 101, 99, 116]), .lit (.string [84, 104, 114, 111, 119, 97, 98, 108, 101]), .lit (.string [65, 114, 105, 116, 104]), .lit (.string [78, 117, 108, 108]), .lit (.string [66, 111, 117, 110, 100, 115]), .lit (.string [67, 97, 115, 116]), .lit (.string [83, 105, 122, 101]), .lit (.string [83, 116, 111, 114, 101])]
def laid_math_bits_deBruijn32tab {H : Type} : DataW H := .agg [.lit (.int .u8 0), .lit (.int .u8 1), .lit (.int .u8 28), .lit (.int .u8 2), .lit (.int .u8 29), .lit (.int .u8 14), .lit (.int .u8 24), .lit (.int .u8 3), .lit (.int .u8 30), .lit (.int .u8 22), .lit (.int .u8 20), .lit (.int .u8 15), .lit (.int .u8 25), .lit (.int .u8 17), .lit (.int .u8 4), .lit (.int .u8 8), .lit (.int .u8 31), .lit (.int .u8 27), .lit (.int .u8 13), .lit (.int .u8 23), .lit (.int .u8 21), .lit (.int .u8 19), .lit (.int .u8 16), .lit (.int .u8 7), .lit (.int .u8 26), .lit (.int .u8 12), .lit (.int .u8 18), .lit (.int .u8 6), .lit (.int .u8 11), .lit (.int .u8 5), .lit (.int .u8 10), .lit (.int .u8 9)]
def laid_math_bits_deBruijn64tab {H : Type} : DataW H := .agg [.lit (.int .u8 0), .lit (.int .u8 1), .lit (.int .u8 56), .lit (.int .u8 2), .lit (.int .u8 57), .lit (.int .u8 49), .lit (.int .u8 28), .lit (.int .u8 3), .lit (.int .u8 61), .lit (.int .u8 58), .lit (.int .u8 42), .lit (.int .u8 50), .lit (.int .u8 38), .lit (.int .u8 29), .lit (.int .u8 17), .lit (.int .u8 4), .lit (.int .u8 62), .lit (.int .u8 47), .lit (.int .u8 59), .lit (.int .u8 36), .lit (.int .u8 45), .lit (.int .u8 43), .lit (.int .u8 51), .lit (.int .u8 22), .lit (.int .u8 53), .lit (.int .u8 39), .lit (.int .u8 33), .lit (.int .u8 30), .lit (.int .u8 24), .lit (.int .u8 18), .lit (.int .u8 12), .lit (.int .u8 5), .lit (.int .u8 63), .lit (.int .u8 55), .lit (.int .u8 48), .lit (.int .u8 27), .lit (.int .u8 60), .lit (.int .u8 41), .lit (.int .u8 37), .lit (.int .u8 16), .lit (.int .u8 46), .lit (.int .u8 35), .lit (.int .u8 44), .lit (.int .u8 21), .lit (.int .u8 52), .lit (.int .u8 32), .lit (.int .u8 23), .lit (.int .u8 11), .lit (.int .u8 54), .lit (.int .u8 26), .lit (.int .u8 40), .lit (.int .u8 15), .lit (.int .u8 34), .lit (.int .u8 20), .lit (.int .u8 31), .lit (.int .u8 10), .lit (.int .u8 25), .lit (.int .u8 14), .lit (.int .u8 19), .lit (.int .u8 9), .lit (.int .u8 13), .lit (.int .u8 8), .lit (.int .u8 7), .lit (.int .u8 6)]
def laid_internal_strconv_uint64pow10 {H : Type} : DataW H := .agg [.lit (.int .u64 1), .lit (.int .u64 10), .lit (.int .u64 100), .lit (.int .u64 1000), .lit (.int .u64 10000), .lit (.int .u64 100000), .lit (.int .u64 1000000), .lit (.int .u64 10000000), .lit (.int .u64 100000000), .lit (.int .u64 1000000000), .lit (.int .u64 10000000000), .lit (.int .u64 100000000000), .lit (.int .u64 1000000000000), .lit (.int .u64 10000000000000), .lit (.int .u64 100000000000000), .lit (.int .u64 1000000000000000), .lit (.int .u64 10000000000000000), .lit (.int .u64 100000000000000000), .lit (.int .u64 1000000000000000000), .lit (.int .u64 10000000000000000000)]

/-- 'warpbeamlaw09.LinkAbove': WHATEVER THE INPUT: true; the input reads as it did. -/
def linkAboveSpec : ChangeSpec := { name := "linkAbove", fn := fun _ => fun
  | [d1, d2, d3] => { results := [.lit (.bool true)], args := [d1, d2, d3] }
  | _ => none }
def linkAboveRow : OpenClaim := { program := "ytooogbkaofmdaaadoor", sum := "e1f876d7a7255f3e7df128c8373599344c598fc1a91bc45f8b9b05caa398fc80", func := "warpbeam/warpbeamlaw09.LinkAbove", spec := "linkAbove", unfollowed := true, recurses := true, named := ["warpbeam/link.builtIn"], apart := false, laid := [("warpbeam/link.builtIn", laid_warpbeam_link_builtIn)] }
def LinkAboveSaid : Prop := linkAboveRow.holds Tryd.pinned (OpenSpec.ofChange linkAboveSpec)

/-- ITS FALSE NEIGHBOUR: 'it returns false'. Refute it at one input. -/
def linkAboveWrong : ChangeSpec := { name := "linkAbove", fn := fun _ => fun
  | [d1, d2, d3] => { results := [.lit (.bool false)], args := [d1, d2, d3] }
  | _ => none }
def LinkAboveWrongFalsely : Prop := linkAboveRow.holds Tryd.pinned (OpenSpec.ofChange linkAboveWrong)

/-- 'warpbeamlaw09.LinkOrder': WHATEVER THE INPUT: true; the input reads as it did. -/
def linkOrderSpec : ChangeSpec := { name := "linkOrder", fn := fun _ => fun
  | [d1, d2, d3] => { results := [.lit (.bool true)], args := [d1, d2, d3] }
  | _ => none }
def linkOrderRow : OpenClaim := { program := "ytooogbkaofmdaaadoor", sum := "e1f876d7a7255f3e7df128c8373599344c598fc1a91bc45f8b9b05caa398fc80", func := "warpbeam/warpbeamlaw09.LinkOrder", spec := "linkOrder", unfollowed := true, recurses := true, named := ["warpbeam/link.builtIn"], apart := false, laid := [("warpbeam/link.builtIn", laid_warpbeam_link_builtIn)] }
def LinkOrderSaid : Prop := linkOrderRow.holds Tryd.pinned (OpenSpec.ofChange linkOrderSpec)

/-- ITS FALSE NEIGHBOUR: 'it returns false'. Refute it at one input. -/
def linkOrderWrong : ChangeSpec := { name := "linkOrder", fn := fun _ => fun
  | [d1, d2, d3] => { results := [.lit (.bool false)], args := [d1, d2, d3] }
  | _ => none }
def LinkOrderWrongFalsely : Prop := linkOrderRow.holds Tryd.pinned (OpenSpec.ofChange linkOrderWrong)

/-- 'warpbeamlaw09.LinkCommon': WHATEVER THE INPUT: true; the input reads as it did. -/
def linkCommonSpec : ChangeSpec := { name := "linkCommon", fn := fun _ => fun
  | [d1, d2, d3] => { results := [.lit (.bool true)], args := [d1, d2, d3] }
  | _ => none }
def linkCommonRow : OpenClaim := { program := "ytooogbkaofmdaaadoor", sum := "e1f876d7a7255f3e7df128c8373599344c598fc1a91bc45f8b9b05caa398fc80", func := "warpbeam/warpbeamlaw09.LinkCommon", spec := "linkCommon", unfollowed := true, recurses := true, named := ["warpbeam/link.builtIn"], apart := false, laid := [("warpbeam/link.builtIn", laid_warpbeam_link_builtIn)] }
def LinkCommonSaid : Prop := linkCommonRow.holds Tryd.pinned (OpenSpec.ofChange linkCommonSpec)

/-- ITS FALSE NEIGHBOUR: 'it returns false'. Refute it at one input. -/
def linkCommonWrong : ChangeSpec := { name := "linkCommon", fn := fun _ => fun
  | [d1, d2, d3] => { results := [.lit (.bool false)], args := [d1, d2, d3] }
  | _ => none }
def LinkCommonWrongFalsely : Prop := linkCommonRow.holds Tryd.pinned (OpenSpec.ofChange linkCommonWrong)

/-- 'warpbeamlaw09.LinkTurned': WHATEVER THE INPUT: true; the input reads as it did. -/
def linkTurnedSpec : ChangeSpec := { name := "linkTurned", fn := fun _ => fun
  | [d] => { results := [.lit (.bool true)], args := [d] }
  | _ => none }
def linkTurnedRow : OpenClaim := { program := "ytooogbkaofmdaaadoor", sum := "e1f876d7a7255f3e7df128c8373599344c598fc1a91bc45f8b9b05caa398fc80", func := "warpbeam/warpbeamlaw09.LinkTurned", spec := "linkTurned", unfollowed := true, recurses := true, named := ["warpbeam/link.builtIn"], apart := false, laid := [("warpbeam/link.builtIn", laid_warpbeam_link_builtIn)] }
def LinkTurnedSaid : Prop := linkTurnedRow.holds Tryd.pinned (OpenSpec.ofChange linkTurnedSpec)

/-- ITS FALSE NEIGHBOUR: 'it returns false'. Refute it at one input. -/
def linkTurnedWrong : ChangeSpec := { name := "linkTurned", fn := fun _ => fun
  | [d] => { results := [.lit (.bool false)], args := [d] }
  | _ => none }
def LinkTurnedWrongFalsely : Prop := linkTurnedRow.holds Tryd.pinned (OpenSpec.ofChange linkTurnedWrong)

/-- 'warpbeamlaw09.LinkSteps': WHATEVER THE INPUT: true; the input reads as it did. -/
def linkStepsSpec : ChangeSpec := { name := "linkSteps", fn := fun _ => fun
  | [d1, d2, d3] => { results := [.lit (.bool true)], args := [d1, d2, d3] }
  | _ => none }
def linkStepsRow : OpenClaim := { program := "ytooogbkaofmdaaadoor", sum := "e1f876d7a7255f3e7df128c8373599344c598fc1a91bc45f8b9b05caa398fc80", func := "warpbeam/warpbeamlaw09.LinkSteps", spec := "linkSteps", unfollowed := true, recurses := true, named := ["warpbeam/link.builtIn"], apart := false, laid := [("warpbeam/link.builtIn", laid_warpbeam_link_builtIn)] }
def LinkStepsSaid : Prop := linkStepsRow.holds Tryd.pinned (OpenSpec.ofChange linkStepsSpec)

/-- ITS FALSE NEIGHBOUR: 'it returns false'. Refute it at one input. -/
def linkStepsWrong : ChangeSpec := { name := "linkSteps", fn := fun _ => fun
  | [d1, d2, d3] => { results := [.lit (.bool false)], args := [d1, d2, d3] }
  | _ => none }
def LinkStepsWrongFalsely : Prop := linkStepsRow.holds Tryd.pinned (OpenSpec.ofChange linkStepsWrong)

/-- 'warpbeamlaw09.LinkNumbers': WHATEVER THE INPUT: true; the input reads as it did. -/
def linkNumbersSpec : ChangeSpec := { name := "linkNumbers", fn := fun _ => fun
  | [d1, d2] => { results := [.lit (.bool true)], args := [d1, d2] }
  | _ => none }
def linkNumbersRow : OpenClaim := { program := "ytooogbkaofmdaaadoor", sum := "e1f876d7a7255f3e7df128c8373599344c598fc1a91bc45f8b9b05caa398fc80", func := "warpbeam/warpbeamlaw09.LinkNumbers", spec := "linkNumbers", unfollowed := true, recurses := true, named := ["warpbeam/link.builtIn"], apart := false, laid := [("warpbeam/link.builtIn", laid_warpbeam_link_builtIn)] }
def LinkNumbersSaid : Prop := linkNumbersRow.holds Tryd.pinned (OpenSpec.ofChange linkNumbersSpec)

/-- ITS FALSE NEIGHBOUR: 'it returns false'. Refute it at one input. -/
def linkNumbersWrong : ChangeSpec := { name := "linkNumbers", fn := fun _ => fun
  | [d1, d2] => { results := [.lit (.bool false)], args := [d1, d2] }
  | _ => none }
def LinkNumbersWrongFalsely : Prop := linkNumbersRow.holds Tryd.pinned (OpenSpec.ofChange linkNumbersWrong)

/-- 'warpbeamlaw09.LinkTypes': WHATEVER THE INPUT: true; the input reads as it did. -/
def linkTypesSpec : ChangeSpec := { name := "linkTypes", fn := fun _ => fun
  | [d1, d2, d3] => { results := [.lit (.bool true)], args := [d1, d2, d3] }
  | _ => none }
def linkTypesRow : OpenClaim := { program := "ytooogbkaofmdaaadoor", sum := "e1f876d7a7255f3e7df128c8373599344c598fc1a91bc45f8b9b05caa398fc80", func := "warpbeam/warpbeamlaw09.LinkTypes", spec := "linkTypes", unfollowed := true, recurses := true, named := ["warpbeam/link.builtIn"], apart := false, laid := [("warpbeam/link.builtIn", laid_warpbeam_link_builtIn)] }
def LinkTypesSaid : Prop := linkTypesRow.holds Tryd.pinned (OpenSpec.ofChange linkTypesSpec)

/-- ITS FALSE NEIGHBOUR: 'it returns false'. Refute it at one input. -/
def linkTypesWrong : ChangeSpec := { name := "linkTypes", fn := fun _ => fun
  | [d1, d2, d3] => { results := [.lit (.bool false)], args := [d1, d2, d3] }
  | _ => none }
def LinkTypesWrongFalsely : Prop := linkTypesRow.holds Tryd.pinned (OpenSpec.ofChange linkTypesWrong)

/-- 'warpbeamlaw09.LinkArrays': WHATEVER THE INPUT: true; the input reads as it did. -/
def linkArraysSpec : ChangeSpec := { name := "linkArrays", fn := fun _ => fun
  | [d1, d2, d3] => { results := [.lit (.bool true)], args := [d1, d2, d3] }
  | _ => none }
def linkArraysRow : OpenClaim := { program := "ytooogbkaofmdaaadoor", sum := "e1f876d7a7255f3e7df128c8373599344c598fc1a91bc45f8b9b05caa398fc80", func := "warpbeam/warpbeamlaw09.LinkArrays", spec := "linkArrays", unfollowed := true, recurses := true, named := ["warpbeam/link.builtIn"], apart := false, laid := [("warpbeam/link.builtIn", laid_warpbeam_link_builtIn)] }
def LinkArraysSaid : Prop := linkArraysRow.holds Tryd.pinned (OpenSpec.ofChange linkArraysSpec)

/-- ITS FALSE NEIGHBOUR: 'it returns false'. Refute it at one input. -/
def linkArraysWrong : ChangeSpec := { name := "linkArrays", fn := fun _ => fun
  | [d1, d2, d3] => { results := [.lit (.bool false)], args := [d1, d2, d3] }
  | _ => none }
def LinkArraysWrongFalsely : Prop := linkArraysRow.holds Tryd.pinned (OpenSpec.ofChange linkArraysWrong)

/-- 'warpbeamlaw09.LinkKnown': WHATEVER THE INPUT: true; the input reads as it did. -/
def linkKnownSpec : ChangeSpec := { name := "linkKnown", fn := fun _ => fun
  | [] => { results := [.lit (.bool true)], args := [] }
  | _ => none }
def linkKnownRow : OpenClaim := { program := "ytooogbkaofmdaaadoor", sum := "e1f876d7a7255f3e7df128c8373599344c598fc1a91bc45f8b9b05caa398fc80", func := "warpbeam/warpbeamlaw09.LinkKnown", spec := "linkKnown", unfollowed := true, recurses := true, named := ["warpbeam/link.builtIn", "internal/strconv.uint64pow10", "math/bits.deBruijn32tab", "math/bits.deBruijn64tab"], apart := false, laid := [("math/bits.deBruijn32tab", laid_math_bits_deBruijn32tab), ("math/bits.deBruijn64tab", laid_math_bits_deBruijn64tab), ("internal/strconv.uint64pow10", laid_internal_strconv_uint64pow10), ("warpbeam/link.builtIn", laid_warpbeam_link_builtIn)] }
def LinkKnownSaid : Prop := linkKnownRow.holds Tryd.pinned (OpenSpec.ofChange linkKnownSpec)

/-- ITS FALSE NEIGHBOUR: 'it returns false'. Refute it at one input. -/
def linkKnownWrong : ChangeSpec := { name := "linkKnown", fn := fun _ => fun
  | [] => { results := [.lit (.bool false)], args := [] }
  | _ => none }
def LinkKnownWrongFalsely : Prop := linkKnownRow.holds Tryd.pinned (OpenSpec.ofChange linkKnownWrong)

/- THE SECOND FORM. 'bulk': how many values and letters a reading holds, each counted each time it is reached (what is shared counts as often as it is met; a slice's spare places count too). A statement '..UptoSaid' is the law's where the arguments, and the package variables that the reading takes, are together of bulk at most 1048576: NARROWER than '..Said'. Prove '..Said' where nothing that the law and all that it calls make is longer than what came in: it says more and counts as full. Else prove '..UptoSaid'. A law counts once. -/
mutual
def uptoBulk {H : Type} : DataW H → Nat
  | .lit (.string bytes) => bytes.length + 1
  | .lit _ => 1
  | .nil => 1
  | .ptr d => uptoBulk d + 1
  | .slice elems spare => uptoBulkAll elems + uptoBulkAll spare + 1
  | .agg parts => uptoBulkAll parts + 1
  | .iface _ d => uptoBulk d + 1
  | .map entries => uptoBulkEntries entries + 1
  | .held _ => 1
def uptoBulkAll {H : Type} : List (DataW H) → Nat
  | [] => 0
  | d :: r => uptoBulk d + uptoBulkAll r
def uptoBulkEntries {H : Type} : List (Lit × DataW H) → Nat
  | [] => 0
  | x :: r => uptoBulkEntry x + uptoBulkEntries r
def uptoBulkEntry {H : Type} : Lit × DataW H → Nat
  | (.string bytes, d) => bytes.length + uptoBulk d + 1
  | (_, d) => uptoBulk d + 1
 end
def uptoSmall : (H : Type) → List (DataW H) → Bool := fun _ ds => decide (uptoBulkAll ds ≤ 1048576)
def OpenSpec.upto (s : _root_.Go.ChangeSpec) : _root_.Go.OpenSpec := { _root_.Go.OpenSpec.ofChange s with cond := some uptoSmall }

/-- 'warpbeamlaw09.LinkAbove', WHERE WHAT IT READS IS OF BULK AT MOST 1048576: true; the input reads as it did. -/
def linkAboveUptoRow : OpenClaim := { program := "ytooogbkaofmdaaadoor", sum := "e1f876d7a7255f3e7df128c8373599344c598fc1a91bc45f8b9b05caa398fc80", func := "warpbeam/warpbeamlaw09.LinkAbove", spec := "linkAbove", unfollowed := true, recurses := true, named := ["warpbeam/link.builtIn"], apart := false, laid := [("warpbeam/link.builtIn", laid_warpbeam_link_builtIn)], narrowed := true }
def LinkAboveUptoSaid : Prop := linkAboveUptoRow.holds Tryd.pinned (OpenSpec.upto linkAboveSpec)

/-- 'warpbeamlaw09.LinkOrder', WHERE WHAT IT READS IS OF BULK AT MOST 1048576: true; the input reads as it did. -/
def linkOrderUptoRow : OpenClaim := { program := "ytooogbkaofmdaaadoor", sum := "e1f876d7a7255f3e7df128c8373599344c598fc1a91bc45f8b9b05caa398fc80", func := "warpbeam/warpbeamlaw09.LinkOrder", spec := "linkOrder", unfollowed := true, recurses := true, named := ["warpbeam/link.builtIn"], apart := false, laid := [("warpbeam/link.builtIn", laid_warpbeam_link_builtIn)], narrowed := true }
def LinkOrderUptoSaid : Prop := linkOrderUptoRow.holds Tryd.pinned (OpenSpec.upto linkOrderSpec)

/-- 'warpbeamlaw09.LinkCommon', WHERE WHAT IT READS IS OF BULK AT MOST 1048576: true; the input reads as it did. -/
def linkCommonUptoRow : OpenClaim := { program := "ytooogbkaofmdaaadoor", sum := "e1f876d7a7255f3e7df128c8373599344c598fc1a91bc45f8b9b05caa398fc80", func := "warpbeam/warpbeamlaw09.LinkCommon", spec := "linkCommon", unfollowed := true, recurses := true, named := ["warpbeam/link.builtIn"], apart := false, laid := [("warpbeam/link.builtIn", laid_warpbeam_link_builtIn)], narrowed := true }
def LinkCommonUptoSaid : Prop := linkCommonUptoRow.holds Tryd.pinned (OpenSpec.upto linkCommonSpec)

/-- 'warpbeamlaw09.LinkTurned', WHERE WHAT IT READS IS OF BULK AT MOST 1048576: true; the input reads as it did. -/
def linkTurnedUptoRow : OpenClaim := { program := "ytooogbkaofmdaaadoor", sum := "e1f876d7a7255f3e7df128c8373599344c598fc1a91bc45f8b9b05caa398fc80", func := "warpbeam/warpbeamlaw09.LinkTurned", spec := "linkTurned", unfollowed := true, recurses := true, named := ["warpbeam/link.builtIn"], apart := false, laid := [("warpbeam/link.builtIn", laid_warpbeam_link_builtIn)], narrowed := true }
def LinkTurnedUptoSaid : Prop := linkTurnedUptoRow.holds Tryd.pinned (OpenSpec.upto linkTurnedSpec)

/-- 'warpbeamlaw09.LinkSteps', WHERE WHAT IT READS IS OF BULK AT MOST 1048576: true; the input reads as it did. -/
def linkStepsUptoRow : OpenClaim := { program := "ytooogbkaofmdaaadoor", sum := "e1f876d7a7255f3e7df128c8373599344c598fc1a91bc45f8b9b05caa398fc80", func := "warpbeam/warpbeamlaw09.LinkSteps", spec := "linkSteps", unfollowed := true, recurses := true, named := ["warpbeam/link.builtIn"], apart := false, laid := [("warpbeam/link.builtIn", laid_warpbeam_link_builtIn)], narrowed := true }
def LinkStepsUptoSaid : Prop := linkStepsUptoRow.holds Tryd.pinned (OpenSpec.upto linkStepsSpec)

/-- 'warpbeamlaw09.LinkNumbers', WHERE WHAT IT READS IS OF BULK AT MOST 1048576: true; the input reads as it did. -/
def linkNumbersUptoRow : OpenClaim := { program := "ytooogbkaofmdaaadoor", sum := "e1f876d7a7255f3e7df128c8373599344c598fc1a91bc45f8b9b05caa398fc80", func := "warpbeam/warpbeamlaw09.LinkNumbers", spec := "linkNumbers", unfollowed := true, recurses := true, named := ["warpbeam/link.builtIn"], apart := false, laid := [("warpbeam/link.builtIn", laid_warpbeam_link_builtIn)], narrowed := true }
def LinkNumbersUptoSaid : Prop := linkNumbersUptoRow.holds Tryd.pinned (OpenSpec.upto linkNumbersSpec)

/-- 'warpbeamlaw09.LinkTypes', WHERE WHAT IT READS IS OF BULK AT MOST 1048576: true; the input reads as it did. -/
def linkTypesUptoRow : OpenClaim := { program := "ytooogbkaofmdaaadoor", sum := "e1f876d7a7255f3e7df128c8373599344c598fc1a91bc45f8b9b05caa398fc80", func := "warpbeam/warpbeamlaw09.LinkTypes", spec := "linkTypes", unfollowed := true, recurses := true, named := ["warpbeam/link.builtIn"], apart := false, laid := [("warpbeam/link.builtIn", laid_warpbeam_link_builtIn)], narrowed := true }
def LinkTypesUptoSaid : Prop := linkTypesUptoRow.holds Tryd.pinned (OpenSpec.upto linkTypesSpec)

/-- 'warpbeamlaw09.LinkArrays', WHERE WHAT IT READS IS OF BULK AT MOST 1048576: true; the input reads as it did. -/
def linkArraysUptoRow : OpenClaim := { program := "ytooogbkaofmdaaadoor", sum := "e1f876d7a7255f3e7df128c8373599344c598fc1a91bc45f8b9b05caa398fc80", func := "warpbeam/warpbeamlaw09.LinkArrays", spec := "linkArrays", unfollowed := true, recurses := true, named := ["warpbeam/link.builtIn"], apart := false, laid := [("warpbeam/link.builtIn", laid_warpbeam_link_builtIn)], narrowed := true }
def LinkArraysUptoSaid : Prop := linkArraysUptoRow.holds Tryd.pinned (OpenSpec.upto linkArraysSpec)

/-- 'warpbeamlaw09.LinkKnown', WHERE WHAT IT READS IS OF BULK AT MOST 1048576: true; the input reads as it did. -/
def linkKnownUptoRow : OpenClaim := { program := "ytooogbkaofmdaaadoor", sum := "e1f876d7a7255f3e7df128c8373599344c598fc1a91bc45f8b9b05caa398fc80", func := "warpbeam/warpbeamlaw09.LinkKnown", spec := "linkKnown", unfollowed := true, recurses := true, named := ["warpbeam/link.builtIn", "internal/strconv.uint64pow10", "math/bits.deBruijn32tab", "math/bits.deBruijn64tab"], apart := false, laid := [("math/bits.deBruijn32tab", laid_math_bits_deBruijn32tab), ("math/bits.deBruijn64tab", laid_math_bits_deBruijn64tab), ("internal/strconv.uint64pow10", laid_internal_strconv_uint64pow10), ("warpbeam/link.builtIn", laid_warpbeam_link_builtIn)], narrowed := true }
def LinkKnownUptoSaid : Prop := linkKnownUptoRow.holds Tryd.pinned (OpenSpec.upto linkKnownSpec)

end Rows
end Go.Proofs.YtooogbkaofmdaaaDoor
