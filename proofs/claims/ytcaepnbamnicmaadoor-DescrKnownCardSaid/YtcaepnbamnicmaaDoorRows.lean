/-
  NARROWER THAN 'FOR EVERY INPUT', by the rows' own cells (each row's printed sentence says how): DescrReads: laid · DescrAgain: laid · DescrNames: laid · DescrApart: laid · DescrProtos: laid · DescrBack: laid · DescrTypes: laid · DescrOver: laid · DescrKnown: laid.
  DERIVED. THE GIVEN ROWS OF THIS SEAT. 9 by the template 'for every input the law returns true; each argument reads behind the call as it read before'; 0 by the template 'total and deterministic' (their statements: YtcaepnbamnicmaaDoorTotals.lean).
  GIVEN WITH THE SEED: the statements are not yours to turn. If you find one false, say at which input.
  Laid BY PROGRAM, IN A SANDBOX (cutbox-rows.mjs): the forced cells as the released guide's own fill.sh prints them over the translation 031f25bd5552885d… (all of the seat's roots in one cut). By AI agents, Wed Nov 11 2026. No macro, syntax, notation, axiom, sorry.
-/
import Derived.Test.YtcaepnbamnicmaaDoorChecked
import GoSem.Claim
import GoSem.ClaimJoined
import GoSem.ClaimMapViews
import Derived.JoinedTies
import Derived.KernelRfl
namespace Go.Proofs.YtcaepnbamnicmaaDoor
/- THE CELL 'sum', in the pinned program and in every row, IS THE sha256 OF THE DUMP (.gsa) THAT YtcaepnbamnicmaaDoorProg.lean LOADS. Nothing in Lean hashes anything: it is a label: what it is worth is what the hold of that sum in a sandbox is worth. -/
noncomputable def Tryd.pinned : Pinned := { name := "ytcaepnbamnicmaadoor", sum := "031f25bd5552885d8070b0066e6b96f63018b1d01c399f57ef873ab5329664e8", checked := Tryd.checked }
namespace Rows
def none {H : Type} : Left H := { results := [], args := [] }

/- WHAT THE LISTED PACKAGE-LEVEL VARIABLES READ AS WHEN THE CALL BEGINS. Each datum BY PROGRAM (the guide's laid-datum.mjs) off the statement by which the dump's own 'gosem.cut.vars' lays the variable. In a bare row this is a premise. The card (YtcaepnbamnicmaaDoorCards.lean) ties it to the program's text. -/
def laid_warpbeam_descr_signs {H : Type} : DataW H := .agg [.agg [.lit (.int .i64 1), .lit (.string [73]), .lit (.string []), .lit (.bool false), .lit (.int .i64 1), .lit (.int .i64 1)], .agg [.lit (.int .i64 2), .lit (.string [74]), .lit (.string []), .lit (.bool false), .lit (.int .i64 2), .lit (.int .i64 2)], .agg [.lit (.int .i64 3), .lit (.string [76]), .lit (.string [59]), .lit (.bool true), .lit (.int .i64 1), .lit (.int .i64 3)], .agg [.lit (.int .i64 4), .lit (.string [91, 73]), .lit (.string []), .lit (.bool false), .lit (.int .i64 1), .lit (.int .i64 3)], .agg [.lit (.int .i64 5), .lit (.string [91, 74]), .lit (.string []), .lit (.bool false), .lit (.int .i64 1), .lit (.int .i64 3)], .agg [.lit (.int .i64 6), .lit (.string [91, 76]), .lit (.string [59]), .lit (.bool true), .lit (.int .i64 1), .lit (.int .i64 3)]]

/-- 'warpbeamlaw05.DescrReads': WHATEVER THE INPUT: true; the input reads as it did. -/
def descrReadsSpec : ChangeSpec := { name := "descrReads", fn := fun _ => fun
  | [d] => { results := [.lit (.bool true)], args := [d] }
  | _ => none }
def descrReadsRow : OpenClaim := { program := "ytcaepnbamnicmaadoor", sum := "031f25bd5552885d8070b0066e6b96f63018b1d01c399f57ef873ab5329664e8", func := "warpbeam/warpbeamlaw05.DescrReads", spec := "descrReads", inPlace := ["internal/bytealg.IndexByteString", "internal/bytealg.IndexString", "internal/abi.NoEscape"], named := ["warpbeam/descr.signs", "internal/bytealg.MaxLen"], apart := false, laid := [("warpbeam/descr.signs", laid_warpbeam_descr_signs)] }
def DescrReadsSaid : Prop := descrReadsRow.holds Tryd.pinned (OpenSpec.ofChange descrReadsSpec)

/-- ITS FALSE NEIGHBOUR: 'it returns false'. Refute it at one input. -/
def descrReadsWrong : ChangeSpec := { name := "descrReads", fn := fun _ => fun
  | [d] => { results := [.lit (.bool false)], args := [d] }
  | _ => none }
def DescrReadsWrongFalsely : Prop := descrReadsRow.holds Tryd.pinned (OpenSpec.ofChange descrReadsWrong)

/-- 'warpbeamlaw05.DescrAgain': WHATEVER THE INPUT: true; the input reads as it did. -/
def descrAgainSpec : ChangeSpec := { name := "descrAgain", fn := fun _ => fun
  | [d] => { results := [.lit (.bool true)], args := [d] }
  | _ => none }
def descrAgainRow : OpenClaim := { program := "ytcaepnbamnicmaadoor", sum := "031f25bd5552885d8070b0066e6b96f63018b1d01c399f57ef873ab5329664e8", func := "warpbeam/warpbeamlaw05.DescrAgain", spec := "descrAgain", inPlace := ["internal/bytealg.IndexByteString", "internal/bytealg.IndexString", "internal/abi.NoEscape"], named := ["warpbeam/descr.signs", "internal/bytealg.MaxLen"], apart := false, laid := [("warpbeam/descr.signs", laid_warpbeam_descr_signs)] }
def DescrAgainSaid : Prop := descrAgainRow.holds Tryd.pinned (OpenSpec.ofChange descrAgainSpec)

/-- ITS FALSE NEIGHBOUR: 'it returns false'. Refute it at one input. -/
def descrAgainWrong : ChangeSpec := { name := "descrAgain", fn := fun _ => fun
  | [d] => { results := [.lit (.bool false)], args := [d] }
  | _ => none }
def DescrAgainWrongFalsely : Prop := descrAgainRow.holds Tryd.pinned (OpenSpec.ofChange descrAgainWrong)

/-- 'warpbeamlaw05.DescrNames': WHATEVER THE INPUT: true; the input reads as it did. -/
def descrNamesSpec : ChangeSpec := { name := "descrNames", fn := fun _ => fun
  | [d] => { results := [.lit (.bool true)], args := [d] }
  | _ => none }
def descrNamesRow : OpenClaim := { program := "ytcaepnbamnicmaadoor", sum := "031f25bd5552885d8070b0066e6b96f63018b1d01c399f57ef873ab5329664e8", func := "warpbeam/warpbeamlaw05.DescrNames", spec := "descrNames", inPlace := ["internal/bytealg.IndexByteString", "internal/bytealg.IndexString", "internal/abi.NoEscape"], named := ["warpbeam/descr.signs", "internal/bytealg.MaxLen"], apart := false, laid := [("warpbeam/descr.signs", laid_warpbeam_descr_signs)] }
def DescrNamesSaid : Prop := descrNamesRow.holds Tryd.pinned (OpenSpec.ofChange descrNamesSpec)

/-- ITS FALSE NEIGHBOUR: 'it returns false'. Refute it at one input. -/
def descrNamesWrong : ChangeSpec := { name := "descrNames", fn := fun _ => fun
  | [d] => { results := [.lit (.bool false)], args := [d] }
  | _ => none }
def DescrNamesWrongFalsely : Prop := descrNamesRow.holds Tryd.pinned (OpenSpec.ofChange descrNamesWrong)

/-- 'warpbeamlaw05.DescrApart': WHATEVER THE INPUT: true; the input reads as it did. -/
def descrApartSpec : ChangeSpec := { name := "descrApart", fn := fun _ => fun
  | [d] => { results := [.lit (.bool true)], args := [d] }
  | _ => none }
def descrApartRow : OpenClaim := { program := "ytcaepnbamnicmaadoor", sum := "031f25bd5552885d8070b0066e6b96f63018b1d01c399f57ef873ab5329664e8", func := "warpbeam/warpbeamlaw05.DescrApart", spec := "descrApart", inPlace := ["internal/bytealg.IndexByteString", "internal/bytealg.IndexString", "internal/abi.NoEscape"], named := ["warpbeam/descr.signs", "internal/bytealg.MaxLen"], apart := false, laid := [("warpbeam/descr.signs", laid_warpbeam_descr_signs)] }
def DescrApartSaid : Prop := descrApartRow.holds Tryd.pinned (OpenSpec.ofChange descrApartSpec)

/-- ITS FALSE NEIGHBOUR: 'it returns false'. Refute it at one input. -/
def descrApartWrong : ChangeSpec := { name := "descrApart", fn := fun _ => fun
  | [d] => { results := [.lit (.bool false)], args := [d] }
  | _ => none }
def DescrApartWrongFalsely : Prop := descrApartRow.holds Tryd.pinned (OpenSpec.ofChange descrApartWrong)

/-- 'warpbeamlaw05.DescrProtos': WHATEVER THE INPUT: true; the input reads as it did. -/
def descrProtosSpec : ChangeSpec := { name := "descrProtos", fn := fun _ => fun
  | [d1, d2] => { results := [.lit (.bool true)], args := [d1, d2] }
  | _ => none }
def descrProtosRow : OpenClaim := { program := "ytcaepnbamnicmaadoor", sum := "031f25bd5552885d8070b0066e6b96f63018b1d01c399f57ef873ab5329664e8", func := "warpbeam/warpbeamlaw05.DescrProtos", spec := "descrProtos", inPlace := ["internal/bytealg.IndexByteString", "internal/bytealg.IndexString", "internal/abi.NoEscape"], named := ["warpbeam/descr.signs", "internal/bytealg.MaxLen"], apart := false, laid := [("warpbeam/descr.signs", laid_warpbeam_descr_signs)] }
def DescrProtosSaid : Prop := descrProtosRow.holds Tryd.pinned (OpenSpec.ofChange descrProtosSpec)

/-- ITS FALSE NEIGHBOUR: 'it returns false'. Refute it at one input. -/
def descrProtosWrong : ChangeSpec := { name := "descrProtos", fn := fun _ => fun
  | [d1, d2] => { results := [.lit (.bool false)], args := [d1, d2] }
  | _ => none }
def DescrProtosWrongFalsely : Prop := descrProtosRow.holds Tryd.pinned (OpenSpec.ofChange descrProtosWrong)

/-- 'warpbeamlaw05.DescrBack': WHATEVER THE INPUT: true; the input reads as it did. -/
def descrBackSpec : ChangeSpec := { name := "descrBack", fn := fun _ => fun
  | [d] => { results := [.lit (.bool true)], args := [d] }
  | _ => none }
def descrBackRow : OpenClaim := { program := "ytcaepnbamnicmaadoor", sum := "031f25bd5552885d8070b0066e6b96f63018b1d01c399f57ef873ab5329664e8", func := "warpbeam/warpbeamlaw05.DescrBack", spec := "descrBack", inPlace := ["internal/bytealg.IndexByteString", "internal/bytealg.IndexString", "internal/abi.NoEscape"], named := ["warpbeam/descr.signs", "internal/bytealg.MaxLen"], apart := false, laid := [("warpbeam/descr.signs", laid_warpbeam_descr_signs)] }
def DescrBackSaid : Prop := descrBackRow.holds Tryd.pinned (OpenSpec.ofChange descrBackSpec)

/-- ITS FALSE NEIGHBOUR: 'it returns false'. Refute it at one input. -/
def descrBackWrong : ChangeSpec := { name := "descrBack", fn := fun _ => fun
  | [d] => { results := [.lit (.bool false)], args := [d] }
  | _ => none }
def DescrBackWrongFalsely : Prop := descrBackRow.holds Tryd.pinned (OpenSpec.ofChange descrBackWrong)

/-- 'warpbeamlaw05.DescrTypes': WHATEVER THE INPUT: true; the input reads as it did. -/
def descrTypesSpec : ChangeSpec := { name := "descrTypes", fn := fun _ => fun
  | [d] => { results := [.lit (.bool true)], args := [d] }
  | _ => none }
def descrTypesRow : OpenClaim := { program := "ytcaepnbamnicmaadoor", sum := "031f25bd5552885d8070b0066e6b96f63018b1d01c399f57ef873ab5329664e8", func := "warpbeam/warpbeamlaw05.DescrTypes", spec := "descrTypes", inPlace := ["internal/bytealg.IndexByteString", "internal/bytealg.IndexString", "internal/abi.NoEscape"], named := ["warpbeam/descr.signs", "internal/bytealg.MaxLen"], apart := false, laid := [("warpbeam/descr.signs", laid_warpbeam_descr_signs)] }
def DescrTypesSaid : Prop := descrTypesRow.holds Tryd.pinned (OpenSpec.ofChange descrTypesSpec)

/-- ITS FALSE NEIGHBOUR: 'it returns false'. Refute it at one input. -/
def descrTypesWrong : ChangeSpec := { name := "descrTypes", fn := fun _ => fun
  | [d] => { results := [.lit (.bool false)], args := [d] }
  | _ => none }
def DescrTypesWrongFalsely : Prop := descrTypesRow.holds Tryd.pinned (OpenSpec.ofChange descrTypesWrong)

/-- 'warpbeamlaw05.DescrOver': WHATEVER THE INPUT: true; the input reads as it did. -/
def descrOverSpec : ChangeSpec := { name := "descrOver", fn := fun _ => fun
  | [d] => { results := [.lit (.bool true)], args := [d] }
  | _ => none }
def descrOverRow : OpenClaim := { program := "ytcaepnbamnicmaadoor", sum := "031f25bd5552885d8070b0066e6b96f63018b1d01c399f57ef873ab5329664e8", func := "warpbeam/warpbeamlaw05.DescrOver", spec := "descrOver", inPlace := ["internal/bytealg.IndexByteString", "internal/bytealg.IndexString", "internal/abi.NoEscape"], named := ["warpbeam/descr.signs", "internal/bytealg.MaxLen"], apart := false, laid := [("warpbeam/descr.signs", laid_warpbeam_descr_signs)] }
def DescrOverSaid : Prop := descrOverRow.holds Tryd.pinned (OpenSpec.ofChange descrOverSpec)

/-- ITS FALSE NEIGHBOUR: 'it returns false'. Refute it at one input. -/
def descrOverWrong : ChangeSpec := { name := "descrOver", fn := fun _ => fun
  | [d] => { results := [.lit (.bool false)], args := [d] }
  | _ => none }
def DescrOverWrongFalsely : Prop := descrOverRow.holds Tryd.pinned (OpenSpec.ofChange descrOverWrong)

/-- 'warpbeamlaw05.DescrKnown': WHATEVER THE INPUT: true; the input reads as it did. -/
def descrKnownSpec : ChangeSpec := { name := "descrKnown", fn := fun _ => fun
  | [] => { results := [.lit (.bool true)], args := [] }
  | _ => none }
def descrKnownRow : OpenClaim := { program := "ytcaepnbamnicmaadoor", sum := "031f25bd5552885d8070b0066e6b96f63018b1d01c399f57ef873ab5329664e8", func := "warpbeam/warpbeamlaw05.DescrKnown", spec := "descrKnown", inPlace := ["internal/abi.NoEscape", "internal/bytealg.MakeNoZero", "internal/bytealg.IndexByteString", "internal/bytealg.IndexString"], named := ["warpbeam/descr.signs", "internal/bytealg.MaxLen"], apart := false, laid := [("warpbeam/descr.signs", laid_warpbeam_descr_signs)] }
def DescrKnownSaid : Prop := descrKnownRow.holds Tryd.pinned (OpenSpec.ofChange descrKnownSpec)

/-- ITS FALSE NEIGHBOUR: 'it returns false'. Refute it at one input. -/
def descrKnownWrong : ChangeSpec := { name := "descrKnown", fn := fun _ => fun
  | [] => { results := [.lit (.bool false)], args := [] }
  | _ => none }
def DescrKnownWrongFalsely : Prop := descrKnownRow.holds Tryd.pinned (OpenSpec.ofChange descrKnownWrong)

/- THE SECOND FORM. 'bulk': how many values and letters a reading holds, each counted each time it is reached (what is shared counts as often as it is met; a slice's spare places count too). A statement '..UptoSaid' is the law's where the arguments, and the package variables that the reading takes, are together of bulk at most 1048576: NARROWER than '..Said'. Prove '..Said' where nothing that the law and all that it calls make is longer than what came in: it says more and counts as full. Else prove '..UptoSaid'. A law counts once. -/
mutual
def uptoBulk {H : Type} : DataW H → Nat
  | .lit (.string bytes) => bytes.length + 1
  | .lit _ => 1
  | .nil => 1
  | .ptr d => uptoBulk d + 1
  | .slice elems spare => uptoBulkAll elems + uptoBulkAll spare + 1
  | .agg parts => uptoBulkAll parts + 1
  | .iface _ d => uptoBulk d + 1
  | .map entries => uptoBulkEntries entries + 1
  | .held _ => 1
def uptoBulkAll {H : Type} : List (DataW H) → Nat
  | [] => 0
  | d :: r => uptoBulk d + uptoBulkAll r
def uptoBulkEntries {H : Type} : List (Lit × DataW H) → Nat
  | [] => 0
  | x :: r => uptoBulkEntry x + uptoBulkEntries r
def uptoBulkEntry {H : Type} : Lit × DataW H → Nat
  | (.string bytes, d) => bytes.length + uptoBulk d + 1
  | (_, d) => uptoBulk d + 1
 end
def uptoSmall : (H : Type) → List (DataW H) → Bool := fun _ ds => decide (uptoBulkAll ds ≤ 1048576)
def OpenSpec.upto (s : _root_.Go.ChangeSpec) : _root_.Go.OpenSpec := { _root_.Go.OpenSpec.ofChange s with cond := some uptoSmall }

/-- 'warpbeamlaw05.DescrReads', WHERE WHAT IT READS IS OF BULK AT MOST 1048576: true; the input reads as it did. -/
def descrReadsUptoRow : OpenClaim := { program := "ytcaepnbamnicmaadoor", sum := "031f25bd5552885d8070b0066e6b96f63018b1d01c399f57ef873ab5329664e8", func := "warpbeam/warpbeamlaw05.DescrReads", spec := "descrReads", inPlace := ["internal/bytealg.IndexByteString", "internal/bytealg.IndexString", "internal/abi.NoEscape"], named := ["warpbeam/descr.signs", "internal/bytealg.MaxLen"], apart := false, laid := [("warpbeam/descr.signs", laid_warpbeam_descr_signs)], narrowed := true }
def DescrReadsUptoSaid : Prop := descrReadsUptoRow.holds Tryd.pinned (OpenSpec.upto descrReadsSpec)

/-- 'warpbeamlaw05.DescrAgain', WHERE WHAT IT READS IS OF BULK AT MOST 1048576: true; the input reads as it did. -/
def descrAgainUptoRow : OpenClaim := { program := "ytcaepnbamnicmaadoor", sum := "031f25bd5552885d8070b0066e6b96f63018b1d01c399f57ef873ab5329664e8", func := "warpbeam/warpbeamlaw05.DescrAgain", spec := "descrAgain", inPlace := ["internal/bytealg.IndexByteString", "internal/bytealg.IndexString", "internal/abi.NoEscape"], named := ["warpbeam/descr.signs", "internal/bytealg.MaxLen"], apart := false, laid := [("warpbeam/descr.signs", laid_warpbeam_descr_signs)], narrowed := true }
def DescrAgainUptoSaid : Prop := descrAgainUptoRow.holds Tryd.pinned (OpenSpec.upto descrAgainSpec)

/-- 'warpbeamlaw05.DescrNames', WHERE WHAT IT READS IS OF BULK AT MOST 1048576: true; the input reads as it did. -/
def descrNamesUptoRow : OpenClaim := { program := "ytcaepnbamnicmaadoor", sum := "031f25bd5552885d8070b0066e6b96f63018b1d01c399f57ef873ab5329664e8", func := "warpbeam/warpbeamlaw05.DescrNames", spec := "descrNames", inPlace := ["internal/bytealg.IndexByteString", "internal/bytealg.IndexString", "internal/abi.NoEscape"], named := ["warpbeam/descr.signs", "internal/bytealg.MaxLen"], apart := false, laid := [("warpbeam/descr.signs", laid_warpbeam_descr_signs)], narrowed := true }
def DescrNamesUptoSaid : Prop := descrNamesUptoRow.holds Tryd.pinned (OpenSpec.upto descrNamesSpec)

/-- 'warpbeamlaw05.DescrApart', WHERE WHAT IT READS IS OF BULK AT MOST 1048576: true; the input reads as it did. -/
def descrApartUptoRow : OpenClaim := { program := "ytcaepnbamnicmaadoor", sum := "031f25bd5552885d8070b0066e6b96f63018b1d01c399f57ef873ab5329664e8", func := "warpbeam/warpbeamlaw05.DescrApart", spec := "descrApart", inPlace := ["internal/bytealg.IndexByteString", "internal/bytealg.IndexString", "internal/abi.NoEscape"], named := ["warpbeam/descr.signs", "internal/bytealg.MaxLen"], apart := false, laid := [("warpbeam/descr.signs", laid_warpbeam_descr_signs)], narrowed := true }
def DescrApartUptoSaid : Prop := descrApartUptoRow.holds Tryd.pinned (OpenSpec.upto descrApartSpec)

/-- 'warpbeamlaw05.DescrProtos', WHERE WHAT IT READS IS OF BULK AT MOST 1048576: true; the input reads as it did. -/
def descrProtosUptoRow : OpenClaim := { program := "ytcaepnbamnicmaadoor", sum := "031f25bd5552885d8070b0066e6b96f63018b1d01c399f57ef873ab5329664e8", func := "warpbeam/warpbeamlaw05.DescrProtos", spec := "descrProtos", inPlace := ["internal/bytealg.IndexByteString", "internal/bytealg.IndexString", "internal/abi.NoEscape"], named := ["warpbeam/descr.signs", "internal/bytealg.MaxLen"], apart := false, laid := [("warpbeam/descr.signs", laid_warpbeam_descr_signs)], narrowed := true }
def DescrProtosUptoSaid : Prop := descrProtosUptoRow.holds Tryd.pinned (OpenSpec.upto descrProtosSpec)

/-- 'warpbeamlaw05.DescrBack', WHERE WHAT IT READS IS OF BULK AT MOST 1048576: true; the input reads as it did. -/
def descrBackUptoRow : OpenClaim := { program := "ytcaepnbamnicmaadoor", sum := "031f25bd5552885d8070b0066e6b96f63018b1d01c399f57ef873ab5329664e8", func := "warpbeam/warpbeamlaw05.DescrBack", spec := "descrBack", inPlace := ["internal/bytealg.IndexByteString", "internal/bytealg.IndexString", "internal/abi.NoEscape"], named := ["warpbeam/descr.signs", "internal/bytealg.MaxLen"], apart := false, laid := [("warpbeam/descr.signs", laid_warpbeam_descr_signs)], narrowed := true }
def DescrBackUptoSaid : Prop := descrBackUptoRow.holds Tryd.pinned (OpenSpec.upto descrBackSpec)

/-- 'warpbeamlaw05.DescrTypes', WHERE WHAT IT READS IS OF BULK AT MOST 1048576: true; the input reads as it did. -/
def descrTypesUptoRow : OpenClaim := { program := "ytcaepnbamnicmaadoor", sum := "031f25bd5552885d8070b0066e6b96f63018b1d01c399f57ef873ab5329664e8", func := "warpbeam/warpbeamlaw05.DescrTypes", spec := "descrTypes", inPlace := ["internal/bytealg.IndexByteString", "internal/bytealg.IndexString", "internal/abi.NoEscape"], named := ["warpbeam/descr.signs", "internal/bytealg.MaxLen"], apart := false, laid := [("warpbeam/descr.signs", laid_warpbeam_descr_signs)], narrowed := true }
def DescrTypesUptoSaid : Prop := descrTypesUptoRow.holds Tryd.pinned (OpenSpec.upto descrTypesSpec)

/-- 'warpbeamlaw05.DescrOver', WHERE WHAT IT READS IS OF BULK AT MOST 1048576: true; the input reads as it did. -/
def descrOverUptoRow : OpenClaim := { program := "ytcaepnbamnicmaadoor", sum := "031f25bd5552885d8070b0066e6b96f63018b1d01c399f57ef873ab5329664e8", func := "warpbeam/warpbeamlaw05.DescrOver", spec := "descrOver", inPlace := ["internal/bytealg.IndexByteString", "internal/bytealg.IndexString", "internal/abi.NoEscape"], named := ["warpbeam/descr.signs", "internal/bytealg.MaxLen"], apart := false, laid := [("warpbeam/descr.signs", laid_warpbeam_descr_signs)], narrowed := true }
def DescrOverUptoSaid : Prop := descrOverUptoRow.holds Tryd.pinned (OpenSpec.upto descrOverSpec)

/-- 'warpbeamlaw05.DescrKnown', WHERE WHAT IT READS IS OF BULK AT MOST 1048576: true; the input reads as it did. -/
def descrKnownUptoRow : OpenClaim := { program := "ytcaepnbamnicmaadoor", sum := "031f25bd5552885d8070b0066e6b96f63018b1d01c399f57ef873ab5329664e8", func := "warpbeam/warpbeamlaw05.DescrKnown", spec := "descrKnown", inPlace := ["internal/abi.NoEscape", "internal/bytealg.MakeNoZero", "internal/bytealg.IndexByteString", "internal/bytealg.IndexString"], named := ["warpbeam/descr.signs", "internal/bytealg.MaxLen"], apart := false, laid := [("warpbeam/descr.signs", laid_warpbeam_descr_signs)], narrowed := true }
def DescrKnownUptoSaid : Prop := descrKnownUptoRow.holds Tryd.pinned (OpenSpec.upto descrKnownSpec)

end Rows
end Go.Proofs.YtcaepnbamnicmaaDoor
