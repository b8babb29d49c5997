/-
  NARROWER THAN 'FOR EVERY INPUT', by the rows' own cells (each row's printed sentence says how): WordBelow: laid · WordEnds: laid · LayoutBegins: laid · LayoutCounts: laid · LayoutHas: laid · LayoutOwn: laid · LinkKnown: laid.
  DERIVED. THE GIVEN ROWS OF THIS SEAT. 7 by the template 'for every input the law returns true; each argument reads behind the call as it read before'; 0 by the template 'total and deterministic' (their statements: YtbogcknkkbnfnaaDoorTotals.lean).
  GIVEN WITH THE SEED: the statements are not yours to turn. If you find one false, say at which input.
  Laid BY PROGRAM, IN A SANDBOX (cutbox-rows.mjs): the forced cells as the released guide's own fill.sh prints them over the translation bfd567335e326de2… (all of the seat's roots in one cut). By AI agents, Wed Nov 11 2026. No macro, syntax, notation, axiom, sorry.
-/
import Derived.Test.YtbogcknkkbnfnaaDoorChecked
import GoSem.Claim
import GoSem.ClaimJoined
import GoSem.ClaimMapViews
import Derived.JoinedTies
import Derived.KernelRfl
namespace Go.Proofs.YtbogcknkkbnfnaaDoor
/- THE CELL 'sum', in the pinned program and in every row, IS THE sha256 OF THE DUMP (.gsa) THAT YtbogcknkkbnfnaaDoorProg.lean LOADS. Nothing in Lean hashes anything: it is a label: what it is worth is what the hold of that sum in a sandbox is worth. -/
noncomputable def Tryd.pinned : Pinned := { name := "ytbogcknkkbnfnaadoor", sum := "bfd567335e326de29653c353550e981d064835ea0784dad7c14e35e1e7b0ad7e", checked := Tryd.checked }
namespace Rows
def none {H : Type} : Left H := { results := [], args := [] }

/- WHAT THE LISTED PACKAGE-LEVEL VARIABLES READ AS WHEN THE CALL BEGINS. Each datum BY PROGRAM (the guide's laid-datum.mjs) off the statement by which the dump's own 'gosem.cut.vars' lays the variable. In a bare row this is a premise. The card (YtbogcknkkbnfnaaDoorCards.lean) ties it to the program's text. -/
def laid_warpbeam_link_builtIn {H : Type} : DataW H := .agg [.lit (.string [79, 98, 106, 101, 99, 116]), .lit (.string [84, 104, 114, 111, 119, 97, 98, 108, 101]), .lit (.string [65, 114, 105, 116, 104]), .lit (.string [78, 117, 108, 108]), .lit (.string [66, 111, 117, 110, 100, 115]), .lit (.string [67, 97, 115, 116]), .lit (.string [83, 105, 122, 101]), .lit (.string [83, 116, 111, 114, 101])]
def laid_warpbeam_word_object {H : Type} : DataW H := .agg [.lit (.int .i64 3), .lit (.string [79, 98, 106, 101, 99, 116])]
def laid_math_bits_deBruijn32tab {H : Type} : DataW H := .agg [.lit (.int .u8 0), .lit (.int .u8 1), .lit (.int .u8 28), .lit (.int .u8 2), .lit (.int .u8 29), .lit (.int .u8 14), .lit (.int .u8 24), .lit (.int .u8 3), .lit (.int .u8 30), .lit (.int .u8 22), .lit (.int .u8 20), .lit (.int .u8 15), .lit (.int .u8 25), .lit (.int .u8 17), .lit (.int .u8 4), .lit (.int .u8 8), .lit (.int .u8 31), .lit (.int .u8 27), .lit (.int .u8 13), .lit (.int .u8 23), .lit (.int .u8 21), .lit (.int .u8 19), .lit (.int .u8 16), .lit (.int .u8 7), .lit (.int .u8 26), .lit (.int .u8 12), .lit (.int .u8 18), .lit (.int .u8 6), .lit (.int .u8 11), .lit (.int .u8 5), .lit (.int .u8 10), .lit (.int .u8 9)]
def laid_math_bits_deBruijn64tab {H : Type} : DataW H := .agg [.lit (.int .u8 0), .lit (.int .u8 1), .lit (.int .u8 56), .lit (.int .u8 2), .lit (.int .u8 57), .lit (.int .u8 49), .lit (.int .u8 28), .lit (.int .u8 3), .lit (.int .u8 61), .lit (.int .u8 58), .lit (.int .u8 42), .lit (.int .u8 50), .lit (.int .u8 38), .lit (.int .u8 29), .lit (.int .u8 17), .lit (.int .u8 4), .lit (.int .u8 62), .lit (.int .u8 47), .lit (.int .u8 59), .lit (.int .u8 36), .lit (.int .u8 45), .lit (.int .u8 43), .lit (.int .u8 51), .lit (.int .u8 22), .lit (.int .u8 53), .lit (.int .u8 39), .lit (.int .u8 33), .lit (.int .u8 30), .lit (.int .u8 24), .lit (.int .u8 18), .lit (.int .u8 12), .lit (.int .u8 5), .lit (.int .u8 63), .lit (.int .u8 55), .lit (.int .u8 48), .lit (.int .u8 27), .lit (.int .u8 60), .lit (.int .u8 41), .lit (.int .u8 37), .lit (.int .u8 16), .lit (.int .u8 46), .lit (.int .u8 35), .lit (.int .u8 44), .lit (.int .u8 21), .lit (.int .u8 52), .lit (.int .u8 32), .lit (.int .u8 23), .lit (.int .u8 11), .lit (.int .u8 54), .lit (.int .u8 26), .lit (.int .u8 40), .lit (.int .u8 15), .lit (.int .u8 34), .lit (.int .u8 20), .lit (.int .u8 31), .lit (.int .u8 10), .lit (.int .u8 25), .lit (.int .u8 14), .lit (.int .u8 19), .lit (.int .u8 9), .lit (.int .u8 13), .lit (.int .u8 8), .lit (.int .u8 7), .lit (.int .u8 6)]
def laid_internal_strconv_uint64pow10 {H : Type} : DataW H := .agg [.lit (.int .u64 1), .lit (.int .u64 10), .lit (.int .u64 100), .lit (.int .u64 1000), .lit (.int .u64 10000), .lit (.int .u64 100000), .lit (.int .u64 1000000), .lit (.int .u64 10000000), .lit (.int .u64 100000000), .lit (.int .u64 1000000000), .lit (.int .u64 10000000000), .lit (.int .u64 100000000000), .lit (.int .u64 1000000000000), .lit (.int .u64 10000000000000), .lit (.int .u64 100000000000000), .lit (.int .u64 1000000000000000), .lit (.int .u64 10000000000000000), .lit (.int .u64 100000000000000000), .lit (.int .u64 1000000000000000000), .lit (.int .u64 10000000000000000000)]

/-- 'warpbeamlaw12.WordBelow': WHATEVER THE INPUT: true; the input reads as it did. -/
def wordBelowSpec : ChangeSpec := { name := "wordBelow", fn := fun _ => fun
  | [d1, d2, d3] => { results := [.lit (.bool true)], args := [d1, d2, d3] }
  | _ => none }
def wordBelowRow : OpenClaim := { program := "ytbogcknkkbnfnaadoor", sum := "bfd567335e326de29653c353550e981d064835ea0784dad7c14e35e1e7b0ad7e", func := "warpbeam/warpbeamlaw12.WordBelow", spec := "wordBelow", unfollowed := true, recurses := true, named := ["warpbeam/link.builtIn", "warpbeam/word.object"], apart := false, laid := [("warpbeam/link.builtIn", laid_warpbeam_link_builtIn), ("warpbeam/word.object", laid_warpbeam_word_object)] }
def WordBelowSaid : Prop := wordBelowRow.holds Tryd.pinned (OpenSpec.ofChange wordBelowSpec)

/-- ITS FALSE NEIGHBOUR: 'it returns false'. Refute it at one input. -/
def wordBelowWrong : ChangeSpec := { name := "wordBelow", fn := fun _ => fun
  | [d1, d2, d3] => { results := [.lit (.bool false)], args := [d1, d2, d3] }
  | _ => none }
def WordBelowWrongFalsely : Prop := wordBelowRow.holds Tryd.pinned (OpenSpec.ofChange wordBelowWrong)

/-- 'warpbeamlaw12.WordEnds': WHATEVER THE INPUT: true; the input reads as it did. -/
def wordEndsSpec : ChangeSpec := { name := "wordEnds", fn := fun _ => fun
  | [d1, d2] => { results := [.lit (.bool true)], args := [d1, d2] }
  | _ => none }
def wordEndsRow : OpenClaim := { program := "ytbogcknkkbnfnaadoor", sum := "bfd567335e326de29653c353550e981d064835ea0784dad7c14e35e1e7b0ad7e", func := "warpbeam/warpbeamlaw12.WordEnds", spec := "wordEnds", unfollowed := true, recurses := true, named := ["warpbeam/link.builtIn", "warpbeam/word.object"], apart := false, laid := [("warpbeam/link.builtIn", laid_warpbeam_link_builtIn), ("warpbeam/word.object", laid_warpbeam_word_object)] }
def WordEndsSaid : Prop := wordEndsRow.holds Tryd.pinned (OpenSpec.ofChange wordEndsSpec)

/-- ITS FALSE NEIGHBOUR: 'it returns false'. Refute it at one input. -/
def wordEndsWrong : ChangeSpec := { name := "wordEnds", fn := fun _ => fun
  | [d1, d2] => { results := [.lit (.bool false)], args := [d1, d2] }
  | _ => none }
def WordEndsWrongFalsely : Prop := wordEndsRow.holds Tryd.pinned (OpenSpec.ofChange wordEndsWrong)

/-- 'warpbeamlaw10.LayoutBegins': WHATEVER THE INPUT: true; the input reads as it did. -/
def layoutBeginsSpec : ChangeSpec := { name := "layoutBegins", fn := fun _ => fun
  | [d] => { results := [.lit (.bool true)], args := [d] }
  | _ => none }
def layoutBeginsRow : OpenClaim := { program := "ytbogcknkkbnfnaadoor", sum := "bfd567335e326de29653c353550e981d064835ea0784dad7c14e35e1e7b0ad7e", func := "warpbeam/warpbeamlaw10.LayoutBegins", spec := "layoutBegins", unfollowed := true, recurses := true, named := ["warpbeam/link.builtIn"], apart := false, laid := [("warpbeam/link.builtIn", laid_warpbeam_link_builtIn)] }
def LayoutBeginsSaid : Prop := layoutBeginsRow.holds Tryd.pinned (OpenSpec.ofChange layoutBeginsSpec)

/-- ITS FALSE NEIGHBOUR: 'it returns false'. Refute it at one input. -/
def layoutBeginsWrong : ChangeSpec := { name := "layoutBegins", fn := fun _ => fun
  | [d] => { results := [.lit (.bool false)], args := [d] }
  | _ => none }
def LayoutBeginsWrongFalsely : Prop := layoutBeginsRow.holds Tryd.pinned (OpenSpec.ofChange layoutBeginsWrong)

/-- 'warpbeamlaw10.LayoutCounts': WHATEVER THE INPUT: true; the input reads as it did. -/
def layoutCountsSpec : ChangeSpec := { name := "layoutCounts", fn := fun _ => fun
  | [d] => { results := [.lit (.bool true)], args := [d] }
  | _ => none }
def layoutCountsRow : OpenClaim := { program := "ytbogcknkkbnfnaadoor", sum := "bfd567335e326de29653c353550e981d064835ea0784dad7c14e35e1e7b0ad7e", func := "warpbeam/warpbeamlaw10.LayoutCounts", spec := "layoutCounts", unfollowed := true, recurses := true, named := ["warpbeam/link.builtIn"], apart := false, laid := [("warpbeam/link.builtIn", laid_warpbeam_link_builtIn)] }
def LayoutCountsSaid : Prop := layoutCountsRow.holds Tryd.pinned (OpenSpec.ofChange layoutCountsSpec)

/-- ITS FALSE NEIGHBOUR: 'it returns false'. Refute it at one input. -/
def layoutCountsWrong : ChangeSpec := { name := "layoutCounts", fn := fun _ => fun
  | [d] => { results := [.lit (.bool false)], args := [d] }
  | _ => none }
def LayoutCountsWrongFalsely : Prop := layoutCountsRow.holds Tryd.pinned (OpenSpec.ofChange layoutCountsWrong)

/-- 'warpbeamlaw10.LayoutHas': WHATEVER THE INPUT: true; the input reads as it did. -/
def layoutHasSpec : ChangeSpec := { name := "layoutHas", fn := fun _ => fun
  | [d1, d2, d3] => { results := [.lit (.bool true)], args := [d1, d2, d3] }
  | _ => none }
def layoutHasRow : OpenClaim := { program := "ytbogcknkkbnfnaadoor", sum := "bfd567335e326de29653c353550e981d064835ea0784dad7c14e35e1e7b0ad7e", func := "warpbeam/warpbeamlaw10.LayoutHas", spec := "layoutHas", unfollowed := true, recurses := true, named := ["warpbeam/link.builtIn"], apart := false, laid := [("warpbeam/link.builtIn", laid_warpbeam_link_builtIn)] }
def LayoutHasSaid : Prop := layoutHasRow.holds Tryd.pinned (OpenSpec.ofChange layoutHasSpec)

/-- ITS FALSE NEIGHBOUR: 'it returns false'. Refute it at one input. -/
def layoutHasWrong : ChangeSpec := { name := "layoutHas", fn := fun _ => fun
  | [d1, d2, d3] => { results := [.lit (.bool false)], args := [d1, d2, d3] }
  | _ => none }
def LayoutHasWrongFalsely : Prop := layoutHasRow.holds Tryd.pinned (OpenSpec.ofChange layoutHasWrong)

/-- 'warpbeamlaw10.LayoutOwn': WHATEVER THE INPUT: true; the input reads as it did. -/
def layoutOwnSpec : ChangeSpec := { name := "layoutOwn", fn := fun _ => fun
  | [d1, d2] => { results := [.lit (.bool true)], args := [d1, d2] }
  | _ => none }
def layoutOwnRow : OpenClaim := { program := "ytbogcknkkbnfnaadoor", sum := "bfd567335e326de29653c353550e981d064835ea0784dad7c14e35e1e7b0ad7e", func := "warpbeam/warpbeamlaw10.LayoutOwn", spec := "layoutOwn", unfollowed := true, recurses := true, named := ["warpbeam/link.builtIn"], apart := false, laid := [("warpbeam/link.builtIn", laid_warpbeam_link_builtIn)] }
def LayoutOwnSaid : Prop := layoutOwnRow.holds Tryd.pinned (OpenSpec.ofChange layoutOwnSpec)

/-- ITS FALSE NEIGHBOUR: 'it returns false'. Refute it at one input. -/
def layoutOwnWrong : ChangeSpec := { name := "layoutOwn", fn := fun _ => fun
  | [d1, d2] => { results := [.lit (.bool false)], args := [d1, d2] }
  | _ => none }
def LayoutOwnWrongFalsely : Prop := layoutOwnRow.holds Tryd.pinned (OpenSpec.ofChange layoutOwnWrong)

/-- 'warpbeamlaw09.LinkKnown': WHATEVER THE INPUT: true; the input reads as it did. -/
def linkKnownSpec : ChangeSpec := { name := "linkKnown", fn := fun _ => fun
  | [] => { results := [.lit (.bool true)], args := [] }
  | _ => none }
def linkKnownRow : OpenClaim := { program := "ytbogcknkkbnfnaadoor", sum := "bfd567335e326de29653c353550e981d064835ea0784dad7c14e35e1e7b0ad7e", func := "warpbeam/warpbeamlaw09.LinkKnown", spec := "linkKnown", unfollowed := true, recurses := true, named := ["warpbeam/link.builtIn", "internal/strconv.uint64pow10", "math/bits.deBruijn32tab", "math/bits.deBruijn64tab"], apart := false, laid := [("math/bits.deBruijn32tab", laid_math_bits_deBruijn32tab), ("math/bits.deBruijn64tab", laid_math_bits_deBruijn64tab), ("internal/strconv.uint64pow10", laid_internal_strconv_uint64pow10), ("warpbeam/link.builtIn", laid_warpbeam_link_builtIn)] }
def LinkKnownSaid : Prop := linkKnownRow.holds Tryd.pinned (OpenSpec.ofChange linkKnownSpec)

/-- ITS FALSE NEIGHBOUR: 'it returns false'. Refute it at one input. -/
def linkKnownWrong : ChangeSpec := { name := "linkKnown", fn := fun _ => fun
  | [] => { results := [.lit (.bool false)], args := [] }
  | _ => none }
def LinkKnownWrongFalsely : Prop := linkKnownRow.holds Tryd.pinned (OpenSpec.ofChange linkKnownWrong)

/- THE SECOND FORM. 'bulk': how many values and letters a reading holds, each counted each time it is reached (what is shared counts as often as it is met; a slice's spare places count too). A statement '..UptoSaid' is the law's where the arguments, and the package variables that the reading takes, are together of bulk at most 1048576: NARROWER than '..Said'. Prove '..Said' where nothing that the law and all that it calls make is longer than what came in: it says more and counts as full. Else prove '..UptoSaid'. A law counts once. -/
mutual
def uptoBulk {H : Type} : DataW H → Nat
  | .lit (.string bytes) => bytes.length + 1
  | .lit _ => 1
  | .nil => 1
  | .ptr d => uptoBulk d + 1
  | .slice elems spare => uptoBulkAll elems + uptoBulkAll spare + 1
  | .agg parts => uptoBulkAll parts + 1
  | .iface _ d => uptoBulk d + 1
  | .map entries => uptoBulkEntries entries + 1
  | .held _ => 1
def uptoBulkAll {H : Type} : List (DataW H) → Nat
  | [] => 0
  | d :: r => uptoBulk d + uptoBulkAll r
def uptoBulkEntries {H : Type} : List (Lit × DataW H) → Nat
  | [] => 0
  | x :: r => uptoBulkEntry x + uptoBulkEntries r
def uptoBulkEntry {H : Type} : Lit × DataW H → Nat
  | (.string bytes, d) => bytes.length + uptoBulk d + 1
  | (_, d) => uptoBulk d + 1
 end
def uptoSmall : (H : Type) → List (DataW H) → Bool := fun _ ds => decide (uptoBulkAll ds ≤ 1048576)
def OpenSpec.upto (s : _root_.Go.ChangeSpec) : _root_.Go.OpenSpec := { _root_.Go.OpenSpec.ofChange s with cond := some uptoSmall }

/-- 'warpbeamlaw12.WordBelow', WHERE WHAT IT READS IS OF BULK AT MOST 1048576: true; the input reads as it did. -/
def wordBelowUptoRow : OpenClaim := { program := "ytbogcknkkbnfnaadoor", sum := "bfd567335e326de29653c353550e981d064835ea0784dad7c14e35e1e7b0ad7e", func := "warpbeam/warpbeamlaw12.WordBelow", spec := "wordBelow", unfollowed := true, recurses := true, named := ["warpbeam/link.builtIn", "warpbeam/word.object"], apart := false, laid := [("warpbeam/link.builtIn", laid_warpbeam_link_builtIn), ("warpbeam/word.object", laid_warpbeam_word_object)], narrowed := true }
def WordBelowUptoSaid : Prop := wordBelowUptoRow.holds Tryd.pinned (OpenSpec.upto wordBelowSpec)

/-- 'warpbeamlaw12.WordEnds', WHERE WHAT IT READS IS OF BULK AT MOST 1048576: true; the input reads as it did. -/
def wordEndsUptoRow : OpenClaim := { program := "ytbogcknkkbnfnaadoor", sum := "bfd567335e326de29653c353550e981d064835ea0784dad7c14e35e1e7b0ad7e", func := "warpbeam/warpbeamlaw12.WordEnds", spec := "wordEnds", unfollowed := true, recurses := true, named := ["warpbeam/link.builtIn", "warpbeam/word.object"], apart := false, laid := [("warpbeam/link.builtIn", laid_warpbeam_link_builtIn), ("warpbeam/word.object", laid_warpbeam_word_object)], narrowed := true }
def WordEndsUptoSaid : Prop := wordEndsUptoRow.holds Tryd.pinned (OpenSpec.upto wordEndsSpec)

/-- 'warpbeamlaw10.LayoutBegins', WHERE WHAT IT READS IS OF BULK AT MOST 1048576: true; the input reads as it did. -/
def layoutBeginsUptoRow : OpenClaim := { program := "ytbogcknkkbnfnaadoor", sum := "bfd567335e326de29653c353550e981d064835ea0784dad7c14e35e1e7b0ad7e", func := "warpbeam/warpbeamlaw10.LayoutBegins", spec := "layoutBegins", unfollowed := true, recurses := true, named := ["warpbeam/link.builtIn"], apart := false, laid := [("warpbeam/link.builtIn", laid_warpbeam_link_builtIn)], narrowed := true }
def LayoutBeginsUptoSaid : Prop := layoutBeginsUptoRow.holds Tryd.pinned (OpenSpec.upto layoutBeginsSpec)

/-- 'warpbeamlaw10.LayoutCounts', WHERE WHAT IT READS IS OF BULK AT MOST 1048576: true; the input reads as it did. -/
def layoutCountsUptoRow : OpenClaim := { program := "ytbogcknkkbnfnaadoor", sum := "bfd567335e326de29653c353550e981d064835ea0784dad7c14e35e1e7b0ad7e", func := "warpbeam/warpbeamlaw10.LayoutCounts", spec := "layoutCounts", unfollowed := true, recurses := true, named := ["warpbeam/link.builtIn"], apart := false, laid := [("warpbeam/link.builtIn", laid_warpbeam_link_builtIn)], narrowed := true }
def LayoutCountsUptoSaid : Prop := layoutCountsUptoRow.holds Tryd.pinned (OpenSpec.upto layoutCountsSpec)

/-- 'warpbeamlaw10.LayoutHas', WHERE WHAT IT READS IS OF BULK AT MOST 1048576: true; the input reads as it did. -/
def layoutHasUptoRow : OpenClaim := { program := "ytbogcknkkbnfnaadoor", sum := "bfd567335e326de29653c353550e981d064835ea0784dad7c14e35e1e7b0ad7e", func := "warpbeam/warpbeamlaw10.LayoutHas", spec := "layoutHas", unfollowed := true, recurses := true, named := ["warpbeam/link.builtIn"], apart := false, laid := [("warpbeam/link.builtIn", laid_warpbeam_link_builtIn)], narrowed := true }
def LayoutHasUptoSaid : Prop := layoutHasUptoRow.holds Tryd.pinned (OpenSpec.upto layoutHasSpec)

/-- 'warpbeamlaw10.LayoutOwn', WHERE WHAT IT READS IS OF BULK AT MOST 1048576: true; the input reads as it did. -/
def layoutOwnUptoRow : OpenClaim := { program := "ytbogcknkkbnfnaadoor", sum := "bfd567335e326de29653c353550e981d064835ea0784dad7c14e35e1e7b0ad7e", func := "warpbeam/warpbeamlaw10.LayoutOwn", spec := "layoutOwn", unfollowed := true, recurses := true, named := ["warpbeam/link.builtIn"], apart := false, laid := [("warpbeam/link.builtIn", laid_warpbeam_link_builtIn)], narrowed := true }
def LayoutOwnUptoSaid : Prop := layoutOwnUptoRow.holds Tryd.pinned (OpenSpec.upto layoutOwnSpec)

/-- 'warpbeamlaw09.LinkKnown', WHERE WHAT IT READS IS OF BULK AT MOST 1048576: true; the input reads as it did. -/
def linkKnownUptoRow : OpenClaim := { program := "ytbogcknkkbnfnaadoor", sum := "bfd567335e326de29653c353550e981d064835ea0784dad7c14e35e1e7b0ad7e", func := "warpbeam/warpbeamlaw09.LinkKnown", spec := "linkKnown", unfollowed := true, recurses := true, named := ["warpbeam/link.builtIn", "internal/strconv.uint64pow10", "math/bits.deBruijn32tab", "math/bits.deBruijn64tab"], apart := false, laid := [("math/bits.deBruijn32tab", laid_math_bits_deBruijn32tab), ("math/bits.deBruijn64tab", laid_math_bits_deBruijn64tab), ("internal/strconv.uint64pow10", laid_internal_strconv_uint64pow10), ("warpbeam/link.builtIn", laid_warpbeam_link_builtIn)], narrowed := true }
def LinkKnownUptoSaid : Prop := linkKnownUptoRow.holds Tryd.pinned (OpenSpec.upto linkKnownSpec)

end Rows
end Go.Proofs.YtbogcknkkbnfnaaDoor
