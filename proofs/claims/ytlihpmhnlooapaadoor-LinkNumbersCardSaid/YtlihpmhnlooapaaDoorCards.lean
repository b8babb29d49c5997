/-
  DERIVED. GIVEN WITH THE SEED: THE CARDS: each row of YtlihpmhnlooapaaDoorRows.lean that lists a variable, with what it lists TIED to the program's text (the seventh form; the later family's looks); each row that meets fmt, with fmt's text TOLD by the authors' own Lean function (tested against real Go, not proved from fmt's source: count such statements apart). THE CARD IS WHAT COUNTS. Prove the row's statement (the work); the ties are given (YtlihpmhnlooapaaDoorTie.lean); close each card by the builder's one call (the guide's Derived/Test/ToyasCard.lean, 'card_holds'). Laid BY PROGRAM, IN A SANDBOX (cutbox-door.mjs). By AI agents, Wed Nov 11 2026. No macro, syntax, notation, axiom, sorry.
-/
import Derived.Test.YtlihpmhnlooapaaDoorRows
import GoSem.ClaimSeven
namespace Go.Proofs.YtlihpmhnlooapaaDoor
namespace Rows

/-- THE TIED CARD OF 'warpbeamlaw09.LinkSteps'. -/
def linkStepsCard : Claim7 := { stood := { row := linkStepsRow, standIns := [], harness := (true, "9c63d7491b8fbfa968b342e9cfd64230cd6c72b4ab503d3fa6e3175ff6f913f7"), looks := false }, kinds := [], alts := [], laidByText := true, laidKinds := [.data], laidTests := true, laidLooks := .later }
def LinkStepsCardSaid : Prop := Claim7.holds Tryd.pinned (.plain (OpenSpec.ofChange linkStepsSpec)) linkStepsCard

/-- THE TIED CARD OF 'warpbeamlaw09.LinkTurned'. -/
def linkTurnedCard : Claim7 := { stood := { row := linkTurnedRow, standIns := [], harness := (true, "9c63d7491b8fbfa968b342e9cfd64230cd6c72b4ab503d3fa6e3175ff6f913f7"), looks := false }, kinds := [], alts := [], laidByText := true, laidKinds := [.data], laidTests := true, laidLooks := .later }
def LinkTurnedCardSaid : Prop := Claim7.holds Tryd.pinned (.plain (OpenSpec.ofChange linkTurnedSpec)) linkTurnedCard

/-- THE TIED CARD OF 'warpbeamlaw09.LinkAbove'. -/
def linkAboveCard : Claim7 := { stood := { row := linkAboveRow, standIns := [], harness := (true, "9c63d7491b8fbfa968b342e9cfd64230cd6c72b4ab503d3fa6e3175ff6f913f7"), looks := false }, kinds := [], alts := [], laidByText := true, laidKinds := [.data], laidTests := true, laidLooks := .later }
def LinkAboveCardSaid : Prop := Claim7.holds Tryd.pinned (.plain (OpenSpec.ofChange linkAboveSpec)) linkAboveCard

/-- THE TIED CARD OF 'warpbeamlaw09.LinkNumbers'. -/
def linkNumbersCard : Claim7 := { stood := { row := linkNumbersRow, standIns := [], harness := (true, "9c63d7491b8fbfa968b342e9cfd64230cd6c72b4ab503d3fa6e3175ff6f913f7"), looks := false }, kinds := [], alts := [], laidByText := true, laidKinds := [.data], laidTests := true, laidLooks := .later }
def LinkNumbersCardSaid : Prop := Claim7.holds Tryd.pinned (.plain (OpenSpec.ofChange linkNumbersSpec)) linkNumbersCard

/-- THE TIED CARD OF 'warpbeamlaw09.LinkKnown'. -/
def linkKnownCard : Claim7 := { stood := { row := linkKnownRow, standIns := [], harness := (true, "9c63d7491b8fbfa968b342e9cfd64230cd6c72b4ab503d3fa6e3175ff6f913f7"), looks := false }, kinds := [], alts := [], laidByText := true, laidKinds := [.data, .data, .data, .data], laidTests := true, laidLooks := .later }
def LinkKnownCardSaid : Prop := Claim7.holds Tryd.pinned (.plain (OpenSpec.ofChange linkKnownSpec)) linkKnownCard

/-- THE TIED CARD OF 'warpbeamlaw12.WordBelow'. -/
def wordBelowCard : Claim7 := { stood := { row := wordBelowRow, standIns := [], harness := (true, "9c63d7491b8fbfa968b342e9cfd64230cd6c72b4ab503d3fa6e3175ff6f913f7"), looks := false }, kinds := [], alts := [], laidByText := true, laidKinds := [.data, .data], laidTests := true, laidLooks := .later }
def WordBelowCardSaid : Prop := Claim7.holds Tryd.pinned (.plain (OpenSpec.ofChange wordBelowSpec)) wordBelowCard

/-- THE TIED CARD OF 'warpbeamlaw12.WordEnds'. -/
def wordEndsCard : Claim7 := { stood := { row := wordEndsRow, standIns := [], harness := (true, "9c63d7491b8fbfa968b342e9cfd64230cd6c72b4ab503d3fa6e3175ff6f913f7"), looks := false }, kinds := [], alts := [], laidByText := true, laidKinds := [.data, .data], laidTests := true, laidLooks := .later }
def WordEndsCardSaid : Prop := Claim7.holds Tryd.pinned (.plain (OpenSpec.ofChange wordEndsSpec)) wordEndsCard

/-- THE TIED CARD OF 'warpbeamlaw10.LayoutBegins'. -/
def layoutBeginsCard : Claim7 := { stood := { row := layoutBeginsRow, standIns := [], harness := (true, "9c63d7491b8fbfa968b342e9cfd64230cd6c72b4ab503d3fa6e3175ff6f913f7"), looks := false }, kinds := [], alts := [], laidByText := true, laidKinds := [.data], laidTests := true, laidLooks := .later }
def LayoutBeginsCardSaid : Prop := Claim7.holds Tryd.pinned (.plain (OpenSpec.ofChange layoutBeginsSpec)) layoutBeginsCard

/-- THE TIED CARD OF 'warpbeamlaw10.LayoutCounts'. -/
def layoutCountsCard : Claim7 := { stood := { row := layoutCountsRow, standIns := [], harness := (true, "9c63d7491b8fbfa968b342e9cfd64230cd6c72b4ab503d3fa6e3175ff6f913f7"), looks := false }, kinds := [], alts := [], laidByText := true, laidKinds := [.data], laidTests := true, laidLooks := .later }
def LayoutCountsCardSaid : Prop := Claim7.holds Tryd.pinned (.plain (OpenSpec.ofChange layoutCountsSpec)) layoutCountsCard

/-- THE TIED CARD OF 'warpbeamlaw10.LayoutHas'. -/
def layoutHasCard : Claim7 := { stood := { row := layoutHasRow, standIns := [], harness := (true, "9c63d7491b8fbfa968b342e9cfd64230cd6c72b4ab503d3fa6e3175ff6f913f7"), looks := false }, kinds := [], alts := [], laidByText := true, laidKinds := [.data], laidTests := true, laidLooks := .later }
def LayoutHasCardSaid : Prop := Claim7.holds Tryd.pinned (.plain (OpenSpec.ofChange layoutHasSpec)) layoutHasCard

/-- THE TIED CARD OF 'warpbeamlaw10.LayoutOwn'. -/
def layoutOwnCard : Claim7 := { stood := { row := layoutOwnRow, standIns := [], harness := (true, "9c63d7491b8fbfa968b342e9cfd64230cd6c72b4ab503d3fa6e3175ff6f913f7"), looks := false }, kinds := [], alts := [], laidByText := true, laidKinds := [.data], laidTests := true, laidLooks := .later }
def LayoutOwnCardSaid : Prop := Claim7.holds Tryd.pinned (.plain (OpenSpec.ofChange layoutOwnSpec)) layoutOwnCard

/-- THE SECOND FORM's CARD OF 'warpbeamlaw09.LinkSteps'. -/
def linkStepsUptoCard : Claim7 := { stood := { row := linkStepsUptoRow, standIns := [], harness := (true, "9c63d7491b8fbfa968b342e9cfd64230cd6c72b4ab503d3fa6e3175ff6f913f7"), looks := false }, kinds := [], alts := [], laidByText := true, laidKinds := [.data], laidTests := true, laidLooks := .later }
def LinkStepsUptoCardSaid : Prop := Claim7.holds Tryd.pinned (.plain (OpenSpec.upto linkStepsSpec)) linkStepsUptoCard

/-- THE SECOND FORM's CARD OF 'warpbeamlaw09.LinkTurned'. -/
def linkTurnedUptoCard : Claim7 := { stood := { row := linkTurnedUptoRow, standIns := [], harness := (true, "9c63d7491b8fbfa968b342e9cfd64230cd6c72b4ab503d3fa6e3175ff6f913f7"), looks := false }, kinds := [], alts := [], laidByText := true, laidKinds := [.data], laidTests := true, laidLooks := .later }
def LinkTurnedUptoCardSaid : Prop := Claim7.holds Tryd.pinned (.plain (OpenSpec.upto linkTurnedSpec)) linkTurnedUptoCard

/-- THE SECOND FORM's CARD OF 'warpbeamlaw09.LinkAbove'. -/
def linkAboveUptoCard : Claim7 := { stood := { row := linkAboveUptoRow, standIns := [], harness := (true, "9c63d7491b8fbfa968b342e9cfd64230cd6c72b4ab503d3fa6e3175ff6f913f7"), looks := false }, kinds := [], alts := [], laidByText := true, laidKinds := [.data], laidTests := true, laidLooks := .later }
def LinkAboveUptoCardSaid : Prop := Claim7.holds Tryd.pinned (.plain (OpenSpec.upto linkAboveSpec)) linkAboveUptoCard

/-- THE SECOND FORM's CARD OF 'warpbeamlaw09.LinkNumbers'. -/
def linkNumbersUptoCard : Claim7 := { stood := { row := linkNumbersUptoRow, standIns := [], harness := (true, "9c63d7491b8fbfa968b342e9cfd64230cd6c72b4ab503d3fa6e3175ff6f913f7"), looks := false }, kinds := [], alts := [], laidByText := true, laidKinds := [.data], laidTests := true, laidLooks := .later }
def LinkNumbersUptoCardSaid : Prop := Claim7.holds Tryd.pinned (.plain (OpenSpec.upto linkNumbersSpec)) linkNumbersUptoCard

/-- THE SECOND FORM's CARD OF 'warpbeamlaw09.LinkKnown'. -/
def linkKnownUptoCard : Claim7 := { stood := { row := linkKnownUptoRow, standIns := [], harness := (true, "9c63d7491b8fbfa968b342e9cfd64230cd6c72b4ab503d3fa6e3175ff6f913f7"), looks := false }, kinds := [], alts := [], laidByText := true, laidKinds := [.data, .data, .data, .data], laidTests := true, laidLooks := .later }
def LinkKnownUptoCardSaid : Prop := Claim7.holds Tryd.pinned (.plain (OpenSpec.upto linkKnownSpec)) linkKnownUptoCard

/-- THE SECOND FORM's CARD OF 'warpbeamlaw12.WordBelow'. -/
def wordBelowUptoCard : Claim7 := { stood := { row := wordBelowUptoRow, standIns := [], harness := (true, "9c63d7491b8fbfa968b342e9cfd64230cd6c72b4ab503d3fa6e3175ff6f913f7"), looks := false }, kinds := [], alts := [], laidByText := true, laidKinds := [.data, .data], laidTests := true, laidLooks := .later }
def WordBelowUptoCardSaid : Prop := Claim7.holds Tryd.pinned (.plain (OpenSpec.upto wordBelowSpec)) wordBelowUptoCard

/-- THE SECOND FORM's CARD OF 'warpbeamlaw12.WordEnds'. -/
def wordEndsUptoCard : Claim7 := { stood := { row := wordEndsUptoRow, standIns := [], harness := (true, "9c63d7491b8fbfa968b342e9cfd64230cd6c72b4ab503d3fa6e3175ff6f913f7"), looks := false }, kinds := [], alts := [], laidByText := true, laidKinds := [.data, .data], laidTests := true, laidLooks := .later }
def WordEndsUptoCardSaid : Prop := Claim7.holds Tryd.pinned (.plain (OpenSpec.upto wordEndsSpec)) wordEndsUptoCard

/-- THE SECOND FORM's CARD OF 'warpbeamlaw10.LayoutBegins'. -/
def layoutBeginsUptoCard : Claim7 := { stood := { row := layoutBeginsUptoRow, standIns := [], harness := (true, "9c63d7491b8fbfa968b342e9cfd64230cd6c72b4ab503d3fa6e3175ff6f913f7"), looks := false }, kinds := [], alts := [], laidByText := true, laidKinds := [.data], laidTests := true, laidLooks := .later }
def LayoutBeginsUptoCardSaid : Prop := Claim7.holds Tryd.pinned (.plain (OpenSpec.upto layoutBeginsSpec)) layoutBeginsUptoCard

/-- THE SECOND FORM's CARD OF 'warpbeamlaw10.LayoutCounts'. -/
def layoutCountsUptoCard : Claim7 := { stood := { row := layoutCountsUptoRow, standIns := [], harness := (true, "9c63d7491b8fbfa968b342e9cfd64230cd6c72b4ab503d3fa6e3175ff6f913f7"), looks := false }, kinds := [], alts := [], laidByText := true, laidKinds := [.data], laidTests := true, laidLooks := .later }
def LayoutCountsUptoCardSaid : Prop := Claim7.holds Tryd.pinned (.plain (OpenSpec.upto layoutCountsSpec)) layoutCountsUptoCard

/-- THE SECOND FORM's CARD OF 'warpbeamlaw10.LayoutHas'. -/
def layoutHasUptoCard : Claim7 := { stood := { row := layoutHasUptoRow, standIns := [], harness := (true, "9c63d7491b8fbfa968b342e9cfd64230cd6c72b4ab503d3fa6e3175ff6f913f7"), looks := false }, kinds := [], alts := [], laidByText := true, laidKinds := [.data], laidTests := true, laidLooks := .later }
def LayoutHasUptoCardSaid : Prop := Claim7.holds Tryd.pinned (.plain (OpenSpec.upto layoutHasSpec)) layoutHasUptoCard

/-- THE SECOND FORM's CARD OF 'warpbeamlaw10.LayoutOwn'. -/
def layoutOwnUptoCard : Claim7 := { stood := { row := layoutOwnUptoRow, standIns := [], harness := (true, "9c63d7491b8fbfa968b342e9cfd64230cd6c72b4ab503d3fa6e3175ff6f913f7"), looks := false }, kinds := [], alts := [], laidByText := true, laidKinds := [.data], laidTests := true, laidLooks := .later }
def LayoutOwnUptoCardSaid : Prop := Claim7.holds Tryd.pinned (.plain (OpenSpec.upto layoutOwnSpec)) layoutOwnUptoCard
end Rows
end Go.Proofs.YtlihpmhnlooapaaDoor
