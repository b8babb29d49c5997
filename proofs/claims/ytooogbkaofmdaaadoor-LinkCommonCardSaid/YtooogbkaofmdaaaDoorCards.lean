/-
  DERIVED. GIVEN WITH THE SEED: THE CARDS: each row of YtooogbkaofmdaaaDoorRows.lean that lists a variable, with what it lists TIED to the program's text (the seventh form; the later family's looks); each row that meets fmt, with fmt's text TOLD by the authors' own Lean function (tested against real Go, not proved from fmt's source: count such statements apart). THE CARD IS WHAT COUNTS. Prove the row's statement (the work); the ties are given (YtooogbkaofmdaaaDoorTie.lean); close each card by the builder's one call (the guide's Derived/Test/ToyasCard.lean, 'card_holds'). Laid BY PROGRAM, IN A SANDBOX (cutbox-door.mjs). By AI agents, Wed Nov 11 2026. No macro, syntax, notation, axiom, sorry.
-/
import Derived.Test.YtooogbkaofmdaaaDoorRows
import GoSem.ClaimSeven
namespace Go.Proofs.YtooogbkaofmdaaaDoor
namespace Rows

/-- THE TIED CARD OF 'warpbeamlaw09.LinkAbove'. -/
def linkAboveCard : Claim7 := { stood := { row := linkAboveRow, standIns := [], harness := (true, "09032927fba99188ab9413ff82d2002ed5c23e001a7321e8af3cfc65171ee0b4"), looks := false }, kinds := [], alts := [], laidByText := true, laidKinds := [.data], laidTests := true, laidLooks := .later }
def LinkAboveCardSaid : Prop := Claim7.holds Tryd.pinned (.plain (OpenSpec.ofChange linkAboveSpec)) linkAboveCard

/-- THE TIED CARD OF 'warpbeamlaw09.LinkOrder'. -/
def linkOrderCard : Claim7 := { stood := { row := linkOrderRow, standIns := [], harness := (true, "09032927fba99188ab9413ff82d2002ed5c23e001a7321e8af3cfc65171ee0b4"), looks := false }, kinds := [], alts := [], laidByText := true, laidKinds := [.data], laidTests := true, laidLooks := .later }
def LinkOrderCardSaid : Prop := Claim7.holds Tryd.pinned (.plain (OpenSpec.ofChange linkOrderSpec)) linkOrderCard

/-- THE TIED CARD OF 'warpbeamlaw09.LinkCommon'. -/
def linkCommonCard : Claim7 := { stood := { row := linkCommonRow, standIns := [], harness := (true, "09032927fba99188ab9413ff82d2002ed5c23e001a7321e8af3cfc65171ee0b4"), looks := false }, kinds := [], alts := [], laidByText := true, laidKinds := [.data], laidTests := true, laidLooks := .later }
def LinkCommonCardSaid : Prop := Claim7.holds Tryd.pinned (.plain (OpenSpec.ofChange linkCommonSpec)) linkCommonCard

/-- THE TIED CARD OF 'warpbeamlaw09.LinkTurned'. -/
def linkTurnedCard : Claim7 := { stood := { row := linkTurnedRow, standIns := [], harness := (true, "09032927fba99188ab9413ff82d2002ed5c23e001a7321e8af3cfc65171ee0b4"), looks := false }, kinds := [], alts := [], laidByText := true, laidKinds := [.data], laidTests := true, laidLooks := .later }
def LinkTurnedCardSaid : Prop := Claim7.holds Tryd.pinned (.plain (OpenSpec.ofChange linkTurnedSpec)) linkTurnedCard

/-- THE TIED CARD OF 'warpbeamlaw09.LinkSteps'. -/
def linkStepsCard : Claim7 := { stood := { row := linkStepsRow, standIns := [], harness := (true, "09032927fba99188ab9413ff82d2002ed5c23e001a7321e8af3cfc65171ee0b4"), looks := false }, kinds := [], alts := [], laidByText := true, laidKinds := [.data], laidTests := true, laidLooks := .later }
def LinkStepsCardSaid : Prop := Claim7.holds Tryd.pinned (.plain (OpenSpec.ofChange linkStepsSpec)) linkStepsCard

/-- THE TIED CARD OF 'warpbeamlaw09.LinkNumbers'. -/
def linkNumbersCard : Claim7 := { stood := { row := linkNumbersRow, standIns := [], harness := (true, "09032927fba99188ab9413ff82d2002ed5c23e001a7321e8af3cfc65171ee0b4"), looks := false }, kinds := [], alts := [], laidByText := true, laidKinds := [.data], laidTests := true, laidLooks := .later }
def LinkNumbersCardSaid : Prop := Claim7.holds Tryd.pinned (.plain (OpenSpec.ofChange linkNumbersSpec)) linkNumbersCard

/-- THE TIED CARD OF 'warpbeamlaw09.LinkTypes'. -/
def linkTypesCard : Claim7 := { stood := { row := linkTypesRow, standIns := [], harness := (true, "09032927fba99188ab9413ff82d2002ed5c23e001a7321e8af3cfc65171ee0b4"), looks := false }, kinds := [], alts := [], laidByText := true, laidKinds := [.data], laidTests := true, laidLooks := .later }
def LinkTypesCardSaid : Prop := Claim7.holds Tryd.pinned (.plain (OpenSpec.ofChange linkTypesSpec)) linkTypesCard

/-- THE TIED CARD OF 'warpbeamlaw09.LinkArrays'. -/
def linkArraysCard : Claim7 := { stood := { row := linkArraysRow, standIns := [], harness := (true, "09032927fba99188ab9413ff82d2002ed5c23e001a7321e8af3cfc65171ee0b4"), looks := false }, kinds := [], alts := [], laidByText := true, laidKinds := [.data], laidTests := true, laidLooks := .later }
def LinkArraysCardSaid : Prop := Claim7.holds Tryd.pinned (.plain (OpenSpec.ofChange linkArraysSpec)) linkArraysCard

/-- THE TIED CARD OF 'warpbeamlaw09.LinkKnown'. -/
def linkKnownCard : Claim7 := { stood := { row := linkKnownRow, standIns := [], harness := (true, "09032927fba99188ab9413ff82d2002ed5c23e001a7321e8af3cfc65171ee0b4"), looks := false }, kinds := [], alts := [], laidByText := true, laidKinds := [.data, .data, .data, .data], laidTests := true, laidLooks := .later }
def LinkKnownCardSaid : Prop := Claim7.holds Tryd.pinned (.plain (OpenSpec.ofChange linkKnownSpec)) linkKnownCard

/-- THE SECOND FORM's CARD OF 'warpbeamlaw09.LinkAbove'. -/
def linkAboveUptoCard : Claim7 := { stood := { row := linkAboveUptoRow, standIns := [], harness := (true, "09032927fba99188ab9413ff82d2002ed5c23e001a7321e8af3cfc65171ee0b4"), looks := false }, kinds := [], alts := [], laidByText := true, laidKinds := [.data], laidTests := true, laidLooks := .later }
def LinkAboveUptoCardSaid : Prop := Claim7.holds Tryd.pinned (.plain (OpenSpec.upto linkAboveSpec)) linkAboveUptoCard

/-- THE SECOND FORM's CARD OF 'warpbeamlaw09.LinkOrder'. -/
def linkOrderUptoCard : Claim7 := { stood := { row := linkOrderUptoRow, standIns := [], harness := (true, "09032927fba99188ab9413ff82d2002ed5c23e001a7321e8af3cfc65171ee0b4"), looks := false }, kinds := [], alts := [], laidByText := true, laidKinds := [.data], laidTests := true, laidLooks := .later }
def LinkOrderUptoCardSaid : Prop := Claim7.holds Tryd.pinned (.plain (OpenSpec.upto linkOrderSpec)) linkOrderUptoCard

/-- THE SECOND FORM's CARD OF 'warpbeamlaw09.LinkCommon'. -/
def linkCommonUptoCard : Claim7 := { stood := { row := linkCommonUptoRow, standIns := [], harness := (true, "09032927fba99188ab9413ff82d2002ed5c23e001a7321e8af3cfc65171ee0b4"), looks := false }, kinds := [], alts := [], laidByText := true, laidKinds := [.data], laidTests := true, laidLooks := .later }
def LinkCommonUptoCardSaid : Prop := Claim7.holds Tryd.pinned (.plain (OpenSpec.upto linkCommonSpec)) linkCommonUptoCard

/-- THE SECOND FORM's CARD OF 'warpbeamlaw09.LinkTurned'. -/
def linkTurnedUptoCard : Claim7 := { stood := { row := linkTurnedUptoRow, standIns := [], harness := (true, "09032927fba99188ab9413ff82d2002ed5c23e001a7321e8af3cfc65171ee0b4"), looks := false }, kinds := [], alts := [], laidByText := true, laidKinds := [.data], laidTests := true, laidLooks := .later }
def LinkTurnedUptoCardSaid : Prop := Claim7.holds Tryd.pinned (.plain (OpenSpec.upto linkTurnedSpec)) linkTurnedUptoCard

/-- THE SECOND FORM's CARD OF 'warpbeamlaw09.LinkSteps'. -/
def linkStepsUptoCard : Claim7 := { stood := { row := linkStepsUptoRow, standIns := [], harness := (true, "09032927fba99188ab9413ff82d2002ed5c23e001a7321e8af3cfc65171ee0b4"), looks := false }, kinds := [], alts := [], laidByText := true, laidKinds := [.data], laidTests := true, laidLooks := .later }
def LinkStepsUptoCardSaid : Prop := Claim7.holds Tryd.pinned (.plain (OpenSpec.upto linkStepsSpec)) linkStepsUptoCard

/-- THE SECOND FORM's CARD OF 'warpbeamlaw09.LinkNumbers'. -/
def linkNumbersUptoCard : Claim7 := { stood := { row := linkNumbersUptoRow, standIns := [], harness := (true, "09032927fba99188ab9413ff82d2002ed5c23e001a7321e8af3cfc65171ee0b4"), looks := false }, kinds := [], alts := [], laidByText := true, laidKinds := [.data], laidTests := true, laidLooks := .later }
def LinkNumbersUptoCardSaid : Prop := Claim7.holds Tryd.pinned (.plain (OpenSpec.upto linkNumbersSpec)) linkNumbersUptoCard

/-- THE SECOND FORM's CARD OF 'warpbeamlaw09.LinkTypes'. -/
def linkTypesUptoCard : Claim7 := { stood := { row := linkTypesUptoRow, standIns := [], harness := (true, "09032927fba99188ab9413ff82d2002ed5c23e001a7321e8af3cfc65171ee0b4"), looks := false }, kinds := [], alts := [], laidByText := true, laidKinds := [.data], laidTests := true, laidLooks := .later }
def LinkTypesUptoCardSaid : Prop := Claim7.holds Tryd.pinned (.plain (OpenSpec.upto linkTypesSpec)) linkTypesUptoCard

/-- THE SECOND FORM's CARD OF 'warpbeamlaw09.LinkArrays'. -/
def linkArraysUptoCard : Claim7 := { stood := { row := linkArraysUptoRow, standIns := [], harness := (true, "09032927fba99188ab9413ff82d2002ed5c23e001a7321e8af3cfc65171ee0b4"), looks := false }, kinds := [], alts := [], laidByText := true, laidKinds := [.data], laidTests := true, laidLooks := .later }
def LinkArraysUptoCardSaid : Prop := Claim7.holds Tryd.pinned (.plain (OpenSpec.upto linkArraysSpec)) linkArraysUptoCard

/-- THE SECOND FORM's CARD OF 'warpbeamlaw09.LinkKnown'. -/
def linkKnownUptoCard : Claim7 := { stood := { row := linkKnownUptoRow, standIns := [], harness := (true, "09032927fba99188ab9413ff82d2002ed5c23e001a7321e8af3cfc65171ee0b4"), looks := false }, kinds := [], alts := [], laidByText := true, laidKinds := [.data, .data, .data, .data], laidTests := true, laidLooks := .later }
def LinkKnownUptoCardSaid : Prop := Claim7.holds Tryd.pinned (.plain (OpenSpec.upto linkKnownSpec)) linkKnownUptoCard
end Rows
end Go.Proofs.YtooogbkaofmdaaaDoor
