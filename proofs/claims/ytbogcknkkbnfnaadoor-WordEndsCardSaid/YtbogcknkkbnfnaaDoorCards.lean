/-
  DERIVED. GIVEN WITH THE SEED: THE CARDS: each row of YtbogcknkkbnfnaaDoorRows.lean that lists a variable, with what it lists TIED to the program's text (the seventh form; the later family's looks); each row that meets fmt, with fmt's text TOLD by the authors' own Lean function (tested against real Go, not proved from fmt's source: count such statements apart). THE CARD IS WHAT COUNTS. Prove the row's statement (the work); the ties are given (YtbogcknkkbnfnaaDoorTie.lean); close each card by the builder's one call (the guide's Derived/Test/ToyasCard.lean, 'card_holds'). Laid BY PROGRAM, IN A SANDBOX (cutbox-door.mjs). By AI agents, Wed Nov 11 2026. No macro, syntax, notation, axiom, sorry.
-/
import Derived.Test.YtbogcknkkbnfnaaDoorRows
import GoSem.ClaimSeven
namespace Go.Proofs.YtbogcknkkbnfnaaDoor
namespace Rows

/-- THE TIED CARD OF 'warpbeamlaw12.WordBelow'. -/
def wordBelowCard : Claim7 := { stood := { row := wordBelowRow, standIns := [], harness := (true, "597720068da42eec73b8097d1ef2860364d41771b1c08324211d93f8fcd1ec0e"), looks := false }, kinds := [], alts := [], laidByText := true, laidKinds := [.data, .data], laidTests := true, laidLooks := .later }
def WordBelowCardSaid : Prop := Claim7.holds Tryd.pinned (.plain (OpenSpec.ofChange wordBelowSpec)) wordBelowCard

/-- THE TIED CARD OF 'warpbeamlaw12.WordEnds'. -/
def wordEndsCard : Claim7 := { stood := { row := wordEndsRow, standIns := [], harness := (true, "597720068da42eec73b8097d1ef2860364d41771b1c08324211d93f8fcd1ec0e"), looks := false }, kinds := [], alts := [], laidByText := true, laidKinds := [.data, .data], laidTests := true, laidLooks := .later }
def WordEndsCardSaid : Prop := Claim7.holds Tryd.pinned (.plain (OpenSpec.ofChange wordEndsSpec)) wordEndsCard

/-- THE TIED CARD OF 'warpbeamlaw10.LayoutBegins'. -/
def layoutBeginsCard : Claim7 := { stood := { row := layoutBeginsRow, standIns := [], harness := (true, "597720068da42eec73b8097d1ef2860364d41771b1c08324211d93f8fcd1ec0e"), looks := false }, kinds := [], alts := [], laidByText := true, laidKinds := [.data], laidTests := true, laidLooks := .later }
def LayoutBeginsCardSaid : Prop := Claim7.holds Tryd.pinned (.plain (OpenSpec.ofChange layoutBeginsSpec)) layoutBeginsCard

/-- THE TIED CARD OF 'warpbeamlaw10.LayoutCounts'. -/
def layoutCountsCard : Claim7 := { stood := { row := layoutCountsRow, standIns := [], harness := (true, "597720068da42eec73b8097d1ef2860364d41771b1c08324211d93f8fcd1ec0e"), looks := false }, kinds := [], alts := [], laidByText := true, laidKinds := [.data], laidTests := true, laidLooks := .later }
def LayoutCountsCardSaid : Prop := Claim7.holds Tryd.pinned (.plain (OpenSpec.ofChange layoutCountsSpec)) layoutCountsCard

/-- THE TIED CARD OF 'warpbeamlaw10.LayoutHas'. -/
def layoutHasCard : Claim7 := { stood := { row := layoutHasRow, standIns := [], harness := (true, "597720068da42eec73b8097d1ef2860364d41771b1c08324211d93f8fcd1ec0e"), looks := false }, kinds := [], alts := [], laidByText := true, laidKinds := [.data], laidTests := true, laidLooks := .later }
def LayoutHasCardSaid : Prop := Claim7.holds Tryd.pinned (.plain (OpenSpec.ofChange layoutHasSpec)) layoutHasCard

/-- THE TIED CARD OF 'warpbeamlaw10.LayoutOwn'. -/
def layoutOwnCard : Claim7 := { stood := { row := layoutOwnRow, standIns := [], harness := (true, "597720068da42eec73b8097d1ef2860364d41771b1c08324211d93f8fcd1ec0e"), looks := false }, kinds := [], alts := [], laidByText := true, laidKinds := [.data], laidTests := true, laidLooks := .later }
def LayoutOwnCardSaid : Prop := Claim7.holds Tryd.pinned (.plain (OpenSpec.ofChange layoutOwnSpec)) layoutOwnCard

/-- THE TIED CARD OF 'warpbeamlaw09.LinkKnown'. -/
def linkKnownCard : Claim7 := { stood := { row := linkKnownRow, standIns := [], harness := (true, "597720068da42eec73b8097d1ef2860364d41771b1c08324211d93f8fcd1ec0e"), looks := false }, kinds := [], alts := [], laidByText := true, laidKinds := [.data, .data, .data, .data], laidTests := true, laidLooks := .later }
def LinkKnownCardSaid : Prop := Claim7.holds Tryd.pinned (.plain (OpenSpec.ofChange linkKnownSpec)) linkKnownCard

/-- THE SECOND FORM's CARD OF 'warpbeamlaw12.WordBelow'. -/
def wordBelowUptoCard : Claim7 := { stood := { row := wordBelowUptoRow, standIns := [], harness := (true, "597720068da42eec73b8097d1ef2860364d41771b1c08324211d93f8fcd1ec0e"), looks := false }, kinds := [], alts := [], laidByText := true, laidKinds := [.data, .data], laidTests := true, laidLooks := .later }
def WordBelowUptoCardSaid : Prop := Claim7.holds Tryd.pinned (.plain (OpenSpec.upto wordBelowSpec)) wordBelowUptoCard

/-- THE SECOND FORM's CARD OF 'warpbeamlaw12.WordEnds'. -/
def wordEndsUptoCard : Claim7 := { stood := { row := wordEndsUptoRow, standIns := [], harness := (true, "597720068da42eec73b8097d1ef2860364d41771b1c08324211d93f8fcd1ec0e"), looks := false }, kinds := [], alts := [], laidByText := true, laidKinds := [.data, .data], laidTests := true, laidLooks := .later }
def WordEndsUptoCardSaid : Prop := Claim7.holds Tryd.pinned (.plain (OpenSpec.upto wordEndsSpec)) wordEndsUptoCard

/-- THE SECOND FORM's CARD OF 'warpbeamlaw10.LayoutBegins'. -/
def layoutBeginsUptoCard : Claim7 := { stood := { row := layoutBeginsUptoRow, standIns := [], harness := (true, "597720068da42eec73b8097d1ef2860364d41771b1c08324211d93f8fcd1ec0e"), looks := false }, kinds := [], alts := [], laidByText := true, laidKinds := [.data], laidTests := true, laidLooks := .later }
def LayoutBeginsUptoCardSaid : Prop := Claim7.holds Tryd.pinned (.plain (OpenSpec.upto layoutBeginsSpec)) layoutBeginsUptoCard

/-- THE SECOND FORM's CARD OF 'warpbeamlaw10.LayoutCounts'. -/
def layoutCountsUptoCard : Claim7 := { stood := { row := layoutCountsUptoRow, standIns := [], harness := (true, "597720068da42eec73b8097d1ef2860364d41771b1c08324211d93f8fcd1ec0e"), looks := false }, kinds := [], alts := [], laidByText := true, laidKinds := [.data], laidTests := true, laidLooks := .later }
def LayoutCountsUptoCardSaid : Prop := Claim7.holds Tryd.pinned (.plain (OpenSpec.upto layoutCountsSpec)) layoutCountsUptoCard

/-- THE SECOND FORM's CARD OF 'warpbeamlaw10.LayoutHas'. -/
def layoutHasUptoCard : Claim7 := { stood := { row := layoutHasUptoRow, standIns := [], harness := (true, "597720068da42eec73b8097d1ef2860364d41771b1c08324211d93f8fcd1ec0e"), looks := false }, kinds := [], alts := [], laidByText := true, laidKinds := [.data], laidTests := true, laidLooks := .later }
def LayoutHasUptoCardSaid : Prop := Claim7.holds Tryd.pinned (.plain (OpenSpec.upto layoutHasSpec)) layoutHasUptoCard

/-- THE SECOND FORM's CARD OF 'warpbeamlaw10.LayoutOwn'. -/
def layoutOwnUptoCard : Claim7 := { stood := { row := layoutOwnUptoRow, standIns := [], harness := (true, "597720068da42eec73b8097d1ef2860364d41771b1c08324211d93f8fcd1ec0e"), looks := false }, kinds := [], alts := [], laidByText := true, laidKinds := [.data], laidTests := true, laidLooks := .later }
def LayoutOwnUptoCardSaid : Prop := Claim7.holds Tryd.pinned (.plain (OpenSpec.upto layoutOwnSpec)) layoutOwnUptoCard

/-- THE SECOND FORM's CARD OF 'warpbeamlaw09.LinkKnown'. -/
def linkKnownUptoCard : Claim7 := { stood := { row := linkKnownUptoRow, standIns := [], harness := (true, "597720068da42eec73b8097d1ef2860364d41771b1c08324211d93f8fcd1ec0e"), looks := false }, kinds := [], alts := [], laidByText := true, laidKinds := [.data, .data, .data, .data], laidTests := true, laidLooks := .later }
def LinkKnownUptoCardSaid : Prop := Claim7.holds Tryd.pinned (.plain (OpenSpec.upto linkKnownSpec)) linkKnownUptoCard
end Rows
end Go.Proofs.YtbogcknkkbnfnaaDoor
