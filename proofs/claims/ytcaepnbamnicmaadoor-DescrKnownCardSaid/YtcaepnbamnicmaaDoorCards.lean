/-
  DERIVED. GIVEN WITH THE SEED: THE CARDS: each row of YtcaepnbamnicmaaDoorRows.lean that lists a variable, with what it lists TIED to the program's text (the seventh form; the later family's looks); each row that meets fmt, with fmt's text TOLD by the authors' own Lean function (tested against real Go, not proved from fmt's source: count such statements apart). THE CARD IS WHAT COUNTS. Prove the row's statement (the work); the ties are given (YtcaepnbamnicmaaDoorTie.lean); close each card by the builder's one call (the guide's Derived/Test/ToyasCard.lean, 'card_holds'). Laid BY PROGRAM, IN A SANDBOX (cutbox-door.mjs). By AI agents, Wed Nov 11 2026. No macro, syntax, notation, axiom, sorry.
-/
import Derived.Test.YtcaepnbamnicmaaDoorRows
import GoSem.ClaimSeven
namespace Go.Proofs.YtcaepnbamnicmaaDoor
namespace Rows

/-- THE TIED CARD OF 'warpbeamlaw05.DescrReads'. -/
def descrReadsCard : Claim7 := { stood := { row := descrReadsRow, standIns := [], harness := (true, "78a41e965a908f28d9fe5f21d0c021cd84b8b424fa3bc15c2bde0246a1790e83"), looks := false }, kinds := [], alts := [], laidByText := true, laidKinds := [.data], laidTests := true, laidLooks := .later }
def DescrReadsCardSaid : Prop := Claim7.holds Tryd.pinned (.plain (OpenSpec.ofChange descrReadsSpec)) descrReadsCard

/-- THE TIED CARD OF 'warpbeamlaw05.DescrAgain'. -/
def descrAgainCard : Claim7 := { stood := { row := descrAgainRow, standIns := [], harness := (true, "78a41e965a908f28d9fe5f21d0c021cd84b8b424fa3bc15c2bde0246a1790e83"), looks := false }, kinds := [], alts := [], laidByText := true, laidKinds := [.data], laidTests := true, laidLooks := .later }
def DescrAgainCardSaid : Prop := Claim7.holds Tryd.pinned (.plain (OpenSpec.ofChange descrAgainSpec)) descrAgainCard

/-- THE TIED CARD OF 'warpbeamlaw05.DescrNames'. -/
def descrNamesCard : Claim7 := { stood := { row := descrNamesRow, standIns := [], harness := (true, "78a41e965a908f28d9fe5f21d0c021cd84b8b424fa3bc15c2bde0246a1790e83"), looks := false }, kinds := [], alts := [], laidByText := true, laidKinds := [.data], laidTests := true, laidLooks := .later }
def DescrNamesCardSaid : Prop := Claim7.holds Tryd.pinned (.plain (OpenSpec.ofChange descrNamesSpec)) descrNamesCard

/-- THE TIED CARD OF 'warpbeamlaw05.DescrApart'. -/
def descrApartCard : Claim7 := { stood := { row := descrApartRow, standIns := [], harness := (true, "78a41e965a908f28d9fe5f21d0c021cd84b8b424fa3bc15c2bde0246a1790e83"), looks := false }, kinds := [], alts := [], laidByText := true, laidKinds := [.data], laidTests := true, laidLooks := .later }
def DescrApartCardSaid : Prop := Claim7.holds Tryd.pinned (.plain (OpenSpec.ofChange descrApartSpec)) descrApartCard

/-- THE TIED CARD OF 'warpbeamlaw05.DescrProtos'. -/
def descrProtosCard : Claim7 := { stood := { row := descrProtosRow, standIns := [], harness := (true, "78a41e965a908f28d9fe5f21d0c021cd84b8b424fa3bc15c2bde0246a1790e83"), looks := false }, kinds := [], alts := [], laidByText := true, laidKinds := [.data], laidTests := true, laidLooks := .later }
def DescrProtosCardSaid : Prop := Claim7.holds Tryd.pinned (.plain (OpenSpec.ofChange descrProtosSpec)) descrProtosCard

/-- THE TIED CARD OF 'warpbeamlaw05.DescrBack'. -/
def descrBackCard : Claim7 := { stood := { row := descrBackRow, standIns := [], harness := (true, "78a41e965a908f28d9fe5f21d0c021cd84b8b424fa3bc15c2bde0246a1790e83"), looks := false }, kinds := [], alts := [], laidByText := true, laidKinds := [.data], laidTests := true, laidLooks := .later }
def DescrBackCardSaid : Prop := Claim7.holds Tryd.pinned (.plain (OpenSpec.ofChange descrBackSpec)) descrBackCard

/-- THE TIED CARD OF 'warpbeamlaw05.DescrTypes'. -/
def descrTypesCard : Claim7 := { stood := { row := descrTypesRow, standIns := [], harness := (true, "78a41e965a908f28d9fe5f21d0c021cd84b8b424fa3bc15c2bde0246a1790e83"), looks := false }, kinds := [], alts := [], laidByText := true, laidKinds := [.data], laidTests := true, laidLooks := .later }
def DescrTypesCardSaid : Prop := Claim7.holds Tryd.pinned (.plain (OpenSpec.ofChange descrTypesSpec)) descrTypesCard

/-- THE TIED CARD OF 'warpbeamlaw05.DescrOver'. -/
def descrOverCard : Claim7 := { stood := { row := descrOverRow, standIns := [], harness := (true, "78a41e965a908f28d9fe5f21d0c021cd84b8b424fa3bc15c2bde0246a1790e83"), looks := false }, kinds := [], alts := [], laidByText := true, laidKinds := [.data], laidTests := true, laidLooks := .later }
def DescrOverCardSaid : Prop := Claim7.holds Tryd.pinned (.plain (OpenSpec.ofChange descrOverSpec)) descrOverCard

/-- THE TIED CARD OF 'warpbeamlaw05.DescrKnown'. -/
def descrKnownCard : Claim7 := { stood := { row := descrKnownRow, standIns := [], harness := (true, "78a41e965a908f28d9fe5f21d0c021cd84b8b424fa3bc15c2bde0246a1790e83"), looks := false }, kinds := [], alts := [], laidByText := true, laidKinds := [.data], laidTests := true, laidLooks := .later }
def DescrKnownCardSaid : Prop := Claim7.holds Tryd.pinned (.plain (OpenSpec.ofChange descrKnownSpec)) descrKnownCard

/-- THE SECOND FORM's CARD OF 'warpbeamlaw05.DescrReads'. -/
def descrReadsUptoCard : Claim7 := { stood := { row := descrReadsUptoRow, standIns := [], harness := (true, "78a41e965a908f28d9fe5f21d0c021cd84b8b424fa3bc15c2bde0246a1790e83"), looks := false }, kinds := [], alts := [], laidByText := true, laidKinds := [.data], laidTests := true, laidLooks := .later }
def DescrReadsUptoCardSaid : Prop := Claim7.holds Tryd.pinned (.plain (OpenSpec.upto descrReadsSpec)) descrReadsUptoCard

/-- THE SECOND FORM's CARD OF 'warpbeamlaw05.DescrAgain'. -/
def descrAgainUptoCard : Claim7 := { stood := { row := descrAgainUptoRow, standIns := [], harness := (true, "78a41e965a908f28d9fe5f21d0c021cd84b8b424fa3bc15c2bde0246a1790e83"), looks := false }, kinds := [], alts := [], laidByText := true, laidKinds := [.data], laidTests := true, laidLooks := .later }
def DescrAgainUptoCardSaid : Prop := Claim7.holds Tryd.pinned (.plain (OpenSpec.upto descrAgainSpec)) descrAgainUptoCard

/-- THE SECOND FORM's CARD OF 'warpbeamlaw05.DescrNames'. -/
def descrNamesUptoCard : Claim7 := { stood := { row := descrNamesUptoRow, standIns := [], harness := (true, "78a41e965a908f28d9fe5f21d0c021cd84b8b424fa3bc15c2bde0246a1790e83"), looks := false }, kinds := [], alts := [], laidByText := true, laidKinds := [.data], laidTests := true, laidLooks := .later }
def DescrNamesUptoCardSaid : Prop := Claim7.holds Tryd.pinned (.plain (OpenSpec.upto descrNamesSpec)) descrNamesUptoCard

/-- THE SECOND FORM's CARD OF 'warpbeamlaw05.DescrApart'. -/
def descrApartUptoCard : Claim7 := { stood := { row := descrApartUptoRow, standIns := [], harness := (true, "78a41e965a908f28d9fe5f21d0c021cd84b8b424fa3bc15c2bde0246a1790e83"), looks := false }, kinds := [], alts := [], laidByText := true, laidKinds := [.data], laidTests := true, laidLooks := .later }
def DescrApartUptoCardSaid : Prop := Claim7.holds Tryd.pinned (.plain (OpenSpec.upto descrApartSpec)) descrApartUptoCard

/-- THE SECOND FORM's CARD OF 'warpbeamlaw05.DescrProtos'. -/
def descrProtosUptoCard : Claim7 := { stood := { row := descrProtosUptoRow, standIns := [], harness := (true, "78a41e965a908f28d9fe5f21d0c021cd84b8b424fa3bc15c2bde0246a1790e83"), looks := false }, kinds := [], alts := [], laidByText := true, laidKinds := [.data], laidTests := true, laidLooks := .later }
def DescrProtosUptoCardSaid : Prop := Claim7.holds Tryd.pinned (.plain (OpenSpec.upto descrProtosSpec)) descrProtosUptoCard

/-- THE SECOND FORM's CARD OF 'warpbeamlaw05.DescrBack'. -/
def descrBackUptoCard : Claim7 := { stood := { row := descrBackUptoRow, standIns := [], harness := (true, "78a41e965a908f28d9fe5f21d0c021cd84b8b424fa3bc15c2bde0246a1790e83"), looks := false }, kinds := [], alts := [], laidByText := true, laidKinds := [.data], laidTests := true, laidLooks := .later }
def DescrBackUptoCardSaid : Prop := Claim7.holds Tryd.pinned (.plain (OpenSpec.upto descrBackSpec)) descrBackUptoCard

/-- THE SECOND FORM's CARD OF 'warpbeamlaw05.DescrTypes'. -/
def descrTypesUptoCard : Claim7 := { stood := { row := descrTypesUptoRow, standIns := [], harness := (true, "78a41e965a908f28d9fe5f21d0c021cd84b8b424fa3bc15c2bde0246a1790e83"), looks := false }, kinds := [], alts := [], laidByText := true, laidKinds := [.data], laidTests := true, laidLooks := .later }
def DescrTypesUptoCardSaid : Prop := Claim7.holds Tryd.pinned (.plain (OpenSpec.upto descrTypesSpec)) descrTypesUptoCard

/-- THE SECOND FORM's CARD OF 'warpbeamlaw05.DescrOver'. -/
def descrOverUptoCard : Claim7 := { stood := { row := descrOverUptoRow, standIns := [], harness := (true, "78a41e965a908f28d9fe5f21d0c021cd84b8b424fa3bc15c2bde0246a1790e83"), looks := false }, kinds := [], alts := [], laidByText := true, laidKinds := [.data], laidTests := true, laidLooks := .later }
def DescrOverUptoCardSaid : Prop := Claim7.holds Tryd.pinned (.plain (OpenSpec.upto descrOverSpec)) descrOverUptoCard

/-- THE SECOND FORM's CARD OF 'warpbeamlaw05.DescrKnown'. -/
def descrKnownUptoCard : Claim7 := { stood := { row := descrKnownUptoRow, standIns := [], harness := (true, "78a41e965a908f28d9fe5f21d0c021cd84b8b424fa3bc15c2bde0246a1790e83"), looks := false }, kinds := [], alts := [], laidByText := true, laidKinds := [.data], laidTests := true, laidLooks := .later }
def DescrKnownUptoCardSaid : Prop := Claim7.holds Tryd.pinned (.plain (OpenSpec.upto descrKnownSpec)) descrKnownUptoCard
end Rows
end Go.Proofs.YtcaepnbamnicmaaDoor
