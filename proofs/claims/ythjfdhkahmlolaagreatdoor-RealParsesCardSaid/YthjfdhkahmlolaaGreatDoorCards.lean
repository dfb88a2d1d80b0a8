/-
  DERIVED. GIVEN WITH THE SEED: THE CARDS: each row of YthjfdhkahmlolaaGreatDoorRows.lean that lists a variable, with what it lists TIED to the program's text (the seventh form; the later family's looks); each row that meets fmt, with fmt's text TOLD by the authors' own Lean function (tested against real Go, not proved from fmt's source: count such statements apart). THE CARD IS WHAT COUNTS. Prove the row's statement (the work); the ties are given (YthjfdhkahmlolaaGreatDoorTie.lean); close each card by the builder's one call (the guide's Derived/Test/ToyasCard.lean, 'card_holds'). Laid BY PROGRAM, IN A SANDBOX (cutbox-door.mjs). By AI agents, Wed Nov 11 2026. No macro, syntax, notation, axiom, sorry.
-/
import Derived.Test.YthjfdhkahmlolaaGreatDoorRows
import GoSem.ClaimSeven
namespace Go.Proofs.YthjfdhkahmlolaaGreatDoor
namespace Rows

/-- THE TIED CARD OF 'gnomonlaw02.RealNames'. -/
def realNamesCard : Claim7 := { stood := { row := realNamesRow, standIns := [], harness := (true, "82c53dc2d0325197a1a0b0c6d8807039be144e4be661e4f367ebdcbc4756d7b0"), looks := true }, kinds := [], alts := [], laidByText := true, laidKinds := [.data, .data, .widerDeep, .widerDeep, .data, .data, .data, .data, .data, .data, .sentinel, .sentinel, .pinned, .pinned, .pinned], laidTests := true, laidLooks := .later }
def RealNamesCardSaid : Prop := Claim7.holds Tryz.pinned (.plain (OpenSpec.ofChange realNamesSpec)) realNamesCard

/-- THE TIED CARD OF 'gnomonlaw02.RealPrints'. -/
def realPrintsCard : Claim7 := { stood := { row := realPrintsRow, standIns := [], harness := (true, "82c53dc2d0325197a1a0b0c6d8807039be144e4be661e4f367ebdcbc4756d7b0"), looks := true }, kinds := [], alts := [], laidByText := true, laidKinds := [.data, .data, .widerDeep, .widerDeep, .data, .data, .data, .data, .data, .data, .sentinel, .sentinel, .pinned, .pinned, .pinned], laidTests := true, laidLooks := .later }
def RealPrintsCardSaid : Prop := Claim7.holds Tryz.pinned (.plain (OpenSpec.ofChange realPrintsSpec)) realPrintsCard

/-- THE TIED CARD OF 'gnomonlaw02.RealParses'. -/
def realParsesCard : Claim7 := { stood := { row := realParsesRow, standIns := [], harness := (true, "82c53dc2d0325197a1a0b0c6d8807039be144e4be661e4f367ebdcbc4756d7b0"), looks := true }, kinds := [], alts := [], laidByText := true, laidKinds := [.data, .data, .widerDeep, .widerDeep, .data, .data, .data, .data, .data, .data, .sentinel, .sentinel, .pinned, .pinned, .pinned], laidTests := true, laidLooks := .later }
def RealParsesCardSaid : Prop := Claim7.holds Tryz.pinned (.plain (OpenSpec.ofChange realParsesSpec)) realParsesCard

/-- THE TIED CARD OF 'gnomonlaw02.RealReturns'. -/
def realReturnsCard : Claim7 := { stood := { row := realReturnsRow, standIns := [], harness := (true, "82c53dc2d0325197a1a0b0c6d8807039be144e4be661e4f367ebdcbc4756d7b0"), looks := true }, kinds := [], alts := [], laidByText := true, laidKinds := [.data, .data, .widerDeep, .widerDeep, .data, .data, .data, .data, .data, .data, .sentinel, .sentinel, .pinned, .pinned, .pinned], laidTests := true, laidLooks := .later }
def RealReturnsCardSaid : Prop := Claim7.holds Tryz.pinned (.plain (OpenSpec.ofChange realReturnsSpec)) realReturnsCard

/-- THE TIED CARD OF 'gnomonlaw02.RealOneForm'. -/
def realOneFormCard : Claim7 := { stood := { row := realOneFormRow, standIns := [], harness := (true, "82c53dc2d0325197a1a0b0c6d8807039be144e4be661e4f367ebdcbc4756d7b0"), looks := true }, kinds := [], alts := [], laidByText := true, laidKinds := [.data, .data, .widerDeep, .widerDeep, .data, .data, .data, .data, .data, .data, .sentinel, .sentinel, .pinned, .pinned, .pinned], laidTests := true, laidLooks := .later }
def RealOneFormCardSaid : Prop := Claim7.holds Tryz.pinned (.plain (OpenSpec.ofChange realOneFormSpec)) realOneFormCard

/-- THE TIED CARD OF 'gnomonlaw02.RealShort'. -/
def realShortCard : Claim7 := { stood := { row := realShortRow, standIns := [], harness := (true, "82c53dc2d0325197a1a0b0c6d8807039be144e4be661e4f367ebdcbc4756d7b0"), looks := true }, kinds := [], alts := [], laidByText := true, laidKinds := [.data, .data, .widerDeep, .widerDeep, .data, .data, .data, .data, .data, .data, .sentinel, .sentinel, .pinned, .pinned, .pinned], laidTests := true, laidLooks := .later }
def RealShortCardSaid : Prop := Claim7.holds Tryz.pinned (.plain (OpenSpec.ofChange realShortSpec)) realShortCard

/-- THE SECOND FORM's CARD OF 'gnomonlaw02.RealNames'. -/
def realNamesUptoCard : Claim7 := { stood := { row := realNamesUptoRow, standIns := [], harness := (true, "82c53dc2d0325197a1a0b0c6d8807039be144e4be661e4f367ebdcbc4756d7b0"), looks := true }, kinds := [], alts := [], laidByText := true, laidKinds := [.data, .data, .widerDeep, .widerDeep, .data, .data, .data, .data, .data, .data, .sentinel, .sentinel, .pinned, .pinned, .pinned], laidTests := true, laidLooks := .later }
def RealNamesUptoCardSaid : Prop := Claim7.holds Tryz.pinned (.plain (OpenSpec.upto realNamesSpec)) realNamesUptoCard

/-- THE SECOND FORM's CARD OF 'gnomonlaw02.RealPrints'. -/
def realPrintsUptoCard : Claim7 := { stood := { row := realPrintsUptoRow, standIns := [], harness := (true, "82c53dc2d0325197a1a0b0c6d8807039be144e4be661e4f367ebdcbc4756d7b0"), looks := true }, kinds := [], alts := [], laidByText := true, laidKinds := [.data, .data, .widerDeep, .widerDeep, .data, .data, .data, .data, .data, .data, .sentinel, .sentinel, .pinned, .pinned, .pinned], laidTests := true, laidLooks := .later }
def RealPrintsUptoCardSaid : Prop := Claim7.holds Tryz.pinned (.plain (OpenSpec.upto realPrintsSpec)) realPrintsUptoCard

/-- THE SECOND FORM's CARD OF 'gnomonlaw02.RealParses'. -/
def realParsesUptoCard : Claim7 := { stood := { row := realParsesUptoRow, standIns := [], harness := (true, "82c53dc2d0325197a1a0b0c6d8807039be144e4be661e4f367ebdcbc4756d7b0"), looks := true }, kinds := [], alts := [], laidByText := true, laidKinds := [.data, .data, .widerDeep, .widerDeep, .data, .data, .data, .data, .data, .data, .sentinel, .sentinel, .pinned, .pinned, .pinned], laidTests := true, laidLooks := .later }
def RealParsesUptoCardSaid : Prop := Claim7.holds Tryz.pinned (.plain (OpenSpec.upto realParsesSpec)) realParsesUptoCard

/-- THE SECOND FORM's CARD OF 'gnomonlaw02.RealReturns'. -/
def realReturnsUptoCard : Claim7 := { stood := { row := realReturnsUptoRow, standIns := [], harness := (true, "82c53dc2d0325197a1a0b0c6d8807039be144e4be661e4f367ebdcbc4756d7b0"), looks := true }, kinds := [], alts := [], laidByText := true, laidKinds := [.data, .data, .widerDeep, .widerDeep, .data, .data, .data, .data, .data, .data, .sentinel, .sentinel, .pinned, .pinned, .pinned], laidTests := true, laidLooks := .later }
def RealReturnsUptoCardSaid : Prop := Claim7.holds Tryz.pinned (.plain (OpenSpec.upto realReturnsSpec)) realReturnsUptoCard

/-- THE SECOND FORM's CARD OF 'gnomonlaw02.RealOneForm'. -/
def realOneFormUptoCard : Claim7 := { stood := { row := realOneFormUptoRow, standIns := [], harness := (true, "82c53dc2d0325197a1a0b0c6d8807039be144e4be661e4f367ebdcbc4756d7b0"), looks := true }, kinds := [], alts := [], laidByText := true, laidKinds := [.data, .data, .widerDeep, .widerDeep, .data, .data, .data, .data, .data, .data, .sentinel, .sentinel, .pinned, .pinned, .pinned], laidTests := true, laidLooks := .later }
def RealOneFormUptoCardSaid : Prop := Claim7.holds Tryz.pinned (.plain (OpenSpec.upto realOneFormSpec)) realOneFormUptoCard

/-- THE SECOND FORM's CARD OF 'gnomonlaw02.RealShort'. -/
def realShortUptoCard : Claim7 := { stood := { row := realShortUptoRow, standIns := [], harness := (true, "82c53dc2d0325197a1a0b0c6d8807039be144e4be661e4f367ebdcbc4756d7b0"), looks := true }, kinds := [], alts := [], laidByText := true, laidKinds := [.data, .data, .widerDeep, .widerDeep, .data, .data, .data, .data, .data, .data, .sentinel, .sentinel, .pinned, .pinned, .pinned], laidTests := true, laidLooks := .later }
def RealShortUptoCardSaid : Prop := Claim7.holds Tryz.pinned (.plain (OpenSpec.upto realShortSpec)) realShortUptoCard
end Rows
end Go.Proofs.YthjfdhkahmlolaaGreatDoor
