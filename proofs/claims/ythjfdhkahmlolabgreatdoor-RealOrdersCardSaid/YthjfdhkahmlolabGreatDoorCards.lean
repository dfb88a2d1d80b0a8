/-
  DERIVED. GIVEN WITH THE SEED: THE CARDS: each row of YthjfdhkahmlolabGreatDoorRows.lean that lists a variable, with what it lists TIED to the program's text (the seventh form; the later family's looks); each row that meets fmt, with fmt's text TOLD by the authors' own Lean function (tested against real Go, not proved from fmt's source: count such statements apart). THE CARD IS WHAT COUNTS. Prove the row's statement (the work); the ties are given (YthjfdhkahmlolabGreatDoorTie.lean); close each card by the builder's one call (the guide's Derived/Test/ToyasCard.lean, 'card_holds'). Laid BY PROGRAM, IN A SANDBOX (cutbox-door.mjs). By AI agents, Wed Nov 11 2026. No macro, syntax, notation, axiom, sorry.
-/
import Derived.Test.YthjfdhkahmlolabGreatDoorRows
import GoSem.ClaimSeven
namespace Go.Proofs.YthjfdhkahmlolabGreatDoor
namespace Rows

/-- THE TIED CARD OF 'gnomonlaw02.RealOrders'. -/
def realOrdersCard : Claim7 := { stood := { row := realOrdersRow, standIns := [], harness := (true, "5da93f4540d11a10ab69a4217e3daf76508bd75902695f30f7d648fd01f97ee0"), looks := true }, kinds := [], alts := [], laidByText := true, laidKinds := [.data, .data, .widerDeep, .widerDeep, .data, .data, .data, .data, .data, .data, .sentinel, .sentinel, .pinned, .pinned, .pinned], laidTests := true, laidLooks := .later }
def RealOrdersCardSaid : Prop := Claim7.holds Tryz.pinned (.plain (OpenSpec.ofChange realOrdersSpec)) realOrdersCard

/-- THE SECOND FORM's CARD OF 'gnomonlaw02.RealOrders'. -/
def realOrdersUptoCard : Claim7 := { stood := { row := realOrdersUptoRow, standIns := [], harness := (true, "5da93f4540d11a10ab69a4217e3daf76508bd75902695f30f7d648fd01f97ee0"), looks := true }, kinds := [], alts := [], laidByText := true, laidKinds := [.data, .data, .widerDeep, .widerDeep, .data, .data, .data, .data, .data, .data, .sentinel, .sentinel, .pinned, .pinned, .pinned], laidTests := true, laidLooks := .later }
def RealOrdersUptoCardSaid : Prop := Claim7.holds Tryz.pinned (.plain (OpenSpec.upto realOrdersSpec)) realOrdersUptoCard
end Rows
end Go.Proofs.YthjfdhkahmlolabGreatDoor
