/-
  DERIVED. GIVEN WITH THE SEED: THE CARDS: each row of YtiijgghholhcnaaGreatDoorRows.lean that lists a variable, with what it lists TIED to the program's text (the seventh form; the later family's looks); each row that meets fmt, with fmt's text TOLD by the authors' own Lean function (tested against real Go, not proved from fmt's source: count such statements apart). THE CARD IS WHAT COUNTS. Prove the row's statement (the work); the ties are given (YtiijgghholhcnaaGreatDoorTie.lean); close each card by the builder's one call (the guide's Derived/Test/ToyasCard.lean, 'card_holds'). Laid BY PROGRAM, IN A SANDBOX (cutbox-door.mjs). By AI agents, Wed Nov 11 2026. No macro, syntax, notation, axiom, sorry.
-/
import Derived.Test.YtiijgghholhcnaaGreatDoorRows
import GoSem.ClaimSeven
namespace Go.Proofs.YtiijgghholhcnaaGreatDoor
namespace Rows

/-- THE TIED CARD OF 'gnomonlaw16.ExpoNames'. -/
def expoNamesCard : Claim7 := { stood := { row := expoNamesRow, standIns := [], harness := (true, "1599d2da37260768c824867a53712b3c1f47ce5a42b4d0d7f874cae54d2dade9"), looks := true }, kinds := [], alts := [], laidByText := true, laidKinds := [.data, .data, .data, .data, .data, .sentinel, .sentinel, .pinned, .pinned, .pinned], laidTests := true, laidLooks := .later }
def ExpoNamesCardSaid : Prop := Claim7.holds Tryz.pinned (.plain (OpenSpec.ofChange expoNamesSpec)) expoNamesCard

/-- THE TIED CARD OF 'gnomonlaw16.ExpoWrites'. -/
def expoWritesCard : Claim7 := { stood := { row := expoWritesRow, standIns := [], harness := (true, "1599d2da37260768c824867a53712b3c1f47ce5a42b4d0d7f874cae54d2dade9"), looks := true }, kinds := [], alts := [], laidByText := true, laidKinds := [.data, .data, .data, .data, .data, .sentinel, .sentinel, .pinned, .pinned, .pinned], laidTests := true, laidLooks := .later }
def ExpoWritesCardSaid : Prop := Claim7.holds Tryz.pinned (.plain (OpenSpec.ofChange expoWritesSpec)) expoWritesCard

/-- THE TIED CARD OF 'gnomonlaw16.ExpoLines'. -/
def expoLinesCard : Claim7 := { stood := { row := expoLinesRow, standIns := [], harness := (true, "1599d2da37260768c824867a53712b3c1f47ce5a42b4d0d7f874cae54d2dade9"), looks := true }, kinds := [], alts := [], laidByText := true, laidKinds := [.data, .data, .data, .data, .data, .sentinel, .sentinel, .pinned, .pinned, .pinned], laidTests := true, laidLooks := .later }
def ExpoLinesCardSaid : Prop := Claim7.holds Tryz.pinned (.plain (OpenSpec.ofChange expoLinesSpec)) expoLinesCard

/-- THE TIED CARD OF 'gnomonlaw16.ExpoApart'. -/
def expoApartCard : Claim7 := { stood := { row := expoApartRow, standIns := [], harness := (true, "1599d2da37260768c824867a53712b3c1f47ce5a42b4d0d7f874cae54d2dade9"), looks := true }, kinds := [], alts := [], laidByText := true, laidKinds := [.data, .data, .data, .data, .data, .sentinel, .sentinel, .pinned, .pinned, .pinned], laidTests := true, laidLooks := .later }
def ExpoApartCardSaid : Prop := Claim7.holds Tryz.pinned (.plain (OpenSpec.ofChange expoApartSpec)) expoApartCard

/-- THE TIED CARD OF 'gnomonlaw16.ExpoKeeps'. -/
def expoKeepsCard : Claim7 := { stood := { row := expoKeepsRow, standIns := [], harness := (true, "1599d2da37260768c824867a53712b3c1f47ce5a42b4d0d7f874cae54d2dade9"), looks := true }, kinds := [], alts := [], laidByText := true, laidKinds := [.data, .data, .data, .data, .data, .sentinel, .sentinel, .pinned, .pinned, .pinned], laidTests := true, laidLooks := .later }
def ExpoKeepsCardSaid : Prop := Claim7.holds Tryz.pinned (.plain (OpenSpec.ofChange expoKeepsSpec)) expoKeepsCard

/-- THE SECOND FORM's CARD OF 'gnomonlaw16.ExpoNames'. -/
def expoNamesUptoCard : Claim7 := { stood := { row := expoNamesUptoRow, standIns := [], harness := (true, "1599d2da37260768c824867a53712b3c1f47ce5a42b4d0d7f874cae54d2dade9"), looks := true }, kinds := [], alts := [], laidByText := true, laidKinds := [.data, .data, .data, .data, .data, .sentinel, .sentinel, .pinned, .pinned, .pinned], laidTests := true, laidLooks := .later }
def ExpoNamesUptoCardSaid : Prop := Claim7.holds Tryz.pinned (.plain (OpenSpec.upto expoNamesSpec)) expoNamesUptoCard

/-- THE SECOND FORM's CARD OF 'gnomonlaw16.ExpoWrites'. -/
def expoWritesUptoCard : Claim7 := { stood := { row := expoWritesUptoRow, standIns := [], harness := (true, "1599d2da37260768c824867a53712b3c1f47ce5a42b4d0d7f874cae54d2dade9"), looks := true }, kinds := [], alts := [], laidByText := true, laidKinds := [.data, .data, .data, .data, .data, .sentinel, .sentinel, .pinned, .pinned, .pinned], laidTests := true, laidLooks := .later }
def ExpoWritesUptoCardSaid : Prop := Claim7.holds Tryz.pinned (.plain (OpenSpec.upto expoWritesSpec)) expoWritesUptoCard

/-- THE SECOND FORM's CARD OF 'gnomonlaw16.ExpoLines'. -/
def expoLinesUptoCard : Claim7 := { stood := { row := expoLinesUptoRow, standIns := [], harness := (true, "1599d2da37260768c824867a53712b3c1f47ce5a42b4d0d7f874cae54d2dade9"), looks := true }, kinds := [], alts := [], laidByText := true, laidKinds := [.data, .data, .data, .data, .data, .sentinel, .sentinel, .pinned, .pinned, .pinned], laidTests := true, laidLooks := .later }
def ExpoLinesUptoCardSaid : Prop := Claim7.holds Tryz.pinned (.plain (OpenSpec.upto expoLinesSpec)) expoLinesUptoCard

/-- THE SECOND FORM's CARD OF 'gnomonlaw16.ExpoApart'. -/
def expoApartUptoCard : Claim7 := { stood := { row := expoApartUptoRow, standIns := [], harness := (true, "1599d2da37260768c824867a53712b3c1f47ce5a42b4d0d7f874cae54d2dade9"), looks := true }, kinds := [], alts := [], laidByText := true, laidKinds := [.data, .data, .data, .data, .data, .sentinel, .sentinel, .pinned, .pinned, .pinned], laidTests := true, laidLooks := .later }
def ExpoApartUptoCardSaid : Prop := Claim7.holds Tryz.pinned (.plain (OpenSpec.upto expoApartSpec)) expoApartUptoCard

/-- THE SECOND FORM's CARD OF 'gnomonlaw16.ExpoKeeps'. -/
def expoKeepsUptoCard : Claim7 := { stood := { row := expoKeepsUptoRow, standIns := [], harness := (true, "1599d2da37260768c824867a53712b3c1f47ce5a42b4d0d7f874cae54d2dade9"), looks := true }, kinds := [], alts := [], laidByText := true, laidKinds := [.data, .data, .data, .data, .data, .sentinel, .sentinel, .pinned, .pinned, .pinned], laidTests := true, laidLooks := .later }
def ExpoKeepsUptoCardSaid : Prop := Claim7.holds Tryz.pinned (.plain (OpenSpec.upto expoKeepsSpec)) expoKeepsUptoCard
end Rows
end Go.Proofs.YtiijgghholhcnaaGreatDoor
