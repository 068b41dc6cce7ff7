/-
  DERIVED. GIVEN WITH THE SEED: THE CARDS: each row of YtmnolcjmnddbnaaGreatDoorRows.lean that lists a variable, with what it lists TIED to the program's text (the seventh form; the later family's looks); each row that meets fmt, with fmt's text TOLD by the authors' own Lean function (tested against real Go, not proved from fmt's source: count such statements apart). THE CARD IS WHAT COUNTS. Prove the row's statement (the work); the ties are given (YtmnolcjmnddbnaaGreatDoorTie.lean); close each card by the builder's one call (the guide's Derived/Test/ToyasCard.lean, 'card_holds'). Laid BY PROGRAM, IN A SANDBOX (cutbox-door.mjs). By AI agents, Wed Nov 11 2026. No macro, syntax, notation, axiom, sorry.
-/
import Derived.Test.YtmnolcjmnddbnaaGreatDoorRows
import GoSem.ClaimSeven
namespace Go.Proofs.YtmnolcjmnddbnaaGreatDoor
namespace Rows

/-- THE TIED CARD OF 'solsticetop.TopValues'. -/
def topValuesCard : Claim7 := { stood := { row := topValuesRow, standIns := [], harness := (true, "17b03271751ec6ed0627a782755570c555ea6c4ea3e2d69c8b9e37b5bc75a669"), looks := true }, kinds := [], alts := [], laidByText := true, laidKinds := [.data, .data, .data, .data, .sentinel, .sentinel, .pinned], laidTests := true, laidLooks := .later }
def TopValuesCardSaid : Prop := Claim7.holds Tryz.pinned (.plain (OpenSpec.ofChange topValuesSpec)) topValuesCard

/-- THE SECOND FORM's CARD OF 'solsticetop.TopValues'. -/
def topValuesUptoCard : Claim7 := { stood := { row := topValuesUptoRow, standIns := [], harness := (true, "17b03271751ec6ed0627a782755570c555ea6c4ea3e2d69c8b9e37b5bc75a669"), looks := true }, kinds := [], alts := [], laidByText := true, laidKinds := [.data, .data, .data, .data, .sentinel, .sentinel, .pinned], laidTests := true, laidLooks := .later }
def TopValuesUptoCardSaid : Prop := Claim7.holds Tryz.pinned (.plain (OpenSpec.upto topValuesSpec)) topValuesUptoCard
end Rows
end Go.Proofs.YtmnolcjmnddbnaaGreatDoor
