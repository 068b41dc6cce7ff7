/-
  DERIVED. GIVEN WITH THE SEED: THE CARDS: each row of YtlhoggalhjadgaaGreatDoorRows.lean that lists a variable, with what it lists TIED to the program's text (the seventh form; the later family's looks); each row that meets fmt, with fmt's text TOLD by the authors' own Lean function (tested against real Go, not proved from fmt's source: count such statements apart). THE CARD IS WHAT COUNTS. Prove the row's statement (the work); the ties are given (YtlhoggalhjadgaaGreatDoorTie.lean); close each card by the builder's one call (the guide's Derived/Test/ToyasCard.lean, 'card_holds'). Laid BY PROGRAM, IN A SANDBOX (cutbox-door.mjs). By AI agents, Wed Nov 11 2026. No macro, syntax, notation, axiom, sorry.
-/
import Derived.Test.YtlhoggalhjadgaaGreatDoorRows
import GoSem.ClaimSeven
namespace Go.Proofs.YtlhoggalhjadgaaGreatDoor
namespace Rows

/-- THE TIED CARD OF 'solsticelaw12.PrintBack'. -/
def printBackCard : Claim7 := { stood := { row := printBackRow, standIns := [], harness := (true, "01f72fbc57d87bf084a857cfc07ae6806a1d486ef10ae97117b71502a0964c4b"), looks := false }, kinds := [], alts := [], laidByText := true, laidKinds := [.data, .data, .data, .data, .data, .data, .pinned], laidTests := true, laidLooks := .later }
def PrintBackCardSaid : Prop := Claim7.holds Tryz.pinned (.plain (OpenSpec.ofChange printBackSpec)) printBackCard

/-- THE TIED CARD OF 'solsticetop.TopJoined'. -/
def topJoinedCard : Claim7 := { stood := { row := topJoinedRow, standIns := [], harness := (true, "01f72fbc57d87bf084a857cfc07ae6806a1d486ef10ae97117b71502a0964c4b"), looks := false }, kinds := [], alts := [], laidByText := true, laidKinds := [.data, .data, .data, .data, .data, .data, .pinned], laidTests := true, laidLooks := .later }
def TopJoinedCardSaid : Prop := Claim7.holds Tryz.pinned (.plain (OpenSpec.ofChange topJoinedSpec)) topJoinedCard

/-- THE TIED CARD OF 'solsticetop.TopNoted'. -/
def topNotedCard : Claim7 := { stood := { row := topNotedRow, standIns := [], harness := (true, "01f72fbc57d87bf084a857cfc07ae6806a1d486ef10ae97117b71502a0964c4b"), looks := false }, kinds := [], alts := [], laidByText := true, laidKinds := [.data, .data, .data, .data, .data, .data, .pinned], laidTests := true, laidLooks := .later }
def TopNotedCardSaid : Prop := Claim7.holds Tryz.pinned (.plain (OpenSpec.ofChange topNotedSpec)) topNotedCard

/-- THE SECOND FORM's CARD OF 'solsticelaw12.PrintBack'. -/
def printBackUptoCard : Claim7 := { stood := { row := printBackUptoRow, standIns := [], harness := (true, "01f72fbc57d87bf084a857cfc07ae6806a1d486ef10ae97117b71502a0964c4b"), looks := false }, kinds := [], alts := [], laidByText := true, laidKinds := [.data, .data, .data, .data, .data, .data, .pinned], laidTests := true, laidLooks := .later }
def PrintBackUptoCardSaid : Prop := Claim7.holds Tryz.pinned (.plain (OpenSpec.upto printBackSpec)) printBackUptoCard

/-- THE SECOND FORM's CARD OF 'solsticetop.TopJoined'. -/
def topJoinedUptoCard : Claim7 := { stood := { row := topJoinedUptoRow, standIns := [], harness := (true, "01f72fbc57d87bf084a857cfc07ae6806a1d486ef10ae97117b71502a0964c4b"), looks := false }, kinds := [], alts := [], laidByText := true, laidKinds := [.data, .data, .data, .data, .data, .data, .pinned], laidTests := true, laidLooks := .later }
def TopJoinedUptoCardSaid : Prop := Claim7.holds Tryz.pinned (.plain (OpenSpec.upto topJoinedSpec)) topJoinedUptoCard

/-- THE SECOND FORM's CARD OF 'solsticetop.TopNoted'. -/
def topNotedUptoCard : Claim7 := { stood := { row := topNotedUptoRow, standIns := [], harness := (true, "01f72fbc57d87bf084a857cfc07ae6806a1d486ef10ae97117b71502a0964c4b"), looks := false }, kinds := [], alts := [], laidByText := true, laidKinds := [.data, .data, .data, .data, .data, .data, .pinned], laidTests := true, laidLooks := .later }
def TopNotedUptoCardSaid : Prop := Claim7.holds Tryz.pinned (.plain (OpenSpec.upto topNotedSpec)) topNotedUptoCard
end Rows
end Go.Proofs.YtlhoggalhjadgaaGreatDoor
