/-
  DERIVED. GIVEN WITH THE SEED: THE CARDS: each row of YthmhadgbhakdlaaDoorRows.lean that lists a variable, with what it lists TIED to the program's text (the seventh form; the later family's looks); each row that meets fmt, with fmt's text TOLD by the authors' own Lean function (tested against real Go, not proved from fmt's source: count such statements apart). THE CARD IS WHAT COUNTS. Prove the row's statement (the work); the ties are given (YthmhadgbhakdlaaDoorTie.lean); close each card by the builder's one call (the guide's Derived/Test/ToyasCard.lean, 'card_holds'). Laid BY PROGRAM, IN A SANDBOX (cutbox-door.mjs). By AI agents, Wed Nov 11 2026. No macro, syntax, notation, axiom, sorry.
-/
import Derived.Test.YthmhadgbhakdlaaDoorRows
import GoSem.ClaimSeven
namespace Go.Proofs.YthmhadgbhakdlaaDoor
namespace Rows

/-- THE TIED CARD OF 'solsticetop.TopWrapped'. -/
def topWrappedCard : Claim7 := { stood := { row := topWrappedRow, standIns := [], harness := (true, "ed7701b9c0a866537436b5b00c07d745df2b60aeaf635dca4698db3e62e90935"), looks := false }, kinds := [], alts := [], laidByText := true, laidKinds := [.data, .pinned], laidTests := true, laidLooks := .later }
def TopWrappedCardSaid : Prop := Claim7.holds Tryd.pinned (.plain (OpenSpec.ofChange topWrappedSpec)) topWrappedCard

/-- THE SECOND FORM's CARD OF 'solsticetop.TopWrapped'. -/
def topWrappedUptoCard : Claim7 := { stood := { row := topWrappedUptoRow, standIns := [], harness := (true, "ed7701b9c0a866537436b5b00c07d745df2b60aeaf635dca4698db3e62e90935"), looks := false }, kinds := [], alts := [], laidByText := true, laidKinds := [.data, .pinned], laidTests := true, laidLooks := .later }
def TopWrappedUptoCardSaid : Prop := Claim7.holds Tryd.pinned (.plain (OpenSpec.upto topWrappedSpec)) topWrappedUptoCard
end Rows
end Go.Proofs.YthmhadgbhakdlaaDoor
