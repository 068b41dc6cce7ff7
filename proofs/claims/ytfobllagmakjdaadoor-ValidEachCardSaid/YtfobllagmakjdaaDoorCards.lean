/-
  DERIVED. GIVEN WITH THE SEED: THE CARDS: each row of YtfobllagmakjdaaDoorRows.lean that lists a variable, with what it lists TIED to the program's text (the seventh form; the later family's looks); each row that meets fmt, with fmt's text TOLD by the authors' own Lean function (tested against real Go, not proved from fmt's source: count such statements apart). THE CARD IS WHAT COUNTS. Prove the row's statement (the work); the ties are given (YtfobllagmakjdaaDoorTie.lean); close each card by the builder's one call (the guide's Derived/Test/ToyasCard.lean, 'card_holds'). Laid BY PROGRAM, IN A SANDBOX (cutbox-door.mjs). By AI agents, Wed Nov 11 2026. No macro, syntax, notation, axiom, sorry.
-/
import Derived.Test.YtfobllagmakjdaaDoorRows
import GoSem.ClaimSeven
namespace Go.Proofs.YtfobllagmakjdaaDoor
namespace Rows

/-- THE TIED CARD OF 'solsticelaw14.ValidEach'. -/
def validEachCard : Claim7 := { stood := { row := validEachRow, standIns := [], harness := (true, "1216896a887c01dc24071cff7b6da28f9dfb87137ee83e9377daf3c47b56872c"), looks := false }, kinds := [], alts := [], laidByText := true, laidKinds := [.data, .data], laidTests := true, laidLooks := .later }
def ValidEachCardSaid : Prop := Claim7.holds Tryd.pinned (.plain (OpenSpec.ofChange validEachSpec)) validEachCard

/-- THE SECOND FORM's CARD OF 'solsticelaw14.ValidEach'. -/
def validEachUptoCard : Claim7 := { stood := { row := validEachUptoRow, standIns := [], harness := (true, "1216896a887c01dc24071cff7b6da28f9dfb87137ee83e9377daf3c47b56872c"), looks := false }, kinds := [], alts := [], laidByText := true, laidKinds := [.data, .data], laidTests := true, laidLooks := .later }
def ValidEachUptoCardSaid : Prop := Claim7.holds Tryd.pinned (.plain (OpenSpec.upto validEachSpec)) validEachUptoCard
end Rows
end Go.Proofs.YtfobllagmakjdaaDoor
