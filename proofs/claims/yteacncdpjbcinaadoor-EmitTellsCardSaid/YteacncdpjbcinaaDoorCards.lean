/-
  DERIVED. GIVEN WITH THE SEED: THE CARDS: each row of YteacncdpjbcinaaDoorRows.lean that lists a variable, with what it lists TIED to the program's text (the seventh form; the later family's looks); each row that meets fmt, with fmt's text TOLD by the authors' own Lean function (tested against real Go, not proved from fmt's source: count such statements apart). THE CARD IS WHAT COUNTS. Prove the row's statement (the work); the ties are given (YteacncdpjbcinaaDoorTie.lean); close each card by the builder's one call (the guide's Derived/Test/ToyasCard.lean, 'card_holds'). Laid BY PROGRAM, IN A SANDBOX (cutbox-door.mjs). By AI agents, Wed Nov 11 2026. No macro, syntax, notation, axiom, sorry.
-/
import Derived.Test.YteacncdpjbcinaaDoorRows
import GoSem.ClaimSeven
namespace Go.Proofs.YteacncdpjbcinaaDoor
namespace Rows

/-- THE TIED CARD OF 'solsticelaw35.EmitTells'. -/
def emitTellsCard : Claim7 := { stood := { row := emitTellsRow, standIns := [], harness := (true, "fb22e056bb95dae45fb41aad4958f3532016c02991c0666136c2394f87469639"), looks := false }, kinds := [], alts := [], laidByText := true, laidKinds := [.data, .data, .data, .data, .pinned], laidTests := true, laidLooks := .later }
def EmitTellsCardSaid : Prop := Claim7.holds Tryd.pinned (.plain (OpenSpec.ofChange emitTellsSpec)) emitTellsCard

/-- THE TIED CARD OF 'solsticelaw35.EmitEach'. -/
def emitEachCard : Claim7 := { stood := { row := emitEachRow, standIns := [], harness := (true, "fb22e056bb95dae45fb41aad4958f3532016c02991c0666136c2394f87469639"), looks := false }, kinds := [], alts := [], laidByText := true, laidKinds := [.data, .data, .data, .data, .pinned], laidTests := true, laidLooks := .later }
def EmitEachCardSaid : Prop := Claim7.holds Tryd.pinned (.plain (OpenSpec.ofChange emitEachSpec)) emitEachCard

/-- THE SECOND FORM's CARD OF 'solsticelaw35.EmitTells'. -/
def emitTellsUptoCard : Claim7 := { stood := { row := emitTellsUptoRow, standIns := [], harness := (true, "fb22e056bb95dae45fb41aad4958f3532016c02991c0666136c2394f87469639"), looks := false }, kinds := [], alts := [], laidByText := true, laidKinds := [.data, .data, .data, .data, .pinned], laidTests := true, laidLooks := .later }
def EmitTellsUptoCardSaid : Prop := Claim7.holds Tryd.pinned (.plain (OpenSpec.upto emitTellsSpec)) emitTellsUptoCard

/-- THE SECOND FORM's CARD OF 'solsticelaw35.EmitEach'. -/
def emitEachUptoCard : Claim7 := { stood := { row := emitEachUptoRow, standIns := [], harness := (true, "fb22e056bb95dae45fb41aad4958f3532016c02991c0666136c2394f87469639"), looks := false }, kinds := [], alts := [], laidByText := true, laidKinds := [.data, .data, .data, .data, .pinned], laidTests := true, laidLooks := .later }
def EmitEachUptoCardSaid : Prop := Claim7.holds Tryd.pinned (.plain (OpenSpec.upto emitEachSpec)) emitEachUptoCard
end Rows
end Go.Proofs.YteacncdpjbcinaaDoor
