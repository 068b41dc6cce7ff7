/-
  DERIVED. GIVEN WITH THE SEED: THE CARDS: each row of YtkpbkgfmdjhbpabDoorRows.lean that lists a variable, with what it lists TIED to the program's text (the seventh form; the later family's looks); each row that meets fmt, with fmt's text TOLD by the authors' own Lean function (tested against real Go, not proved from fmt's source: count such statements apart). THE CARD IS WHAT COUNTS. Prove the row's statement (the work); the ties are given (YtkpbkgfmdjhbpabDoorTie.lean); close each card by the builder's one call (the guide's Derived/Test/ToyasCard.lean, 'card_holds'). Laid BY PROGRAM, IN A SANDBOX (cutbox-door.mjs). By AI agents, Wed Nov 11 2026. No macro, syntax, notation, axiom, sorry.
-/
import Derived.Test.YtkpbkgfmdjhbpabDoorRows
import GoSem.ClaimSeven
namespace Go.Proofs.YtkpbkgfmdjhbpabDoor
namespace Rows

/-- THE TIED CARD OF 'solsticelaw35.EmitTells'. -/
def emitTellsCard : Claim7 := { stood := { row := emitTellsRow, standIns := [], harness := (true, "999dd3f1ec41be45babd34ef33b83bc79e558b833273c7a0be987fa7c7a59f9a"), looks := true }, kinds := [], alts := [], laidByText := true, laidKinds := [.data, .data, .data, .data, .pinned], laidTests := true, laidLooks := .later }
def EmitTellsCardSaid : Prop := Claim7.holds Tryd.pinned (.plain (OpenSpec.ofChange emitTellsSpec)) emitTellsCard

/-- THE TIED CARD OF 'solsticelaw35.EmitEach'. -/
def emitEachCard : Claim7 := { stood := { row := emitEachRow, standIns := [], harness := (true, "999dd3f1ec41be45babd34ef33b83bc79e558b833273c7a0be987fa7c7a59f9a"), looks := true }, kinds := [], alts := [], laidByText := true, laidKinds := [.data, .data, .data, .data, .pinned], laidTests := true, laidLooks := .later }
def EmitEachCardSaid : Prop := Claim7.holds Tryd.pinned (.plain (OpenSpec.ofChange emitEachSpec)) emitEachCard

/-- THE TIED CARD OF 'solsticetop.TopRenamed'. -/
def topRenamedCard : Claim7 := { stood := { row := topRenamedRow, standIns := [], harness := (true, "999dd3f1ec41be45babd34ef33b83bc79e558b833273c7a0be987fa7c7a59f9a"), looks := true }, kinds := [], alts := [], laidByText := true, laidKinds := [.data, .data, .pinned], laidTests := true, laidLooks := .later }
def TopRenamedCardSaid : Prop := Claim7.holds Tryd.pinned (.plain (OpenSpec.ofChange topRenamedSpec)) topRenamedCard

/-- THE TIED CARD OF 'solsticelaw39.TellBack'. -/
def tellBackCard : Claim7 := { stood := { row := tellBackRow, standIns := [], harness := (true, "999dd3f1ec41be45babd34ef33b83bc79e558b833273c7a0be987fa7c7a59f9a"), looks := true }, kinds := [], alts := [], laidByText := true, laidKinds := [.data, .data, .data, .sentinel, .sentinel, .data], laidTests := true, laidLooks := .later }
def TellBackCardSaid : Prop := Claim7.holds Tryd.pinned (.plain (OpenSpec.ofChange tellBackSpec)) tellBackCard

/-- THE TIED CARD OF 'solsticelaw09.RuleBack'. -/
def ruleBackCard : Claim7 := { stood := { row := ruleBackRow, standIns := [], harness := (true, "999dd3f1ec41be45babd34ef33b83bc79e558b833273c7a0be987fa7c7a59f9a"), looks := true }, kinds := [], alts := [], laidByText := true, laidKinds := [.data, .data, .data, .data, .data, .pinned], laidTests := true, laidLooks := .later }
def RuleBackCardSaid : Prop := Claim7.holds Tryd.pinned (.plain (OpenSpec.ofChange ruleBackSpec)) ruleBackCard

/-- THE TIED CARD OF 'solsticelaw07.MomentWhen'. -/
def momentWhenCard : Claim7 := { stood := { row := momentWhenRow, standIns := [], harness := (true, "999dd3f1ec41be45babd34ef33b83bc79e558b833273c7a0be987fa7c7a59f9a"), looks := true }, kinds := [], alts := [], laidByText := true, laidKinds := [.data, .data, .data, .data, .data, .data, .pinned], laidTests := true, laidLooks := .later }
def MomentWhenCardSaid : Prop := Claim7.holds Tryd.pinned (.plain (OpenSpec.ofChange momentWhenSpec)) momentWhenCard

/-- THE SECOND FORM's CARD OF 'solsticelaw35.EmitTells'. -/
def emitTellsUptoCard : Claim7 := { stood := { row := emitTellsUptoRow, standIns := [], harness := (true, "999dd3f1ec41be45babd34ef33b83bc79e558b833273c7a0be987fa7c7a59f9a"), looks := true }, kinds := [], alts := [], laidByText := true, laidKinds := [.data, .data, .data, .data, .pinned], laidTests := true, laidLooks := .later }
def EmitTellsUptoCardSaid : Prop := Claim7.holds Tryd.pinned (.plain (OpenSpec.upto emitTellsSpec)) emitTellsUptoCard

/-- THE SECOND FORM's CARD OF 'solsticelaw35.EmitEach'. -/
def emitEachUptoCard : Claim7 := { stood := { row := emitEachUptoRow, standIns := [], harness := (true, "999dd3f1ec41be45babd34ef33b83bc79e558b833273c7a0be987fa7c7a59f9a"), looks := true }, kinds := [], alts := [], laidByText := true, laidKinds := [.data, .data, .data, .data, .pinned], laidTests := true, laidLooks := .later }
def EmitEachUptoCardSaid : Prop := Claim7.holds Tryd.pinned (.plain (OpenSpec.upto emitEachSpec)) emitEachUptoCard

/-- THE SECOND FORM's CARD OF 'solsticetop.TopRenamed'. -/
def topRenamedUptoCard : Claim7 := { stood := { row := topRenamedUptoRow, standIns := [], harness := (true, "999dd3f1ec41be45babd34ef33b83bc79e558b833273c7a0be987fa7c7a59f9a"), looks := true }, kinds := [], alts := [], laidByText := true, laidKinds := [.data, .data, .pinned], laidTests := true, laidLooks := .later }
def TopRenamedUptoCardSaid : Prop := Claim7.holds Tryd.pinned (.plain (OpenSpec.upto topRenamedSpec)) topRenamedUptoCard

/-- THE SECOND FORM's CARD OF 'solsticelaw39.TellBack'. -/
def tellBackUptoCard : Claim7 := { stood := { row := tellBackUptoRow, standIns := [], harness := (true, "999dd3f1ec41be45babd34ef33b83bc79e558b833273c7a0be987fa7c7a59f9a"), looks := true }, kinds := [], alts := [], laidByText := true, laidKinds := [.data, .data, .data, .sentinel, .sentinel, .data], laidTests := true, laidLooks := .later }
def TellBackUptoCardSaid : Prop := Claim7.holds Tryd.pinned (.plain (OpenSpec.upto tellBackSpec)) tellBackUptoCard

/-- THE SECOND FORM's CARD OF 'solsticelaw09.RuleBack'. -/
def ruleBackUptoCard : Claim7 := { stood := { row := ruleBackUptoRow, standIns := [], harness := (true, "999dd3f1ec41be45babd34ef33b83bc79e558b833273c7a0be987fa7c7a59f9a"), looks := true }, kinds := [], alts := [], laidByText := true, laidKinds := [.data, .data, .data, .data, .data, .pinned], laidTests := true, laidLooks := .later }
def RuleBackUptoCardSaid : Prop := Claim7.holds Tryd.pinned (.plain (OpenSpec.upto ruleBackSpec)) ruleBackUptoCard

/-- THE SECOND FORM's CARD OF 'solsticelaw07.MomentWhen'. -/
def momentWhenUptoCard : Claim7 := { stood := { row := momentWhenUptoRow, standIns := [], harness := (true, "999dd3f1ec41be45babd34ef33b83bc79e558b833273c7a0be987fa7c7a59f9a"), looks := true }, kinds := [], alts := [], laidByText := true, laidKinds := [.data, .data, .data, .data, .data, .data, .pinned], laidTests := true, laidLooks := .later }
def MomentWhenUptoCardSaid : Prop := Claim7.holds Tryd.pinned (.plain (OpenSpec.upto momentWhenSpec)) momentWhenUptoCard
end Rows
end Go.Proofs.YtkpbkgfmdjhbpabDoor
