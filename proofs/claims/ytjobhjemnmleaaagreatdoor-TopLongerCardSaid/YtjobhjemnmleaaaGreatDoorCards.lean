/-
  DERIVED. GIVEN WITH THE SEED: THE CARDS: each row of YtjobhjemnmleaaaGreatDoorRows.lean that lists a variable, with what it lists TIED to the program's text (the seventh form; the later family's looks); each row that meets fmt, with fmt's text TOLD by the authors' own Lean function (tested against real Go, not proved from fmt's source: count such statements apart). THE CARD IS WHAT COUNTS. Prove the row's statement (the work); the ties are given (YtjobhjemnmleaaaGreatDoorTie.lean); close each card by the builder's one call (the guide's Derived/Test/ToyasCard.lean, 'card_holds'). Laid BY PROGRAM, IN A SANDBOX (cutbox-door.mjs). By AI agents, Wed Nov 11 2026. No macro, syntax, notation, axiom, sorry.
-/
import Derived.Test.YtjobhjemnmleaaaGreatDoorRows
import GoSem.ClaimSeven
namespace Go.Proofs.YtjobhjemnmleaaaGreatDoor
namespace Rows

/-- THE TIED CARD OF 'solsticelaw46.DiffBack'. -/
def diffBackCard : Claim7 := { stood := { row := diffBackRow, standIns := [], harness := (true, "9193555e64560baa29a499c8dda331d04013be197db69ce98f971571999570f8"), looks := false }, kinds := [], alts := [], laidByText := true, laidKinds := [.data, .data], laidTests := true, laidLooks := .later }
def DiffBackCardSaid : Prop := Claim7.holds Tryz.pinned (.plain (OpenSpec.ofChange diffBackSpec)) diffBackCard

/-- THE TIED CARD OF 'solsticelaw27.CompileMore'. -/
def compileMoreCard : Claim7 := { stood := { row := compileMoreRow, standIns := [], harness := (true, "9193555e64560baa29a499c8dda331d04013be197db69ce98f971571999570f8"), looks := false }, kinds := [], alts := [], laidByText := true, laidKinds := [.data, .data], laidTests := true, laidLooks := .later }
def CompileMoreCardSaid : Prop := Claim7.holds Tryz.pinned (.plain (OpenSpec.ofChange compileMoreSpec)) compileMoreCard

/-- THE TIED CARD OF 'solsticelaw27.CompileJust'. -/
def compileJustCard : Claim7 := { stood := { row := compileJustRow, standIns := [], harness := (true, "9193555e64560baa29a499c8dda331d04013be197db69ce98f971571999570f8"), looks := false }, kinds := [], alts := [], laidByText := true, laidKinds := [.data, .data], laidTests := true, laidLooks := .later }
def CompileJustCardSaid : Prop := Claim7.holds Tryz.pinned (.plain (OpenSpec.ofChange compileJustSpec)) compileJustCard

/-- THE TIED CARD OF 'solsticelaw29.AuditAll'. -/
def auditAllCard : Claim7 := { stood := { row := auditAllRow, standIns := [], harness := (true, "9193555e64560baa29a499c8dda331d04013be197db69ce98f971571999570f8"), looks := false }, kinds := [], alts := [], laidByText := true, laidKinds := [.data, .data], laidTests := true, laidLooks := .later }
def AuditAllCardSaid : Prop := Claim7.holds Tryz.pinned (.plain (OpenSpec.ofChange auditAllSpec)) auditAllCard

/-- THE TIED CARD OF 'solsticetop.TopLonger'. -/
def topLongerCard : Claim7 := { stood := { row := topLongerRow, standIns := [], harness := (true, "9193555e64560baa29a499c8dda331d04013be197db69ce98f971571999570f8"), looks := false }, kinds := [], alts := [], laidByText := true, laidKinds := [.data, .data], laidTests := true, laidLooks := .later }
def TopLongerCardSaid : Prop := Claim7.holds Tryz.pinned (.plain (OpenSpec.ofChange topLongerSpec)) topLongerCard

/-- THE TIED CARD OF 'solsticetop.TopPlanned'. -/
def topPlannedCard : Claim7 := { stood := { row := topPlannedRow, standIns := [], harness := (true, "9193555e64560baa29a499c8dda331d04013be197db69ce98f971571999570f8"), looks := false }, kinds := [], alts := [], laidByText := true, laidKinds := [.data, .data], laidTests := true, laidLooks := .later }
def TopPlannedCardSaid : Prop := Claim7.holds Tryz.pinned (.plain (OpenSpec.ofChange topPlannedSpec)) topPlannedCard

/-- THE TIED CARD OF 'solsticetop.TopAudited'. -/
def topAuditedCard : Claim7 := { stood := { row := topAuditedRow, standIns := [], harness := (true, "9193555e64560baa29a499c8dda331d04013be197db69ce98f971571999570f8"), looks := false }, kinds := [], alts := [], laidByText := true, laidKinds := [.data, .data], laidTests := true, laidLooks := .later }
def TopAuditedCardSaid : Prop := Claim7.holds Tryz.pinned (.plain (OpenSpec.ofChange topAuditedSpec)) topAuditedCard

/-- THE TIED CARD OF 'solsticetop.TopQuoted'. -/
def topQuotedCard : Claim7 := { stood := { row := topQuotedRow, standIns := [], harness := (true, "9193555e64560baa29a499c8dda331d04013be197db69ce98f971571999570f8"), looks := false }, kinds := [], alts := [], laidByText := true, laidKinds := [.data, .data], laidTests := true, laidLooks := .later }
def TopQuotedCardSaid : Prop := Claim7.holds Tryz.pinned (.plain (OpenSpec.ofChange topQuotedSpec)) topQuotedCard

/-- THE SECOND FORM's CARD OF 'solsticelaw46.DiffBack'. -/
def diffBackUptoCard : Claim7 := { stood := { row := diffBackUptoRow, standIns := [], harness := (true, "9193555e64560baa29a499c8dda331d04013be197db69ce98f971571999570f8"), looks := false }, kinds := [], alts := [], laidByText := true, laidKinds := [.data, .data], laidTests := true, laidLooks := .later }
def DiffBackUptoCardSaid : Prop := Claim7.holds Tryz.pinned (.plain (OpenSpec.upto diffBackSpec)) diffBackUptoCard

/-- THE SECOND FORM's CARD OF 'solsticelaw27.CompileMore'. -/
def compileMoreUptoCard : Claim7 := { stood := { row := compileMoreUptoRow, standIns := [], harness := (true, "9193555e64560baa29a499c8dda331d04013be197db69ce98f971571999570f8"), looks := false }, kinds := [], alts := [], laidByText := true, laidKinds := [.data, .data], laidTests := true, laidLooks := .later }
def CompileMoreUptoCardSaid : Prop := Claim7.holds Tryz.pinned (.plain (OpenSpec.upto compileMoreSpec)) compileMoreUptoCard

/-- THE SECOND FORM's CARD OF 'solsticelaw27.CompileJust'. -/
def compileJustUptoCard : Claim7 := { stood := { row := compileJustUptoRow, standIns := [], harness := (true, "9193555e64560baa29a499c8dda331d04013be197db69ce98f971571999570f8"), looks := false }, kinds := [], alts := [], laidByText := true, laidKinds := [.data, .data], laidTests := true, laidLooks := .later }
def CompileJustUptoCardSaid : Prop := Claim7.holds Tryz.pinned (.plain (OpenSpec.upto compileJustSpec)) compileJustUptoCard

/-- THE SECOND FORM's CARD OF 'solsticelaw29.AuditAll'. -/
def auditAllUptoCard : Claim7 := { stood := { row := auditAllUptoRow, standIns := [], harness := (true, "9193555e64560baa29a499c8dda331d04013be197db69ce98f971571999570f8"), looks := false }, kinds := [], alts := [], laidByText := true, laidKinds := [.data, .data], laidTests := true, laidLooks := .later }
def AuditAllUptoCardSaid : Prop := Claim7.holds Tryz.pinned (.plain (OpenSpec.upto auditAllSpec)) auditAllUptoCard

/-- THE SECOND FORM's CARD OF 'solsticetop.TopLonger'. -/
def topLongerUptoCard : Claim7 := { stood := { row := topLongerUptoRow, standIns := [], harness := (true, "9193555e64560baa29a499c8dda331d04013be197db69ce98f971571999570f8"), looks := false }, kinds := [], alts := [], laidByText := true, laidKinds := [.data, .data], laidTests := true, laidLooks := .later }
def TopLongerUptoCardSaid : Prop := Claim7.holds Tryz.pinned (.plain (OpenSpec.upto topLongerSpec)) topLongerUptoCard

/-- THE SECOND FORM's CARD OF 'solsticetop.TopPlanned'. -/
def topPlannedUptoCard : Claim7 := { stood := { row := topPlannedUptoRow, standIns := [], harness := (true, "9193555e64560baa29a499c8dda331d04013be197db69ce98f971571999570f8"), looks := false }, kinds := [], alts := [], laidByText := true, laidKinds := [.data, .data], laidTests := true, laidLooks := .later }
def TopPlannedUptoCardSaid : Prop := Claim7.holds Tryz.pinned (.plain (OpenSpec.upto topPlannedSpec)) topPlannedUptoCard

/-- THE SECOND FORM's CARD OF 'solsticetop.TopAudited'. -/
def topAuditedUptoCard : Claim7 := { stood := { row := topAuditedUptoRow, standIns := [], harness := (true, "9193555e64560baa29a499c8dda331d04013be197db69ce98f971571999570f8"), looks := false }, kinds := [], alts := [], laidByText := true, laidKinds := [.data, .data], laidTests := true, laidLooks := .later }
def TopAuditedUptoCardSaid : Prop := Claim7.holds Tryz.pinned (.plain (OpenSpec.upto topAuditedSpec)) topAuditedUptoCard

/-- THE SECOND FORM's CARD OF 'solsticetop.TopQuoted'. -/
def topQuotedUptoCard : Claim7 := { stood := { row := topQuotedUptoRow, standIns := [], harness := (true, "9193555e64560baa29a499c8dda331d04013be197db69ce98f971571999570f8"), looks := false }, kinds := [], alts := [], laidByText := true, laidKinds := [.data, .data], laidTests := true, laidLooks := .later }
def TopQuotedUptoCardSaid : Prop := Claim7.holds Tryz.pinned (.plain (OpenSpec.upto topQuotedSpec)) topQuotedUptoCard
end Rows
end Go.Proofs.YtjobhjemnmleaaaGreatDoor
