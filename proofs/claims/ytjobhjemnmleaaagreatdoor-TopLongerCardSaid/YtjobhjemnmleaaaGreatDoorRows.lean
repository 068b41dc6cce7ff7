/-
  NARROWER THAN 'FOR EVERY INPUT', by the rows' own cells (each row's printed sentence says how): DiffBack: laid · CompileMore: laid · CompileJust: laid · AuditAll: laid · TopLonger: laid · TopPlanned: laid · TopAudited: laid · TopQuoted: laid.
  DERIVED. THE GIVEN ROWS OF THIS SEAT. 8 by the template 'for every input the law returns true; each argument reads behind the call as it read before'; 0 by the template 'total and deterministic' (their statements: YtjobhjemnmleaaaGreatDoorTotals.lean).
  GIVEN WITH THE SEED: the statements are not yours to turn. If you find one false, say at which input.
  Laid BY PROGRAM, IN A SANDBOX (cutbox-rows.mjs): the forced cells as the released guide's own fill.sh prints them over the translation 5771461efabbd722… (all of the seat's roots in one cut). By AI agents, Wed Nov 11 2026. No macro, syntax, notation, axiom, sorry.
-/
import Derived.Test.YtjobhjemnmleaaaGreatDoorChecked
import GoSem.Claim
import GoSem.ClaimJoined
import GoSem.ClaimMapViews
import Derived.JoinedTies
import Derived.KernelRfl
namespace Go.Proofs.YtjobhjemnmleaaaGreatDoor
/- THE CELL 'sum', in the pinned program and in every row, IS THE sha256 OF THE DUMP (.gsa) THAT YtjobhjemnmleaaaGreatDoorProg.lean LOADS. Nothing in Lean hashes anything: it is a label: what it is worth is what the hold of that sum in a sandbox is worth. -/
noncomputable def Tryz.pinned : Pinned := { name := "ytjobhjemnmleaaagreatdoor", sum := "5771461efabbd72243de4042d0d56187be5768d0f73180c1ba584fde808dc4b4", checked := Tryz.checked }
namespace Rows
def none {H : Type} : Left H := { results := [], args := [] }

/- WHAT THE LISTED PACKAGE-LEVEL VARIABLES READ AS WHEN THE CALL BEGINS. Each datum BY PROGRAM (the guide's laid-datum.mjs) off the statement by which the dump's own 'gosem.cut.vars' lays the variable. In a bare row this is a premise. The card (YtjobhjemnmleaaaGreatDoorCards.lean) ties it to the program's text. -/
def laid_solstice_civil_lengths {H : Type} : DataW H := .agg [.lit (.int .i64 31), .lit (.int .i64 28), .lit (.int .i64 31), .lit (.int .i64 30), .lit (.int .i64 31), .lit (.int .i64 30), .lit (.int .i64 31), .lit (.int .i64 31), .lit (.int .i64 30), .lit (.int .i64 31), .lit (.int .i64 30), .lit (.int .i64 31)]
def laid_solstice_abbr_places {H : Type} : DataW H := .agg [.lit (.string [37, 115]), .lit (.string [37, 122])]

/-- 'solsticelaw46.DiffBack': WHATEVER THE INPUT: true; the input reads as it did. -/
def diffBackSpec : ChangeSpec := { name := "diffBack", fn := fun _ => fun
  | [d1, d2, d3, d4, d5] => { results := [.lit (.bool true)], args := [d1, d2, d3, d4, d5] }
  | _ => none }
def diffBackRow : OpenClaim := { program := "ytjobhjemnmleaaagreatdoor", sum := "5771461efabbd72243de4042d0d56187be5768d0f73180c1ba584fde808dc4b4", func := "solstice/solsticelaw46.DiffBack", spec := "diffBack", inPlace := ["internal/bytealg.IndexByteString", "internal/bytealg.IndexString"], unfollowed := true, recurses := true, named := ["solstice/abbr.places", "internal/bytealg.MaxLen", "solstice/civil.lengths"], plainKeys := false, apart := false, laid := [("solstice/civil.lengths", laid_solstice_civil_lengths), ("solstice/abbr.places", laid_solstice_abbr_places)] }
def DiffBackSaid : Prop := diffBackRow.holds Tryz.pinned (OpenSpec.ofChange diffBackSpec)

/-- ITS FALSE NEIGHBOUR: 'it returns false'. Refute it at one input. -/
def diffBackWrong : ChangeSpec := { name := "diffBack", fn := fun _ => fun
  | [d1, d2, d3, d4, d5] => { results := [.lit (.bool false)], args := [d1, d2, d3, d4, d5] }
  | _ => none }
def DiffBackWrongFalsely : Prop := diffBackRow.holds Tryz.pinned (OpenSpec.ofChange diffBackWrong)

/-- 'solsticelaw27.CompileMore': WHATEVER THE INPUT: true; the input reads as it did. -/
def compileMoreSpec : ChangeSpec := { name := "compileMore", fn := fun _ => fun
  | [d1, d2, d3, d4, d5, d6, d7] => { results := [.lit (.bool true)], args := [d1, d2, d3, d4, d5, d6, d7] }
  | _ => none }
def compileMoreRow : OpenClaim := { program := "ytjobhjemnmleaaagreatdoor", sum := "5771461efabbd72243de4042d0d56187be5768d0f73180c1ba584fde808dc4b4", func := "solstice/solsticelaw27.CompileMore", spec := "compileMore", inPlace := ["internal/bytealg.IndexByteString", "internal/bytealg.IndexString"], unfollowed := true, recurses := true, named := ["solstice/abbr.places", "internal/bytealg.MaxLen", "solstice/civil.lengths"], plainKeys := false, apart := false, laid := [("solstice/civil.lengths", laid_solstice_civil_lengths), ("solstice/abbr.places", laid_solstice_abbr_places)] }
def CompileMoreSaid : Prop := compileMoreRow.holds Tryz.pinned (OpenSpec.ofChange compileMoreSpec)

/-- ITS FALSE NEIGHBOUR: 'it returns false'. Refute it at one input. -/
def compileMoreWrong : ChangeSpec := { name := "compileMore", fn := fun _ => fun
  | [d1, d2, d3, d4, d5, d6, d7] => { results := [.lit (.bool false)], args := [d1, d2, d3, d4, d5, d6, d7] }
  | _ => none }
def CompileMoreWrongFalsely : Prop := compileMoreRow.holds Tryz.pinned (OpenSpec.ofChange compileMoreWrong)

/-- 'solsticelaw27.CompileJust': WHATEVER THE INPUT: true; the input reads as it did. -/
def compileJustSpec : ChangeSpec := { name := "compileJust", fn := fun _ => fun
  | [d1, d2, d3, d4] => { results := [.lit (.bool true)], args := [d1, d2, d3, d4] }
  | _ => none }
def compileJustRow : OpenClaim := { program := "ytjobhjemnmleaaagreatdoor", sum := "5771461efabbd72243de4042d0d56187be5768d0f73180c1ba584fde808dc4b4", func := "solstice/solsticelaw27.CompileJust", spec := "compileJust", inPlace := ["internal/bytealg.IndexByteString", "internal/bytealg.IndexString"], unfollowed := true, recurses := true, named := ["solstice/abbr.places", "internal/bytealg.MaxLen", "solstice/civil.lengths"], plainKeys := false, apart := false, laid := [("solstice/civil.lengths", laid_solstice_civil_lengths), ("solstice/abbr.places", laid_solstice_abbr_places)] }
def CompileJustSaid : Prop := compileJustRow.holds Tryz.pinned (OpenSpec.ofChange compileJustSpec)

/-- ITS FALSE NEIGHBOUR: 'it returns false'. Refute it at one input. -/
def compileJustWrong : ChangeSpec := { name := "compileJust", fn := fun _ => fun
  | [d1, d2, d3, d4] => { results := [.lit (.bool false)], args := [d1, d2, d3, d4] }
  | _ => none }
def CompileJustWrongFalsely : Prop := compileJustRow.holds Tryz.pinned (OpenSpec.ofChange compileJustWrong)

/-- 'solsticelaw29.AuditAll': WHATEVER THE INPUT: true; the input reads as it did. -/
def auditAllSpec : ChangeSpec := { name := "auditAll", fn := fun _ => fun
  | [d1, d2, d3, d4, d5, d6] => { results := [.lit (.bool true)], args := [d1, d2, d3, d4, d5, d6] }
  | _ => none }
def auditAllRow : OpenClaim := { program := "ytjobhjemnmleaaagreatdoor", sum := "5771461efabbd72243de4042d0d56187be5768d0f73180c1ba584fde808dc4b4", func := "solstice/solsticelaw29.AuditAll", spec := "auditAll", inPlace := ["internal/bytealg.IndexByteString", "internal/bytealg.IndexString"], unfollowed := true, recurses := true, named := ["solstice/abbr.places", "internal/bytealg.MaxLen", "solstice/civil.lengths"], plainKeys := false, apart := false, laid := [("solstice/civil.lengths", laid_solstice_civil_lengths), ("solstice/abbr.places", laid_solstice_abbr_places)] }
def AuditAllSaid : Prop := auditAllRow.holds Tryz.pinned (OpenSpec.ofChange auditAllSpec)

/-- ITS FALSE NEIGHBOUR: 'it returns false'. Refute it at one input. -/
def auditAllWrong : ChangeSpec := { name := "auditAll", fn := fun _ => fun
  | [d1, d2, d3, d4, d5, d6] => { results := [.lit (.bool false)], args := [d1, d2, d3, d4, d5, d6] }
  | _ => none }
def AuditAllWrongFalsely : Prop := auditAllRow.holds Tryz.pinned (OpenSpec.ofChange auditAllWrong)

/-- 'solsticetop.TopLonger': WHATEVER THE INPUT: true; the input reads as it did. -/
def topLongerSpec : ChangeSpec := { name := "topLonger", fn := fun _ => fun
  | [d1, d2, d3, d4, d5] => { results := [.lit (.bool true)], args := [d1, d2, d3, d4, d5] }
  | _ => none }
def topLongerRow : OpenClaim := { program := "ytjobhjemnmleaaagreatdoor", sum := "5771461efabbd72243de4042d0d56187be5768d0f73180c1ba584fde808dc4b4", func := "solstice/solsticetop.TopLonger", spec := "topLonger", inPlace := ["internal/bytealg.IndexByteString", "internal/bytealg.IndexString"], unfollowed := true, recurses := true, named := ["solstice/abbr.places", "internal/bytealg.MaxLen", "solstice/civil.lengths"], plainKeys := false, apart := false, laid := [("solstice/civil.lengths", laid_solstice_civil_lengths), ("solstice/abbr.places", laid_solstice_abbr_places)] }
def TopLongerSaid : Prop := topLongerRow.holds Tryz.pinned (OpenSpec.ofChange topLongerSpec)

/-- ITS FALSE NEIGHBOUR: 'it returns false'. Refute it at one input. -/
def topLongerWrong : ChangeSpec := { name := "topLonger", fn := fun _ => fun
  | [d1, d2, d3, d4, d5] => { results := [.lit (.bool false)], args := [d1, d2, d3, d4, d5] }
  | _ => none }
def TopLongerWrongFalsely : Prop := topLongerRow.holds Tryz.pinned (OpenSpec.ofChange topLongerWrong)

/-- 'solsticetop.TopPlanned': WHATEVER THE INPUT: true; the input reads as it did. -/
def topPlannedSpec : ChangeSpec := { name := "topPlanned", fn := fun _ => fun
  | [d1, d2, d3, d4] => { results := [.lit (.bool true)], args := [d1, d2, d3, d4] }
  | _ => none }
def topPlannedRow : OpenClaim := { program := "ytjobhjemnmleaaagreatdoor", sum := "5771461efabbd72243de4042d0d56187be5768d0f73180c1ba584fde808dc4b4", func := "solstice/solsticetop.TopPlanned", spec := "topPlanned", inPlace := ["internal/bytealg.IndexByteString", "internal/bytealg.IndexString"], unfollowed := true, recurses := true, named := ["solstice/abbr.places", "internal/bytealg.MaxLen", "solstice/civil.lengths"], plainKeys := false, apart := false, laid := [("solstice/civil.lengths", laid_solstice_civil_lengths), ("solstice/abbr.places", laid_solstice_abbr_places)] }
def TopPlannedSaid : Prop := topPlannedRow.holds Tryz.pinned (OpenSpec.ofChange topPlannedSpec)

/-- ITS FALSE NEIGHBOUR: 'it returns false'. Refute it at one input. -/
def topPlannedWrong : ChangeSpec := { name := "topPlanned", fn := fun _ => fun
  | [d1, d2, d3, d4] => { results := [.lit (.bool false)], args := [d1, d2, d3, d4] }
  | _ => none }
def TopPlannedWrongFalsely : Prop := topPlannedRow.holds Tryz.pinned (OpenSpec.ofChange topPlannedWrong)

/-- 'solsticetop.TopAudited': WHATEVER THE INPUT: true; the input reads as it did. -/
def topAuditedSpec : ChangeSpec := { name := "topAudited", fn := fun _ => fun
  | [d1, d2, d3, d4, d5] => { results := [.lit (.bool true)], args := [d1, d2, d3, d4, d5] }
  | _ => none }
def topAuditedRow : OpenClaim := { program := "ytjobhjemnmleaaagreatdoor", sum := "5771461efabbd72243de4042d0d56187be5768d0f73180c1ba584fde808dc4b4", func := "solstice/solsticetop.TopAudited", spec := "topAudited", inPlace := ["internal/bytealg.IndexByteString", "internal/bytealg.IndexString"], unfollowed := true, recurses := true, named := ["solstice/abbr.places", "internal/bytealg.MaxLen", "solstice/civil.lengths"], plainKeys := false, apart := false, laid := [("solstice/civil.lengths", laid_solstice_civil_lengths), ("solstice/abbr.places", laid_solstice_abbr_places)] }
def TopAuditedSaid : Prop := topAuditedRow.holds Tryz.pinned (OpenSpec.ofChange topAuditedSpec)

/-- ITS FALSE NEIGHBOUR: 'it returns false'. Refute it at one input. -/
def topAuditedWrong : ChangeSpec := { name := "topAudited", fn := fun _ => fun
  | [d1, d2, d3, d4, d5] => { results := [.lit (.bool false)], args := [d1, d2, d3, d4, d5] }
  | _ => none }
def TopAuditedWrongFalsely : Prop := topAuditedRow.holds Tryz.pinned (OpenSpec.ofChange topAuditedWrong)

/-- 'solsticetop.TopQuoted': WHATEVER THE INPUT: true; the input reads as it did. -/
def topQuotedSpec : ChangeSpec := { name := "topQuoted", fn := fun _ => fun
  | [d] => { results := [.lit (.bool true)], args := [d] }
  | _ => none }
def topQuotedRow : OpenClaim := { program := "ytjobhjemnmleaaagreatdoor", sum := "5771461efabbd72243de4042d0d56187be5768d0f73180c1ba584fde808dc4b4", func := "solstice/solsticetop.TopQuoted", spec := "topQuoted", inPlace := ["internal/bytealg.IndexByteString", "internal/bytealg.IndexString", "internal/abi.NoEscape", "internal/bytealg.MakeNoZero"], unfollowed := true, recurses := true, named := ["solstice/abbr.places", "internal/bytealg.MaxLen", "solstice/civil.lengths"], plainKeys := false, apart := false, laid := [("solstice/civil.lengths", laid_solstice_civil_lengths), ("solstice/abbr.places", laid_solstice_abbr_places)] }
def TopQuotedSaid : Prop := topQuotedRow.holds Tryz.pinned (OpenSpec.ofChange topQuotedSpec)

/-- ITS FALSE NEIGHBOUR: 'it returns false'. Refute it at one input. -/
def topQuotedWrong : ChangeSpec := { name := "topQuoted", fn := fun _ => fun
  | [d] => { results := [.lit (.bool false)], args := [d] }
  | _ => none }
def TopQuotedWrongFalsely : Prop := topQuotedRow.holds Tryz.pinned (OpenSpec.ofChange topQuotedWrong)

/- THE SECOND FORM. 'bulk': how many values and letters a reading holds, each counted each time it is reached (what is shared counts as often as it is met; a slice's spare places count too). A statement '..UptoSaid' is the law's where the arguments, and the package variables that the reading takes, are together of bulk at most 1048576: NARROWER than '..Said'. Prove '..Said' where nothing that the law and all that it calls make is longer than what came in: it says more and counts as full. Else prove '..UptoSaid'. A law counts once. -/
mutual
def uptoBulk {H : Type} : DataW H → Nat
  | .lit (.string bytes) => bytes.length + 1
  | .lit _ => 1
  | .nil => 1
  | .ptr d => uptoBulk d + 1
  | .slice elems spare => uptoBulkAll elems + uptoBulkAll spare + 1
  | .agg parts => uptoBulkAll parts + 1
  | .iface _ d => uptoBulk d + 1
  | .map entries => uptoBulkEntries entries + 1
  | .held _ => 1
def uptoBulkAll {H : Type} : List (DataW H) → Nat
  | [] => 0
  | d :: r => uptoBulk d + uptoBulkAll r
def uptoBulkEntries {H : Type} : List (Lit × DataW H) → Nat
  | [] => 0
  | x :: r => uptoBulkEntry x + uptoBulkEntries r
def uptoBulkEntry {H : Type} : Lit × DataW H → Nat
  | (.string bytes, d) => bytes.length + uptoBulk d + 1
  | (_, d) => uptoBulk d + 1
 end
def uptoSmall : (H : Type) → List (DataW H) → Bool := fun _ ds => decide (uptoBulkAll ds ≤ 1048576)
def OpenSpec.upto (s : _root_.Go.ChangeSpec) : _root_.Go.OpenSpec := { _root_.Go.OpenSpec.ofChange s with cond := some uptoSmall }

/-- 'solsticelaw46.DiffBack', WHERE WHAT IT READS IS OF BULK AT MOST 1048576: true; the input reads as it did. -/
def diffBackUptoRow : OpenClaim := { program := "ytjobhjemnmleaaagreatdoor", sum := "5771461efabbd72243de4042d0d56187be5768d0f73180c1ba584fde808dc4b4", func := "solstice/solsticelaw46.DiffBack", spec := "diffBack", inPlace := ["internal/bytealg.IndexByteString", "internal/bytealg.IndexString"], unfollowed := true, recurses := true, named := ["solstice/abbr.places", "internal/bytealg.MaxLen", "solstice/civil.lengths"], plainKeys := false, apart := false, laid := [("solstice/civil.lengths", laid_solstice_civil_lengths), ("solstice/abbr.places", laid_solstice_abbr_places)], narrowed := true }
def DiffBackUptoSaid : Prop := diffBackUptoRow.holds Tryz.pinned (OpenSpec.upto diffBackSpec)

/-- 'solsticelaw27.CompileMore', WHERE WHAT IT READS IS OF BULK AT MOST 1048576: true; the input reads as it did. -/
def compileMoreUptoRow : OpenClaim := { program := "ytjobhjemnmleaaagreatdoor", sum := "5771461efabbd72243de4042d0d56187be5768d0f73180c1ba584fde808dc4b4", func := "solstice/solsticelaw27.CompileMore", spec := "compileMore", inPlace := ["internal/bytealg.IndexByteString", "internal/bytealg.IndexString"], unfollowed := true, recurses := true, named := ["solstice/abbr.places", "internal/bytealg.MaxLen", "solstice/civil.lengths"], plainKeys := false, apart := false, laid := [("solstice/civil.lengths", laid_solstice_civil_lengths), ("solstice/abbr.places", laid_solstice_abbr_places)], narrowed := true }
def CompileMoreUptoSaid : Prop := compileMoreUptoRow.holds Tryz.pinned (OpenSpec.upto compileMoreSpec)

/-- 'solsticelaw27.CompileJust', WHERE WHAT IT READS IS OF BULK AT MOST 1048576: true; the input reads as it did. -/
def compileJustUptoRow : OpenClaim := { program := "ytjobhjemnmleaaagreatdoor", sum := "5771461efabbd72243de4042d0d56187be5768d0f73180c1ba584fde808dc4b4", func := "solstice/solsticelaw27.CompileJust", spec := "compileJust", inPlace := ["internal/bytealg.IndexByteString", "internal/bytealg.IndexString"], unfollowed := true, recurses := true, named := ["solstice/abbr.places", "internal/bytealg.MaxLen", "solstice/civil.lengths"], plainKeys := false, apart := false, laid := [("solstice/civil.lengths", laid_solstice_civil_lengths), ("solstice/abbr.places", laid_solstice_abbr_places)], narrowed := true }
def CompileJustUptoSaid : Prop := compileJustUptoRow.holds Tryz.pinned (OpenSpec.upto compileJustSpec)

/-- 'solsticelaw29.AuditAll', WHERE WHAT IT READS IS OF BULK AT MOST 1048576: true; the input reads as it did. -/
def auditAllUptoRow : OpenClaim := { program := "ytjobhjemnmleaaagreatdoor", sum := "5771461efabbd72243de4042d0d56187be5768d0f73180c1ba584fde808dc4b4", func := "solstice/solsticelaw29.AuditAll", spec := "auditAll", inPlace := ["internal/bytealg.IndexByteString", "internal/bytealg.IndexString"], unfollowed := true, recurses := true, named := ["solstice/abbr.places", "internal/bytealg.MaxLen", "solstice/civil.lengths"], plainKeys := false, apart := false, laid := [("solstice/civil.lengths", laid_solstice_civil_lengths), ("solstice/abbr.places", laid_solstice_abbr_places)], narrowed := true }
def AuditAllUptoSaid : Prop := auditAllUptoRow.holds Tryz.pinned (OpenSpec.upto auditAllSpec)

/-- 'solsticetop.TopLonger', WHERE WHAT IT READS IS OF BULK AT MOST 1048576: true; the input reads as it did. -/
def topLongerUptoRow : OpenClaim := { program := "ytjobhjemnmleaaagreatdoor", sum := "5771461efabbd72243de4042d0d56187be5768d0f73180c1ba584fde808dc4b4", func := "solstice/solsticetop.TopLonger", spec := "topLonger", inPlace := ["internal/bytealg.IndexByteString", "internal/bytealg.IndexString"], unfollowed := true, recurses := true, named := ["solstice/abbr.places", "internal/bytealg.MaxLen", "solstice/civil.lengths"], plainKeys := false, apart := false, laid := [("solstice/civil.lengths", laid_solstice_civil_lengths), ("solstice/abbr.places", laid_solstice_abbr_places)], narrowed := true }
def TopLongerUptoSaid : Prop := topLongerUptoRow.holds Tryz.pinned (OpenSpec.upto topLongerSpec)

/-- 'solsticetop.TopPlanned', WHERE WHAT IT READS IS OF BULK AT MOST 1048576: true; the input reads as it did. -/
def topPlannedUptoRow : OpenClaim := { program := "ytjobhjemnmleaaagreatdoor", sum := "5771461efabbd72243de4042d0d56187be5768d0f73180c1ba584fde808dc4b4", func := "solstice/solsticetop.TopPlanned", spec := "topPlanned", inPlace := ["internal/bytealg.IndexByteString", "internal/bytealg.IndexString"], unfollowed := true, recurses := true, named := ["solstice/abbr.places", "internal/bytealg.MaxLen", "solstice/civil.lengths"], plainKeys := false, apart := false, laid := [("solstice/civil.lengths", laid_solstice_civil_lengths), ("solstice/abbr.places", laid_solstice_abbr_places)], narrowed := true }
def TopPlannedUptoSaid : Prop := topPlannedUptoRow.holds Tryz.pinned (OpenSpec.upto topPlannedSpec)

/-- 'solsticetop.TopAudited', WHERE WHAT IT READS IS OF BULK AT MOST 1048576: true; the input reads as it did. -/
def topAuditedUptoRow : OpenClaim := { program := "ytjobhjemnmleaaagreatdoor", sum := "5771461efabbd72243de4042d0d56187be5768d0f73180c1ba584fde808dc4b4", func := "solstice/solsticetop.TopAudited", spec := "topAudited", inPlace := ["internal/bytealg.IndexByteString", "internal/bytealg.IndexString"], unfollowed := true, recurses := true, named := ["solstice/abbr.places", "internal/bytealg.MaxLen", "solstice/civil.lengths"], plainKeys := false, apart := false, laid := [("solstice/civil.lengths", laid_solstice_civil_lengths), ("solstice/abbr.places", laid_solstice_abbr_places)], narrowed := true }
def TopAuditedUptoSaid : Prop := topAuditedUptoRow.holds Tryz.pinned (OpenSpec.upto topAuditedSpec)

/-- 'solsticetop.TopQuoted', WHERE WHAT IT READS IS OF BULK AT MOST 1048576: true; the input reads as it did. -/
def topQuotedUptoRow : OpenClaim := { program := "ytjobhjemnmleaaagreatdoor", sum := "5771461efabbd72243de4042d0d56187be5768d0f73180c1ba584fde808dc4b4", func := "solstice/solsticetop.TopQuoted", spec := "topQuoted", inPlace := ["internal/bytealg.IndexByteString", "internal/bytealg.IndexString", "internal/abi.NoEscape", "internal/bytealg.MakeNoZero"], unfollowed := true, recurses := true, named := ["solstice/abbr.places", "internal/bytealg.MaxLen", "solstice/civil.lengths"], plainKeys := false, apart := false, laid := [("solstice/civil.lengths", laid_solstice_civil_lengths), ("solstice/abbr.places", laid_solstice_abbr_places)], narrowed := true }
def TopQuotedUptoSaid : Prop := topQuotedUptoRow.holds Tryz.pinned (OpenSpec.upto topQuotedSpec)

end Rows
end Go.Proofs.YtjobhjemnmleaaaGreatDoor
