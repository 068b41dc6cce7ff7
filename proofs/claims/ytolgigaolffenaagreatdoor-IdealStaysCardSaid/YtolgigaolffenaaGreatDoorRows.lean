/-
  NARROWER THAN 'FOR EVERY INPUT', by the rows' own cells (each row's printed sentence says how): IdealStays: laid · LineJust: laid · TopEast: laid · TopParts: laid · TopStamped: laid · TopFound: laid · DiffBack: laid.
  DERIVED. THE GIVEN ROWS OF THIS SEAT. 7 by the template 'for every input the law returns true; each argument reads behind the call as it read before'; 0 by the template 'total and deterministic' (their statements: YtolgigaolffenaaGreatDoorTotals.lean).
  GIVEN WITH THE SEED: the statements are not yours to turn. If you find one false, say at which input.
  Laid BY PROGRAM, IN A SANDBOX (cutbox-rows.mjs): the forced cells as the released guide's own fill.sh prints them over the translation c6769ebf49c482ec… (all of the seat's roots in one cut). By AI agents, Wed Nov 11 2026. No macro, syntax, notation, axiom, sorry.
-/
import Derived.Test.YtolgigaolffenaaGreatDoorChecked
import GoSem.Claim
import GoSem.ClaimJoined
import GoSem.ClaimMapViews
import Derived.JoinedTies
import Derived.KernelRfl
namespace Go.Proofs.YtolgigaolffenaaGreatDoor
/- THE CELL 'sum', in the pinned program and in every row, IS THE sha256 OF THE DUMP (.gsa) THAT YtolgigaolffenaaGreatDoorProg.lean LOADS. Nothing in Lean hashes anything: it is a label: what it is worth is what the hold of that sum in a sandbox is worth. -/
noncomputable def Tryz.pinned : Pinned := { name := "ytolgigaolffenaagreatdoor", sum := "c6769ebf49c482ec38e2921733eb24eea0b67ca206f16bc7382604f4f4947be7", checked := Tryz.checked }
namespace Rows
def none {H : Type} : Left H := { results := [], args := [] }

/- WHAT THE LISTED PACKAGE-LEVEL VARIABLES READ AS WHEN THE CALL BEGINS. Each datum BY PROGRAM (the guide's laid-datum.mjs) off the statement by which the dump's own 'gosem.cut.vars' lays the variable. In a bare row this is a premise. The card (YtolgigaolffenaaGreatDoorCards.lean) ties it to the program's text. -/
def laid_solstice_civil_lengths {H : Type} : DataW H := .agg [.lit (.int .i64 31), .lit (.int .i64 28), .lit (.int .i64 31), .lit (.int .i64 30), .lit (.int .i64 31), .lit (.int .i64 30), .lit (.int .i64 31), .lit (.int .i64 31), .lit (.int .i64 30), .lit (.int .i64 31), .lit (.int .i64 30), .lit (.int .i64 31)]
def laid_solstice_abbr_places {H : Type} : DataW H := .agg [.lit (.string [37, 115]), .lit (.string [37, 122])]

/-- 'solsticelaw17.IdealStays': WHATEVER THE INPUT: true; the input reads as it did. -/
def idealStaysSpec : ChangeSpec := { name := "idealStays", fn := fun _ => fun
  | [d1, d2, d3, d4] => { results := [.lit (.bool true)], args := [d1, d2, d3, d4] }
  | _ => none }
def idealStaysRow : OpenClaim := { program := "ytolgigaolffenaagreatdoor", sum := "c6769ebf49c482ec38e2921733eb24eea0b67ca206f16bc7382604f4f4947be7", func := "solstice/solsticelaw17.IdealStays", spec := "idealStays", inPlace := ["internal/bytealg.IndexByteString", "internal/bytealg.IndexString"], unfollowed := true, recurses := true, named := ["solstice/abbr.places", "internal/bytealg.MaxLen", "solstice/civil.lengths"], plainKeys := false, apart := false, laid := [("solstice/civil.lengths", laid_solstice_civil_lengths), ("solstice/abbr.places", laid_solstice_abbr_places)] }
def IdealStaysSaid : Prop := idealStaysRow.holds Tryz.pinned (OpenSpec.ofChange idealStaysSpec)

/-- ITS FALSE NEIGHBOUR: 'it returns false'. Refute it at one input. -/
def idealStaysWrong : ChangeSpec := { name := "idealStays", fn := fun _ => fun
  | [d1, d2, d3, d4] => { results := [.lit (.bool false)], args := [d1, d2, d3, d4] }
  | _ => none }
def IdealStaysWrongFalsely : Prop := idealStaysRow.holds Tryz.pinned (OpenSpec.ofChange idealStaysWrong)

/-- 'solsticelaw18.LineJust': WHATEVER THE INPUT: true; the input reads as it did. -/
def lineJustSpec : ChangeSpec := { name := "lineJust", fn := fun _ => fun
  | [d1, d2, d3, d4, d5] => { results := [.lit (.bool true)], args := [d1, d2, d3, d4, d5] }
  | _ => none }
def lineJustRow : OpenClaim := { program := "ytolgigaolffenaagreatdoor", sum := "c6769ebf49c482ec38e2921733eb24eea0b67ca206f16bc7382604f4f4947be7", func := "solstice/solsticelaw18.LineJust", spec := "lineJust", inPlace := ["internal/bytealg.IndexByteString", "internal/bytealg.IndexString"], unfollowed := true, recurses := true, named := ["solstice/abbr.places", "internal/bytealg.MaxLen", "solstice/civil.lengths"], plainKeys := false, apart := false, laid := [("solstice/civil.lengths", laid_solstice_civil_lengths), ("solstice/abbr.places", laid_solstice_abbr_places)] }
def LineJustSaid : Prop := lineJustRow.holds Tryz.pinned (OpenSpec.ofChange lineJustSpec)

/-- ITS FALSE NEIGHBOUR: 'it returns false'. Refute it at one input. -/
def lineJustWrong : ChangeSpec := { name := "lineJust", fn := fun _ => fun
  | [d1, d2, d3, d4, d5] => { results := [.lit (.bool false)], args := [d1, d2, d3, d4, d5] }
  | _ => none }
def LineJustWrongFalsely : Prop := lineJustRow.holds Tryz.pinned (OpenSpec.ofChange lineJustWrong)

/-- 'solsticetop.TopEast': WHATEVER THE INPUT: true; the input reads as it did. -/
def topEastSpec : ChangeSpec := { name := "topEast", fn := fun _ => fun
  | [d1, d2, d3, d4, d5] => { results := [.lit (.bool true)], args := [d1, d2, d3, d4, d5] }
  | _ => none }
def topEastRow : OpenClaim := { program := "ytolgigaolffenaagreatdoor", sum := "c6769ebf49c482ec38e2921733eb24eea0b67ca206f16bc7382604f4f4947be7", func := "solstice/solsticetop.TopEast", spec := "topEast", inPlace := ["internal/bytealg.IndexByteString", "internal/bytealg.IndexString"], unfollowed := true, recurses := true, named := ["solstice/abbr.places", "internal/bytealg.MaxLen", "solstice/civil.lengths"], plainKeys := false, apart := false, laid := [("solstice/civil.lengths", laid_solstice_civil_lengths), ("solstice/abbr.places", laid_solstice_abbr_places)] }
def TopEastSaid : Prop := topEastRow.holds Tryz.pinned (OpenSpec.ofChange topEastSpec)

/-- ITS FALSE NEIGHBOUR: 'it returns false'. Refute it at one input. -/
def topEastWrong : ChangeSpec := { name := "topEast", fn := fun _ => fun
  | [d1, d2, d3, d4, d5] => { results := [.lit (.bool false)], args := [d1, d2, d3, d4, d5] }
  | _ => none }
def TopEastWrongFalsely : Prop := topEastRow.holds Tryz.pinned (OpenSpec.ofChange topEastWrong)

/-- 'solsticetop.TopParts': WHATEVER THE INPUT: true; the input reads as it did. -/
def topPartsSpec : ChangeSpec := { name := "topParts", fn := fun _ => fun
  | [d1, d2, d3, d4, d5] => { results := [.lit (.bool true)], args := [d1, d2, d3, d4, d5] }
  | _ => none }
def topPartsRow : OpenClaim := { program := "ytolgigaolffenaagreatdoor", sum := "c6769ebf49c482ec38e2921733eb24eea0b67ca206f16bc7382604f4f4947be7", func := "solstice/solsticetop.TopParts", spec := "topParts", inPlace := ["internal/bytealg.IndexByteString", "internal/bytealg.IndexString"], unfollowed := true, recurses := true, named := ["solstice/abbr.places", "internal/bytealg.MaxLen", "solstice/civil.lengths"], plainKeys := false, apart := false, laid := [("solstice/civil.lengths", laid_solstice_civil_lengths), ("solstice/abbr.places", laid_solstice_abbr_places)] }
def TopPartsSaid : Prop := topPartsRow.holds Tryz.pinned (OpenSpec.ofChange topPartsSpec)

/-- ITS FALSE NEIGHBOUR: 'it returns false'. Refute it at one input. -/
def topPartsWrong : ChangeSpec := { name := "topParts", fn := fun _ => fun
  | [d1, d2, d3, d4, d5] => { results := [.lit (.bool false)], args := [d1, d2, d3, d4, d5] }
  | _ => none }
def TopPartsWrongFalsely : Prop := topPartsRow.holds Tryz.pinned (OpenSpec.ofChange topPartsWrong)

/-- 'solsticetop.TopStamped': WHATEVER THE INPUT: true; the input reads as it did. -/
def topStampedSpec : ChangeSpec := { name := "topStamped", fn := fun _ => fun
  | [d1, d2, d3, d4] => { results := [.lit (.bool true)], args := [d1, d2, d3, d4] }
  | _ => none }
def topStampedRow : OpenClaim := { program := "ytolgigaolffenaagreatdoor", sum := "c6769ebf49c482ec38e2921733eb24eea0b67ca206f16bc7382604f4f4947be7", func := "solstice/solsticetop.TopStamped", spec := "topStamped", inPlace := ["internal/bytealg.IndexByteString", "internal/bytealg.IndexString"], unfollowed := true, recurses := true, named := ["solstice/abbr.places", "internal/bytealg.MaxLen", "solstice/civil.lengths"], plainKeys := false, apart := false, laid := [("solstice/civil.lengths", laid_solstice_civil_lengths), ("solstice/abbr.places", laid_solstice_abbr_places)] }
def TopStampedSaid : Prop := topStampedRow.holds Tryz.pinned (OpenSpec.ofChange topStampedSpec)

/-- ITS FALSE NEIGHBOUR: 'it returns false'. Refute it at one input. -/
def topStampedWrong : ChangeSpec := { name := "topStamped", fn := fun _ => fun
  | [d1, d2, d3, d4] => { results := [.lit (.bool false)], args := [d1, d2, d3, d4] }
  | _ => none }
def TopStampedWrongFalsely : Prop := topStampedRow.holds Tryz.pinned (OpenSpec.ofChange topStampedWrong)

/-- 'solsticetop.TopFound': WHATEVER THE INPUT: true; the input reads as it did. -/
def topFoundSpec : ChangeSpec := { name := "topFound", fn := fun _ => fun
  | [d1, d2, d3, d4, d5] => { results := [.lit (.bool true)], args := [d1, d2, d3, d4, d5] }
  | _ => none }
def topFoundRow : OpenClaim := { program := "ytolgigaolffenaagreatdoor", sum := "c6769ebf49c482ec38e2921733eb24eea0b67ca206f16bc7382604f4f4947be7", func := "solstice/solsticetop.TopFound", spec := "topFound", inPlace := ["internal/bytealg.IndexByteString", "internal/bytealg.IndexString"], unfollowed := true, recurses := true, named := ["solstice/abbr.places", "internal/bytealg.MaxLen", "solstice/civil.lengths"], plainKeys := false, apart := false, laid := [("solstice/civil.lengths", laid_solstice_civil_lengths), ("solstice/abbr.places", laid_solstice_abbr_places)] }
def TopFoundSaid : Prop := topFoundRow.holds Tryz.pinned (OpenSpec.ofChange topFoundSpec)

/-- ITS FALSE NEIGHBOUR: 'it returns false'. Refute it at one input. -/
def topFoundWrong : ChangeSpec := { name := "topFound", fn := fun _ => fun
  | [d1, d2, d3, d4, d5] => { results := [.lit (.bool false)], args := [d1, d2, d3, d4, d5] }
  | _ => none }
def TopFoundWrongFalsely : Prop := topFoundRow.holds Tryz.pinned (OpenSpec.ofChange topFoundWrong)

/-- 'solsticelaw46.DiffBack': WHATEVER THE INPUT: true; the input reads as it did. -/
def diffBackSpec : ChangeSpec := { name := "diffBack", fn := fun _ => fun
  | [d1, d2, d3, d4, d5] => { results := [.lit (.bool true)], args := [d1, d2, d3, d4, d5] }
  | _ => none }
def diffBackRow : OpenClaim := { program := "ytolgigaolffenaagreatdoor", sum := "c6769ebf49c482ec38e2921733eb24eea0b67ca206f16bc7382604f4f4947be7", func := "solstice/solsticelaw46.DiffBack", spec := "diffBack", inPlace := ["internal/bytealg.IndexByteString", "internal/bytealg.IndexString"], unfollowed := true, recurses := true, named := ["solstice/abbr.places", "internal/bytealg.MaxLen", "solstice/civil.lengths"], plainKeys := false, apart := false, laid := [("solstice/civil.lengths", laid_solstice_civil_lengths), ("solstice/abbr.places", laid_solstice_abbr_places)] }
def DiffBackSaid : Prop := diffBackRow.holds Tryz.pinned (OpenSpec.ofChange diffBackSpec)

/-- ITS FALSE NEIGHBOUR: 'it returns false'. Refute it at one input. -/
def diffBackWrong : ChangeSpec := { name := "diffBack", fn := fun _ => fun
  | [d1, d2, d3, d4, d5] => { results := [.lit (.bool false)], args := [d1, d2, d3, d4, d5] }
  | _ => none }
def DiffBackWrongFalsely : Prop := diffBackRow.holds Tryz.pinned (OpenSpec.ofChange diffBackWrong)

/- THE SECOND FORM. 'bulk': how many values and letters a reading holds, each counted each time it is reached (what is shared counts as often as it is met; a slice's spare places count too). A statement '..UptoSaid' is the law's where the arguments, and the package variables that the reading takes, are together of bulk at most 1048576: NARROWER than '..Said'. Prove '..Said' where nothing that the law and all that it calls make is longer than what came in: it says more and counts as full. Else prove '..UptoSaid'. A law counts once. -/
mutual
def uptoBulk {H : Type} : DataW H → Nat
  | .lit (.string bytes) => bytes.length + 1
  | .lit _ => 1
  | .nil => 1
  | .ptr d => uptoBulk d + 1
  | .slice elems spare => uptoBulkAll elems + uptoBulkAll spare + 1
  | .agg parts => uptoBulkAll parts + 1
  | .iface _ d => uptoBulk d + 1
  | .map entries => uptoBulkEntries entries + 1
  | .held _ => 1
def uptoBulkAll {H : Type} : List (DataW H) → Nat
  | [] => 0
  | d :: r => uptoBulk d + uptoBulkAll r
def uptoBulkEntries {H : Type} : List (Lit × DataW H) → Nat
  | [] => 0
  | x :: r => uptoBulkEntry x + uptoBulkEntries r
def uptoBulkEntry {H : Type} : Lit × DataW H → Nat
  | (.string bytes, d) => bytes.length + uptoBulk d + 1
  | (_, d) => uptoBulk d + 1
 end
def uptoSmall : (H : Type) → List (DataW H) → Bool := fun _ ds => decide (uptoBulkAll ds ≤ 1048576)
def OpenSpec.upto (s : _root_.Go.ChangeSpec) : _root_.Go.OpenSpec := { _root_.Go.OpenSpec.ofChange s with cond := some uptoSmall }

/-- 'solsticelaw17.IdealStays', WHERE WHAT IT READS IS OF BULK AT MOST 1048576: true; the input reads as it did. -/
def idealStaysUptoRow : OpenClaim := { program := "ytolgigaolffenaagreatdoor", sum := "c6769ebf49c482ec38e2921733eb24eea0b67ca206f16bc7382604f4f4947be7", func := "solstice/solsticelaw17.IdealStays", spec := "idealStays", inPlace := ["internal/bytealg.IndexByteString", "internal/bytealg.IndexString"], unfollowed := true, recurses := true, named := ["solstice/abbr.places", "internal/bytealg.MaxLen", "solstice/civil.lengths"], plainKeys := false, apart := false, laid := [("solstice/civil.lengths", laid_solstice_civil_lengths), ("solstice/abbr.places", laid_solstice_abbr_places)], narrowed := true }
def IdealStaysUptoSaid : Prop := idealStaysUptoRow.holds Tryz.pinned (OpenSpec.upto idealStaysSpec)

/-- 'solsticelaw18.LineJust', WHERE WHAT IT READS IS OF BULK AT MOST 1048576: true; the input reads as it did. -/
def lineJustUptoRow : OpenClaim := { program := "ytolgigaolffenaagreatdoor", sum := "c6769ebf49c482ec38e2921733eb24eea0b67ca206f16bc7382604f4f4947be7", func := "solstice/solsticelaw18.LineJust", spec := "lineJust", inPlace := ["internal/bytealg.IndexByteString", "internal/bytealg.IndexString"], unfollowed := true, recurses := true, named := ["solstice/abbr.places", "internal/bytealg.MaxLen", "solstice/civil.lengths"], plainKeys := false, apart := false, laid := [("solstice/civil.lengths", laid_solstice_civil_lengths), ("solstice/abbr.places", laid_solstice_abbr_places)], narrowed := true }
def LineJustUptoSaid : Prop := lineJustUptoRow.holds Tryz.pinned (OpenSpec.upto lineJustSpec)

/-- 'solsticetop.TopEast', WHERE WHAT IT READS IS OF BULK AT MOST 1048576: true; the input reads as it did. -/
def topEastUptoRow : OpenClaim := { program := "ytolgigaolffenaagreatdoor", sum := "c6769ebf49c482ec38e2921733eb24eea0b67ca206f16bc7382604f4f4947be7", func := "solstice/solsticetop.TopEast", spec := "topEast", inPlace := ["internal/bytealg.IndexByteString", "internal/bytealg.IndexString"], unfollowed := true, recurses := true, named := ["solstice/abbr.places", "internal/bytealg.MaxLen", "solstice/civil.lengths"], plainKeys := false, apart := false, laid := [("solstice/civil.lengths", laid_solstice_civil_lengths), ("solstice/abbr.places", laid_solstice_abbr_places)], narrowed := true }
def TopEastUptoSaid : Prop := topEastUptoRow.holds Tryz.pinned (OpenSpec.upto topEastSpec)

/-- 'solsticetop.TopParts', WHERE WHAT IT READS IS OF BULK AT MOST 1048576: true; the input reads as it did. -/
def topPartsUptoRow : OpenClaim := { program := "ytolgigaolffenaagreatdoor", sum := "c6769ebf49c482ec38e2921733eb24eea0b67ca206f16bc7382604f4f4947be7", func := "solstice/solsticetop.TopParts", spec := "topParts", inPlace := ["internal/bytealg.IndexByteString", "internal/bytealg.IndexString"], unfollowed := true, recurses := true, named := ["solstice/abbr.places", "internal/bytealg.MaxLen", "solstice/civil.lengths"], plainKeys := false, apart := false, laid := [("solstice/civil.lengths", laid_solstice_civil_lengths), ("solstice/abbr.places", laid_solstice_abbr_places)], narrowed := true }
def TopPartsUptoSaid : Prop := topPartsUptoRow.holds Tryz.pinned (OpenSpec.upto topPartsSpec)

/-- 'solsticetop.TopStamped', WHERE WHAT IT READS IS OF BULK AT MOST 1048576: true; the input reads as it did. -/
def topStampedUptoRow : OpenClaim := { program := "ytolgigaolffenaagreatdoor", sum := "c6769ebf49c482ec38e2921733eb24eea0b67ca206f16bc7382604f4f4947be7", func := "solstice/solsticetop.TopStamped", spec := "topStamped", inPlace := ["internal/bytealg.IndexByteString", "internal/bytealg.IndexString"], unfollowed := true, recurses := true, named := ["solstice/abbr.places", "internal/bytealg.MaxLen", "solstice/civil.lengths"], plainKeys := false, apart := false, laid := [("solstice/civil.lengths", laid_solstice_civil_lengths), ("solstice/abbr.places", laid_solstice_abbr_places)], narrowed := true }
def TopStampedUptoSaid : Prop := topStampedUptoRow.holds Tryz.pinned (OpenSpec.upto topStampedSpec)

/-- 'solsticetop.TopFound', WHERE WHAT IT READS IS OF BULK AT MOST 1048576: true; the input reads as it did. -/
def topFoundUptoRow : OpenClaim := { program := "ytolgigaolffenaagreatdoor", sum := "c6769ebf49c482ec38e2921733eb24eea0b67ca206f16bc7382604f4f4947be7", func := "solstice/solsticetop.TopFound", spec := "topFound", inPlace := ["internal/bytealg.IndexByteString", "internal/bytealg.IndexString"], unfollowed := true, recurses := true, named := ["solstice/abbr.places", "internal/bytealg.MaxLen", "solstice/civil.lengths"], plainKeys := false, apart := false, laid := [("solstice/civil.lengths", laid_solstice_civil_lengths), ("solstice/abbr.places", laid_solstice_abbr_places)], narrowed := true }
def TopFoundUptoSaid : Prop := topFoundUptoRow.holds Tryz.pinned (OpenSpec.upto topFoundSpec)

/-- 'solsticelaw46.DiffBack', WHERE WHAT IT READS IS OF BULK AT MOST 1048576: true; the input reads as it did. -/
def diffBackUptoRow : OpenClaim := { program := "ytolgigaolffenaagreatdoor", sum := "c6769ebf49c482ec38e2921733eb24eea0b67ca206f16bc7382604f4f4947be7", func := "solstice/solsticelaw46.DiffBack", spec := "diffBack", inPlace := ["internal/bytealg.IndexByteString", "internal/bytealg.IndexString"], unfollowed := true, recurses := true, named := ["solstice/abbr.places", "internal/bytealg.MaxLen", "solstice/civil.lengths"], plainKeys := false, apart := false, laid := [("solstice/civil.lengths", laid_solstice_civil_lengths), ("solstice/abbr.places", laid_solstice_abbr_places)], narrowed := true }
def DiffBackUptoSaid : Prop := diffBackUptoRow.holds Tryz.pinned (OpenSpec.upto diffBackSpec)

end Rows
end Go.Proofs.YtolgigaolffenaaGreatDoor
