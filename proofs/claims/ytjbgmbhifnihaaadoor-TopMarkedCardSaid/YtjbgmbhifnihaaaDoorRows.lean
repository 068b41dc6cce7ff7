/-
  NARROWER THAN 'FOR EVERY INPUT', by the rows' own cells (each row's printed sentence says how): MarkupBack: laid · MarkupPairs: laid · TopWrapped: laid · TopMarked: laid.
  DERIVED. THE GIVEN ROWS OF THIS SEAT. 4 by the template 'for every input the law returns true; each argument reads behind the call as it read before'; 0 by the template 'total and deterministic' (their statements: YtjbgmbhifnihaaaDoorTotals.lean).
  GIVEN WITH THE SEED: the statements are not yours to turn. If you find one false, say at which input.
  Laid BY PROGRAM, IN A SANDBOX (cutbox-rows.mjs): the forced cells as the released guide's own fill.sh prints them over the translation 2eaac1f056d8c362… (all of the seat's roots in one cut). By AI agents, Wed Nov 11 2026. No macro, syntax, notation, axiom, sorry.
-/
import Derived.Test.YtjbgmbhifnihaaaDoorChecked
import GoSem.PinnedTables
import GoSem.Claim
import GoSem.ClaimJoined
import GoSem.ClaimMapViews
import Derived.JoinedTies
import Derived.KernelRfl
namespace Go.Proofs.YtjbgmbhifnihaaaDoor
/- THE CELL 'sum', in the pinned program and in every row, IS THE sha256 OF THE DUMP (.gsa) THAT YtjbgmbhifnihaaaDoorProg.lean LOADS. Nothing in Lean hashes anything: it is a label: what it is worth is what the hold of that sum in a sandbox is worth. -/
noncomputable def Tryd.pinned : Pinned := { name := "ytjbgmbhifnihaaadoor", sum := "2eaac1f056d8c362d70612a2e0698416996f0e887d33ddb099263d13a0bac940", checked := Tryd.checked }
namespace Rows
def none {H : Type} : Left H := { results := [], args := [] }

/- WHAT THE LISTED PACKAGE-LEVEL VARIABLES READ AS WHEN THE CALL BEGINS. Each datum BY PROGRAM (the guide's laid-datum.mjs) off the statement by which the dump's own 'gosem.cut.vars' lays the variable. In a bare row this is a premise. The card (YtjbgmbhifnihaaaDoorCards.lean) ties it to the program's text. -/
def laid_unicode_utf8_acceptRanges {H : Type} : DataW H := .agg [.agg [.lit (.int .u8 128), .lit (.int .u8 191)], .agg [.lit (.int .u8 160), .lit (.int .u8 191)], .agg [.lit (.int .u8 128), .lit (.int .u8 159)], .agg [.lit (.int .u8 144), .lit (.int .u8 191)], .agg [.lit (.int .u8 128), .lit (.int .u8 143)], .agg [.lit (.int .u8 0), .lit (.int .u8 0)], .agg [.lit (.int .u8 0), .lit (.int .u8 0)], .agg [.lit (.int .u8 0), .lit (.int .u8 0)], .agg [.lit (.int .u8 0), .lit (.int .u8 0)], .agg [.lit (.int .u8 0), .lit (.int .u8 0)], .agg [.lit (.int .u8 0), .lit (.int .u8 0)], .agg [.lit (.int .u8 0), .lit (.int .u8 0)], .agg [.lit (.int .u8 0), .lit (.int .u8 0)], .agg [.lit (.int .u8 0), .lit (.int .u8 0)], .agg [.lit (.int .u8 0), .lit (.int .u8 0)], .agg [.lit (.int .u8 0), .lit (.int .u8 0)]]
/-- One of Go's own tables, pinned by name: the form's constant. -/
def laid_unicode_utf8_first : DataW Unit := Go.Pinned.utf8First

/-- 'solsticelaw31.MarkupBack': WHATEVER THE INPUT: true; the input reads as it did. -/
def markupBackSpec : ChangeSpec := { name := "markupBack", fn := fun _ => fun
  | [d] => { results := [.lit (.bool true)], args := [d] }
  | _ => none }
def markupBackRow : OpenClaim := { program := "ytjbgmbhifnihaaadoor", sum := "2eaac1f056d8c362d70612a2e0698416996f0e887d33ddb099263d13a0bac940", func := "solstice/solsticelaw31.MarkupBack", spec := "markupBack", inPlace := ["internal/bytealg.IndexByteString", "internal/bytealg.IndexString", "internal/abi.NoEscape"], named := ["unicode/utf8.first", "unicode/utf8.acceptRanges", "internal/bytealg.MaxLen"], plainKeys := false, apart := false, laid := [("unicode/utf8.acceptRanges", laid_unicode_utf8_acceptRanges), ("unicode/utf8.first", laid_unicode_utf8_first)] }
def MarkupBackSaid : Prop := markupBackRow.holds Tryd.pinned (OpenSpec.ofChange markupBackSpec)

/-- ITS FALSE NEIGHBOUR: 'it returns false'. Refute it at one input. -/
def markupBackWrong : ChangeSpec := { name := "markupBack", fn := fun _ => fun
  | [d] => { results := [.lit (.bool false)], args := [d] }
  | _ => none }
def MarkupBackWrongFalsely : Prop := markupBackRow.holds Tryd.pinned (OpenSpec.ofChange markupBackWrong)

/-- 'solsticelaw31.MarkupPairs': WHATEVER THE INPUT: true; the input reads as it did. -/
def markupPairsSpec : ChangeSpec := { name := "markupPairs", fn := fun _ => fun
  | [d] => { results := [.lit (.bool true)], args := [d] }
  | _ => none }
def markupPairsRow : OpenClaim := { program := "ytjbgmbhifnihaaadoor", sum := "2eaac1f056d8c362d70612a2e0698416996f0e887d33ddb099263d13a0bac940", func := "solstice/solsticelaw31.MarkupPairs", spec := "markupPairs", inPlace := ["internal/bytealg.IndexByteString", "internal/bytealg.IndexString", "internal/abi.NoEscape"], named := ["unicode/utf8.first", "unicode/utf8.acceptRanges", "internal/bytealg.MaxLen"], plainKeys := false, apart := false, laid := [("unicode/utf8.acceptRanges", laid_unicode_utf8_acceptRanges), ("unicode/utf8.first", laid_unicode_utf8_first)] }
def MarkupPairsSaid : Prop := markupPairsRow.holds Tryd.pinned (OpenSpec.ofChange markupPairsSpec)

/-- ITS FALSE NEIGHBOUR: 'it returns false'. Refute it at one input. -/
def markupPairsWrong : ChangeSpec := { name := "markupPairs", fn := fun _ => fun
  | [d] => { results := [.lit (.bool false)], args := [d] }
  | _ => none }
def MarkupPairsWrongFalsely : Prop := markupPairsRow.holds Tryd.pinned (OpenSpec.ofChange markupPairsWrong)

/-- 'solsticetop.TopWrapped': WHATEVER THE INPUT: true; the input reads as it did. -/
def topWrappedSpec : ChangeSpec := { name := "topWrapped", fn := fun _ => fun
  | [d1, d2] => { results := [.lit (.bool true)], args := [d1, d2] }
  | _ => none }
def topWrappedRow : OpenClaim := { program := "ytjbgmbhifnihaaadoor", sum := "2eaac1f056d8c362d70612a2e0698416996f0e887d33ddb099263d13a0bac940", func := "solstice/solsticetop.TopWrapped", spec := "topWrapped", inPlace := ["internal/bytealg.IndexByteString", "internal/bytealg.IndexString", "internal/abi.NoEscape", "internal/bytealg.CountString", "internal/bytealg.MakeNoZero"], unfollowed := true, recurses := true, named := ["unicode/utf8.first", "unicode/utf8.acceptRanges", "internal/bytealg.MaxLen"], plainKeys := false, apart := false, laid := [("unicode/utf8.acceptRanges", laid_unicode_utf8_acceptRanges), ("unicode/utf8.first", laid_unicode_utf8_first)] }
def TopWrappedSaid : Prop := topWrappedRow.holds Tryd.pinned (OpenSpec.ofChange topWrappedSpec)

/-- ITS FALSE NEIGHBOUR: 'it returns false'. Refute it at one input. -/
def topWrappedWrong : ChangeSpec := { name := "topWrapped", fn := fun _ => fun
  | [d1, d2] => { results := [.lit (.bool false)], args := [d1, d2] }
  | _ => none }
def TopWrappedWrongFalsely : Prop := topWrappedRow.holds Tryd.pinned (OpenSpec.ofChange topWrappedWrong)

/-- 'solsticetop.TopMarked': WHATEVER THE INPUT: true; the input reads as it did. -/
def topMarkedSpec : ChangeSpec := { name := "topMarked", fn := fun _ => fun
  | [d] => { results := [.lit (.bool true)], args := [d] }
  | _ => none }
def topMarkedRow : OpenClaim := { program := "ytjbgmbhifnihaaadoor", sum := "2eaac1f056d8c362d70612a2e0698416996f0e887d33ddb099263d13a0bac940", func := "solstice/solsticetop.TopMarked", spec := "topMarked", inPlace := ["internal/bytealg.IndexByteString", "internal/bytealg.IndexString", "internal/abi.NoEscape", "internal/bytealg.CountString", "internal/bytealg.MakeNoZero"], unfollowed := true, recurses := true, named := ["unicode/utf8.first", "unicode/utf8.acceptRanges", "internal/bytealg.MaxLen"], plainKeys := false, apart := false, laid := [("unicode/utf8.acceptRanges", laid_unicode_utf8_acceptRanges), ("unicode/utf8.first", laid_unicode_utf8_first)] }
def TopMarkedSaid : Prop := topMarkedRow.holds Tryd.pinned (OpenSpec.ofChange topMarkedSpec)

/-- ITS FALSE NEIGHBOUR: 'it returns false'. Refute it at one input. -/
def topMarkedWrong : ChangeSpec := { name := "topMarked", fn := fun _ => fun
  | [d] => { results := [.lit (.bool false)], args := [d] }
  | _ => none }
def TopMarkedWrongFalsely : Prop := topMarkedRow.holds Tryd.pinned (OpenSpec.ofChange topMarkedWrong)

/- THE SECOND FORM. 'bulk': how many values and letters a reading holds, each counted each time it is reached (what is shared counts as often as it is met; a slice's spare places count too). A statement '..UptoSaid' is the law's where the arguments, and the package variables that the reading takes, are together of bulk at most 1048576: NARROWER than '..Said'. Prove '..Said' where nothing that the law and all that it calls make is longer than what came in: it says more and counts as full. Else prove '..UptoSaid'. A law counts once. -/
mutual
def uptoBulk {H : Type} : DataW H → Nat
  | .lit (.string bytes) => bytes.length + 1
  | .lit _ => 1
  | .nil => 1
  | .ptr d => uptoBulk d + 1
  | .slice elems spare => uptoBulkAll elems + uptoBulkAll spare + 1
  | .agg parts => uptoBulkAll parts + 1
  | .iface _ d => uptoBulk d + 1
  | .map entries => uptoBulkEntries entries + 1
  | .held _ => 1
def uptoBulkAll {H : Type} : List (DataW H) → Nat
  | [] => 0
  | d :: r => uptoBulk d + uptoBulkAll r
def uptoBulkEntries {H : Type} : List (Lit × DataW H) → Nat
  | [] => 0
  | x :: r => uptoBulkEntry x + uptoBulkEntries r
def uptoBulkEntry {H : Type} : Lit × DataW H → Nat
  | (.string bytes, d) => bytes.length + uptoBulk d + 1
  | (_, d) => uptoBulk d + 1
 end
def uptoSmall : (H : Type) → List (DataW H) → Bool := fun _ ds => decide (uptoBulkAll ds ≤ 1048576)
def OpenSpec.upto (s : _root_.Go.ChangeSpec) : _root_.Go.OpenSpec := { _root_.Go.OpenSpec.ofChange s with cond := some uptoSmall }

/-- 'solsticelaw31.MarkupBack', WHERE WHAT IT READS IS OF BULK AT MOST 1048576: true; the input reads as it did. -/
def markupBackUptoRow : OpenClaim := { program := "ytjbgmbhifnihaaadoor", sum := "2eaac1f056d8c362d70612a2e0698416996f0e887d33ddb099263d13a0bac940", func := "solstice/solsticelaw31.MarkupBack", spec := "markupBack", inPlace := ["internal/bytealg.IndexByteString", "internal/bytealg.IndexString", "internal/abi.NoEscape"], named := ["unicode/utf8.first", "unicode/utf8.acceptRanges", "internal/bytealg.MaxLen"], plainKeys := false, apart := false, laid := [("unicode/utf8.acceptRanges", laid_unicode_utf8_acceptRanges), ("unicode/utf8.first", laid_unicode_utf8_first)], narrowed := true }
def MarkupBackUptoSaid : Prop := markupBackUptoRow.holds Tryd.pinned (OpenSpec.upto markupBackSpec)

/-- 'solsticelaw31.MarkupPairs', WHERE WHAT IT READS IS OF BULK AT MOST 1048576: true; the input reads as it did. -/
def markupPairsUptoRow : OpenClaim := { program := "ytjbgmbhifnihaaadoor", sum := "2eaac1f056d8c362d70612a2e0698416996f0e887d33ddb099263d13a0bac940", func := "solstice/solsticelaw31.MarkupPairs", spec := "markupPairs", inPlace := ["internal/bytealg.IndexByteString", "internal/bytealg.IndexString", "internal/abi.NoEscape"], named := ["unicode/utf8.first", "unicode/utf8.acceptRanges", "internal/bytealg.MaxLen"], plainKeys := false, apart := false, laid := [("unicode/utf8.acceptRanges", laid_unicode_utf8_acceptRanges), ("unicode/utf8.first", laid_unicode_utf8_first)], narrowed := true }
def MarkupPairsUptoSaid : Prop := markupPairsUptoRow.holds Tryd.pinned (OpenSpec.upto markupPairsSpec)

/-- 'solsticetop.TopWrapped', WHERE WHAT IT READS IS OF BULK AT MOST 1048576: true; the input reads as it did. -/
def topWrappedUptoRow : OpenClaim := { program := "ytjbgmbhifnihaaadoor", sum := "2eaac1f056d8c362d70612a2e0698416996f0e887d33ddb099263d13a0bac940", func := "solstice/solsticetop.TopWrapped", spec := "topWrapped", inPlace := ["internal/bytealg.IndexByteString", "internal/bytealg.IndexString", "internal/abi.NoEscape", "internal/bytealg.CountString", "internal/bytealg.MakeNoZero"], unfollowed := true, recurses := true, named := ["unicode/utf8.first", "unicode/utf8.acceptRanges", "internal/bytealg.MaxLen"], plainKeys := false, apart := false, laid := [("unicode/utf8.acceptRanges", laid_unicode_utf8_acceptRanges), ("unicode/utf8.first", laid_unicode_utf8_first)], narrowed := true }
def TopWrappedUptoSaid : Prop := topWrappedUptoRow.holds Tryd.pinned (OpenSpec.upto topWrappedSpec)

/-- 'solsticetop.TopMarked', WHERE WHAT IT READS IS OF BULK AT MOST 1048576: true; the input reads as it did. -/
def topMarkedUptoRow : OpenClaim := { program := "ytjbgmbhifnihaaadoor", sum := "2eaac1f056d8c362d70612a2e0698416996f0e887d33ddb099263d13a0bac940", func := "solstice/solsticetop.TopMarked", spec := "topMarked", inPlace := ["internal/bytealg.IndexByteString", "internal/bytealg.IndexString", "internal/abi.NoEscape", "internal/bytealg.CountString", "internal/bytealg.MakeNoZero"], unfollowed := true, recurses := true, named := ["unicode/utf8.first", "unicode/utf8.acceptRanges", "internal/bytealg.MaxLen"], plainKeys := false, apart := false, laid := [("unicode/utf8.acceptRanges", laid_unicode_utf8_acceptRanges), ("unicode/utf8.first", laid_unicode_utf8_first)], narrowed := true }
def TopMarkedUptoSaid : Prop := topMarkedUptoRow.holds Tryd.pinned (OpenSpec.upto topMarkedSpec)

end Rows
end Go.Proofs.YtjbgmbhifnihaaaDoor
