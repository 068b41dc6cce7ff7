/-
  DERIVED. GIVEN WITH THE SEED: THE CARDS: each row of YtmobejhfajnbhaaDoorRows.lean that lists a variable, with what it lists TIED to the program's text (the seventh form; the later family's looks); each row that meets fmt, with fmt's text TOLD by the authors' own Lean function (tested against real Go, not proved from fmt's source: count such statements apart). THE CARD IS WHAT COUNTS. Prove the row's statement (the work); the ties are given (YtmobejhfajnbhaaDoorTie.lean); close each card by the builder's one call (the guide's Derived/Test/ToyasCard.lean, 'card_holds'). Laid BY PROGRAM, IN A SANDBOX (cutbox-door.mjs). By AI agents, Wed Nov 11 2026. No macro, syntax, notation, axiom, sorry.
-/
import Derived.Test.YtmobejhfajnbhaaDoorRows
import GoSem.ClaimSeven
namespace Go.Proofs.YtmobejhfajnbhaaDoor
namespace Rows

/-- THE TIED CARD OF 'solsticelaw14.ValidEach'. -/
def validEachCard : Claim7 := { stood := { row := validEachRow, standIns := [], harness := (true, "4ad7c3c7f0d2e166342a197435f97eff0d0d28c341d1a3fcc65c3e16b4c401de"), looks := true }, kinds := [], alts := [], laidByText := true, laidKinds := [.data, .data], laidTests := true, laidLooks := .later }
def ValidEachCardSaid : Prop := Claim7.holds Tryd.pinned (.plain (OpenSpec.ofChange validEachSpec)) validEachCard

/-- THE TIED CARD OF 'solsticelaw39.TellBack'. -/
def tellBackCard : Claim7 := { stood := { row := tellBackRow, standIns := [], harness := (true, "4ad7c3c7f0d2e166342a197435f97eff0d0d28c341d1a3fcc65c3e16b4c401de"), looks := true }, kinds := [], alts := [], laidByText := true, laidKinds := [.data, .data, .data, .sentinel, .sentinel, .data], laidTests := true, laidLooks := .later }
def TellBackCardSaid : Prop := Claim7.holds Tryd.pinned (.plain (OpenSpec.ofChange tellBackSpec)) tellBackCard

/-- THE TIED CARD OF 'solsticelaw11.SourceRight'. -/
def sourceRightCard : Claim7 := { stood := { row := sourceRightRow, standIns := [], harness := (true, "4ad7c3c7f0d2e166342a197435f97eff0d0d28c341d1a3fcc65c3e16b4c401de"), looks := true }, kinds := [], alts := [], laidByText := true, laidKinds := [.data, .data, .data, .pinned], laidTests := true, laidLooks := .later }
def SourceRightCardSaid : Prop := Claim7.holds Tryd.pinned (.plain (OpenSpec.ofChange sourceRightSpec)) sourceRightCard

/-- THE TIED CARD OF 'solsticetop.TopLines'. -/
def topLinesCard : Claim7 := { stood := { row := topLinesRow, standIns := [], harness := (true, "4ad7c3c7f0d2e166342a197435f97eff0d0d28c341d1a3fcc65c3e16b4c401de"), looks := true }, kinds := [], alts := [], laidByText := true, laidKinds := [.data, .data, .data, .data, .data, .data, .pinned], laidTests := true, laidLooks := .later }
def TopLinesCardSaid : Prop := Claim7.holds Tryd.pinned (.plain (OpenSpec.ofChange topLinesSpec)) topLinesCard

/-- THE SECOND FORM's CARD OF 'solsticelaw14.ValidEach'. -/
def validEachUptoCard : Claim7 := { stood := { row := validEachUptoRow, standIns := [], harness := (true, "4ad7c3c7f0d2e166342a197435f97eff0d0d28c341d1a3fcc65c3e16b4c401de"), looks := true }, kinds := [], alts := [], laidByText := true, laidKinds := [.data, .data], laidTests := true, laidLooks := .later }
def ValidEachUptoCardSaid : Prop := Claim7.holds Tryd.pinned (.plain (OpenSpec.upto validEachSpec)) validEachUptoCard

/-- THE SECOND FORM's CARD OF 'solsticelaw39.TellBack'. -/
def tellBackUptoCard : Claim7 := { stood := { row := tellBackUptoRow, standIns := [], harness := (true, "4ad7c3c7f0d2e166342a197435f97eff0d0d28c341d1a3fcc65c3e16b4c401de"), looks := true }, kinds := [], alts := [], laidByText := true, laidKinds := [.data, .data, .data, .sentinel, .sentinel, .data], laidTests := true, laidLooks := .later }
def TellBackUptoCardSaid : Prop := Claim7.holds Tryd.pinned (.plain (OpenSpec.upto tellBackSpec)) tellBackUptoCard

/-- THE SECOND FORM's CARD OF 'solsticelaw11.SourceRight'. -/
def sourceRightUptoCard : Claim7 := { stood := { row := sourceRightUptoRow, standIns := [], harness := (true, "4ad7c3c7f0d2e166342a197435f97eff0d0d28c341d1a3fcc65c3e16b4c401de"), looks := true }, kinds := [], alts := [], laidByText := true, laidKinds := [.data, .data, .data, .pinned], laidTests := true, laidLooks := .later }
def SourceRightUptoCardSaid : Prop := Claim7.holds Tryd.pinned (.plain (OpenSpec.upto sourceRightSpec)) sourceRightUptoCard

/-- THE SECOND FORM's CARD OF 'solsticetop.TopLines'. -/
def topLinesUptoCard : Claim7 := { stood := { row := topLinesUptoRow, standIns := [], harness := (true, "4ad7c3c7f0d2e166342a197435f97eff0d0d28c341d1a3fcc65c3e16b4c401de"), looks := true }, kinds := [], alts := [], laidByText := true, laidKinds := [.data, .data, .data, .data, .data, .data, .pinned], laidTests := true, laidLooks := .later }
def TopLinesUptoCardSaid : Prop := Claim7.holds Tryd.pinned (.plain (OpenSpec.upto topLinesSpec)) topLinesUptoCard
end Rows
end Go.Proofs.YtmobejhfajnbhaaDoor
