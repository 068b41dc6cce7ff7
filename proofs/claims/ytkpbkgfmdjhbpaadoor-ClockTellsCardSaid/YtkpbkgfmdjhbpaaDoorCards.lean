/-
  DERIVED. GIVEN WITH THE SEED: THE CARDS: each row of YtkpbkgfmdjhbpaaDoorRows.lean that lists a variable, with what it lists TIED to the program's text (the seventh form; the later family's looks); each row that meets fmt, with fmt's text TOLD by the authors' own Lean function (tested against real Go, not proved from fmt's source: count such statements apart). THE CARD IS WHAT COUNTS. Prove the row's statement (the work); the ties are given (YtkpbkgfmdjhbpaaDoorTie.lean); close each card by the builder's one call (the guide's Derived/Test/ToyasCard.lean, 'card_holds'). Laid BY PROGRAM, IN A SANDBOX (cutbox-door.mjs). By AI agents, Wed Nov 11 2026. No macro, syntax, notation, axiom, sorry.
-/
import Derived.Test.YtkpbkgfmdjhbpaaDoorRows
import GoSem.ClaimSeven
namespace Go.Proofs.YtkpbkgfmdjhbpaaDoor
namespace Rows

/-- THE TIED CARD OF 'solsticelaw02.ClockTells'. -/
def clockTellsCard : Claim7 := { stood := { row := clockTellsRow, standIns := [], harness := (true, "a015f3492a73085e8e91b15c0d8c979753969eca6132a175fea1864fc0b3aeb2"), looks := false }, kinds := [], alts := [], laidByText := true, laidKinds := [.data, .data, .data, .data, .data, .pinned], laidTests := true, laidLooks := .later }
def ClockTellsCardSaid : Prop := Claim7.holds Tryd.pinned (.plain (OpenSpec.ofChange clockTellsSpec)) clockTellsCard

/-- THE TIED CARD OF 'solsticelaw14.ValidEach'. -/
def validEachCard : Claim7 := { stood := { row := validEachRow, standIns := [], harness := (true, "a015f3492a73085e8e91b15c0d8c979753969eca6132a175fea1864fc0b3aeb2"), looks := false }, kinds := [], alts := [], laidByText := true, laidKinds := [.data, .data], laidTests := true, laidLooks := .later }
def ValidEachCardSaid : Prop := Claim7.holds Tryd.pinned (.plain (OpenSpec.ofChange validEachSpec)) validEachCard

/-- THE TIED CARD OF 'solsticelaw31.MarkupBack'. -/
def markupBackCard : Claim7 := { stood := { row := markupBackRow, standIns := [], harness := (true, "a015f3492a73085e8e91b15c0d8c979753969eca6132a175fea1864fc0b3aeb2"), looks := false }, kinds := [], alts := [], laidByText := true, laidKinds := [.data, .pinned], laidTests := true, laidLooks := .later }
def MarkupBackCardSaid : Prop := Claim7.holds Tryd.pinned (.plain (OpenSpec.ofChange markupBackSpec)) markupBackCard

/-- THE TIED CARD OF 'solsticelaw31.MarkupPairs'. -/
def markupPairsCard : Claim7 := { stood := { row := markupPairsRow, standIns := [], harness := (true, "a015f3492a73085e8e91b15c0d8c979753969eca6132a175fea1864fc0b3aeb2"), looks := false }, kinds := [], alts := [], laidByText := true, laidKinds := [.data, .pinned], laidTests := true, laidLooks := .later }
def MarkupPairsCardSaid : Prop := Claim7.holds Tryd.pinned (.plain (OpenSpec.ofChange markupPairsSpec)) markupPairsCard

/-- THE TIED CARD OF 'solsticelaw33.AtlasKey'. -/
def atlasKeyCard : Claim7 := { stood := { row := atlasKeyRow, standIns := [], harness := (true, "a015f3492a73085e8e91b15c0d8c979753969eca6132a175fea1864fc0b3aeb2"), looks := false }, kinds := [], alts := [], laidByText := true, laidKinds := [.data], laidTests := true, laidLooks := .later }
def AtlasKeyCardSaid : Prop := Claim7.holds Tryd.pinned (.plain (OpenSpec.ofChange atlasKeySpec)) atlasKeyCard

/-- THE SECOND FORM's CARD OF 'solsticelaw02.ClockTells'. -/
def clockTellsUptoCard : Claim7 := { stood := { row := clockTellsUptoRow, standIns := [], harness := (true, "a015f3492a73085e8e91b15c0d8c979753969eca6132a175fea1864fc0b3aeb2"), looks := false }, kinds := [], alts := [], laidByText := true, laidKinds := [.data, .data, .data, .data, .data, .pinned], laidTests := true, laidLooks := .later }
def ClockTellsUptoCardSaid : Prop := Claim7.holds Tryd.pinned (.plain (OpenSpec.upto clockTellsSpec)) clockTellsUptoCard

/-- THE SECOND FORM's CARD OF 'solsticelaw14.ValidEach'. -/
def validEachUptoCard : Claim7 := { stood := { row := validEachUptoRow, standIns := [], harness := (true, "a015f3492a73085e8e91b15c0d8c979753969eca6132a175fea1864fc0b3aeb2"), looks := false }, kinds := [], alts := [], laidByText := true, laidKinds := [.data, .data], laidTests := true, laidLooks := .later }
def ValidEachUptoCardSaid : Prop := Claim7.holds Tryd.pinned (.plain (OpenSpec.upto validEachSpec)) validEachUptoCard

/-- THE SECOND FORM's CARD OF 'solsticelaw31.MarkupBack'. -/
def markupBackUptoCard : Claim7 := { stood := { row := markupBackUptoRow, standIns := [], harness := (true, "a015f3492a73085e8e91b15c0d8c979753969eca6132a175fea1864fc0b3aeb2"), looks := false }, kinds := [], alts := [], laidByText := true, laidKinds := [.data, .pinned], laidTests := true, laidLooks := .later }
def MarkupBackUptoCardSaid : Prop := Claim7.holds Tryd.pinned (.plain (OpenSpec.upto markupBackSpec)) markupBackUptoCard

/-- THE SECOND FORM's CARD OF 'solsticelaw31.MarkupPairs'. -/
def markupPairsUptoCard : Claim7 := { stood := { row := markupPairsUptoRow, standIns := [], harness := (true, "a015f3492a73085e8e91b15c0d8c979753969eca6132a175fea1864fc0b3aeb2"), looks := false }, kinds := [], alts := [], laidByText := true, laidKinds := [.data, .pinned], laidTests := true, laidLooks := .later }
def MarkupPairsUptoCardSaid : Prop := Claim7.holds Tryd.pinned (.plain (OpenSpec.upto markupPairsSpec)) markupPairsUptoCard

/-- THE SECOND FORM's CARD OF 'solsticelaw33.AtlasKey'. -/
def atlasKeyUptoCard : Claim7 := { stood := { row := atlasKeyUptoRow, standIns := [], harness := (true, "a015f3492a73085e8e91b15c0d8c979753969eca6132a175fea1864fc0b3aeb2"), looks := false }, kinds := [], alts := [], laidByText := true, laidKinds := [.data], laidTests := true, laidLooks := .later }
def AtlasKeyUptoCardSaid : Prop := Claim7.holds Tryd.pinned (.plain (OpenSpec.upto atlasKeySpec)) atlasKeyUptoCard
end Rows
end Go.Proofs.YtkpbkgfmdjhbpaaDoor
