/-
  DERIVED. GIVEN WITH THE SEED: THE CARDS: each row of YthmhadgbhakdlaaGreatDoorRows.lean that lists a variable, with what it lists TIED to the program's text (the seventh form; the later family's looks); each row that meets fmt, with fmt's text TOLD by the authors' own Lean function (tested against real Go, not proved from fmt's source: count such statements apart). THE CARD IS WHAT COUNTS. Prove the row's statement (the work); the ties are given (YthmhadgbhakdlaaGreatDoorTie.lean); close each card by the builder's one call (the guide's Derived/Test/ToyasCard.lean, 'card_holds'). Laid BY PROGRAM, IN A SANDBOX (cutbox-door.mjs). By AI agents, Wed Nov 11 2026. No macro, syntax, notation, axiom, sorry.
-/
import Derived.Test.YthmhadgbhakdlaaGreatDoorRows
import GoSem.ClaimSeven
namespace Go.Proofs.YthmhadgbhakdlaaGreatDoor
namespace Rows

/-- THE TIED CARD OF 'solsticelaw33.AtlasTells'. -/
def atlasTellsCard : Claim7 := { stood := { row := atlasTellsRow, standIns := [], harness := (true, "162a04ee32f2239653a9f6c5e1be363a0a2cbe809e669e6c7b1438862cd9cb80"), looks := true }, kinds := [], alts := [], laidByText := true, laidKinds := [.data], laidTests := true, laidLooks := .later }
def AtlasTellsCardSaid : Prop := Claim7.holds Tryz.pinned (.plain (OpenSpec.ofChange atlasTellsSpec)) atlasTellsCard

/-- THE TIED CARD OF 'solsticetop.TopTwo'. -/
def topTwoCard : Claim7 := { stood := { row := topTwoRow, standIns := [], harness := (true, "162a04ee32f2239653a9f6c5e1be363a0a2cbe809e669e6c7b1438862cd9cb80"), looks := true }, kinds := [], alts := [], laidByText := true, laidKinds := [.data, .data, .data, .data, .sentinel, .sentinel, .pinned], laidTests := true, laidLooks := .later }
def TopTwoCardSaid : Prop := Claim7.holds Tryz.pinned (.plain (OpenSpec.ofChange topTwoSpec)) topTwoCard

/-- THE TIED CARD OF 'solsticetop.TopValues'. -/
def topValuesCard : Claim7 := { stood := { row := topValuesRow, standIns := [], harness := (true, "162a04ee32f2239653a9f6c5e1be363a0a2cbe809e669e6c7b1438862cd9cb80"), looks := true }, kinds := [], alts := [], laidByText := true, laidKinds := [.data, .data, .data, .data, .sentinel, .sentinel, .pinned], laidTests := true, laidLooks := .later }
def TopValuesCardSaid : Prop := Claim7.holds Tryz.pinned (.plain (OpenSpec.ofChange topValuesSpec)) topValuesCard

/-- THE SECOND FORM's CARD OF 'solsticelaw33.AtlasTells'. -/
def atlasTellsUptoCard : Claim7 := { stood := { row := atlasTellsUptoRow, standIns := [], harness := (true, "162a04ee32f2239653a9f6c5e1be363a0a2cbe809e669e6c7b1438862cd9cb80"), looks := true }, kinds := [], alts := [], laidByText := true, laidKinds := [.data], laidTests := true, laidLooks := .later }
def AtlasTellsUptoCardSaid : Prop := Claim7.holds Tryz.pinned (.plain (OpenSpec.upto atlasTellsSpec)) atlasTellsUptoCard

/-- THE SECOND FORM's CARD OF 'solsticetop.TopTwo'. -/
def topTwoUptoCard : Claim7 := { stood := { row := topTwoUptoRow, standIns := [], harness := (true, "162a04ee32f2239653a9f6c5e1be363a0a2cbe809e669e6c7b1438862cd9cb80"), looks := true }, kinds := [], alts := [], laidByText := true, laidKinds := [.data, .data, .data, .data, .sentinel, .sentinel, .pinned], laidTests := true, laidLooks := .later }
def TopTwoUptoCardSaid : Prop := Claim7.holds Tryz.pinned (.plain (OpenSpec.upto topTwoSpec)) topTwoUptoCard

/-- THE SECOND FORM's CARD OF 'solsticetop.TopValues'. -/
def topValuesUptoCard : Claim7 := { stood := { row := topValuesUptoRow, standIns := [], harness := (true, "162a04ee32f2239653a9f6c5e1be363a0a2cbe809e669e6c7b1438862cd9cb80"), looks := true }, kinds := [], alts := [], laidByText := true, laidKinds := [.data, .data, .data, .data, .sentinel, .sentinel, .pinned], laidTests := true, laidLooks := .later }
def TopValuesUptoCardSaid : Prop := Claim7.holds Tryz.pinned (.plain (OpenSpec.upto topValuesSpec)) topValuesUptoCard
end Rows
end Go.Proofs.YthmhadgbhakdlaaGreatDoor
