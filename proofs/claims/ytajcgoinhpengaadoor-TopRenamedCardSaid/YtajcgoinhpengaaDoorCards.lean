/-
  DERIVED. GIVEN WITH THE SEED: THE CARDS: each row of YtajcgoinhpengaaDoorRows.lean that lists a variable, with what it lists TIED to the program's text (the seventh form; the later family's looks); each row that meets fmt, with fmt's text TOLD by the authors' own Lean function (tested against real Go, not proved from fmt's source: count such statements apart). THE CARD IS WHAT COUNTS. Prove the row's statement (the work); the ties are given (YtajcgoinhpengaaDoorTie.lean); close each card by the builder's one call (the guide's Derived/Test/ToyasCard.lean, 'card_holds'). Laid BY PROGRAM, IN A SANDBOX (cutbox-door.mjs). By AI agents, Wed Nov 11 2026. No macro, syntax, notation, axiom, sorry.
-/
import Derived.Test.YtajcgoinhpengaaDoorRows
import GoSem.ClaimSeven
namespace Go.Proofs.YtajcgoinhpengaaDoor
namespace Rows

/-- THE TIED CARD OF 'solsticelaw33.AtlasKey'. -/
def atlasKeyCard : Claim7 := { stood := { row := atlasKeyRow, standIns := [], harness := (true, "7bb6a54c5b8cae119e129f90ba366801904c80951fea436563c7d748412eb224"), looks := false }, kinds := [], alts := [], laidByText := true, laidKinds := [.data], laidTests := true, laidLooks := .later }
def AtlasKeyCardSaid : Prop := Claim7.holds Tryd.pinned (.plain (OpenSpec.ofChange atlasKeySpec)) atlasKeyCard

/-- THE TIED CARD OF 'solsticetop.TopRenamed'. -/
def topRenamedCard : Claim7 := { stood := { row := topRenamedRow, standIns := [], harness := (true, "7bb6a54c5b8cae119e129f90ba366801904c80951fea436563c7d748412eb224"), looks := false }, kinds := [], alts := [], laidByText := true, laidKinds := [.data, .data, .pinned], laidTests := true, laidLooks := .later }
def TopRenamedCardSaid : Prop := Claim7.holds Tryd.pinned (.plain (OpenSpec.ofChange topRenamedSpec)) topRenamedCard

/-- THE SECOND FORM's CARD OF 'solsticelaw33.AtlasKey'. -/
def atlasKeyUptoCard : Claim7 := { stood := { row := atlasKeyUptoRow, standIns := [], harness := (true, "7bb6a54c5b8cae119e129f90ba366801904c80951fea436563c7d748412eb224"), looks := false }, kinds := [], alts := [], laidByText := true, laidKinds := [.data], laidTests := true, laidLooks := .later }
def AtlasKeyUptoCardSaid : Prop := Claim7.holds Tryd.pinned (.plain (OpenSpec.upto atlasKeySpec)) atlasKeyUptoCard

/-- THE SECOND FORM's CARD OF 'solsticetop.TopRenamed'. -/
def topRenamedUptoCard : Claim7 := { stood := { row := topRenamedUptoRow, standIns := [], harness := (true, "7bb6a54c5b8cae119e129f90ba366801904c80951fea436563c7d748412eb224"), looks := false }, kinds := [], alts := [], laidByText := true, laidKinds := [.data, .data, .pinned], laidTests := true, laidLooks := .later }
def TopRenamedUptoCardSaid : Prop := Claim7.holds Tryd.pinned (.plain (OpenSpec.upto topRenamedSpec)) topRenamedUptoCard
end Rows
end Go.Proofs.YtajcgoinhpengaaDoor
