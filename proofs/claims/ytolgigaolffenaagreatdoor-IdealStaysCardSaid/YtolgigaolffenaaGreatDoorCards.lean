/-
  DERIVED. GIVEN WITH THE SEED: THE CARDS: each row of YtolgigaolffenaaGreatDoorRows.lean that lists a variable, with what it lists TIED to the program's text (the seventh form; the later family's looks); each row that meets fmt, with fmt's text TOLD by the authors' own Lean function (tested against real Go, not proved from fmt's source: count such statements apart). THE CARD IS WHAT COUNTS. Prove the row's statement (the work); the ties are given (YtolgigaolffenaaGreatDoorTie.lean); close each card by the builder's one call (the guide's Derived/Test/ToyasCard.lean, 'card_holds'). Laid BY PROGRAM, IN A SANDBOX (cutbox-door.mjs). By AI agents, Wed Nov 11 2026. No macro, syntax, notation, axiom, sorry.
-/
import Derived.Test.YtolgigaolffenaaGreatDoorRows
import GoSem.ClaimSeven
namespace Go.Proofs.YtolgigaolffenaaGreatDoor
namespace Rows

/-- THE TIED CARD OF 'solsticelaw17.IdealStays'. -/
def idealStaysCard : Claim7 := { stood := { row := idealStaysRow, standIns := [], harness := (true, "dd7cdedceb5f539d5c34be7de207237660c6371f0f922ff4a12e7b955f518293"), looks := false }, kinds := [], alts := [], laidByText := true, laidKinds := [.data, .data], laidTests := true, laidLooks := .later }
def IdealStaysCardSaid : Prop := Claim7.holds Tryz.pinned (.plain (OpenSpec.ofChange idealStaysSpec)) idealStaysCard

/-- THE TIED CARD OF 'solsticelaw18.LineJust'. -/
def lineJustCard : Claim7 := { stood := { row := lineJustRow, standIns := [], harness := (true, "dd7cdedceb5f539d5c34be7de207237660c6371f0f922ff4a12e7b955f518293"), looks := false }, kinds := [], alts := [], laidByText := true, laidKinds := [.data, .data], laidTests := true, laidLooks := .later }
def LineJustCardSaid : Prop := Claim7.holds Tryz.pinned (.plain (OpenSpec.ofChange lineJustSpec)) lineJustCard

/-- THE TIED CARD OF 'solsticetop.TopEast'. -/
def topEastCard : Claim7 := { stood := { row := topEastRow, standIns := [], harness := (true, "dd7cdedceb5f539d5c34be7de207237660c6371f0f922ff4a12e7b955f518293"), looks := false }, kinds := [], alts := [], laidByText := true, laidKinds := [.data, .data], laidTests := true, laidLooks := .later }
def TopEastCardSaid : Prop := Claim7.holds Tryz.pinned (.plain (OpenSpec.ofChange topEastSpec)) topEastCard

/-- THE TIED CARD OF 'solsticetop.TopParts'. -/
def topPartsCard : Claim7 := { stood := { row := topPartsRow, standIns := [], harness := (true, "dd7cdedceb5f539d5c34be7de207237660c6371f0f922ff4a12e7b955f518293"), looks := false }, kinds := [], alts := [], laidByText := true, laidKinds := [.data, .data], laidTests := true, laidLooks := .later }
def TopPartsCardSaid : Prop := Claim7.holds Tryz.pinned (.plain (OpenSpec.ofChange topPartsSpec)) topPartsCard

/-- THE TIED CARD OF 'solsticetop.TopStamped'. -/
def topStampedCard : Claim7 := { stood := { row := topStampedRow, standIns := [], harness := (true, "dd7cdedceb5f539d5c34be7de207237660c6371f0f922ff4a12e7b955f518293"), looks := false }, kinds := [], alts := [], laidByText := true, laidKinds := [.data, .data], laidTests := true, laidLooks := .later }
def TopStampedCardSaid : Prop := Claim7.holds Tryz.pinned (.plain (OpenSpec.ofChange topStampedSpec)) topStampedCard

/-- THE TIED CARD OF 'solsticetop.TopFound'. -/
def topFoundCard : Claim7 := { stood := { row := topFoundRow, standIns := [], harness := (true, "dd7cdedceb5f539d5c34be7de207237660c6371f0f922ff4a12e7b955f518293"), looks := false }, kinds := [], alts := [], laidByText := true, laidKinds := [.data, .data], laidTests := true, laidLooks := .later }
def TopFoundCardSaid : Prop := Claim7.holds Tryz.pinned (.plain (OpenSpec.ofChange topFoundSpec)) topFoundCard

/-- THE TIED CARD OF 'solsticelaw46.DiffBack'. -/
def diffBackCard : Claim7 := { stood := { row := diffBackRow, standIns := [], harness := (true, "dd7cdedceb5f539d5c34be7de207237660c6371f0f922ff4a12e7b955f518293"), looks := false }, kinds := [], alts := [], laidByText := true, laidKinds := [.data, .data], laidTests := true, laidLooks := .later }
def DiffBackCardSaid : Prop := Claim7.holds Tryz.pinned (.plain (OpenSpec.ofChange diffBackSpec)) diffBackCard

/-- THE SECOND FORM's CARD OF 'solsticelaw17.IdealStays'. -/
def idealStaysUptoCard : Claim7 := { stood := { row := idealStaysUptoRow, standIns := [], harness := (true, "dd7cdedceb5f539d5c34be7de207237660c6371f0f922ff4a12e7b955f518293"), looks := false }, kinds := [], alts := [], laidByText := true, laidKinds := [.data, .data], laidTests := true, laidLooks := .later }
def IdealStaysUptoCardSaid : Prop := Claim7.holds Tryz.pinned (.plain (OpenSpec.upto idealStaysSpec)) idealStaysUptoCard

/-- THE SECOND FORM's CARD OF 'solsticelaw18.LineJust'. -/
def lineJustUptoCard : Claim7 := { stood := { row := lineJustUptoRow, standIns := [], harness := (true, "dd7cdedceb5f539d5c34be7de207237660c6371f0f922ff4a12e7b955f518293"), looks := false }, kinds := [], alts := [], laidByText := true, laidKinds := [.data, .data], laidTests := true, laidLooks := .later }
def LineJustUptoCardSaid : Prop := Claim7.holds Tryz.pinned (.plain (OpenSpec.upto lineJustSpec)) lineJustUptoCard

/-- THE SECOND FORM's CARD OF 'solsticetop.TopEast'. -/
def topEastUptoCard : Claim7 := { stood := { row := topEastUptoRow, standIns := [], harness := (true, "dd7cdedceb5f539d5c34be7de207237660c6371f0f922ff4a12e7b955f518293"), looks := false }, kinds := [], alts := [], laidByText := true, laidKinds := [.data, .data], laidTests := true, laidLooks := .later }
def TopEastUptoCardSaid : Prop := Claim7.holds Tryz.pinned (.plain (OpenSpec.upto topEastSpec)) topEastUptoCard

/-- THE SECOND FORM's CARD OF 'solsticetop.TopParts'. -/
def topPartsUptoCard : Claim7 := { stood := { row := topPartsUptoRow, standIns := [], harness := (true, "dd7cdedceb5f539d5c34be7de207237660c6371f0f922ff4a12e7b955f518293"), looks := false }, kinds := [], alts := [], laidByText := true, laidKinds := [.data, .data], laidTests := true, laidLooks := .later }
def TopPartsUptoCardSaid : Prop := Claim7.holds Tryz.pinned (.plain (OpenSpec.upto topPartsSpec)) topPartsUptoCard

/-- THE SECOND FORM's CARD OF 'solsticetop.TopStamped'. -/
def topStampedUptoCard : Claim7 := { stood := { row := topStampedUptoRow, standIns := [], harness := (true, "dd7cdedceb5f539d5c34be7de207237660c6371f0f922ff4a12e7b955f518293"), looks := false }, kinds := [], alts := [], laidByText := true, laidKinds := [.data, .data], laidTests := true, laidLooks := .later }
def TopStampedUptoCardSaid : Prop := Claim7.holds Tryz.pinned (.plain (OpenSpec.upto topStampedSpec)) topStampedUptoCard

/-- THE SECOND FORM's CARD OF 'solsticetop.TopFound'. -/
def topFoundUptoCard : Claim7 := { stood := { row := topFoundUptoRow, standIns := [], harness := (true, "dd7cdedceb5f539d5c34be7de207237660c6371f0f922ff4a12e7b955f518293"), looks := false }, kinds := [], alts := [], laidByText := true, laidKinds := [.data, .data], laidTests := true, laidLooks := .later }
def TopFoundUptoCardSaid : Prop := Claim7.holds Tryz.pinned (.plain (OpenSpec.upto topFoundSpec)) topFoundUptoCard

/-- THE SECOND FORM's CARD OF 'solsticelaw46.DiffBack'. -/
def diffBackUptoCard : Claim7 := { stood := { row := diffBackUptoRow, standIns := [], harness := (true, "dd7cdedceb5f539d5c34be7de207237660c6371f0f922ff4a12e7b955f518293"), looks := false }, kinds := [], alts := [], laidByText := true, laidKinds := [.data, .data], laidTests := true, laidLooks := .later }
def DiffBackUptoCardSaid : Prop := Claim7.holds Tryz.pinned (.plain (OpenSpec.upto diffBackSpec)) diffBackUptoCard
end Rows
end Go.Proofs.YtolgigaolffenaaGreatDoor
