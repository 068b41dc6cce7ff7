/-
  DERIVED. GIVEN WITH THE SEED: THE CARDS: each row of YtjbgmbhifnihaaaDoorRows.lean that lists a variable, with what it lists TIED to the program's text (the seventh form; the later family's looks); each row that meets fmt, with fmt's text TOLD by the authors' own Lean function (tested against real Go, not proved from fmt's source: count such statements apart). THE CARD IS WHAT COUNTS. Prove the row's statement (the work); the ties are given (YtjbgmbhifnihaaaDoorTie.lean); close each card by the builder's one call (the guide's Derived/Test/ToyasCard.lean, 'card_holds'). Laid BY PROGRAM, IN A SANDBOX (cutbox-door.mjs). By AI agents, Wed Nov 11 2026. No macro, syntax, notation, axiom, sorry.
-/
import Derived.Test.YtjbgmbhifnihaaaDoorRows
import GoSem.ClaimSeven
namespace Go.Proofs.YtjbgmbhifnihaaaDoor
namespace Rows

/-- THE TIED CARD OF 'solsticelaw31.MarkupBack'. -/
def markupBackCard : Claim7 := { stood := { row := markupBackRow, standIns := [], harness := (true, "f8613ea40918543dcb20394d226dec2f04b9b71118c5c25a0dc04c018f641e05"), looks := false }, kinds := [], alts := [], laidByText := true, laidKinds := [.data, .pinned], laidTests := true, laidLooks := .later }
def MarkupBackCardSaid : Prop := Claim7.holds Tryd.pinned (.plain (OpenSpec.ofChange markupBackSpec)) markupBackCard

/-- THE TIED CARD OF 'solsticelaw31.MarkupPairs'. -/
def markupPairsCard : Claim7 := { stood := { row := markupPairsRow, standIns := [], harness := (true, "f8613ea40918543dcb20394d226dec2f04b9b71118c5c25a0dc04c018f641e05"), looks := false }, kinds := [], alts := [], laidByText := true, laidKinds := [.data, .pinned], laidTests := true, laidLooks := .later }
def MarkupPairsCardSaid : Prop := Claim7.holds Tryd.pinned (.plain (OpenSpec.ofChange markupPairsSpec)) markupPairsCard

/-- THE TIED CARD OF 'solsticetop.TopWrapped'. -/
def topWrappedCard : Claim7 := { stood := { row := topWrappedRow, standIns := [], harness := (true, "f8613ea40918543dcb20394d226dec2f04b9b71118c5c25a0dc04c018f641e05"), looks := false }, kinds := [], alts := [], laidByText := true, laidKinds := [.data, .pinned], laidTests := true, laidLooks := .later }
def TopWrappedCardSaid : Prop := Claim7.holds Tryd.pinned (.plain (OpenSpec.ofChange topWrappedSpec)) topWrappedCard

/-- THE TIED CARD OF 'solsticetop.TopMarked'. -/
def topMarkedCard : Claim7 := { stood := { row := topMarkedRow, standIns := [], harness := (true, "f8613ea40918543dcb20394d226dec2f04b9b71118c5c25a0dc04c018f641e05"), looks := false }, kinds := [], alts := [], laidByText := true, laidKinds := [.data, .pinned], laidTests := true, laidLooks := .later }
def TopMarkedCardSaid : Prop := Claim7.holds Tryd.pinned (.plain (OpenSpec.ofChange topMarkedSpec)) topMarkedCard

/-- THE SECOND FORM's CARD OF 'solsticelaw31.MarkupBack'. -/
def markupBackUptoCard : Claim7 := { stood := { row := markupBackUptoRow, standIns := [], harness := (true, "f8613ea40918543dcb20394d226dec2f04b9b71118c5c25a0dc04c018f641e05"), looks := false }, kinds := [], alts := [], laidByText := true, laidKinds := [.data, .pinned], laidTests := true, laidLooks := .later }
def MarkupBackUptoCardSaid : Prop := Claim7.holds Tryd.pinned (.plain (OpenSpec.upto markupBackSpec)) markupBackUptoCard

/-- THE SECOND FORM's CARD OF 'solsticelaw31.MarkupPairs'. -/
def markupPairsUptoCard : Claim7 := { stood := { row := markupPairsUptoRow, standIns := [], harness := (true, "f8613ea40918543dcb20394d226dec2f04b9b71118c5c25a0dc04c018f641e05"), looks := false }, kinds := [], alts := [], laidByText := true, laidKinds := [.data, .pinned], laidTests := true, laidLooks := .later }
def MarkupPairsUptoCardSaid : Prop := Claim7.holds Tryd.pinned (.plain (OpenSpec.upto markupPairsSpec)) markupPairsUptoCard

/-- THE SECOND FORM's CARD OF 'solsticetop.TopWrapped'. -/
def topWrappedUptoCard : Claim7 := { stood := { row := topWrappedUptoRow, standIns := [], harness := (true, "f8613ea40918543dcb20394d226dec2f04b9b71118c5c25a0dc04c018f641e05"), looks := false }, kinds := [], alts := [], laidByText := true, laidKinds := [.data, .pinned], laidTests := true, laidLooks := .later }
def TopWrappedUptoCardSaid : Prop := Claim7.holds Tryd.pinned (.plain (OpenSpec.upto topWrappedSpec)) topWrappedUptoCard

/-- THE SECOND FORM's CARD OF 'solsticetop.TopMarked'. -/
def topMarkedUptoCard : Claim7 := { stood := { row := topMarkedUptoRow, standIns := [], harness := (true, "f8613ea40918543dcb20394d226dec2f04b9b71118c5c25a0dc04c018f641e05"), looks := false }, kinds := [], alts := [], laidByText := true, laidKinds := [.data, .pinned], laidTests := true, laidLooks := .later }
def TopMarkedUptoCardSaid : Prop := Claim7.holds Tryd.pinned (.plain (OpenSpec.upto topMarkedSpec)) topMarkedUptoCard
end Rows
end Go.Proofs.YtjbgmbhifnihaaaDoor
