/-
  DERIVED. GIVEN WITH THE SEED: THE CARDS: each row of YtokimlfbfbfenaaDoorRows.lean that lists a variable, with what it lists TIED to the program's text (the seventh form; the later family's looks); each row that meets fmt, with fmt's text TOLD by the authors' own Lean function (tested against real Go, not proved from fmt's source: count such statements apart). THE CARD IS WHAT COUNTS. Prove the row's statement (the work); the ties are given (YtokimlfbfbfenaaDoorTie.lean); close each card by the builder's one call (the guide's Derived/Test/ToyasCard.lean, 'card_holds'). Laid BY PROGRAM, IN A SANDBOX (cutbox-door.mjs). By AI agents, Wed Nov 11 2026. No macro, syntax, notation, axiom, sorry.
-/
import Derived.Test.YtokimlfbfbfenaaDoorRows
import GoSem.ClaimSeven
namespace Go.Proofs.YtokimlfbfbfenaaDoor
namespace Rows

/-- THE TIED CARD OF 'solsticelaw14.ValidEach'. -/
def validEachCard : Claim7 := { stood := { row := validEachRow, standIns := [], harness := (true, "ce175ecf7bdd4ddb8c416bc1093c68b078d8a03285d0742d5a272b58c77403c6"), looks := false }, kinds := [], alts := [], laidByText := true, laidKinds := [.data, .data], laidTests := true, laidLooks := .later }
def ValidEachCardSaid : Prop := Claim7.holds Tryd.pinned (.plain (OpenSpec.ofChange validEachSpec)) validEachCard

/-- THE TIED CARD OF 'solsticelaw09.RuleBack'. -/
def ruleBackCard : Claim7 := { stood := { row := ruleBackRow, standIns := [], harness := (true, "ce175ecf7bdd4ddb8c416bc1093c68b078d8a03285d0742d5a272b58c77403c6"), looks := false }, kinds := [], alts := [], laidByText := true, laidKinds := [.data, .data, .data, .data, .data, .pinned], laidTests := true, laidLooks := .later }
def RuleBackCardSaid : Prop := Claim7.holds Tryd.pinned (.plain (OpenSpec.ofChange ruleBackSpec)) ruleBackCard

/-- THE TIED CARD OF 'solsticelaw07.MomentBack'. -/
def momentBackCard : Claim7 := { stood := { row := momentBackRow, standIns := [], harness := (true, "ce175ecf7bdd4ddb8c416bc1093c68b078d8a03285d0742d5a272b58c77403c6"), looks := false }, kinds := [], alts := [], laidByText := true, laidKinds := [.data, .data, .data, .data, .data, .data, .pinned], laidTests := true, laidLooks := .later }
def MomentBackCardSaid : Prop := Claim7.holds Tryd.pinned (.plain (OpenSpec.ofChange momentBackSpec)) momentBackCard

/-- THE TIED CARD OF 'solsticelaw10.EraBack'. -/
def eraBackCard : Claim7 := { stood := { row := eraBackRow, standIns := [], harness := (true, "ce175ecf7bdd4ddb8c416bc1093c68b078d8a03285d0742d5a272b58c77403c6"), looks := false }, kinds := [], alts := [], laidByText := true, laidKinds := [.data, .data, .data, .data, .data, .data, .pinned], laidTests := true, laidLooks := .later }
def EraBackCardSaid : Prop := Claim7.holds Tryd.pinned (.plain (OpenSpec.ofChange eraBackSpec)) eraBackCard

/-- THE TIED CARD OF 'solsticetop.TopShorter'. -/
def topShorterCard : Claim7 := { stood := { row := topShorterRow, standIns := [], harness := (true, "ce175ecf7bdd4ddb8c416bc1093c68b078d8a03285d0742d5a272b58c77403c6"), looks := false }, kinds := [], alts := [], laidByText := true, laidKinds := [.data, .data, .data, .data, .data, .data, .pinned], laidTests := true, laidLooks := .later }
def TopShorterCardSaid : Prop := Claim7.holds Tryd.pinned (.plain (OpenSpec.ofChange topShorterSpec)) topShorterCard

/-- THE TIED CARD OF 'solsticelaw11.SourceRight'. -/
def sourceRightCard : Claim7 := { stood := { row := sourceRightRow, standIns := [], harness := (true, "ce175ecf7bdd4ddb8c416bc1093c68b078d8a03285d0742d5a272b58c77403c6"), looks := false }, kinds := [], alts := [], laidByText := true, laidKinds := [.data, .data, .data, .pinned], laidTests := true, laidLooks := .later }
def SourceRightCardSaid : Prop := Claim7.holds Tryd.pinned (.plain (OpenSpec.ofChange sourceRightSpec)) sourceRightCard

/-- THE SECOND FORM's CARD OF 'solsticelaw14.ValidEach'. -/
def validEachUptoCard : Claim7 := { stood := { row := validEachUptoRow, standIns := [], harness := (true, "ce175ecf7bdd4ddb8c416bc1093c68b078d8a03285d0742d5a272b58c77403c6"), looks := false }, kinds := [], alts := [], laidByText := true, laidKinds := [.data, .data], laidTests := true, laidLooks := .later }
def ValidEachUptoCardSaid : Prop := Claim7.holds Tryd.pinned (.plain (OpenSpec.upto validEachSpec)) validEachUptoCard

/-- THE SECOND FORM's CARD OF 'solsticelaw09.RuleBack'. -/
def ruleBackUptoCard : Claim7 := { stood := { row := ruleBackUptoRow, standIns := [], harness := (true, "ce175ecf7bdd4ddb8c416bc1093c68b078d8a03285d0742d5a272b58c77403c6"), looks := false }, kinds := [], alts := [], laidByText := true, laidKinds := [.data, .data, .data, .data, .data, .pinned], laidTests := true, laidLooks := .later }
def RuleBackUptoCardSaid : Prop := Claim7.holds Tryd.pinned (.plain (OpenSpec.upto ruleBackSpec)) ruleBackUptoCard

/-- THE SECOND FORM's CARD OF 'solsticelaw07.MomentBack'. -/
def momentBackUptoCard : Claim7 := { stood := { row := momentBackUptoRow, standIns := [], harness := (true, "ce175ecf7bdd4ddb8c416bc1093c68b078d8a03285d0742d5a272b58c77403c6"), looks := false }, kinds := [], alts := [], laidByText := true, laidKinds := [.data, .data, .data, .data, .data, .data, .pinned], laidTests := true, laidLooks := .later }
def MomentBackUptoCardSaid : Prop := Claim7.holds Tryd.pinned (.plain (OpenSpec.upto momentBackSpec)) momentBackUptoCard

/-- THE SECOND FORM's CARD OF 'solsticelaw10.EraBack'. -/
def eraBackUptoCard : Claim7 := { stood := { row := eraBackUptoRow, standIns := [], harness := (true, "ce175ecf7bdd4ddb8c416bc1093c68b078d8a03285d0742d5a272b58c77403c6"), looks := false }, kinds := [], alts := [], laidByText := true, laidKinds := [.data, .data, .data, .data, .data, .data, .pinned], laidTests := true, laidLooks := .later }
def EraBackUptoCardSaid : Prop := Claim7.holds Tryd.pinned (.plain (OpenSpec.upto eraBackSpec)) eraBackUptoCard

/-- THE SECOND FORM's CARD OF 'solsticetop.TopShorter'. -/
def topShorterUptoCard : Claim7 := { stood := { row := topShorterUptoRow, standIns := [], harness := (true, "ce175ecf7bdd4ddb8c416bc1093c68b078d8a03285d0742d5a272b58c77403c6"), looks := false }, kinds := [], alts := [], laidByText := true, laidKinds := [.data, .data, .data, .data, .data, .data, .pinned], laidTests := true, laidLooks := .later }
def TopShorterUptoCardSaid : Prop := Claim7.holds Tryd.pinned (.plain (OpenSpec.upto topShorterSpec)) topShorterUptoCard

/-- THE SECOND FORM's CARD OF 'solsticelaw11.SourceRight'. -/
def sourceRightUptoCard : Claim7 := { stood := { row := sourceRightUptoRow, standIns := [], harness := (true, "ce175ecf7bdd4ddb8c416bc1093c68b078d8a03285d0742d5a272b58c77403c6"), looks := false }, kinds := [], alts := [], laidByText := true, laidKinds := [.data, .data, .data, .pinned], laidTests := true, laidLooks := .later }
def SourceRightUptoCardSaid : Prop := Claim7.holds Tryd.pinned (.plain (OpenSpec.upto sourceRightSpec)) sourceRightUptoCard
end Rows
end Go.Proofs.YtokimlfbfbfenaaDoor
