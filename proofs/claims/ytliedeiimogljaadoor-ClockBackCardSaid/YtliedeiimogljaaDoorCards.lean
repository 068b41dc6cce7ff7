/-
  DERIVED. GIVEN WITH THE SEED: THE CARDS: each row of YtliedeiimogljaaDoorRows.lean that lists a variable, with what it lists TIED to the program's text (the seventh form; the later family's looks); each row that meets fmt, with fmt's text TOLD by the authors' own Lean function (tested against real Go, not proved from fmt's source: count such statements apart). THE CARD IS WHAT COUNTS. Prove the row's statement (the work); the ties are given (YtliedeiimogljaaDoorTie.lean); close each card by the builder's one call (the guide's Derived/Test/ToyasCard.lean, 'card_holds'). Laid BY PROGRAM, IN A SANDBOX (cutbox-door.mjs). By AI agents, Wed Nov 11 2026. No macro, syntax, notation, axiom, sorry.
-/
import Derived.Test.YtliedeiimogljaaDoorRows
import GoSem.ClaimSeven
namespace Go.Proofs.YtliedeiimogljaaDoor
namespace Rows

/-- THE TIED CARD OF 'solsticelaw06.DayBack'. -/
def dayBackCard : Claim7 := { stood := { row := dayBackRow, standIns := [], harness := (true, "f49729358daa5bf0023d7c2df2020aef85052f429fbb5fbaa28109657f25247a"), looks := false }, kinds := [], alts := [], laidByText := true, laidKinds := [.data, .data, .data, .data], laidTests := true, laidLooks := .later }
def DayBackCardSaid : Prop := Claim7.holds Tryd.pinned (.plain (OpenSpec.ofChange dayBackSpec)) dayBackCard

/-- THE TIED CARD OF 'solsticelaw06.DayFalls'. -/
def dayFallsCard : Claim7 := { stood := { row := dayFallsRow, standIns := [], harness := (true, "f49729358daa5bf0023d7c2df2020aef85052f429fbb5fbaa28109657f25247a"), looks := false }, kinds := [], alts := [], laidByText := true, laidKinds := [.data, .data, .data, .data], laidTests := true, laidLooks := .later }
def DayFallsCardSaid : Prop := Claim7.holds Tryd.pinned (.plain (OpenSpec.ofChange dayFallsSpec)) dayFallsCard

/-- THE TIED CARD OF 'solsticelaw02.ClockTells'. -/
def clockTellsCard : Claim7 := { stood := { row := clockTellsRow, standIns := [], harness := (true, "f49729358daa5bf0023d7c2df2020aef85052f429fbb5fbaa28109657f25247a"), looks := false }, kinds := [], alts := [], laidByText := true, laidKinds := [.data, .data, .data, .data, .data, .pinned], laidTests := true, laidLooks := .later }
def ClockTellsCardSaid : Prop := Claim7.holds Tryd.pinned (.plain (OpenSpec.ofChange clockTellsSpec)) clockTellsCard

/-- THE TIED CARD OF 'solsticelaw02.ClockBack'. -/
def clockBackCard : Claim7 := { stood := { row := clockBackRow, standIns := [], harness := (true, "f49729358daa5bf0023d7c2df2020aef85052f429fbb5fbaa28109657f25247a"), looks := false }, kinds := [], alts := [], laidByText := true, laidKinds := [.data, .data, .data, .data, .data, .pinned], laidTests := true, laidLooks := .later }
def ClockBackCardSaid : Prop := Claim7.holds Tryd.pinned (.plain (OpenSpec.ofChange clockBackSpec)) clockBackCard

/-- THE TIED CARD OF 'solsticelaw02.ClockYear'. -/
def clockYearCard : Claim7 := { stood := { row := clockYearRow, standIns := [], harness := (true, "f49729358daa5bf0023d7c2df2020aef85052f429fbb5fbaa28109657f25247a"), looks := false }, kinds := [], alts := [], laidByText := true, laidKinds := [.data, .data, .data, .data, .data, .pinned], laidTests := true, laidLooks := .later }
def ClockYearCardSaid : Prop := Claim7.holds Tryd.pinned (.plain (OpenSpec.ofChange clockYearSpec)) clockYearCard

/-- THE SECOND FORM's CARD OF 'solsticelaw06.DayBack'. -/
def dayBackUptoCard : Claim7 := { stood := { row := dayBackUptoRow, standIns := [], harness := (true, "f49729358daa5bf0023d7c2df2020aef85052f429fbb5fbaa28109657f25247a"), looks := false }, kinds := [], alts := [], laidByText := true, laidKinds := [.data, .data, .data, .data], laidTests := true, laidLooks := .later }
def DayBackUptoCardSaid : Prop := Claim7.holds Tryd.pinned (.plain (OpenSpec.upto dayBackSpec)) dayBackUptoCard

/-- THE SECOND FORM's CARD OF 'solsticelaw06.DayFalls'. -/
def dayFallsUptoCard : Claim7 := { stood := { row := dayFallsUptoRow, standIns := [], harness := (true, "f49729358daa5bf0023d7c2df2020aef85052f429fbb5fbaa28109657f25247a"), looks := false }, kinds := [], alts := [], laidByText := true, laidKinds := [.data, .data, .data, .data], laidTests := true, laidLooks := .later }
def DayFallsUptoCardSaid : Prop := Claim7.holds Tryd.pinned (.plain (OpenSpec.upto dayFallsSpec)) dayFallsUptoCard

/-- THE SECOND FORM's CARD OF 'solsticelaw02.ClockTells'. -/
def clockTellsUptoCard : Claim7 := { stood := { row := clockTellsUptoRow, standIns := [], harness := (true, "f49729358daa5bf0023d7c2df2020aef85052f429fbb5fbaa28109657f25247a"), looks := false }, kinds := [], alts := [], laidByText := true, laidKinds := [.data, .data, .data, .data, .data, .pinned], laidTests := true, laidLooks := .later }
def ClockTellsUptoCardSaid : Prop := Claim7.holds Tryd.pinned (.plain (OpenSpec.upto clockTellsSpec)) clockTellsUptoCard

/-- THE SECOND FORM's CARD OF 'solsticelaw02.ClockBack'. -/
def clockBackUptoCard : Claim7 := { stood := { row := clockBackUptoRow, standIns := [], harness := (true, "f49729358daa5bf0023d7c2df2020aef85052f429fbb5fbaa28109657f25247a"), looks := false }, kinds := [], alts := [], laidByText := true, laidKinds := [.data, .data, .data, .data, .data, .pinned], laidTests := true, laidLooks := .later }
def ClockBackUptoCardSaid : Prop := Claim7.holds Tryd.pinned (.plain (OpenSpec.upto clockBackSpec)) clockBackUptoCard

/-- THE SECOND FORM's CARD OF 'solsticelaw02.ClockYear'. -/
def clockYearUptoCard : Claim7 := { stood := { row := clockYearUptoRow, standIns := [], harness := (true, "f49729358daa5bf0023d7c2df2020aef85052f429fbb5fbaa28109657f25247a"), looks := false }, kinds := [], alts := [], laidByText := true, laidKinds := [.data, .data, .data, .data, .data, .pinned], laidTests := true, laidLooks := .later }
def ClockYearUptoCardSaid : Prop := Claim7.holds Tryd.pinned (.plain (OpenSpec.upto clockYearSpec)) clockYearUptoCard
end Rows
end Go.Proofs.YtliedeiimogljaaDoor
