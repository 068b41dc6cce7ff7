/- The contracts of package rule: Check, year, to. -/
import Derived.Test.YtlhoggalhjadgaaGreatDoorK09
import Derived.Test.YtlhoggalhjadgaaGreatDoorK11

namespace Go.Proofs.YtlhoggalhjadgaaGreatDoor
open Go.RowKit

namespace Ru
/-- A rule: its name, years, month, day (kind, number, day of the week), moment, what is saved, letter. -/
structure R where
  nm : ByteArray
  fr : Int
  tt : Int
  mo : Int
  k : Int
  n : Int
  d : Int
  s : Int
  c : Int
  sv : Int
  lt : ByteArray
def R.v (r : R) : Value := .agg #[.string r.nm, .int .i64 r.fr, .int .i64 r.tt, .int .i64 r.mo, .int .u8 r.k, .int .i64 r.n, .int .i64 r.d, .int .i64 r.s, .int .u8 r.c, .int .i64 r.sv, .string r.lt]
def R.cells (r : R) : List Value := [.string r.nm, .int .i64 r.fr, .int .i64 r.tt, .int .i64 r.mo, .int .u8 r.k, .int .i64 r.n, .int .i64 r.d, .int .i64 r.s, .int .u8 r.c, .int .i64 r.sv, .string r.lt]
def R.zero : R := ⟨⟨#[]⟩, 0, 0, 0, 0, 0, 0, 0, 0, 0, ⟨#[]⟩⟩
def R.Ok (r : R) : Prop := name (tl r.nm) = true ∧ (1 ≤ r.fr ∧ r.fr ≤ r.tt ∧ r.tt ≤ 9999) ∧ (1 ≤ r.mo ∧ r.mo ≤ 12) ∧ Dy.Ok r.k r.n r.d ∧ Mo.Ok r.s r.c ∧ IsTime r.sv ∧ Ab.letter r.lt = true
def only : ByteArray := ⟨#[111, 110, 108, 121]⟩
def maximum : ByteArray := ⟨#[109, 97, 120, 105, 109, 117, 109]⟩
/-- The last year that a text tells. -/
def toS (s : ByteArray) (f : Int) : Int × Int :=
  if Wd.pick (tl s) [tl only, tl maximum] = 0 then (f, 0) else if Wd.pick (tl s) [tl only, tl maximum] = 1 then (9999, 0)
  else if Mo.yearB (Mo.yearN (tl s)) = true then (if f ≤ Mo.yearV (Mo.yearN (tl s)) then (Mo.yearV (Mo.yearN (tl s)), 0) else (0, 10)) else (0, 4)
end Ru
set_option maxHeartbeats 1000000 in
theorem ruleCheck_0 (nm : ByteArray) (fr tt mo k n d s c sv : Int) (lt : ByteArray) (w : World) (hs1 : nm.size ≤ 1000000) (hN : Ru.name (tl nm) = false) :
    Calls Tryz.prog 21 #[.agg #[.string nm, .int .i64 fr, .int .i64 tt, .int .i64 mo, .int .u8 k, .int .i64 n, .int .i64 d, .int .i64 s, .int .u8 c, .int .i64 sv, .string lt]] w fun e w' => e = .returned (.int .i64 2) ∧ Below w.heap.size w w' := by
  have HB := Lib.hid (Below.refl w.heap.size w)
  have H0 := Lib.hid fun W => calls_bool (name_any nm W hs1) hN
  clear hN hs1
  go_enter Tryz.func21, Tryz.ntmps21
  go_wp2_with fail
  refine (H0.out _).mono ?_
  rintro e w1 ⟨rfl, hb⟩
  have hbz := below_then (HB.out.alloc (by have := HB.out.size; first | exact this | (simp; omega)) _) hb
  have Rr := Lib.hid ((At.new w #[.string nm, .int .i64 fr, .int .i64 tt, .int .i64 mo, .int .u8 k, .int .i64 n, .int .i64 d, .int .i64 s, .int .u8 c, .int .i64 sv, .string lt] 47).call hb)
  replace HB := Lib.hid hbz
  clear hb hbz
  have zRr := Rr.out.lt
  have Rrc0 := Rr.out.cell 0 _ rfl
  have Rrc1 := Rr.out.cell 1 _ rfl
  have Rrc2 := Rr.out.cell 2 _ rfl
  have Rrc3 := Rr.out.cell 3 _ rfl
  have Rrc4 := Rr.out.cell 4 _ rfl
  have Rrc5 := Rr.out.cell 5 _ rfl
  have Rrc6 := Rr.out.cell 6 _ rfl
  have Rrc7 := Rr.out.cell 7 _ rfl
  have Rrc8 := Rr.out.cell 8 _ rfl
  have Rrc9 := Rr.out.cell 9 _ rfl
  have Rrc10 := Rr.out.cell 10 _ rfl
  go_wp2
  go_ret
  exact ⟨rfl, HB.out⟩
set_option maxHeartbeats 1000000 in
theorem ruleCheck_1 (nm : ByteArray) (fr tt mo k n d s c sv : Int) (lt : ByteArray) (w : World) (hs1 : nm.size ≤ 1000000) (hN : Ru.name (tl nm) = true) (h4 : (decide (1 ≤ fr) && decide (fr ≤ tt) && decide (tt ≤ 9999)) = false) :
    Calls Tryz.prog 21 #[.agg #[.string nm, .int .i64 fr, .int .i64 tt, .int .i64 mo, .int .u8 k, .int .i64 n, .int .i64 d, .int .i64 s, .int .u8 c, .int .i64 sv, .string lt]] w fun e w' => e = .returned (.int .i64 2) ∧ Below w.heap.size w w' := by
  have HB := Lib.hid (Below.refl w.heap.size w)
  have H0 := Lib.hid fun W => calls_bool (name_any nm W hs1) hN
  have H1 := Lib.hid fun W => calls_bool (rising4_any 1 fr tt 9999 W) h4
  clear hN h4 hs1
  go_enter Tryz.func21, Tryz.ntmps21
  go_wp2_with fail
  refine (H0.out _).mono ?_
  rintro e w1 ⟨rfl, hb⟩
  have hbz := below_then (HB.out.alloc (by have := HB.out.size; first | exact this | (simp; omega)) _) hb
  have Rr := Lib.hid ((At.new w #[.string nm, .int .i64 fr, .int .i64 tt, .int .i64 mo, .int .u8 k, .int .i64 n, .int .i64 d, .int .i64 s, .int .u8 c, .int .i64 sv, .string lt] 47).call hb)
  replace HB := Lib.hid hbz
  clear hb hbz
  have zRr := Rr.out.lt
  have Rrc0 := Rr.out.cell 0 _ rfl
  have Rrc1 := Rr.out.cell 1 _ rfl
  have Rrc2 := Rr.out.cell 2 _ rfl
  have Rrc3 := Rr.out.cell 3 _ rfl
  have Rrc4 := Rr.out.cell 4 _ rfl
  have Rrc5 := Rr.out.cell 5 _ rfl
  have Rrc6 := Rr.out.cell 6 _ rfl
  have Rrc7 := Rr.out.cell 7 _ rfl
  have Rrc8 := Rr.out.cell 8 _ rfl
  have Rrc9 := Rr.out.cell 9 _ rfl
  have Rrc10 := Rr.out.cell 10 _ rfl
  go_wp2_with fail
  refine (H1.out _).mono ?_
  rintro e w2 ⟨rfl, hb⟩
  have hbz := below_then HB.out hb
  have Rr' := Rr.out.call hb
  clear Rr
  have Rr := Lib.hid Rr'
  clear Rr'
  replace HB := Lib.hid hbz
  clear hb hbz
  clear zRr Rrc0 Rrc1 Rrc2 Rrc3 Rrc4 Rrc5 Rrc6 Rrc7 Rrc8 Rrc9 Rrc10
  have zRr := Rr.out.lt
  have Rrc0 := Rr.out.cell 0 _ rfl
  have Rrc1 := Rr.out.cell 1 _ rfl
  have Rrc2 := Rr.out.cell 2 _ rfl
  have Rrc3 := Rr.out.cell 3 _ rfl
  have Rrc4 := Rr.out.cell 4 _ rfl
  have Rrc5 := Rr.out.cell 5 _ rfl
  have Rrc6 := Rr.out.cell 6 _ rfl
  have Rrc7 := Rr.out.cell 7 _ rfl
  have Rrc8 := Rr.out.cell 8 _ rfl
  have Rrc9 := Rr.out.cell 9 _ rfl
  have Rrc10 := Rr.out.cell 10 _ rfl
  go_wp2
  go_ret
  exact ⟨rfl, HB.out⟩
set_option maxHeartbeats 1000000 in
theorem ruleCheck_2 (nm : ByteArray) (fr tt mo k n d s c sv : Int) (lt : ByteArray) (w : World) (hs1 : nm.size ≤ 1000000) (hN : Ru.name (tl nm) = true) (h4 : (decide (1 ≤ fr) && decide (fr ≤ tt) && decide (tt ≤ 9999)) = true) (h3 : (decide (1 ≤ mo) && decide (mo ≤ 12)) = false) :
    Calls Tryz.prog 21 #[.agg #[.string nm, .int .i64 fr, .int .i64 tt, .int .i64 mo, .int .u8 k, .int .i64 n, .int .i64 d, .int .i64 s, .int .u8 c, .int .i64 sv, .string lt]] w fun e w' => e = .returned (.int .i64 2) ∧ Below w.heap.size w w' := by
  have HB := Lib.hid (Below.refl w.heap.size w)
  have H0 := Lib.hid fun W => calls_bool (name_any nm W hs1) hN
  have H1 := Lib.hid fun W => calls_bool (rising4_any 1 fr tt 9999 W) h4
  have H2 := Lib.hid fun W => calls_bool (rising3_any 1 mo 12 W) h3
  clear hN h4 h3 hs1
  go_enter Tryz.func21, Tryz.ntmps21
  go_wp2_with fail
  refine (H0.out _).mono ?_
  rintro e w1 ⟨rfl, hb⟩
  have hbz := below_then (HB.out.alloc (by have := HB.out.size; first | exact this | (simp; omega)) _) hb
  have Rr := Lib.hid ((At.new w #[.string nm, .int .i64 fr, .int .i64 tt, .int .i64 mo, .int .u8 k, .int .i64 n, .int .i64 d, .int .i64 s, .int .u8 c, .int .i64 sv, .string lt] 47).call hb)
  replace HB := Lib.hid hbz
  clear hb hbz
  have zRr := Rr.out.lt
  have Rrc0 := Rr.out.cell 0 _ rfl
  have Rrc1 := Rr.out.cell 1 _ rfl
  have Rrc2 := Rr.out.cell 2 _ rfl
  have Rrc3 := Rr.out.cell 3 _ rfl
  have Rrc4 := Rr.out.cell 4 _ rfl
  have Rrc5 := Rr.out.cell 5 _ rfl
  have Rrc6 := Rr.out.cell 6 _ rfl
  have Rrc7 := Rr.out.cell 7 _ rfl
  have Rrc8 := Rr.out.cell 8 _ rfl
  have Rrc9 := Rr.out.cell 9 _ rfl
  have Rrc10 := Rr.out.cell 10 _ rfl
  go_wp2_with fail
  refine (H1.out _).mono ?_
  rintro e w2 ⟨rfl, hb⟩
  have hbz := below_then HB.out hb
  have Rr' := Rr.out.call hb
  clear Rr
  have Rr := Lib.hid Rr'
  clear Rr'
  replace HB := Lib.hid hbz
  clear hb hbz
  clear zRr Rrc0 Rrc1 Rrc2 Rrc3 Rrc4 Rrc5 Rrc6 Rrc7 Rrc8 Rrc9 Rrc10
  have zRr := Rr.out.lt
  have Rrc0 := Rr.out.cell 0 _ rfl
  have Rrc1 := Rr.out.cell 1 _ rfl
  have Rrc2 := Rr.out.cell 2 _ rfl
  have Rrc3 := Rr.out.cell 3 _ rfl
  have Rrc4 := Rr.out.cell 4 _ rfl
  have Rrc5 := Rr.out.cell 5 _ rfl
  have Rrc6 := Rr.out.cell 6 _ rfl
  have Rrc7 := Rr.out.cell 7 _ rfl
  have Rrc8 := Rr.out.cell 8 _ rfl
  have Rrc9 := Rr.out.cell 9 _ rfl
  have Rrc10 := Rr.out.cell 10 _ rfl
  go_wp2_with fail
  refine (H2.out _).mono ?_
  rintro e w3 ⟨rfl, hb⟩
  have hbz := below_then HB.out hb
  have Rr' := Rr.out.call hb
  clear Rr
  have Rr := Lib.hid Rr'
  clear Rr'
  replace HB := Lib.hid hbz
  clear hb hbz
  clear zRr Rrc0 Rrc1 Rrc2 Rrc3 Rrc4 Rrc5 Rrc6 Rrc7 Rrc8 Rrc9 Rrc10
  have zRr := Rr.out.lt
  have Rrc0 := Rr.out.cell 0 _ rfl
  have Rrc1 := Rr.out.cell 1 _ rfl
  have Rrc2 := Rr.out.cell 2 _ rfl
  have Rrc3 := Rr.out.cell 3 _ rfl
  have Rrc4 := Rr.out.cell 4 _ rfl
  have Rrc5 := Rr.out.cell 5 _ rfl
  have Rrc6 := Rr.out.cell 6 _ rfl
  have Rrc7 := Rr.out.cell 7 _ rfl
  have Rrc8 := Rr.out.cell 8 _ rfl
  have Rrc9 := Rr.out.cell 9 _ rfl
  have Rrc10 := Rr.out.cell 10 _ rfl
  go_wp2
  go_ret
  exact ⟨rfl, HB.out⟩
set_option maxHeartbeats 1000000 in
theorem ruleCheck_3 (nm : ByteArray) (fr tt mo k n d s c sv : Int) (lt : ByteArray) (w : World) (hs1 : nm.size ≤ 1000000) (hN : Ru.name (tl nm) = true) (h4 : (decide (1 ≤ fr) && decide (fr ≤ tt) && decide (tt ≤ 9999)) = true) (h3 : (decide (1 ≤ mo) && decide (mo ≤ 12)) = true) (hD : ¬ Dy.Ok k n d) :
    Calls Tryz.prog 21 #[.agg #[.string nm, .int .i64 fr, .int .i64 tt, .int .i64 mo, .int .u8 k, .int .i64 n, .int .i64 d, .int .i64 s, .int .u8 c, .int .i64 sv, .string lt]] w fun e w' => e = .returned (.int .i64 2) ∧ Below w.heap.size w w' := by
  have HB := Lib.hid (Below.refl w.heap.size w)
  have H0 := Lib.hid fun W => calls_bool (name_any nm W hs1) hN
  have H1 := Lib.hid fun W => calls_bool (rising4_any 1 fr tt 9999 W) h4
  have H2 := Lib.hid fun W => calls_bool (rising3_any 1 mo 12 W) h3
  have H3 := Lib.hid fun W => dayCheck_bad k n d W hD
  clear hN h4 h3 hD hs1
  go_enter Tryz.func21, Tryz.ntmps21
  go_wp2_with fail
  refine (H0.out _).mono ?_
  rintro e w1 ⟨rfl, hb⟩
  have hbz := below_then (HB.out.alloc (by have := HB.out.size; first | exact this | (simp; omega)) _) hb
  have Rr := Lib.hid ((At.new w #[.string nm, .int .i64 fr, .int .i64 tt, .int .i64 mo, .int .u8 k, .int .i64 n, .int .i64 d, .int .i64 s, .int .u8 c, .int .i64 sv, .string lt] 47).call hb)
  replace HB := Lib.hid hbz
  clear hb hbz
  have zRr := Rr.out.lt
  have Rrc0 := Rr.out.cell 0 _ rfl
  have Rrc1 := Rr.out.cell 1 _ rfl
  have Rrc2 := Rr.out.cell 2 _ rfl
  have Rrc3 := Rr.out.cell 3 _ rfl
  have Rrc4 := Rr.out.cell 4 _ rfl
  have Rrc5 := Rr.out.cell 5 _ rfl
  have Rrc6 := Rr.out.cell 6 _ rfl
  have Rrc7 := Rr.out.cell 7 _ rfl
  have Rrc8 := Rr.out.cell 8 _ rfl
  have Rrc9 := Rr.out.cell 9 _ rfl
  have Rrc10 := Rr.out.cell 10 _ rfl
  go_wp2_with fail
  refine (H1.out _).mono ?_
  rintro e w2 ⟨rfl, hb⟩
  have hbz := below_then HB.out hb
  have Rr' := Rr.out.call hb
  clear Rr
  have Rr := Lib.hid Rr'
  clear Rr'
  replace HB := Lib.hid hbz
  clear hb hbz
  clear zRr Rrc0 Rrc1 Rrc2 Rrc3 Rrc4 Rrc5 Rrc6 Rrc7 Rrc8 Rrc9 Rrc10
  have zRr := Rr.out.lt
  have Rrc0 := Rr.out.cell 0 _ rfl
  have Rrc1 := Rr.out.cell 1 _ rfl
  have Rrc2 := Rr.out.cell 2 _ rfl
  have Rrc3 := Rr.out.cell 3 _ rfl
  have Rrc4 := Rr.out.cell 4 _ rfl
  have Rrc5 := Rr.out.cell 5 _ rfl
  have Rrc6 := Rr.out.cell 6 _ rfl
  have Rrc7 := Rr.out.cell 7 _ rfl
  have Rrc8 := Rr.out.cell 8 _ rfl
  have Rrc9 := Rr.out.cell 9 _ rfl
  have Rrc10 := Rr.out.cell 10 _ rfl
  go_wp2_with fail
  refine (H2.out _).mono ?_
  rintro e w3 ⟨rfl, hb⟩
  have hbz := below_then HB.out hb
  have Rr' := Rr.out.call hb
  clear Rr
  have Rr := Lib.hid Rr'
  clear Rr'
  replace HB := Lib.hid hbz
  clear hb hbz
  clear zRr Rrc0 Rrc1 Rrc2 Rrc3 Rrc4 Rrc5 Rrc6 Rrc7 Rrc8 Rrc9 Rrc10
  have zRr := Rr.out.lt
  have Rrc0 := Rr.out.cell 0 _ rfl
  have Rrc1 := Rr.out.cell 1 _ rfl
  have Rrc2 := Rr.out.cell 2 _ rfl
  have Rrc3 := Rr.out.cell 3 _ rfl
  have Rrc4 := Rr.out.cell 4 _ rfl
  have Rrc5 := Rr.out.cell 5 _ rfl
  have Rrc6 := Rr.out.cell 6 _ rfl
  have Rrc7 := Rr.out.cell 7 _ rfl
  have Rrc8 := Rr.out.cell 8 _ rfl
  have Rrc9 := Rr.out.cell 9 _ rfl
  have Rrc10 := Rr.out.cell 10 _ rfl
  go_wp2_with fail
  refine (H3.out _).mono ?_
  rintro e w4 ⟨rfl, hb⟩
  have hbz := below_then HB.out hb
  have Rr' := Rr.out.call hb
  clear Rr
  have Rr := Lib.hid Rr'
  clear Rr'
  replace HB := Lib.hid hbz
  clear hb hbz
  clear zRr Rrc0 Rrc1 Rrc2 Rrc3 Rrc4 Rrc5 Rrc6 Rrc7 Rrc8 Rrc9 Rrc10
  have zRr := Rr.out.lt
  have Rrc0 := Rr.out.cell 0 _ rfl
  have Rrc1 := Rr.out.cell 1 _ rfl
  have Rrc2 := Rr.out.cell 2 _ rfl
  have Rrc3 := Rr.out.cell 3 _ rfl
  have Rrc4 := Rr.out.cell 4 _ rfl
  have Rrc5 := Rr.out.cell 5 _ rfl
  have Rrc6 := Rr.out.cell 6 _ rfl
  have Rrc7 := Rr.out.cell 7 _ rfl
  have Rrc8 := Rr.out.cell 8 _ rfl
  have Rrc9 := Rr.out.cell 9 _ rfl
  have Rrc10 := Rr.out.cell 10 _ rfl
  go_wp2
  go_ret
  exact ⟨rfl, HB.out⟩
set_option maxHeartbeats 1000000 in
theorem ruleCheck_4 (nm : ByteArray) (fr tt mo k n d s c sv : Int) (lt : ByteArray) (w : World) (hs1 : nm.size ≤ 1000000) (hN : Ru.name (tl nm) = true) (h4 : (decide (1 ≤ fr) && decide (fr ≤ tt) && decide (tt ≤ 9999)) = true) (h3 : (decide (1 ≤ mo) && decide (mo ≤ 12)) = true) (hD : Dy.Ok k n d) (hM : ¬ Mo.Ok s c) :
    Calls Tryz.prog 21 #[.agg #[.string nm, .int .i64 fr, .int .i64 tt, .int .i64 mo, .int .u8 k, .int .i64 n, .int .i64 d, .int .i64 s, .int .u8 c, .int .i64 sv, .string lt]] w fun e w' => e = .returned (.int .i64 2) ∧ Below w.heap.size w w' := by
  have HB := Lib.hid (Below.refl w.heap.size w)
  have H0 := Lib.hid fun W => calls_bool (name_any nm W hs1) hN
  have H1 := Lib.hid fun W => calls_bool (rising4_any 1 fr tt 9999 W) h4
  have H2 := Lib.hid fun W => calls_bool (rising3_any 1 mo 12 W) h3
  have H3 := Lib.hid fun W => dayCheck_ok k n d W hD
  have H4 := Lib.hid fun W => momCheck_bad s c W hM
  clear hN h4 h3 hD hM hs1
  go_enter Tryz.func21, Tryz.ntmps21
  go_wp2_with fail
  refine (H0.out _).mono ?_
  rintro e w1 ⟨rfl, hb⟩
  have hbz := below_then (HB.out.alloc (by have := HB.out.size; first | exact this | (simp; omega)) _) hb
  have Rr := Lib.hid ((At.new w #[.string nm, .int .i64 fr, .int .i64 tt, .int .i64 mo, .int .u8 k, .int .i64 n, .int .i64 d, .int .i64 s, .int .u8 c, .int .i64 sv, .string lt] 47).call hb)
  replace HB := Lib.hid hbz
  clear hb hbz
  have zRr := Rr.out.lt
  have Rrc0 := Rr.out.cell 0 _ rfl
  have Rrc1 := Rr.out.cell 1 _ rfl
  have Rrc2 := Rr.out.cell 2 _ rfl
  have Rrc3 := Rr.out.cell 3 _ rfl
  have Rrc4 := Rr.out.cell 4 _ rfl
  have Rrc5 := Rr.out.cell 5 _ rfl
  have Rrc6 := Rr.out.cell 6 _ rfl
  have Rrc7 := Rr.out.cell 7 _ rfl
  have Rrc8 := Rr.out.cell 8 _ rfl
  have Rrc9 := Rr.out.cell 9 _ rfl
  have Rrc10 := Rr.out.cell 10 _ rfl
  go_wp2_with fail
  refine (H1.out _).mono ?_
  rintro e w2 ⟨rfl, hb⟩
  have hbz := below_then HB.out hb
  have Rr' := Rr.out.call hb
  clear Rr
  have Rr := Lib.hid Rr'
  clear Rr'
  replace HB := Lib.hid hbz
  clear hb hbz
  clear zRr Rrc0 Rrc1 Rrc2 Rrc3 Rrc4 Rrc5 Rrc6 Rrc7 Rrc8 Rrc9 Rrc10
  have zRr := Rr.out.lt
  have Rrc0 := Rr.out.cell 0 _ rfl
  have Rrc1 := Rr.out.cell 1 _ rfl
  have Rrc2 := Rr.out.cell 2 _ rfl
  have Rrc3 := Rr.out.cell 3 _ rfl
  have Rrc4 := Rr.out.cell 4 _ rfl
  have Rrc5 := Rr.out.cell 5 _ rfl
  have Rrc6 := Rr.out.cell 6 _ rfl
  have Rrc7 := Rr.out.cell 7 _ rfl
  have Rrc8 := Rr.out.cell 8 _ rfl
  have Rrc9 := Rr.out.cell 9 _ rfl
  have Rrc10 := Rr.out.cell 10 _ rfl
  go_wp2_with fail
  refine (H2.out _).mono ?_
  rintro e w3 ⟨rfl, hb⟩
  have hbz := below_then HB.out hb
  have Rr' := Rr.out.call hb
  clear Rr
  have Rr := Lib.hid Rr'
  clear Rr'
  replace HB := Lib.hid hbz
  clear hb hbz
  clear zRr Rrc0 Rrc1 Rrc2 Rrc3 Rrc4 Rrc5 Rrc6 Rrc7 Rrc8 Rrc9 Rrc10
  have zRr := Rr.out.lt
  have Rrc0 := Rr.out.cell 0 _ rfl
  have Rrc1 := Rr.out.cell 1 _ rfl
  have Rrc2 := Rr.out.cell 2 _ rfl
  have Rrc3 := Rr.out.cell 3 _ rfl
  have Rrc4 := Rr.out.cell 4 _ rfl
  have Rrc5 := Rr.out.cell 5 _ rfl
  have Rrc6 := Rr.out.cell 6 _ rfl
  have Rrc7 := Rr.out.cell 7 _ rfl
  have Rrc8 := Rr.out.cell 8 _ rfl
  have Rrc9 := Rr.out.cell 9 _ rfl
  have Rrc10 := Rr.out.cell 10 _ rfl
  go_wp2_with fail
  refine (H3.out _).mono ?_
  rintro e w4 ⟨rfl, hb⟩
  have hbz := below_then HB.out hb
  have Rr' := Rr.out.call hb
  clear Rr
  have Rr := Lib.hid Rr'
  clear Rr'
  replace HB := Lib.hid hbz
  clear hb hbz
  clear zRr Rrc0 Rrc1 Rrc2 Rrc3 Rrc4 Rrc5 Rrc6 Rrc7 Rrc8 Rrc9 Rrc10
  have zRr := Rr.out.lt
  have Rrc0 := Rr.out.cell 0 _ rfl
  have Rrc1 := Rr.out.cell 1 _ rfl
  have Rrc2 := Rr.out.cell 2 _ rfl
  have Rrc3 := Rr.out.cell 3 _ rfl
  have Rrc4 := Rr.out.cell 4 _ rfl
  have Rrc5 := Rr.out.cell 5 _ rfl
  have Rrc6 := Rr.out.cell 6 _ rfl
  have Rrc7 := Rr.out.cell 7 _ rfl
  have Rrc8 := Rr.out.cell 8 _ rfl
  have Rrc9 := Rr.out.cell 9 _ rfl
  have Rrc10 := Rr.out.cell 10 _ rfl
  go_wp2_with fail
  refine (H4.out _).mono ?_
  rintro e w5 ⟨rfl, hb⟩
  have hbz := below_then HB.out hb
  have Rr' := Rr.out.call hb
  clear Rr
  have Rr := Lib.hid Rr'
  clear Rr'
  replace HB := Lib.hid hbz
  clear hb hbz
  clear zRr Rrc0 Rrc1 Rrc2 Rrc3 Rrc4 Rrc5 Rrc6 Rrc7 Rrc8 Rrc9 Rrc10
  have zRr := Rr.out.lt
  have Rrc0 := Rr.out.cell 0 _ rfl
  have Rrc1 := Rr.out.cell 1 _ rfl
  have Rrc2 := Rr.out.cell 2 _ rfl
  have Rrc3 := Rr.out.cell 3 _ rfl
  have Rrc4 := Rr.out.cell 4 _ rfl
  have Rrc5 := Rr.out.cell 5 _ rfl
  have Rrc6 := Rr.out.cell 6 _ rfl
  have Rrc7 := Rr.out.cell 7 _ rfl
  have Rrc8 := Rr.out.cell 8 _ rfl
  have Rrc9 := Rr.out.cell 9 _ rfl
  have Rrc10 := Rr.out.cell 10 _ rfl
  go_wp2
  go_ret
  exact ⟨rfl, HB.out⟩
set_option maxHeartbeats 1000000 in
theorem ruleCheck_5 (nm : ByteArray) (fr tt mo k n d s c sv : Int) (lt : ByteArray) (w : World) (hs1 : nm.size ≤ 1000000) (hN : Ru.name (tl nm) = true) (h4 : (decide (1 ≤ fr) && decide (fr ≤ tt) && decide (tt ≤ 9999)) = true) (h3 : (decide (1 ≤ mo) && decide (mo ≤ 12)) = true) (hD : Dy.Ok k n d) (hM : Mo.Ok s c) (hV : ¬ IsTime sv) :
    Calls Tryz.prog 21 #[.agg #[.string nm, .int .i64 fr, .int .i64 tt, .int .i64 mo, .int .u8 k, .int .i64 n, .int .i64 d, .int .i64 s, .int .u8 c, .int .i64 sv, .string lt]] w fun e w' => e = .returned (.int .i64 2) ∧ Below w.heap.size w w' := by
  have HB := Lib.hid (Below.refl w.heap.size w)
  have H0 := Lib.hid fun W => calls_bool (name_any nm W hs1) hN
  have H1 := Lib.hid fun W => calls_bool (rising4_any 1 fr tt 9999 W) h4
  have H2 := Lib.hid fun W => calls_bool (rising3_any 1 mo 12 W) h3
  have H3 := Lib.hid fun W => dayCheck_ok k n d W hD
  have H4 := Lib.hid fun W => momCheck_ok s c W hM
  have hV' : sv < -604800 ∨ 604800 < sv := by unfold IsTime at hV; omega
  clear hV
  clear hN h4 h3 hD hM hs1
  rcases hV' with v1 | v1
  · go_enter Tryz.func21, Tryz.ntmps21
    go_wp2_with fail
    refine (H0.out _).mono ?_
    rintro e w1 ⟨rfl, hb⟩
    have hbz := below_then (HB.out.alloc (by have := HB.out.size; first | exact this | (simp; omega)) _) hb
    have Rr := Lib.hid ((At.new w #[.string nm, .int .i64 fr, .int .i64 tt, .int .i64 mo, .int .u8 k, .int .i64 n, .int .i64 d, .int .i64 s, .int .u8 c, .int .i64 sv, .string lt] 47).call hb)
    replace HB := Lib.hid hbz
    clear hb hbz
    have zRr := Rr.out.lt
    have Rrc0 := Rr.out.cell 0 _ rfl
    have Rrc1 := Rr.out.cell 1 _ rfl
    have Rrc2 := Rr.out.cell 2 _ rfl
    have Rrc3 := Rr.out.cell 3 _ rfl
    have Rrc4 := Rr.out.cell 4 _ rfl
    have Rrc5 := Rr.out.cell 5 _ rfl
    have Rrc6 := Rr.out.cell 6 _ rfl
    have Rrc7 := Rr.out.cell 7 _ rfl
    have Rrc8 := Rr.out.cell 8 _ rfl
    have Rrc9 := Rr.out.cell 9 _ rfl
    have Rrc10 := Rr.out.cell 10 _ rfl
    go_wp2_with fail
    refine (H1.out _).mono ?_
    rintro e w2 ⟨rfl, hb⟩
    have hbz := below_then HB.out hb
    have Rr' := Rr.out.call hb
    clear Rr
    have Rr := Lib.hid Rr'
    clear Rr'
    replace HB := Lib.hid hbz
    clear hb hbz
    clear zRr Rrc0 Rrc1 Rrc2 Rrc3 Rrc4 Rrc5 Rrc6 Rrc7 Rrc8 Rrc9 Rrc10
    have zRr := Rr.out.lt
    have Rrc0 := Rr.out.cell 0 _ rfl
    have Rrc1 := Rr.out.cell 1 _ rfl
    have Rrc2 := Rr.out.cell 2 _ rfl
    have Rrc3 := Rr.out.cell 3 _ rfl
    have Rrc4 := Rr.out.cell 4 _ rfl
    have Rrc5 := Rr.out.cell 5 _ rfl
    have Rrc6 := Rr.out.cell 6 _ rfl
    have Rrc7 := Rr.out.cell 7 _ rfl
    have Rrc8 := Rr.out.cell 8 _ rfl
    have Rrc9 := Rr.out.cell 9 _ rfl
    have Rrc10 := Rr.out.cell 10 _ rfl
    go_wp2_with fail
    refine (H2.out _).mono ?_
    rintro e w3 ⟨rfl, hb⟩
    have hbz := below_then HB.out hb
    have Rr' := Rr.out.call hb
    clear Rr
    have Rr := Lib.hid Rr'
    clear Rr'
    replace HB := Lib.hid hbz
    clear hb hbz
    clear zRr Rrc0 Rrc1 Rrc2 Rrc3 Rrc4 Rrc5 Rrc6 Rrc7 Rrc8 Rrc9 Rrc10
    have zRr := Rr.out.lt
    have Rrc0 := Rr.out.cell 0 _ rfl
    have Rrc1 := Rr.out.cell 1 _ rfl
    have Rrc2 := Rr.out.cell 2 _ rfl
    have Rrc3 := Rr.out.cell 3 _ rfl
    have Rrc4 := Rr.out.cell 4 _ rfl
    have Rrc5 := Rr.out.cell 5 _ rfl
    have Rrc6 := Rr.out.cell 6 _ rfl
    have Rrc7 := Rr.out.cell 7 _ rfl
    have Rrc8 := Rr.out.cell 8 _ rfl
    have Rrc9 := Rr.out.cell 9 _ rfl
    have Rrc10 := Rr.out.cell 10 _ rfl
    go_wp2_with fail
    refine (H3.out _).mono ?_
    rintro e w4 ⟨rfl, hb⟩
    have hbz := below_then HB.out hb
    have Rr' := Rr.out.call hb
    clear Rr
    have Rr := Lib.hid Rr'
    clear Rr'
    replace HB := Lib.hid hbz
    clear hb hbz
    clear zRr Rrc0 Rrc1 Rrc2 Rrc3 Rrc4 Rrc5 Rrc6 Rrc7 Rrc8 Rrc9 Rrc10
    have zRr := Rr.out.lt
    have Rrc0 := Rr.out.cell 0 _ rfl
    have Rrc1 := Rr.out.cell 1 _ rfl
    have Rrc2 := Rr.out.cell 2 _ rfl
    have Rrc3 := Rr.out.cell 3 _ rfl
    have Rrc4 := Rr.out.cell 4 _ rfl
    have Rrc5 := Rr.out.cell 5 _ rfl
    have Rrc6 := Rr.out.cell 6 _ rfl
    have Rrc7 := Rr.out.cell 7 _ rfl
    have Rrc8 := Rr.out.cell 8 _ rfl
    have Rrc9 := Rr.out.cell 9 _ rfl
    have Rrc10 := Rr.out.cell 10 _ rfl
    go_wp2_with fail
    refine (H4.out _).mono ?_
    rintro e w5 ⟨rfl, hb⟩
    have hbz := below_then HB.out hb
    have Rr' := Rr.out.call hb
    clear Rr
    have Rr := Lib.hid Rr'
    clear Rr'
    replace HB := Lib.hid hbz
    clear hb hbz
    clear zRr Rrc0 Rrc1 Rrc2 Rrc3 Rrc4 Rrc5 Rrc6 Rrc7 Rrc8 Rrc9 Rrc10
    have zRr := Rr.out.lt
    have Rrc0 := Rr.out.cell 0 _ rfl
    have Rrc1 := Rr.out.cell 1 _ rfl
    have Rrc2 := Rr.out.cell 2 _ rfl
    have Rrc3 := Rr.out.cell 3 _ rfl
    have Rrc4 := Rr.out.cell 4 _ rfl
    have Rrc5 := Rr.out.cell 5 _ rfl
    have Rrc6 := Rr.out.cell 6 _ rfl
    have Rrc7 := Rr.out.cell 7 _ rfl
    have Rrc8 := Rr.out.cell 8 _ rfl
    have Rrc9 := Rr.out.cell 9 _ rfl
    have Rrc10 := Rr.out.cell 10 _ rfl
    go_wp2
    go_ret
    exact ⟨rfl, HB.out⟩
  · have v2 : ¬ sv < -604800 := by omega
    go_enter Tryz.func21, Tryz.ntmps21
    go_wp2_with fail
    refine (H0.out _).mono ?_
    rintro e w1 ⟨rfl, hb⟩
    have hbz := below_then (HB.out.alloc (by have := HB.out.size; first | exact this | (simp; omega)) _) hb
    have Rr := Lib.hid ((At.new w #[.string nm, .int .i64 fr, .int .i64 tt, .int .i64 mo, .int .u8 k, .int .i64 n, .int .i64 d, .int .i64 s, .int .u8 c, .int .i64 sv, .string lt] 47).call hb)
    replace HB := Lib.hid hbz
    clear hb hbz
    have zRr := Rr.out.lt
    have Rrc0 := Rr.out.cell 0 _ rfl
    have Rrc1 := Rr.out.cell 1 _ rfl
    have Rrc2 := Rr.out.cell 2 _ rfl
    have Rrc3 := Rr.out.cell 3 _ rfl
    have Rrc4 := Rr.out.cell 4 _ rfl
    have Rrc5 := Rr.out.cell 5 _ rfl
    have Rrc6 := Rr.out.cell 6 _ rfl
    have Rrc7 := Rr.out.cell 7 _ rfl
    have Rrc8 := Rr.out.cell 8 _ rfl
    have Rrc9 := Rr.out.cell 9 _ rfl
    have Rrc10 := Rr.out.cell 10 _ rfl
    go_wp2_with fail
    refine (H1.out _).mono ?_
    rintro e w2 ⟨rfl, hb⟩
    have hbz := below_then HB.out hb
    have Rr' := Rr.out.call hb
    clear Rr
    have Rr := Lib.hid Rr'
    clear Rr'
    replace HB := Lib.hid hbz
    clear hb hbz
    clear zRr Rrc0 Rrc1 Rrc2 Rrc3 Rrc4 Rrc5 Rrc6 Rrc7 Rrc8 Rrc9 Rrc10
    have zRr := Rr.out.lt
    have Rrc0 := Rr.out.cell 0 _ rfl
    have Rrc1 := Rr.out.cell 1 _ rfl
    have Rrc2 := Rr.out.cell 2 _ rfl
    have Rrc3 := Rr.out.cell 3 _ rfl
    have Rrc4 := Rr.out.cell 4 _ rfl
    have Rrc5 := Rr.out.cell 5 _ rfl
    have Rrc6 := Rr.out.cell 6 _ rfl
    have Rrc7 := Rr.out.cell 7 _ rfl
    have Rrc8 := Rr.out.cell 8 _ rfl
    have Rrc9 := Rr.out.cell 9 _ rfl
    have Rrc10 := Rr.out.cell 10 _ rfl
    go_wp2_with fail
    refine (H2.out _).mono ?_
    rintro e w3 ⟨rfl, hb⟩
    have hbz := below_then HB.out hb
    have Rr' := Rr.out.call hb
    clear Rr
    have Rr := Lib.hid Rr'
    clear Rr'
    replace HB := Lib.hid hbz
    clear hb hbz
    clear zRr Rrc0 Rrc1 Rrc2 Rrc3 Rrc4 Rrc5 Rrc6 Rrc7 Rrc8 Rrc9 Rrc10
    have zRr := Rr.out.lt
    have Rrc0 := Rr.out.cell 0 _ rfl
    have Rrc1 := Rr.out.cell 1 _ rfl
    have Rrc2 := Rr.out.cell 2 _ rfl
    have Rrc3 := Rr.out.cell 3 _ rfl
    have Rrc4 := Rr.out.cell 4 _ rfl
    have Rrc5 := Rr.out.cell 5 _ rfl
    have Rrc6 := Rr.out.cell 6 _ rfl
    have Rrc7 := Rr.out.cell 7 _ rfl
    have Rrc8 := Rr.out.cell 8 _ rfl
    have Rrc9 := Rr.out.cell 9 _ rfl
    have Rrc10 := Rr.out.cell 10 _ rfl
    go_wp2_with fail
    refine (H3.out _).mono ?_
    rintro e w4 ⟨rfl, hb⟩
    have hbz := below_then HB.out hb
    have Rr' := Rr.out.call hb
    clear Rr
    have Rr := Lib.hid Rr'
    clear Rr'
    replace HB := Lib.hid hbz
    clear hb hbz
    clear zRr Rrc0 Rrc1 Rrc2 Rrc3 Rrc4 Rrc5 Rrc6 Rrc7 Rrc8 Rrc9 Rrc10
    have zRr := Rr.out.lt
    have Rrc0 := Rr.out.cell 0 _ rfl
    have Rrc1 := Rr.out.cell 1 _ rfl
    have Rrc2 := Rr.out.cell 2 _ rfl
    have Rrc3 := Rr.out.cell 3 _ rfl
    have Rrc4 := Rr.out.cell 4 _ rfl
    have Rrc5 := Rr.out.cell 5 _ rfl
    have Rrc6 := Rr.out.cell 6 _ rfl
    have Rrc7 := Rr.out.cell 7 _ rfl
    have Rrc8 := Rr.out.cell 8 _ rfl
    have Rrc9 := Rr.out.cell 9 _ rfl
    have Rrc10 := Rr.out.cell 10 _ rfl
    go_wp2_with fail
    refine (H4.out _).mono ?_
    rintro e w5 ⟨rfl, hb⟩
    have hbz := below_then HB.out hb
    have Rr' := Rr.out.call hb
    clear Rr
    have Rr := Lib.hid Rr'
    clear Rr'
    replace HB := Lib.hid hbz
    clear hb hbz
    clear zRr Rrc0 Rrc1 Rrc2 Rrc3 Rrc4 Rrc5 Rrc6 Rrc7 Rrc8 Rrc9 Rrc10
    have zRr := Rr.out.lt
    have Rrc0 := Rr.out.cell 0 _ rfl
    have Rrc1 := Rr.out.cell 1 _ rfl
    have Rrc2 := Rr.out.cell 2 _ rfl
    have Rrc3 := Rr.out.cell 3 _ rfl
    have Rrc4 := Rr.out.cell 4 _ rfl
    have Rrc5 := Rr.out.cell 5 _ rfl
    have Rrc6 := Rr.out.cell 6 _ rfl
    have Rrc7 := Rr.out.cell 7 _ rfl
    have Rrc8 := Rr.out.cell 8 _ rfl
    have Rrc9 := Rr.out.cell 9 _ rfl
    have Rrc10 := Rr.out.cell 10 _ rfl
    go_wp2
    go_ret
    exact ⟨rfl, HB.out⟩
set_option maxHeartbeats 1000000 in
theorem ruleCheck_6 (nm : ByteArray) (fr tt mo k n d s c sv : Int) (lt : ByteArray) (w : World) (hs1 : nm.size ≤ 1000000) (hs2 : lt.size ≤ 1000000) (hN : Ru.name (tl nm) = true) (h4 : (decide (1 ≤ fr) && decide (fr ≤ tt) && decide (tt ≤ 9999)) = true) (h3 : (decide (1 ≤ mo) && decide (mo ≤ 12)) = true) (hD : Dy.Ok k n d) (hM : Mo.Ok s c) (hV : IsTime sv) (hL : Ab.letter lt = false) :
    Calls Tryz.prog 21 #[.agg #[.string nm, .int .i64 fr, .int .i64 tt, .int .i64 mo, .int .u8 k, .int .i64 n, .int .i64 d, .int .i64 s, .int .u8 c, .int .i64 sv, .string lt]] w fun e w' => e = .returned (.int .i64 2) ∧ Below w.heap.size w w' := by
  have HB := Lib.hid (Below.refl w.heap.size w)
  have H0 := Lib.hid fun W => calls_bool (name_any nm W hs1) hN
  have H1 := Lib.hid fun W => calls_bool (rising4_any 1 fr tt 9999 W) h4
  have H2 := Lib.hid fun W => calls_bool (rising3_any 1 mo 12 W) h3
  have H3 := Lib.hid fun W => dayCheck_ok k n d W hD
  have H4 := Lib.hid fun W => momCheck_ok s c W hM
  obtain ⟨v1, v2⟩ := hV
  have H6 := Lib.hid fun W => checkLetter_no lt W hs2 hL
  clear hN h4 h3 hD hM hL hs1 hs2
  go_enter Tryz.func21, Tryz.ntmps21
  go_wp2_with fail
  refine (H0.out _).mono ?_
  rintro e w1 ⟨rfl, hb⟩
  have hbz := below_then (HB.out.alloc (by have := HB.out.size; first | exact this | (simp; omega)) _) hb
  have Rr := Lib.hid ((At.new w #[.string nm, .int .i64 fr, .int .i64 tt, .int .i64 mo, .int .u8 k, .int .i64 n, .int .i64 d, .int .i64 s, .int .u8 c, .int .i64 sv, .string lt] 47).call hb)
  replace HB := Lib.hid hbz
  clear hb hbz
  have zRr := Rr.out.lt
  have Rrc0 := Rr.out.cell 0 _ rfl
  have Rrc1 := Rr.out.cell 1 _ rfl
  have Rrc2 := Rr.out.cell 2 _ rfl
  have Rrc3 := Rr.out.cell 3 _ rfl
  have Rrc4 := Rr.out.cell 4 _ rfl
  have Rrc5 := Rr.out.cell 5 _ rfl
  have Rrc6 := Rr.out.cell 6 _ rfl
  have Rrc7 := Rr.out.cell 7 _ rfl
  have Rrc8 := Rr.out.cell 8 _ rfl
  have Rrc9 := Rr.out.cell 9 _ rfl
  have Rrc10 := Rr.out.cell 10 _ rfl
  go_wp2_with fail
  refine (H1.out _).mono ?_
  rintro e w2 ⟨rfl, hb⟩
  have hbz := below_then HB.out hb
  have Rr' := Rr.out.call hb
  clear Rr
  have Rr := Lib.hid Rr'
  clear Rr'
  replace HB := Lib.hid hbz
  clear hb hbz
  clear zRr Rrc0 Rrc1 Rrc2 Rrc3 Rrc4 Rrc5 Rrc6 Rrc7 Rrc8 Rrc9 Rrc10
  have zRr := Rr.out.lt
  have Rrc0 := Rr.out.cell 0 _ rfl
  have Rrc1 := Rr.out.cell 1 _ rfl
  have Rrc2 := Rr.out.cell 2 _ rfl
  have Rrc3 := Rr.out.cell 3 _ rfl
  have Rrc4 := Rr.out.cell 4 _ rfl
  have Rrc5 := Rr.out.cell 5 _ rfl
  have Rrc6 := Rr.out.cell 6 _ rfl
  have Rrc7 := Rr.out.cell 7 _ rfl
  have Rrc8 := Rr.out.cell 8 _ rfl
  have Rrc9 := Rr.out.cell 9 _ rfl
  have Rrc10 := Rr.out.cell 10 _ rfl
  go_wp2_with fail
  refine (H2.out _).mono ?_
  rintro e w3 ⟨rfl, hb⟩
  have hbz := below_then HB.out hb
  have Rr' := Rr.out.call hb
  clear Rr
  have Rr := Lib.hid Rr'
  clear Rr'
  replace HB := Lib.hid hbz
  clear hb hbz
  clear zRr Rrc0 Rrc1 Rrc2 Rrc3 Rrc4 Rrc5 Rrc6 Rrc7 Rrc8 Rrc9 Rrc10
  have zRr := Rr.out.lt
  have Rrc0 := Rr.out.cell 0 _ rfl
  have Rrc1 := Rr.out.cell 1 _ rfl
  have Rrc2 := Rr.out.cell 2 _ rfl
  have Rrc3 := Rr.out.cell 3 _ rfl
  have Rrc4 := Rr.out.cell 4 _ rfl
  have Rrc5 := Rr.out.cell 5 _ rfl
  have Rrc6 := Rr.out.cell 6 _ rfl
  have Rrc7 := Rr.out.cell 7 _ rfl
  have Rrc8 := Rr.out.cell 8 _ rfl
  have Rrc9 := Rr.out.cell 9 _ rfl
  have Rrc10 := Rr.out.cell 10 _ rfl
  go_wp2_with fail
  refine (H3.out _).mono ?_
  rintro e w4 ⟨rfl, hb⟩
  have hbz := below_then HB.out hb
  have Rr' := Rr.out.call hb
  clear Rr
  have Rr := Lib.hid Rr'
  clear Rr'
  replace HB := Lib.hid hbz
  clear hb hbz
  clear zRr Rrc0 Rrc1 Rrc2 Rrc3 Rrc4 Rrc5 Rrc6 Rrc7 Rrc8 Rrc9 Rrc10
  have zRr := Rr.out.lt
  have Rrc0 := Rr.out.cell 0 _ rfl
  have Rrc1 := Rr.out.cell 1 _ rfl
  have Rrc2 := Rr.out.cell 2 _ rfl
  have Rrc3 := Rr.out.cell 3 _ rfl
  have Rrc4 := Rr.out.cell 4 _ rfl
  have Rrc5 := Rr.out.cell 5 _ rfl
  have Rrc6 := Rr.out.cell 6 _ rfl
  have Rrc7 := Rr.out.cell 7 _ rfl
  have Rrc8 := Rr.out.cell 8 _ rfl
  have Rrc9 := Rr.out.cell 9 _ rfl
  have Rrc10 := Rr.out.cell 10 _ rfl
  go_wp2_with fail
  refine (H4.out _).mono ?_
  rintro e w5 ⟨rfl, hb⟩
  have hbz := below_then HB.out hb
  have Rr' := Rr.out.call hb
  clear Rr
  have Rr := Lib.hid Rr'
  clear Rr'
  replace HB := Lib.hid hbz
  clear hb hbz
  clear zRr Rrc0 Rrc1 Rrc2 Rrc3 Rrc4 Rrc5 Rrc6 Rrc7 Rrc8 Rrc9 Rrc10
  have zRr := Rr.out.lt
  have Rrc0 := Rr.out.cell 0 _ rfl
  have Rrc1 := Rr.out.cell 1 _ rfl
  have Rrc2 := Rr.out.cell 2 _ rfl
  have Rrc3 := Rr.out.cell 3 _ rfl
  have Rrc4 := Rr.out.cell 4 _ rfl
  have Rrc5 := Rr.out.cell 5 _ rfl
  have Rrc6 := Rr.out.cell 6 _ rfl
  have Rrc7 := Rr.out.cell 7 _ rfl
  have Rrc8 := Rr.out.cell 8 _ rfl
  have Rrc9 := Rr.out.cell 9 _ rfl
  have Rrc10 := Rr.out.cell 10 _ rfl
  go_wp2_with fail
  refine (H6.out _).mono ?_
  rintro e w6 ⟨rfl, hb⟩
  have hbz := below_then HB.out hb
  have Rr' := Rr.out.call hb
  clear Rr
  have Rr := Lib.hid Rr'
  clear Rr'
  replace HB := Lib.hid hbz
  clear hb hbz
  clear zRr Rrc0 Rrc1 Rrc2 Rrc3 Rrc4 Rrc5 Rrc6 Rrc7 Rrc8 Rrc9 Rrc10
  have zRr := Rr.out.lt
  have Rrc0 := Rr.out.cell 0 _ rfl
  have Rrc1 := Rr.out.cell 1 _ rfl
  have Rrc2 := Rr.out.cell 2 _ rfl
  have Rrc3 := Rr.out.cell 3 _ rfl
  have Rrc4 := Rr.out.cell 4 _ rfl
  have Rrc5 := Rr.out.cell 5 _ rfl
  have Rrc6 := Rr.out.cell 6 _ rfl
  have Rrc7 := Rr.out.cell 7 _ rfl
  have Rrc8 := Rr.out.cell 8 _ rfl
  have Rrc9 := Rr.out.cell 9 _ rfl
  have Rrc10 := Rr.out.cell 10 _ rfl
  go_wp2
  go_ret
  exact ⟨rfl, HB.out⟩
set_option maxHeartbeats 1000000 in
theorem ruleCheck_7 (nm : ByteArray) (fr tt mo k n d s c sv : Int) (lt : ByteArray) (w : World) (hs1 : nm.size ≤ 1000000) (hs2 : lt.size ≤ 1000000) (hN : Ru.name (tl nm) = true) (h4 : (decide (1 ≤ fr) && decide (fr ≤ tt) && decide (tt ≤ 9999)) = true) (h3 : (decide (1 ≤ mo) && decide (mo ≤ 12)) = true) (hD : Dy.Ok k n d) (hM : Mo.Ok s c) (hV : IsTime sv) (hL : Ab.letter lt = true) :
    Calls Tryz.prog 21 #[.agg #[.string nm, .int .i64 fr, .int .i64 tt, .int .i64 mo, .int .u8 k, .int .i64 n, .int .i64 d, .int .i64 s, .int .u8 c, .int .i64 sv, .string lt]] w fun e w' => e = .returned (.int .i64 0) ∧ Below w.heap.size w w' := by
  have HB := Lib.hid (Below.refl w.heap.size w)
  have H0 := Lib.hid fun W => calls_bool (name_any nm W hs1) hN
  have H1 := Lib.hid fun W => calls_bool (rising4_any 1 fr tt 9999 W) h4
  have H2 := Lib.hid fun W => calls_bool (rising3_any 1 mo 12 W) h3
  have H3 := Lib.hid fun W => dayCheck_ok k n d W hD
  have H4 := Lib.hid fun W => momCheck_ok s c W hM
  obtain ⟨v1, v2⟩ := hV
  have H6 := Lib.hid fun W => checkLetter_yes lt W hs2 hL
  clear hN h4 h3 hD hM hL hs1 hs2
  go_enter Tryz.func21, Tryz.ntmps21
  go_wp2_with fail
  refine (H0.out _).mono ?_
  rintro e w1 ⟨rfl, hb⟩
  have hbz := below_then (HB.out.alloc (by have := HB.out.size; first | exact this | (simp; omega)) _) hb
  have Rr := Lib.hid ((At.new w #[.string nm, .int .i64 fr, .int .i64 tt, .int .i64 mo, .int .u8 k, .int .i64 n, .int .i64 d, .int .i64 s, .int .u8 c, .int .i64 sv, .string lt] 47).call hb)
  replace HB := Lib.hid hbz
  clear hb hbz
  have zRr := Rr.out.lt
  have Rrc0 := Rr.out.cell 0 _ rfl
  have Rrc1 := Rr.out.cell 1 _ rfl
  have Rrc2 := Rr.out.cell 2 _ rfl
  have Rrc3 := Rr.out.cell 3 _ rfl
  have Rrc4 := Rr.out.cell 4 _ rfl
  have Rrc5 := Rr.out.cell 5 _ rfl
  have Rrc6 := Rr.out.cell 6 _ rfl
  have Rrc7 := Rr.out.cell 7 _ rfl
  have Rrc8 := Rr.out.cell 8 _ rfl
  have Rrc9 := Rr.out.cell 9 _ rfl
  have Rrc10 := Rr.out.cell 10 _ rfl
  go_wp2_with fail
  refine (H1.out _).mono ?_
  rintro e w2 ⟨rfl, hb⟩
  have hbz := below_then HB.out hb
  have Rr' := Rr.out.call hb
  clear Rr
  have Rr := Lib.hid Rr'
  clear Rr'
  replace HB := Lib.hid hbz
  clear hb hbz
  clear zRr Rrc0 Rrc1 Rrc2 Rrc3 Rrc4 Rrc5 Rrc6 Rrc7 Rrc8 Rrc9 Rrc10
  have zRr := Rr.out.lt
  have Rrc0 := Rr.out.cell 0 _ rfl
  have Rrc1 := Rr.out.cell 1 _ rfl
  have Rrc2 := Rr.out.cell 2 _ rfl
  have Rrc3 := Rr.out.cell 3 _ rfl
  have Rrc4 := Rr.out.cell 4 _ rfl
  have Rrc5 := Rr.out.cell 5 _ rfl
  have Rrc6 := Rr.out.cell 6 _ rfl
  have Rrc7 := Rr.out.cell 7 _ rfl
  have Rrc8 := Rr.out.cell 8 _ rfl
  have Rrc9 := Rr.out.cell 9 _ rfl
  have Rrc10 := Rr.out.cell 10 _ rfl
  go_wp2_with fail
  refine (H2.out _).mono ?_
  rintro e w3 ⟨rfl, hb⟩
  have hbz := below_then HB.out hb
  have Rr' := Rr.out.call hb
  clear Rr
  have Rr := Lib.hid Rr'
  clear Rr'
  replace HB := Lib.hid hbz
  clear hb hbz
  clear zRr Rrc0 Rrc1 Rrc2 Rrc3 Rrc4 Rrc5 Rrc6 Rrc7 Rrc8 Rrc9 Rrc10
  have zRr := Rr.out.lt
  have Rrc0 := Rr.out.cell 0 _ rfl
  have Rrc1 := Rr.out.cell 1 _ rfl
  have Rrc2 := Rr.out.cell 2 _ rfl
  have Rrc3 := Rr.out.cell 3 _ rfl
  have Rrc4 := Rr.out.cell 4 _ rfl
  have Rrc5 := Rr.out.cell 5 _ rfl
  have Rrc6 := Rr.out.cell 6 _ rfl
  have Rrc7 := Rr.out.cell 7 _ rfl
  have Rrc8 := Rr.out.cell 8 _ rfl
  have Rrc9 := Rr.out.cell 9 _ rfl
  have Rrc10 := Rr.out.cell 10 _ rfl
  go_wp2_with fail
  refine (H3.out _).mono ?_
  rintro e w4 ⟨rfl, hb⟩
  have hbz := below_then HB.out hb
  have Rr' := Rr.out.call hb
  clear Rr
  have Rr := Lib.hid Rr'
  clear Rr'
  replace HB := Lib.hid hbz
  clear hb hbz
  clear zRr Rrc0 Rrc1 Rrc2 Rrc3 Rrc4 Rrc5 Rrc6 Rrc7 Rrc8 Rrc9 Rrc10
  have zRr := Rr.out.lt
  have Rrc0 := Rr.out.cell 0 _ rfl
  have Rrc1 := Rr.out.cell 1 _ rfl
  have Rrc2 := Rr.out.cell 2 _ rfl
  have Rrc3 := Rr.out.cell 3 _ rfl
  have Rrc4 := Rr.out.cell 4 _ rfl
  have Rrc5 := Rr.out.cell 5 _ rfl
  have Rrc6 := Rr.out.cell 6 _ rfl
  have Rrc7 := Rr.out.cell 7 _ rfl
  have Rrc8 := Rr.out.cell 8 _ rfl
  have Rrc9 := Rr.out.cell 9 _ rfl
  have Rrc10 := Rr.out.cell 10 _ rfl
  go_wp2_with fail
  refine (H4.out _).mono ?_
  rintro e w5 ⟨rfl, hb⟩
  have hbz := below_then HB.out hb
  have Rr' := Rr.out.call hb
  clear Rr
  have Rr := Lib.hid Rr'
  clear Rr'
  replace HB := Lib.hid hbz
  clear hb hbz
  clear zRr Rrc0 Rrc1 Rrc2 Rrc3 Rrc4 Rrc5 Rrc6 Rrc7 Rrc8 Rrc9 Rrc10
  have zRr := Rr.out.lt
  have Rrc0 := Rr.out.cell 0 _ rfl
  have Rrc1 := Rr.out.cell 1 _ rfl
  have Rrc2 := Rr.out.cell 2 _ rfl
  have Rrc3 := Rr.out.cell 3 _ rfl
  have Rrc4 := Rr.out.cell 4 _ rfl
  have Rrc5 := Rr.out.cell 5 _ rfl
  have Rrc6 := Rr.out.cell 6 _ rfl
  have Rrc7 := Rr.out.cell 7 _ rfl
  have Rrc8 := Rr.out.cell 8 _ rfl
  have Rrc9 := Rr.out.cell 9 _ rfl
  have Rrc10 := Rr.out.cell 10 _ rfl
  go_wp2_with fail
  refine (H6.out _).mono ?_
  rintro e w6 ⟨rfl, hb⟩
  have hbz := below_then HB.out hb
  have Rr' := Rr.out.call hb
  clear Rr
  have Rr := Lib.hid Rr'
  clear Rr'
  replace HB := Lib.hid hbz
  clear hb hbz
  clear zRr Rrc0 Rrc1 Rrc2 Rrc3 Rrc4 Rrc5 Rrc6 Rrc7 Rrc8 Rrc9 Rrc10
  have zRr := Rr.out.lt
  have Rrc0 := Rr.out.cell 0 _ rfl
  have Rrc1 := Rr.out.cell 1 _ rfl
  have Rrc2 := Rr.out.cell 2 _ rfl
  have Rrc3 := Rr.out.cell 3 _ rfl
  have Rrc4 := Rr.out.cell 4 _ rfl
  have Rrc5 := Rr.out.cell 5 _ rfl
  have Rrc6 := Rr.out.cell 6 _ rfl
  have Rrc7 := Rr.out.cell 7 _ rfl
  have Rrc8 := Rr.out.cell 8 _ rfl
  have Rrc9 := Rr.out.cell 9 _ rfl
  have Rrc10 := Rr.out.cell 10 _ rfl
  go_wp2
  go_ret
  exact ⟨rfl, HB.out⟩
theorem ruleCheck_ok (r : Ru.R) (w : World) (h : r.Ok) (hs1 : r.nm.size ≤ 1000000) (hs2 : r.lt.size ≤ 1000000) :
    Calls Tryz.prog 21 #[r.v] w fun e w' => e = .returned (.int .i64 0) ∧ Below w.heap.size w w' := by
  obtain ⟨h1, h2, h3, h4, h5, h6, h7⟩ := h
  exact ruleCheck_7 r.nm r.fr r.tt r.mo r.k r.n r.d r.s r.c r.sv r.lt w hs1 hs2 h1 (by simp [h2.1, h2.2.1, h2.2.2]) (by simp [h3.1, h3.2]) h4 h5 h6 h7
theorem ruleCheck_bad (r : Ru.R) (w : World) (h : ¬ r.Ok) (hs1 : r.nm.size ≤ 1000000) (hs2 : r.lt.size ≤ 1000000) :
    Calls Tryz.prog 21 #[r.v] w fun e w' => e = .returned (.int .i64 2) ∧ Below w.heap.size w w' := by
  by_cases h1 : Ru.name (tl r.nm) = true
  · by_cases h2 : 1 ≤ r.fr ∧ r.fr ≤ r.tt ∧ r.tt ≤ 9999
    · have e2 : (decide (1 ≤ r.fr) && decide (r.fr ≤ r.tt) && decide (r.tt ≤ 9999)) = true := by simp [h2.1, h2.2.1, h2.2.2]
      by_cases h3 : 1 ≤ r.mo ∧ r.mo ≤ 12
      · have e3 : (decide (1 ≤ r.mo) && decide (r.mo ≤ 12)) = true := by simp [h3.1, h3.2]
        by_cases h4 : Dy.Ok r.k r.n r.d
        · by_cases h5 : Mo.Ok r.s r.c
          · by_cases h6 : IsTime r.sv
            · have h7 : Ab.letter r.lt = false := by
                cases hx : Ab.letter r.lt
                · rfl
                · exact absurd ⟨h1, h2, h3, h4, h5, h6, hx⟩ h
              exact ruleCheck_6 r.nm r.fr r.tt r.mo r.k r.n r.d r.s r.c r.sv r.lt w hs1 hs2 h1 e2 e3 h4 h5 h6 h7
            · exact ruleCheck_5 r.nm r.fr r.tt r.mo r.k r.n r.d r.s r.c r.sv r.lt w hs1 h1 e2 e3 h4 h5 h6
          · exact ruleCheck_4 r.nm r.fr r.tt r.mo r.k r.n r.d r.s r.c r.sv r.lt w hs1 h1 e2 e3 h4 h5
        · exact ruleCheck_3 r.nm r.fr r.tt r.mo r.k r.n r.d r.s r.c r.sv r.lt w hs1 h1 e2 e3 h4
      · exact ruleCheck_2 r.nm r.fr r.tt r.mo r.k r.n r.d r.s r.c r.sv r.lt w hs1 h1 e2 (by rw [← Bool.not_eq_true]; intro x; simp at x; exact h3 x)
    · exact ruleCheck_1 r.nm r.fr r.tt r.mo r.k r.n r.d r.s r.c r.sv r.lt w hs1 h1 (by rw [← Bool.not_eq_true]; intro x; simp at x; exact h2 ⟨x.1.1, x.1.2, x.2⟩)
  · exact ruleCheck_0 r.nm r.fr r.tt r.mo r.k r.n r.d r.s r.c r.sv r.lt w hs1 (by simpa using h1)
set_option maxHeartbeats 1000000 in
theorem ruYear_any (s : ByteArray) (w : World) (hs : s.size ≤ 1000000) :
    Calls Tryz.prog 106 #[.string s] w fun e w' => e = .returned (.tuple #[.int .i64 (Mo.yearV (Mo.yearN (tl s))), .bool (Mo.yearB (Mo.yearN (tl s)))]) ∧ Below w.heap.size w w' := by
  by_cases hl : 1 ≤ s.size ∧ s.size ≤ 4
  · have HR := Lib.hid fun W => calls_bool (rising3_any 1 (s.size : Int) 4 W) (show _ = true by simp; omega)
    have hE : Mo.yearN (tl s) = Dy.numLoop ((tl s).drop 0) 0 := by unfold Mo.yearN; rw [tl_length, if_neg (by omega)]; rfl
    obtain ⟨N, hN⟩ : ∃ N, Mo.yearN (tl s) = N := ⟨_, rfl⟩
    rw [hN] at hE ⊢
    have HE := Lib.hid hE
    have q3 : s.size ≤ 4 := hl.2
    clear hN hE hl
    go_enter Tryz.func106, Tryz.ntmps106
    go_wp2_with fail
    refine (HR.out _).mono ?_
    rintro e w1 ⟨rfl, hb1⟩
    have HB := Lib.hid hb1
    clear hb1
    go_wp2
    go_loop [4, 13] (fun t i => ∃ (k : Nat) (a : Int), k ≤ s.size ∧ i = .int .i64 k ∧ t = .int .i64 a ∧ 0 ≤ a ∧ a ≤ 9999 ∧ Hid (k ≤ 3 → a ≤ 999) ∧ Hid (k ≤ 2 → a ≤ 99) ∧ Hid (k ≤ 1 → a ≤ 9) ∧ Hid (k = 0 → a = 0) ∧ Hid (N = Dy.numLoop ((tl s).drop k) a)) (fun _ i => s.size - (intOf i).toNat)
    case atStart => exact ⟨0, 0, by omega, rfl, rfl, by omega, by omega, fun _ => by omega, fun _ => by omega, fun _ => by omega, fun _ => rfl, HE.out⟩
    case round =>
      obtain ⟨k, a, hk, rfl, rfl, a0, a1, HA3, HA2, HA1, HA0, HN⟩ := hrel
      by_cases hlt : k < s.size
      · have p1 : (0 : Int) ≤ (k : Int) := by omega
        have p2 : (k : Int) < (s.size : Int) := by omega
        have b1 := u8_bd s[k]
        have a2 : a ≤ 999 := HA3.out (by omega)
        by_cases hc : (s[k].toNat : Int) < 48 ∨ 57 < (s[k].toNat : Int)
        · have HB2 := Lib.hid (Dy.numLoop_bad (tl s) k s[k] a N HN.out (Dy.tl_get s k hlt) hc)
          by_cases hc1 : (s[k].toNat : Int) < 48
          · clear hc
            go_wp2
            go_ret2
            exact ⟨ret_nb (by rw [HB2.out]; rfl) (by rw [HB2.out]; rfl), HB.out⟩
          · have hc2 : 57 < (s[k].toNat : Int) := by omega
            clear hc
            go_wp2
            go_ret2
            exact ⟨ret_nb (by rw [HB2.out]; rfl) (by rw [HB2.out]; rfl), HB.out⟩
        · have HB2 := Lib.hid (Dy.numLoop_next (tl s) k s[k] a N HN.out (Dy.tl_get s k hlt) hc)
          have c1 : 48 ≤ (s[k].toNat : Int) := by omega
          have c2 : (s[k].toNat : Int) ≤ 57 := by omega
          have HA0' := HA0.out
          have HA1' := HA1.out
          have HA2' := HA2.out
          have HZ : Hid (k + 1 ≤ 1 → a * 10 + ((s[k].toNat : Int) - 48) ≤ 9) := by intro h; have := HA0' (by omega); omega
          have HZ2 : Hid (k + 1 ≤ 2 → a * 10 + ((s[k].toNat : Int) - 48) ≤ 99) := by intro h; have := HA1' (by omega); omega
          have HZ3 : Hid (k + 1 ≤ 3 → a * 10 + ((s[k].toNat : Int) - 48) ≤ 999) := by intro h; have := HA2' (by omega); omega
          clear hc HA0' HA1' HA2'
          go_wp2
          go_round
          case rel => exact ⟨k + 1, a * 10 + ((s[k].toNat : Int) - 48), by omega, by go_num, rfl, by omega, by omega, HZ3, HZ2, HZ, fun h => absurd h (by omega), HB2⟩
          case measure => simp [intOf]; omega
      · obtain rfl : k = s.size := by omega
        have HB2 := Lib.hid (Dy.numLoop_end (tl s) s.size a N HN.out (tl_length s))
        have hne : ¬ N = -1 := by have := HB2.out; omega
        have HR2 := Lib.hid fun W => calls_bool (rising3_any 1 a 9999 W) (show _ = Mo.yearB N by rw [HB2.out]; unfold Mo.yearB; simp [Bool.decide_and])
        go_wp2_with fail
        refine (HR2.out _).mono ?_
        rintro e w2 ⟨rfl, hb2⟩
        go_wp2
        go_ret2
        exact ⟨ret_nb (by unfold Mo.yearV; rw [if_neg hne, HB2.out]) rfl, below_then HB.out hb2⟩
  · have HR := Lib.hid fun W => calls_bool (rising3_any 1 (s.size : Int) 4 W) (show _ = false by simp; omega)
    have hE : Mo.yearN (tl s) = -1 := by unfold Mo.yearN; rw [tl_length, if_pos (by omega)]
    rw [hE]
    clear hE hl
    go_enter Tryz.func106, Tryz.ntmps106
    go_wp2_with fail
    refine (HR.out _).mono ?_
    rintro e w1 ⟨rfl, hb1⟩
    go_wp2
    go_ret2
    exact ⟨rfl, hb1⟩
theorem ru_two (w : World) : Reads (w.alloc (.cells #[.string ⟨#[111, 110, 108, 121]⟩, .string ⟨#[109, 97, 120, 105, 109, 117, 109]⟩] 9)) (w.alloc (.cells #[.string ⟨#[111, 110, 108, 121]⟩, .string ⟨#[109, 97, 120, 105, 109, 117, 109]⟩] 9)).heap.size 1 (some ⟨w.heap.size, 0, none⟩) 2 ([Ru.only, Ru.maximum].map Value.string) := reads_new w [Ru.only, Ru.maximum] _
set_option maxHeartbeats 1000000 in
theorem ruTo_any (s : ByteArray) (f : Int) (w : World) (hs : s.size ≤ 1000000) :
    Calls Tryz.prog 107 #[.string s, .int .i64 f] w fun e w' => e = .returned (.tuple #[.int .i64 (Ru.toS s f).1, .int .i64 (Ru.toS s f).2]) ∧ Below w.heap.size w w' := by
  have hmx : s.size ≤ maxLen := by unfold maxLen; omega
  have hP := fun W => pick_any s _ 2 2 [Ru.only, Ru.maximum] _ hmx (by unfold maxLen; omega) (ru_two W)
  have hX : Ru.toS s f = if Wd.pick (tl s) ([Ru.only, Ru.maximum].map tl) = 0 then (f, 0) else if Wd.pick (tl s) ([Ru.only, Ru.maximum].map tl) = 1 then (9999, 0) else if Mo.yearB (Mo.yearN (tl s)) = true then (if f ≤ Mo.yearV (Mo.yearN (tl s)) then (Mo.yearV (Mo.yearN (tl s)), 0) else (0, 10)) else (0, 4) := rfl
  obtain ⟨p, hp⟩ : ∃ p, Wd.pick (tl s) ([Ru.only, Ru.maximum].map tl) = p := ⟨_, rfl⟩
  rw [hp] at hX
  simp only [hp] at hP
  have HP := Lib.hid hP
  have hY := fun W => ruYear_any s W hs
  obtain ⟨N, hN⟩ : ∃ N, Mo.yearN (tl s) = N := ⟨_, rfl⟩
  rw [hN] at hX
  simp only [hN] at hY
  clear hP hp hN
  by_cases h0 : p = 0
  · have HX : Hid (Ru.toS s f = (f, 0)) := by show _ = _; rw [hX, if_pos h0]
    subst h0
    clear hX hY
    go_enter Tryz.func107, Tryz.ntmps107
    go_wp2_with fail
    refine (HP.out _).mono ?_
    rintro e w1 ⟨rfl, hd⟩
    go_wp2
    go_ret2
    exact ⟨ret_int22 (by rw [HX.out]) (by rw [HX.out]), ((Below.refl _ _).alloc (Nat.le_refl _) _).trans (hd.below _)⟩
  by_cases h1 : p = 1
  · have HX : Hid (Ru.toS s f = (9999, 0)) := by show _ = _; rw [hX, if_neg h0, if_pos h1]
    subst h1
    clear hX hY h0
    go_enter Tryz.func107, Tryz.ntmps107
    go_wp2_with fail
    refine (HP.out _).mono ?_
    rintro e w1 ⟨rfl, hd⟩
    go_wp2
    go_ret2
    exact ⟨ret_int22 (by rw [HX.out]) (by rw [HX.out]), ((Below.refl _ _).alloc (Nat.le_refl _) _).trans (hd.below _)⟩
  have e0 : (p == 0) = false := by rw [beq_eq_false_iff_ne]; exact h0
  have e1 : (p == 1) = false := by rw [beq_eq_false_iff_ne]; exact h1
  rw [if_neg h0, if_neg h1] at hX
  clear h0 h1
  cases hB : Mo.yearB N
  · rw [hB] at hX
    have HX : Hid (Ru.toS s f = (0, 4)) := by show _ = _; rw [hX]; rfl
    simp only [hB] at hY
    have HY := Lib.hid hY
    clear hX hY hB
    go_enter Tryz.func107, Tryz.ntmps107
    go_wp2_with fail
    refine (HP.out _).mono ?_
    rintro e w1 ⟨rfl, hd⟩
    have HB := Lib.hid (((Below.refl w.heap.size w).alloc (Nat.le_refl _) (.cells #[.string ⟨#[111, 110, 108, 121]⟩, .string ⟨#[109, 97, 120, 105, 109, 117, 109]⟩] 9)).trans (hd.below _))
    clear hd
    go_wp2_with fail
    refine (HY.out _).mono ?_
    rintro e w2 ⟨rfl, hb⟩
    go_wp2
    go_ret2
    exact ⟨ret_int22 (by rw [HX.out]) (by rw [HX.out]), below_then HB.out hb⟩
  · rw [hB] at hX
    simp only [hB] at hY
    have HY := Lib.hid hY
    obtain ⟨V, hV⟩ : ∃ V, Mo.yearV N = V := ⟨_, rfl⟩
    rw [hV] at hX HY
    clear hV hY hB
    by_cases hf : f ≤ V
    · have HX : Hid (Ru.toS s f = (V, 0)) := by show _ = _; rw [hX, if_pos rfl, if_pos hf]
      have HR := Lib.hid fun W => calls_bool (rising2_any f V W) (show _ = true by simp [hf])
      clear hX hf
      go_enter Tryz.func107, Tryz.ntmps107
      go_wp2_with fail
      refine (HP.out _).mono ?_
      rintro e w1 ⟨rfl, hd⟩
      have HB := Lib.hid (((Below.refl w.heap.size w).alloc (Nat.le_refl _) (.cells #[.string ⟨#[111, 110, 108, 121]⟩, .string ⟨#[109, 97, 120, 105, 109, 117, 109]⟩] 9)).trans (hd.below _))
      clear hd
      go_wp2_with fail
      refine (HY.out _).mono ?_
      rintro e w2 ⟨rfl, hb⟩
      replace HB := Lib.hid (below_then HB.out hb)
      clear hb
      go_wp2_with fail
      refine (HR.out _).mono ?_
      rintro e w3 ⟨rfl, hb⟩
      go_wp2
      go_ret2
      exact ⟨ret_int22 (by rw [HX.out]) (by rw [HX.out]), below_then HB.out hb⟩
    · have HX : Hid (Ru.toS s f = (0, 10)) := by show _ = _; rw [hX, if_pos rfl, if_neg hf]
      have HR := Lib.hid fun W => calls_bool (rising2_any f V W) (show _ = false by simp; omega)
      clear hX hf
      go_enter Tryz.func107, Tryz.ntmps107
      go_wp2_with fail
      refine (HP.out _).mono ?_
      rintro e w1 ⟨rfl, hd⟩
      have HB := Lib.hid (((Below.refl w.heap.size w).alloc (Nat.le_refl _) (.cells #[.string ⟨#[111, 110, 108, 121]⟩, .string ⟨#[109, 97, 120, 105, 109, 117, 109]⟩] 9)).trans (hd.below _))
      clear hd
      go_wp2_with fail
      refine (HY.out _).mono ?_
      rintro e w2 ⟨rfl, hb⟩
      replace HB := Lib.hid (below_then HB.out hb)
      clear hb
      go_wp2_with fail
      refine (HR.out _).mono ?_
      rintro e w3 ⟨rfl, hb⟩
      go_wp2
      go_ret2
      exact ⟨ret_int22 (by rw [HX.out]) (by rw [HX.out]), below_then HB.out hb⟩
end Go.Proofs.YtlhoggalhjadgaaGreatDoor
