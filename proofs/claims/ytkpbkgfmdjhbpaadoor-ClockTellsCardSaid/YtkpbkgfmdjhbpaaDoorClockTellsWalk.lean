/- The walk of the law ClockTells. -/
import Derived.Test.YtkpbkgfmdjhbpaaDoorRefTime
import Derived.Test.YtkpbkgfmdjhbpaaDoorRefParse
import Derived.Test.YtkpbkgfmdjhbpaaDoorClockLives
namespace Go.Proofs.YtkpbkgfmdjhbpaaDoor
open Go.RowKit

/-- Two functions that answer alike: a number, and why there is none. -/
def Both (f g : FuncId) (args : Array Value) (a b : Int) : Prop :=
  (∀ W, Calls Tryd.prog f args W fun e w' => e = .returned (.tuple #[.int .i64 a, .int .i64 b]) ∧ Below W.heap.size W w') ∧
  (∀ W, Calls Tryd.prog g args W fun e w' => e = .returned (.tuple #[.int .i64 a, .int .i64 b]) ∧ Below W.heap.size W w')
theorem both_at (d s : Int) : ∃ a b, Both 9 10 #[.int .i64 d, .int .i64 s] a b := by
  by_cases h : (-719162 ≤ d ∧ d < 2932897) ∧ IsTime s
  · exact ⟨_, _, fun W => at_ok d s W h.1.1 h.1.2 h.2, fun W => refAt_ok d s W h.1.1 h.1.2 h.2⟩
  · exact ⟨_, _, fun W => at_bad d s W h, fun W => refAt_bad d s W h⟩
theorem both_year (t : Int) (h0 : -9223372036854775808 ≤ t) (h1 : t ≤ 9223372036854775807) : ∃ a b, Both 13 14 #[.int .i64 t] a b := by
  by_cases h : -719162 ≤ t / 86400 ∧ t / 86400 < 2932897
  · exact ⟨_, _, fun W => year_ok t W h.1 h.2, fun W => refYear_ok t W h.1 h.2⟩
  · exact ⟨_, _, fun W => year_bad t W h0 h1 h, fun W => refYear_bad t W h0 h1 h⟩

set_option maxHeartbeats 2000000 in
set_option maxRecDepth 100000 in
theorem clockTells_any (day sec t : Int) (s : ByteArray) (w : World) (hW : Wc w) (_h1 : (Lit.int .i64 day).wf = true) (_h2 : (Lit.int .i64 sec).wf = true) (h3 : (Lit.int .i64 t).wf = true) (hs : s.size ≤ maxLen) :
    Calls Tryd.prog 3 #[.int .i64 day, .int .i64 sec, .int .i64 t, .string s] w fun e w' => e = .returned (.bool true) ∧ Below w.heap.size w w' := by
  unfold maxLen at hs
  have HW := Lib.hid hW
  obtain ⟨t1, t2⟩ := int64_bd h3
  clear hW h3
  by_cases h200 : 200 < s.size
  · have q : (200 : Int) < (s.size : Int) := by omega
    have HL := Lib.hid (lives02 w HW.out)
    go_enter Tryd.func3, Tryd.ntmps3
    go_wp2_with fail
    refine HL.out.mono ?_
    rintro e w1 ⟨rfl, hb⟩
    go_wp2
    go_ret
    exact ⟨rfl, hb⟩
  have q : ¬ (200 : Int) < (s.size : Int) := by omega
  obtain ⟨a1, b1, hAt⟩ := both_at day sec
  obtain ⟨a2, b2, hYear⟩ := both_year t t1 t2
  obtain ⟨a3, b3, hp⟩ : ∃ a b, Ck.parse s = (a, b) := ⟨_, _, rfl⟩
  have HAt := Lib.hid hAt
  have HYear := Lib.hid hYear
  have HS1 := Lib.hid fun W => split_any t W t1 t2
  have HS2 := Lib.hid fun W => refSplit_any t W t1 t2
  have hA1 := fun W => add_any t sec W
  have hA2 := fun W => refAdd_any t sec W
  obtain ⟨a4, h4⟩ : ∃ a, (if InT t ∧ InT sec ∧ InT (t + sec) then t + sec else 0) = a := ⟨_, rfl⟩
  obtain ⟨b4, h5⟩ : ∃ a : Int, (if InT t ∧ InT sec ∧ InT (t + sec) then 0 else 1) = a := ⟨_, rfl⟩
  simp only [h4, h5] at hA1 hA2
  have HA1 := Lib.hid hA1
  have HA2 := Lib.hid hA2
  have HP1 := Lib.hid fun W hw => clockParse_all s W hw (by omega) a3 b3 hp
  have HP2 := Lib.hid fun W => calls_val (refParse_any s W (by omega)) (show _ = Value.tuple #[.int .i64 a3, .int .i64 b3] by rw [hp])
  have hT1 := fun W hw => clockText_any sec W hw
  have hT2 := fun W => refText_any sec W
  have hTe : (⟨(Ck.text sec).toArray⟩ : ByteArray) = mk (Ck.text sec) := rfl
  rw [hTe] at hT1
  obtain ⟨X, hX⟩ : ∃ X, mk (Ck.text sec) = X := ⟨_, rfl⟩
  simp only [hX] at hT1 hT2
  have HT1 := Lib.hid hT1
  have HT2 := Lib.hid hT2
  have HL := Lib.hid fun W hw => lives02 W hw
  have HB := Lib.hid (Below.refl w.heap.size w)
  obtain ⟨d1, hd1⟩ : ∃ d, t / 86400 = d := ⟨_, rfl⟩
  obtain ⟨d2, hd2⟩ : ∃ d, t % 86400 = d := ⟨_, rfl⟩
  rw [hd1, hd2] at HS1 HS2
  clear hAt hYear hA1 hA2 hT1 hT2 hTe hX hp h4 h5 hd1 hd2 hs h200
  go_enter Tryd.func3, Tryd.ntmps3
  go_wp2_with fail
  refine (HAt.out.1 _).mono ?_
  rintro e w1 ⟨rfl, hb⟩
  replace HB := Lib.hid (below_then HB.out hb)
  clear hb
  go_wp2_with fail
  refine (HAt.out.2 _).mono ?_
  rintro e w2 ⟨rfl, hb⟩
  replace HB := Lib.hid (below_then HB.out hb)
  clear hb
  go_wp2_with fail
  refine (HS1.out _).mono ?_
  rintro e w3 ⟨rfl, rfl⟩
  go_wp2_with fail
  refine (HS2.out _).mono ?_
  rintro e w4 ⟨rfl, rfl⟩
  go_wp2_with fail
  refine (HYear.out.1 _).mono ?_
  rintro e w5 ⟨rfl, hb⟩
  replace HB := Lib.hid (below_then HB.out hb)
  clear hb
  go_wp2_with fail
  refine (HYear.out.2 _).mono ?_
  rintro e w6 ⟨rfl, hb⟩
  replace HB := Lib.hid (below_then HB.out hb)
  clear hb
  go_wp2_with fail
  refine (HA1.out _).mono ?_
  rintro e w7 ⟨rfl, rfl⟩
  go_wp2_with fail
  refine (HA2.out _).mono ?_
  rintro e w8 ⟨rfl, rfl⟩
  go_wp2_with fail
  refine (HP1.out _ (HW.out.below HB.out)).mono ?_
  rintro e w9 ⟨rfl, hb⟩
  replace HB := Lib.hid (below_then HB.out hb)
  clear hb
  go_wp2_with fail
  refine (HP2.out _).mono ?_
  rintro e w10 ⟨rfl, hb⟩
  replace HB := Lib.hid (below_then HB.out hb)
  clear hb
  go_wp2_with fail
  refine (HL.out _ (HW.out.below HB.out)).mono ?_
  rintro e w11 ⟨rfl, hb⟩
  replace HB := Lib.hid (below_then HB.out hb)
  clear hb
  go_wp2_with fail
  refine (HT1.out _ (HW.out.below HB.out)).mono ?_
  rintro e w12 ⟨rfl, hb⟩
  replace HB := Lib.hid (below_then HB.out hb)
  clear hb
  go_wp2_with fail
  refine (HT2.out _).mono ?_
  rintro e w13 ⟨rfl, hb⟩
  replace HB := Lib.hid (below_then HB.out hb)
  clear hb
  go_wp2
  go_ret
  exact ⟨rfl, HB.out⟩
end Go.Proofs.YtkpbkgfmdjhbpaaDoor
