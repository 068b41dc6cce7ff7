/- The contracts of the reference's calendar (layer 1). -/
import Derived.Test.YtkpbkgfmdjhbpabDoorClock
namespace Go.Proofs.YtkpbkgfmdjhbpabDoor
open Go.RowKit

namespace Cv
theorem num_month (y m : Int) (h1 : 1 ≤ m) (h2 : m < 12) : num y (m + 1) 1 = num y m 1 + len y m := by
  rw [len_month y m h1 (by omega), num_ahead, num_ahead]
  have hs := ahead_succ y
  have hm : m = 1 ∨ m = 2 ∨ m = 3 ∨ m = 4 ∨ m = 5 ∨ m = 6 ∨ m = 7 ∨ m = 8 ∨ m = 9 ∨ m = 10 ∨ m = 11 := by omega
  by_cases hl : leap y = true
  · rw [if_pos hl] at hs
    simp only [if_pos hl]
    rcases hm with rfl | rfl | rfl | rfl | rfl | rfl | rfl | rfl | rfl | rfl | rfl <;> simp [my, mm] <;> omega
  · rw [if_neg hl] at hs
    simp only [if_neg hl]
    rcases hm with rfl | rfl | rfl | rfl | rfl | rfl | rfl | rfl | rfl | rfl | rfl <;> simp [my, mm] <;> omega
theorem num_dec (y : Int) : num (y + 1) 1 1 = num y 12 1 + 31 := by
  rw [num_ahead, num_ahead]
  simp [my, mm]
  omega
theorem first_eq (y : Int) : num y 1 1 = 365 * (y - 1) + (y - 1) / 4 - (y - 1) / 100 + (y - 1) / 400 - 719162 := by
  rw [first_ahead, ahead_eq]; omega
theorem first_lt (y z : Int) (h : y < z) : num y 1 1 < num z 1 1 := by
  have := first_mono (y + 1) z (by omega)
  have := first_succ y
  split at this <;> omega
end Cv

theorem refLeap_any (y : Int) (w : World) (h0 : 1 ≤ y) (h1 : y ≤ 9999) :
    Calls Tryd.prog 183 #[.int .i64 y] w fun e w' => e = .returned (.bool (Cv.leap y)) ∧ w = w' := by
  go_enter Tryd.func183, Tryd.ntmps183
  go_wp2
  all_goals go_ret
  all_goals refine ⟨ret_bool ?_, rfl⟩
  all_goals (unfold Cv.leap; first | (simp_all; done) | (simp_all [Bool.or_comm]; done))

theorem refFirst_ok (y : Int) (w : World) (h0 : 1 ≤ y) (h1 : y ≤ 10000) :
    Calls Tryd.prog 185 #[.int .i64 y] w fun e w' => e = .returned (.tuple #[.int .i64 (Cv.num y 1 1), .int .i64 0]) ∧ w = w' := by
  go_enter Tryd.func185, Tryd.ntmps185
  go_wp2
  go_ret2
  exact ⟨ret_int22 (by rw [Cv.first_eq]) rfl, rfl⟩

set_option maxHeartbeats 1000000 in
theorem refLength_ok (y m : Int) (w : World) (h : InCal y m) :
    Calls Tryd.prog 147 #[.int .i64 y, .int .i64 m] w fun e w' => e = .returned (.tuple #[.int .i64 (Cv.len y m), .int .i64 0]) ∧ w = w' := by
  obtain ⟨h1, h2, h3, h4⟩ := h
  have hE := Cv.len_month y m h3 h4
  have hm : m = 1 ∨ m = 2 ∨ m = 3 ∨ m = 4 ∨ m = 5 ∨ m = 6 ∨ m = 7 ∨ m = 8 ∨ m = 9 ∨ m = 10 ∨ m = 11 ∨ m = 12 := by omega
  have HLp := Lib.hid fun W => refLeap_any y W h1 h2
  have HE := Lib.hid hE
  clear hE h3 h4
  rcases hm with rfl | rfl | rfl | rfl | rfl | rfl | rfl | rfl | rfl | rfl | rfl | rfl
  case inr.inl =>
    cases hl : Cv.leap y
    · simp only [hl] at HLp
      have HL := Lib.hid hl
      clear hl
      go_enter Tryd.func147, Tryd.ntmps147
      go_wp2_with (go_at_call 183; refine (HLp.out _).mono ?_; rintro e w1 ⟨rfl, rfl⟩)
      go_ret2
      exact ⟨ret_int22 (by rw [HE.out, HL.out]; simp) rfl, rfl⟩
    · simp only [hl] at HLp
      have HL := Lib.hid hl
      clear hl
      go_enter Tryd.func147, Tryd.ntmps147
      go_wp2_with (go_at_call 183; refine (HLp.out _).mono ?_; rintro e w1 ⟨rfl, rfl⟩)
      go_ret2
      exact ⟨ret_int22 (by rw [HE.out, HL.out]; simp) rfl, rfl⟩
  all_goals
    go_enter Tryd.func147, Tryd.ntmps147
    go_wp2
    go_ret2
    exact ⟨ret_int22 (by rw [HE.out]; simp) rfl, rfl⟩

/-- The year of a day is the last one that does not begin behind it. -/
theorem year_iff (n y : Int) (h0 : -719162 ≤ n) (h1 : n < 2932897) : Cv.num y 1 1 ≤ n ↔ y ≤ Cv.yearOf n := by
  obtain ⟨hv, hn⟩ := Cv.num_of n h0 h1
  have h := Cv.first_le _ _ _ hv
  rw [hn] at h
  constructor
  · intro hy
    rcases Int.lt_or_le (Cv.yearOf n) y with hlt | hle
    · have := Cv.first_mono (Cv.yearOf n + 1) y (by omega)
      omega
    · exact hle
  · intro hy
    have := Cv.first_mono y (Cv.yearOf n) hy
    omega
theorem year_in (n : Int) (h0 : -719162 ≤ n) (h1 : n < 2932897) : 1 ≤ Cv.yearOf n ∧ Cv.yearOf n ≤ 9999 := by
  obtain ⟨hv, _⟩ := Cv.num_of n h0 h1
  exact ⟨hv.1, hv.2.1⟩
/-- The month, found by counting. -/
theorem month_hit (n m : Int) (h0 : -719162 ≤ n) (h1 : n < 2932897) (hm : 1 ≤ m ∧ m ≤ 12) (hl : 0 ≤ n - Cv.num (Cv.yearOf n) m 1) (hh : n - Cv.num (Cv.yearOf n) m 1 < Cv.len (Cv.yearOf n) m) :
    Cv.monthOf n = m ∧ Cv.dayOf n = n - Cv.num (Cv.yearOf n) m 1 + 1 := by
  obtain ⟨y1, y2⟩ := year_in n h0 h1
  have hv : Cv.Valid (Cv.yearOf n) m (n - Cv.num (Cv.yearOf n) m 1 + 1) := ⟨y1, y2, hm.1, hm.2, by omega, by omega⟩
  have e := Cv.of_num _ _ _ hv
  have e2 : Cv.num (Cv.yearOf n) m (n - Cv.num (Cv.yearOf n) m 1 + 1) = n := by
    have := Cv.num_day (Cv.yearOf n) m 1 (n - Cv.num (Cv.yearOf n) m 1)
    rw [show n - Cv.num (Cv.yearOf n) m 1 + 1 = 1 + (n - Cv.num (Cv.yearOf n) m 1) by omega, this]
    omega
  rw [e2] at e
  exact ⟨e.2.1, e.2.2⟩
theorem month_more (n m : Int) (h0 : -719162 ≤ n) (h1 : n < 2932897) (hm : 1 ≤ m ∧ m ≤ 12) (hh : ¬ n - Cv.num (Cv.yearOf n) m 1 < Cv.len (Cv.yearOf n) m) :
    m < 12 ∧ Cv.num (Cv.yearOf n) (m + 1) 1 = Cv.num (Cv.yearOf n) m 1 + Cv.len (Cv.yearOf n) m := by
  obtain ⟨hv, hn⟩ := Cv.num_of n h0 h1
  have h := Cv.first_le _ _ _ hv
  rw [hn] at h
  have hlt : m < 12 := by
    rcases Int.lt_or_le m 12 with a | a
    · exact a
    · obtain rfl : m = 12 := by omega
      have := Cv.num_dec (Cv.yearOf n)
      have e : Cv.len (Cv.yearOf n) 12 = 31 := by rw [Cv.len_month _ 12 (by omega) (by omega)]; simp
      omega
  exact ⟨hlt, Cv.num_month _ m hm.1 hlt⟩

theorem refOf_bad (n : Int) (w : World) (h : n < -719162 ∨ 2932897 ≤ n) :
    Calls Tryd.prog 150 #[.int .i64 n] w fun e w' => e = .returned (.tuple #[.agg #[.int .i64 0, .int .i64 0, .int .i64 0], .int .i64 1]) ∧ Below w.heap.size w w' := by
  have A1 := Lib.hid fun W => calls_val (refFirst_ok 1 W (by omega) (by omega)) (show _ = Value.tuple #[.int .i64 (-719162), .int .i64 0] by rw [num_min])
  have A2 := Lib.hid fun W => calls_val (refFirst_ok 10000 W (by omega) (by omega)) (show _ = Value.tuple #[.int .i64 2932897, .int .i64 0] by rw [num_max])
  rcases h with h | h
  all_goals
    go_enter Tryd.func150, Tryd.ntmps150
    go_wp2_with fail
    refine (A1.out _).mono ?_
    rintro e w1 ⟨rfl, rfl⟩
    go_wp2_with fail
    refine (A2.out _).mono ?_
    rintro e w1 ⟨rfl, rfl⟩
    go_wp2
    exact bodyPost_ret (v := .tuple #[.agg #[.int .i64 0, .int .i64 0, .int .i64 0], .int .i64 1]) (by simp [results, Tryd.results150, go_sem]) rfl ⟨rfl, (Below.refl _ _).alloc (Nat.le_refl _) _⟩
end Go.Proofs.YtkpbkgfmdjhbpabDoor
