/- The contracts of the reference of package clock: instants. -/
import Derived.Test.YtkpbkgfmdjhbpaaDoorRefOf
namespace Go.Proofs.YtkpbkgfmdjhbpaaDoor
open Go.RowKit

theorem refTime_any (s : Int) (w : World) :
    Calls Tryd.prog 46 #[.int .i64 s] w fun e w' => e = .returned (.bool (decide (IsTime s))) ∧ w = w' := by
  by_cases h : IsTime s
  · have HD := Lib.hid (decide_eq_true h)
    obtain ⟨h1, h2⟩ := h
    go_enter Tryd.func46, Tryd.ntmps46
    go_wp2
    go_ret
    exact ⟨ret_bool (by rw [HD.out]), rfl⟩
  · have HD := Lib.hid (decide_eq_false h)
    have h' : s < -604800 ∨ 604800 < s := by unfold IsTime at h; omega
    clear h
    by_cases h1 : s < -604800
    · clear h'
      go_enter Tryd.func46, Tryd.ntmps46
      go_wp2
      go_ret
      exact ⟨ret_bool (by rw [HD.out]), rfl⟩
    · have h2 : 604800 < s := by omega
      clear h'
      go_enter Tryd.func46, Tryd.ntmps46
      go_wp2
      go_ret
      exact ⟨ret_bool (by rw [HD.out]; first | (simp; done) | (simp; omega)), rfl⟩

theorem refAt_ok (d s : Int) (w : World) (h1 : -719162 ≤ d) (h2 : d < 2932897) (h3 : IsTime s) :
    Calls Tryd.prog 10 #[.int .i64 d, .int .i64 s] w fun e w' => e = .returned (.tuple #[.int .i64 (d * 86400 + s), .int .i64 0]) ∧ Below w.heap.size w w' := by
  have HO := Lib.hid fun W => refOf_ok d W h1 h2
  have HT := Lib.hid fun W => calls_bool (refTime_any s W) (decide_eq_true h3)
  obtain ⟨s1, s2⟩ := h3
  go_enter Tryd.func10, Tryd.ntmps10
  go_wp2_with fail
  refine (HO.out _).mono ?_
  rintro e w1 ⟨rfl, hb⟩
  go_wp2_with fail
  refine (HT.out _).mono ?_
  rintro e w2 ⟨rfl, rfl⟩
  go_wp2
  go_ret2
  exact ⟨rfl, hb.alloc hb.size _⟩
theorem refAt_bad (d s : Int) (w : World) (h : ¬ ((-719162 ≤ d ∧ d < 2932897) ∧ IsTime s)) :
    Calls Tryd.prog 10 #[.int .i64 d, .int .i64 s] w fun e w' => e = .returned (.tuple #[.int .i64 0, .int .i64 1]) ∧ Below w.heap.size w w' := by
  by_cases hd : -719162 ≤ d ∧ d < 2932897
  · have h3 : ¬ IsTime s := fun x => h ⟨hd, x⟩
    have HO := Lib.hid fun W => refOf_ok d W hd.1 hd.2
    have HT := Lib.hid fun W => calls_bool (refTime_any s W) (decide_eq_false h3)
    clear h hd h3
    go_enter Tryd.func10, Tryd.ntmps10
    go_wp2_with fail
    refine (HO.out _).mono ?_
    rintro e w1 ⟨rfl, hb⟩
    go_wp2_with fail
    refine (HT.out _).mono ?_
    rintro e w2 ⟨rfl, rfl⟩
    go_wp2
    go_ret2
    exact ⟨rfl, hb.alloc hb.size _⟩
  · have HO := Lib.hid fun W => refOf_bad d W (by omega)
    clear h hd
    go_enter Tryd.func10, Tryd.ntmps10
    go_wp2_with fail
    refine (HO.out _).mono ?_
    rintro e w1 ⟨rfl, hb⟩
    go_wp2
    go_ret2
    exact ⟨rfl, hb.alloc hb.size _⟩

theorem refSplit_any (t : Int) (w : World) (h0 : -9223372036854775808 ≤ t) (h1 : t ≤ 9223372036854775807) :
    Calls Tryd.prog 12 #[.int .i64 t] w fun e w' => e = .returned (.tuple #[.int .i64 (t / 86400), .int .i64 (t % 86400)]) ∧ w = w' := by
  by_cases hp : 0 ≤ t
  · go_enter Tryd.func12, Tryd.ntmps12
    go_wp2
    go_ret2
    exact ⟨rfl, rfl⟩
  · obtain ⟨u, rfl⟩ : ∃ u, t = -u := ⟨-t, by omega⟩
    have e1 : (-u).tdiv 86400 = -(u / 86400) := by rw [Int.neg_tdiv, Int.tdiv_eq_ediv_of_nonneg (by omega)]
    have e2 : (-u).tmod 86400 = -(u % 86400) := by rw [Int.neg_tmod, Int.tmod_eq_emod_of_nonneg (by omega)]
    by_cases hz : u % 86400 = 0
    · have hneg : ¬ (-(u % 86400) < 0) := by omega
      have b1 : 0 < u := by omega
      have b2 : u ≤ 9223372036854775808 := by omega
      have HZ := Lib.hid hz
      clear hz h0 h1 hp
      go_enter Tryd.func12, Tryd.ntmps12
      go_wp2
      go_ret2
      exact ⟨ret_int22 (by have := HZ.out; omega) (by have := HZ.out; omega), rfl⟩
    · have hneg : -(u % 86400) < 0 := by omega
      have b1 : 0 < u := by omega
      have b2 : u ≤ 9223372036854775808 := by omega
      have HZ := Lib.hid hz
      clear hz h0 h1 hp
      go_enter Tryd.func12, Tryd.ntmps12
      go_wp2
      go_ret2
      exact ⟨ret_int22 (by have := HZ.out; omega) (by have := HZ.out; omega), rfl⟩

theorem refYear_ok (t : Int) (w : World) (h1 : -719162 ≤ t / 86400) (h2 : t / 86400 < 2932897) :
    Calls Tryd.prog 14 #[.int .i64 t] w fun e w' => e = .returned (.tuple #[.int .i64 (Cv.yearOf (t / 86400)), .int .i64 0]) ∧ Below w.heap.size w w' := by
  have HS := Lib.hid fun W => refSplit_any t W (by omega) (by omega)
  have HO := Lib.hid fun W => refOf_ok (t / 86400) W h1 h2
  clear h1 h2
  go_enter Tryd.func14, Tryd.ntmps14
  go_wp2_with fail
  refine (HS.out _).mono ?_
  rintro e w1 ⟨rfl, rfl⟩
  go_wp2_with fail
  refine (HO.out _).mono ?_
  rintro e w2 ⟨rfl, hb⟩
  go_wp2
  go_ret2
  exact ⟨rfl, hb.alloc hb.size _⟩
theorem refYear_bad (t : Int) (w : World) (h0 : -9223372036854775808 ≤ t) (h1 : t ≤ 9223372036854775807) (h : ¬ (-719162 ≤ t / 86400 ∧ t / 86400 < 2932897)) :
    Calls Tryd.prog 14 #[.int .i64 t] w fun e w' => e = .returned (.tuple #[.int .i64 0, .int .i64 1]) ∧ Below w.heap.size w w' := by
  have HS := Lib.hid fun W => refSplit_any t W h0 h1
  have HO := Lib.hid fun W => refOf_bad (t / 86400) W (by omega)
  clear h0 h1 h
  go_enter Tryd.func14, Tryd.ntmps14
  go_wp2_with fail
  refine (HS.out _).mono ?_
  rintro e w1 ⟨rfl, rfl⟩
  go_wp2_with fail
  refine (HO.out _).mono ?_
  rintro e w2 ⟨rfl, hb⟩
  go_wp2
  go_ret2
  exact ⟨rfl, hb.alloc hb.size _⟩


theorem refIn_any (s : Int) (w : World) :
    Calls Tryd.prog 47 #[.int .i64 s] w fun e w' => e = .returned (.bool (decide (InT s))) ∧ w = w' := by
  by_cases h : InT s
  · have HD := Lib.hid (decide_eq_true h)
    obtain ⟨h1, h2⟩ := h
    go_enter Tryd.func47, Tryd.ntmps47
    go_wp2
    go_ret
    exact ⟨ret_bool (by rw [HD.out]), rfl⟩
  · have HD := Lib.hid (decide_eq_false h)
    have h' : s < -1099511627776 ∨ 1099511627776 < s := by unfold InT at h; omega
    clear h
    by_cases h1 : s < -1099511627776
    · clear h'
      go_enter Tryd.func47, Tryd.ntmps47
      go_wp2
      go_ret
      exact ⟨ret_bool (by rw [HD.out]), rfl⟩
    · have h2 : 1099511627776 < s := by omega
      clear h'
      go_enter Tryd.func47, Tryd.ntmps47
      go_wp2
      go_ret
      exact ⟨ret_bool (by rw [HD.out]; first | (simp; done) | (simp; omega)), rfl⟩

theorem refAdd_any (a b : Int) (w : World) :
    Calls Tryd.prog 16 #[.int .i64 a, .int .i64 b] w fun e w' => e = .returned (.tuple #[.int .i64 (if InT a ∧ InT b ∧ InT (a + b) then a + b else 0), .int .i64 (if InT a ∧ InT b ∧ InT (a + b) then 0 else 1)]) ∧ w = w' := by
  by_cases h : InT a ∧ InT b ∧ InT (a + b)
  · rw [if_pos h, if_pos h]
    have HA := Lib.hid fun W => calls_bool (refIn_any a W) (decide_eq_true h.1)
    have HB := Lib.hid fun W => calls_bool (refIn_any b W) (decide_eq_true h.2.1)
    have HC := Lib.hid fun W => calls_bool (refIn_any (a + b) W) (decide_eq_true h.2.2)
    obtain ⟨⟨a1, a2⟩, ⟨b1, b2⟩, ⟨c1, c2⟩⟩ := h
    go_enter Tryd.func16, Tryd.ntmps16
    go_wp2_with fail
    refine (HA.out _).mono ?_
    rintro e w1 ⟨rfl, rfl⟩
    go_wp2_with fail
    refine (HB.out _).mono ?_
    rintro e w1 ⟨rfl, rfl⟩
    go_wp2_with fail
    refine (HC.out _).mono ?_
    rintro e w1 ⟨rfl, rfl⟩
    go_wp2
    go_ret2
    exact ⟨rfl, rfl⟩
  · rw [if_neg h, if_neg h]
    by_cases ha : InT a
    · have HA := Lib.hid fun W => calls_bool (refIn_any a W) (decide_eq_true ha)
      by_cases hb : InT b
      · have HB := Lib.hid fun W => calls_bool (refIn_any b W) (decide_eq_true hb)
        have HC := Lib.hid fun W => calls_bool (refIn_any (a + b) W) (decide_eq_false fun hc => h ⟨ha, hb, hc⟩)
        obtain ⟨a1, a2⟩ := ha
        obtain ⟨b1, b2⟩ := hb
        clear h
        go_enter Tryd.func16, Tryd.ntmps16
        go_wp2_with fail
        refine (HA.out _).mono ?_
        rintro e w1 ⟨rfl, rfl⟩
        go_wp2_with fail
        refine (HB.out _).mono ?_
        rintro e w1 ⟨rfl, rfl⟩
        go_wp2_with fail
        refine (HC.out _).mono ?_
        rintro e w1 ⟨rfl, rfl⟩
        go_wp2
        go_ret2
        exact ⟨rfl, rfl⟩
      · have HB := Lib.hid fun W => calls_bool (refIn_any b W) (decide_eq_false hb)
        clear h ha hb
        go_enter Tryd.func16, Tryd.ntmps16
        go_wp2_with fail
        refine (HA.out _).mono ?_
        rintro e w1 ⟨rfl, rfl⟩
        go_wp2_with fail
        refine (HB.out _).mono ?_
        rintro e w1 ⟨rfl, rfl⟩
        go_wp2
        go_ret2
        exact ⟨rfl, rfl⟩
    · have HA := Lib.hid fun W => calls_bool (refIn_any a W) (decide_eq_false ha)
      clear h ha
      go_enter Tryd.func16, Tryd.ntmps16
      go_wp2_with fail
      refine (HA.out _).mono ?_
      rintro e w1 ⟨rfl, rfl⟩
      go_wp2
      go_ret2
      exact ⟨rfl, rfl⟩
end Go.Proofs.YtkpbkgfmdjhbpaaDoor
