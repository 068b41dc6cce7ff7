/- The contracts of the reference's days of a month. -/
import Derived.Test.YtkpbkgfmdjhbpabDoorRefClock
import Derived.Test.YtkpbkgfmdjhbpabDoorMom
import Derived.Deep.QuietTactic
import Derived.BigQuiet
namespace Go.Proofs.YtkpbkgfmdjhbpabDoor
open Go.RowKit

namespace Cv
theorem len_bd (y m : Int) (h1 : 1 ≤ m) (h2 : m ≤ 12) : 28 ≤ len y m ∧ len y m ≤ 31 := by
  have hm : m = 1 ∨ m = 2 ∨ m = 3 ∨ m = 4 ∨ m = 5 ∨ m = 6 ∨ m = 7 ∨ m = 8 ∨ m = 9 ∨ m = 10 ∨ m = 11 ∨ m = 12 := by omega
  unfold len
  split
  · omega
  · rcases hm with rfl | rfl | rfl | rfl | rfl | rfl | rfl | rfl | rfl | rfl | rfl | rfl <;> decide
theorem len_pos (y m : Int) (h1 : 1 ≤ m) (h2 : m ≤ 12) : 28 ≤ len y m := (len_bd y m h1 h2).1
theorem len_le (y m : Int) (h1 : 1 ≤ m) (h2 : m ≤ 12) : len y m ≤ 31 := (len_bd y m h1 h2).2
end Cv
theorem refLength_bad (y m : Int) (w : World) (h : ¬ InCal y m) :
    Calls Tryd.prog 147 #[.int .i64 y, .int .i64 m] w fun e w' => e = .returned (.tuple #[.int .i64 0, .int .i64 1]) ∧ w = w' := by
  have h' : y < 1 ∨ 9999 < y ∨ m < 1 ∨ 12 < m := by unfold InCal at h; omega
  clear h
  by_cases h1 : y < 1
  · clear h'
    go_enter Tryd.func147, Tryd.ntmps147
    go_wp2
    go_ret2
    exact ⟨rfl, rfl⟩
  by_cases h2 : 9999 < y
  · clear h'
    go_enter Tryd.func147, Tryd.ntmps147
    go_wp2
    go_ret2
    exact ⟨rfl, rfl⟩
  by_cases h3 : m < 1
  · clear h'
    go_enter Tryd.func147, Tryd.ntmps147
    go_wp2
    go_ret2
    exact ⟨rfl, rfl⟩
  have h4 : 12 < m := by omega
  clear h'
  go_enter Tryd.func147, Tryd.ntmps147
  go_wp2
  go_ret2
  exact ⟨rfl, rfl⟩

theorem refCheck_ok (y m d : Int) (w : World) (h : Cv.Valid y m d) :
    Calls Tryd.prog 184 #[.agg #[.int .i64 y, .int .i64 m, .int .i64 d]] w fun e w' => e = .returned (.int .i64 0) ∧ Below w.heap.size w w' := by
  obtain ⟨h1, h2, h3, h4, h5, h6⟩ := h
  have hL := fun W => refLength_ok y m W ⟨h1, h2, h3, h4⟩
  obtain ⟨N, hN⟩ : ∃ N, Cv.len y m = N := ⟨_, rfl⟩
  rw [hN] at h6
  simp only [hN] at hL
  have HL := Lib.hid hL
  clear hL hN
  go_enter Tryd.func184, Tryd.ntmps184
  go_wp2_with fail
  refine (HL.out _).mono ?_
  rintro e w1 ⟨rfl, rfl⟩
  go_wp2
  go_ret
  exact ⟨rfl, (Below.refl _ _).alloc (Nat.le_refl _) _⟩

theorem refWeekday_any (n : Int) (w : World) :
    Calls Tryd.prog 149 #[.int .i64 n] w fun e w' => e = .returned (.int .i64 (dow n)) ∧ w' = w := by
  by_cases hp : 0 ≤ n
  · have HD : Hid (dow n = (n % 7 + 4) % 7) := by show dow n = _; rfl
    go_enter Tryd.func149, Tryd.ntmps149
    go_wp2
    go_ret
    exact ⟨ret_int (by rw [HD.out]), rfl⟩
  · obtain ⟨u, rfl⟩ : ∃ u, n = -u := ⟨-n, by omega⟩
    have hu : 0 < u := by omega
    have e2 : (-u).tmod 7 = -(u % 7) := by rw [Int.neg_tmod, Int.tmod_eq_emod_of_nonneg (by omega)]
    have HD : Hid (dow (-u) = ((-u) % 7 + 4) % 7) := by show dow (-u) = _; rfl
    by_cases hz : u % 7 = 0
    · have hneg : ¬ (-(u % 7) < 0) := by omega
      have HZ := Lib.hid hz
      clear hz hp
      go_enter Tryd.func149, Tryd.ntmps149
      go_wp2
      go_ret
      exact ⟨ret_int (by rw [HD.out]; have := HZ.out; omega), rfl⟩
    · have hneg : -(u % 7) < 0 := by omega
      have HZ := Lib.hid hz
      clear hz hp
      go_enter Tryd.func149, Tryd.ntmps149
      go_wp2
      go_ret
      exact ⟨ret_int (by rw [HD.out]; have := HZ.out; omega), rfl⟩

theorem num_day (y m d : Int) : Cv.num y m d = Cv.num y m 1 + d - 1 := by unfold Cv.num; omega
set_option maxHeartbeats 1000000 in
theorem refDays_ok (y m d : Int) (w : World) (h : Cv.Valid y m d) :
    Calls Tryd.prog 148 #[.agg #[.int .i64 y, .int .i64 m, .int .i64 d]] w fun e w' => e = .returned (.tuple #[.int .i64 (Cv.num y m d), .int .i64 0]) ∧ Below w.heap.size w w' := by
  have HC := Lib.hid fun W => refCheck_ok y m d W h
  have h31 := valid_31 h
  have hnb := num_bd y m d h
  have hX := num_day y m d
  obtain ⟨h1, h2, h3, h4, h5, h6⟩ := h
  have HF := Lib.hid fun W => refFirst_ok y W h1 (by omega)
  have HL := Lib.hid fun (k : Int) (a : 1 ≤ k) (b : k ≤ 12) W => refLength_ok y k W ⟨h1, h2, a, b⟩
  have HS := Lib.hid fun (k : Int) (a : 1 ≤ k) (b : k < 12) => Cv.num_month y k a b
  obtain ⟨f, hf⟩ : ∃ f : Int → Int, (fun k => Cv.num y k 1) = f := ⟨_, rfl⟩
  have HF1 : Hid (∀ k, Cv.num y k 1 = f k) := by intro k; rw [← hf]
  have hb : ∀ k, 1 ≤ k → k ≤ 12 → -719162 ≤ Cv.num y k 1 ∧ Cv.num y k 1 < 2932897 := fun k a b => num_bd y k 1 ⟨h1, h2, a, b, by omega, by have := Cv.len_pos y k a b; omega⟩
  have HBd := Lib.hid hb
  have HX := Lib.hid hX
  obtain ⟨d1, d2⟩ := h31
  obtain ⟨n1, n2⟩ := hnb
  clear hf hb hX h6
  go_enter Tryd.func148, Tryd.ntmps148
  go_wp2_with fail
  refine (HC.out _).mono ?_
  rintro e w1 ⟨rfl, hb1⟩
  obtain ⟨c1, f1⟩ := bcell hb1
  have HB := Lib.hid (((Below.refl w.heap.size w).alloc (Nat.le_refl _) (.cells #[.int .i64 y, .int .i64 m, .int .i64 d] 217)).trans (hb1.mono (by simp)))
  have z1 : w.heap.size < w1.heap.size := by have := hb1.size; simp at this; omega
  clear hb1
  go_wp2_with fail
  refine (HF.out _).mono ?_
  rintro e w2 ⟨rfl, rfl⟩
  go_wp2_with fail
  go_loop [4, 6] (fun a i => ∃ k v : Int, 1 ≤ k ∧ k ≤ m ∧ i = .int .i64 k ∧ a = .int .i64 v ∧ Hid (v = Cv.num y k 1)) (fun _ i => (m - intOf i).toNat)
  case atStart => exact ⟨1, _, by omega, by omega, rfl, rfl, rfl⟩
  case round =>
    obtain ⟨k, v, k1, k2, rfl, rfl, HV⟩ := hrel
    have hbv := HBd.out k k1 (by omega)
    rw [← HV.out] at hbv
    obtain ⟨v1, v2⟩ := hbv
    by_cases hlt : k < m
    · have hbl := Cv.len_pos y k k1 (by omega)
      have hl31 := Cv.len_le y k k1 (by omega)
      have hLk := fun W => HL.out k k1 (by omega) W
      have hs := HS.out k k1 (by omega)
      obtain ⟨l, hl⟩ : ∃ l, Cv.len y k = l := ⟨_, rfl⟩
      simp only [hl] at hLk
      rw [hl] at hbl hl31 hs
      have HLk := Lib.hid hLk
      have HV2 : Hid (v + l = Cv.num y (k + 1) 1) := by show v + l = _; rw [hs, ← HV.out]
      clear hLk hs hl
      go_wp2_with fail
      refine (HLk.out _).mono ?_
      rintro e w2 ⟨rfl, rfl⟩
      go_wp2
      go_round
      case rel => exact ⟨k + 1, v + l, by omega, by omega, rfl, rfl, HV2⟩
      case measure => simp [intOf]; omega
    · obtain rfl : k = m := by omega
      go_wp2
      go_ret2
      exact ⟨ret_int22 (by rw [HX.out, ← HV.out]) rfl, HB.out⟩

theorem refDayCheck_ok (k n d : Int) (w : World) (h : Dy.Ok k n d) :
    Calls Tryd.prog 146 #[.agg #[.int .u8 k, .int .i64 n, .int .i64 d]] w fun e w' => e = .returned (.int .i64 0) ∧ Below w.heap.size w w' := by
  rcases h with ⟨rfl, h2, h3, rfl⟩ | ⟨rfl, rfl, h2, h3⟩ | ⟨rfl | rfl, h2, h3, h4, h5⟩
  all_goals
    go_enter Tryd.func146, Tryd.ntmps146
    go_wp2
    go_ret
    exact ⟨rfl, (Below.refl _ _).alloc (Nat.le_refl _) _⟩
set_option maxHeartbeats 1000000 in
theorem refDayCheck_bad (k n d : Int) (w : World) (h0 : 0 ≤ k) (h : ¬ Dy.Ok k n d) :
    Calls Tryd.prog 146 #[.agg #[.int .u8 k, .int .i64 n, .int .i64 d]] w fun e w' => e = .returned (.int .i64 2) ∧ Below w.heap.size w w' := by
  have hk : k = 0 ∨ k = 1 ∨ k = 2 ∨ k = 3 ∨ 3 < k := by omega
  unfold Dy.Ok at h
  have hn : (1 ≤ n ∧ n ≤ 31) ∨ n < 1 ∨ (1 ≤ n ∧ 31 < n) := by omega
  have hd : (0 ≤ d ∧ d ≤ 6) ∨ d < 0 ∨ (0 ≤ d ∧ 6 < d) := by omega
  rcases hk with rfl | rfl | rfl | rfl | hk
  · rcases hn with ⟨n1, n2⟩ | n1 | ⟨n1, n2⟩
    · have q : (d == 0) = false := by rw [beq_eq_false_iff_ne]; omega
      rcases hd with ⟨d1, d2⟩ | d1 | ⟨d1, d2⟩
      all_goals
        clear h
        go_enter Tryd.func146, Tryd.ntmps146
        go_wp2
        go_ret
        exact ⟨rfl, (Below.refl _ _).alloc (Nat.le_refl _) _⟩
    all_goals
      rcases hd with ⟨d1, d2⟩ | d1 | ⟨d1, d2⟩
      all_goals
        clear h
        go_enter Tryd.func146, Tryd.ntmps146
        go_wp2
        go_ret
        exact ⟨rfl, (Below.refl _ _).alloc (Nat.le_refl _) _⟩
  · by_cases hz : n = 0
    · subst hz
      rcases hd with ⟨d1, d2⟩ | d1 | ⟨d1, d2⟩
      · omega
      all_goals
        clear h hn
        go_enter Tryd.func146, Tryd.ntmps146
        go_wp2
        go_ret
        exact ⟨rfl, (Below.refl _ _).alloc (Nat.le_refl _) _⟩
    · have q : (n == 0) = false := by rw [beq_eq_false_iff_ne]; omega
      rcases hn with ⟨n1, n2⟩ | n1 | ⟨n1, n2⟩
      all_goals
        rcases hd with ⟨d1, d2⟩ | d1 | ⟨d1, d2⟩
        all_goals
          clear h hz
          go_enter Tryd.func146, Tryd.ntmps146
          go_wp2
          go_ret
          exact ⟨rfl, (Below.refl _ _).alloc (Nat.le_refl _) _⟩
  iterate 2
    · rcases hn with ⟨n1, n2⟩ | n1 | ⟨n1, n2⟩
      all_goals
        rcases hd with ⟨d1, d2⟩ | d1 | ⟨d1, d2⟩
        all_goals
          first
          | omega
          | (clear h
             go_enter Tryd.func146, Tryd.ntmps146
             go_wp2
             go_ret
             exact ⟨rfl, (Below.refl _ _).alloc (Nat.le_refl _) _⟩)
  · have q0 : (k == 0) = false := by rw [beq_eq_false_iff_ne]; omega
    have q1 : (k == 1) = false := by rw [beq_eq_false_iff_ne]; omega
    have q2 : (k == 2) = false := by rw [beq_eq_false_iff_ne]; omega
    have q3 : (k == 3) = false := by rw [beq_eq_false_iff_ne]; omega
    rcases hn with ⟨n1, n2⟩ | n1 | ⟨n1, n2⟩
    all_goals
      rcases hd with ⟨d1, d2⟩ | d1 | ⟨d1, d2⟩
      all_goals
        clear h hk
        go_enter Tryd.func146, Tryd.ntmps146
        go_wp2
        go_ret
        exact ⟨rfl, (Below.refl _ _).alloc (Nat.le_refl _) _⟩

theorem refIn_form (k n d y m : Int) (w : World) (h0 : 0 ≤ k) (h : ¬ Dy.Ok k n d) :
    Calls Tryd.prog 94 #[.agg #[.int .u8 k, .int .i64 n, .int .i64 d], .int .i64 y, .int .i64 m] w fun e w' => e = .returned (.tuple #[.int .i64 0, .int .i64 2]) ∧ Below w.heap.size w w' := by
  have HC := Lib.hid fun W => refDayCheck_bad k n d W h0 h
  clear h
  go_enter Tryd.func94, Tryd.ntmps94
  go_wp2_with fail
  refine (HC.out _).mono ?_
  rintro e w1 ⟨rfl, hb1⟩
  have HB := Lib.hid (below_new (hb1.mono (by simp) : Below (w.heap.size + 1) (w.alloc (.cells #[.int .u8 k, .int .i64 n, .int .i64 d] 83)) w1))
  clear hb1
  go_wp2
  go_ret2
  exact ⟨rfl, HB.out⟩
theorem refIn_range (k n d y m : Int) (w : World) (h : Dy.Ok k n d) (hc : ¬ InCal y m) :
    Calls Tryd.prog 94 #[.agg #[.int .u8 k, .int .i64 n, .int .i64 d], .int .i64 y, .int .i64 m] w fun e w' => e = .returned (.tuple #[.int .i64 0, .int .i64 1]) ∧ Below w.heap.size w w' := by
  have HC := Lib.hid fun W => refDayCheck_ok k n d W h
  have HL := Lib.hid fun W => refLength_bad y m W hc
  clear h hc
  go_enter Tryd.func94, Tryd.ntmps94
  go_wp2_with fail
  refine (HC.out _).mono ?_
  rintro e w1 ⟨rfl, hb1⟩
  have HB := Lib.hid (below_new (hb1.mono (by simp) : Below (w.heap.size + 1) (w.alloc (.cells #[.int .u8 k, .int .i64 n, .int .i64 d] 83)) w1))
  clear hb1
  go_wp2_with fail
  refine (HL.out _).mono ?_
  rintro e w2 ⟨rfl, rfl⟩
  go_wp2
  go_ret2
  exact ⟨rfl, HB.out⟩
theorem refIn_none (k n d y m : Int) (w : World) (h : Dy.Ok k n d) (hc : InCal y m) (hn : n > Cv.len y m) :
    Calls Tryd.prog 94 #[.agg #[.int .u8 k, .int .i64 n, .int .i64 d], .int .i64 y, .int .i64 m] w fun e w' => e = .returned (.tuple #[.int .i64 0, .int .i64 3]) ∧ Below w.heap.size w w' := by
  have HC := Lib.hid fun W => refDayCheck_ok k n d W h
  have hL := fun W => refLength_ok y m W hc
  obtain ⟨L, hl⟩ : ∃ L, Cv.len y m = L := ⟨_, rfl⟩
  rw [hl] at hn
  simp only [hl] at hL
  have HL := Lib.hid hL
  clear h hc hL hl
  go_enter Tryd.func94, Tryd.ntmps94
  go_wp2_with fail
  refine (HC.out _).mono ?_
  rintro e w1 ⟨rfl, hb1⟩
  obtain ⟨c1, f1⟩ := bcell hb1
  have z1 : w.heap.size < w1.heap.size := by have := hb1.size; simp at this; omega
  have HB := Lib.hid (below_new (hb1.mono (by simp) : Below (w.heap.size + 1) (w.alloc (.cells #[.int .u8 k, .int .i64 n, .int .i64 d] 83)) w1))
  clear hb1
  go_wp2_with fail
  refine (HL.out _).mono ?_
  rintro e w2 ⟨rfl, rfl⟩
  go_wp2
  go_ret2
  exact ⟨rfl, HB.out⟩
set_option maxHeartbeats 1000000 in
set_option maxRecDepth 100000 in
theorem refIn_k0 (n  y m : Int) (w : World) (hc : InCal y m) (h1 : 1 ≤ n) (h2 : n ≤ 31) (hn : n ≤ Cv.len y m) :
    Calls Tryd.prog 94 #[.agg #[.int .u8 0, .int .i64 n, .int .i64 0], .int .i64 y, .int .i64 m] w fun e w' => e = .returned (.tuple #[.int .i64 (Dy.inS 0 n 0 y m).1, .int .i64 (Dy.inS 0 n 0 y m).2]) ∧ Below w.heap.size w w' := by
  have hok : Dy.Ok 0 n 0 := .inl ⟨rfl, h1, h2, rfl⟩
  have hlp := Cv.len_pos y m hc.2.2.1 hc.2.2.2
  have hl31 := Cv.len_le y m hc.2.2.1 hc.2.2.2
  have hS := inS_ok 0 n 0 y m hok hc (by omega)
  have hv : Cv.Valid y m n := ⟨hc.1, hc.2.1, hc.2.2.1, hc.2.2.2, by omega, by omega⟩
  have hv1 : Cv.Valid y m 1 := ⟨hc.1, hc.2.1, hc.2.2.1, hc.2.2.2, by omega, by omega⟩
  obtain ⟨b1, b2⟩ := num_bd y m 1 hv1
  obtain ⟨b3, b4⟩ := num_bd y m n hv
  have hd1 := num_day y m n
  have hr : Dy.res 0 n 0 y m = Cv.num y m n := by unfold Dy.res Dy.base; simp
  rw [hS, hr]
  have hC := fun W => refDayCheck_ok 0 n 0 W hok
  have hL := fun W => refLength_ok y m W hc
  have hD := fun W => refDays_ok y m 1 W hv1
  obtain ⟨L, hl⟩ : ∃ L, Cv.len y m = L := ⟨_, rfl⟩
  obtain ⟨F, hF⟩ : ∃ F, Cv.num y m 1 = F := ⟨_, rfl⟩
  simp only [hl] at hL hd1 b3 b4 hlp hl31 hn ⊢
  simp only [hF] at hD hd1 b1 b2
  obtain ⟨B, hB⟩ : ∃ B, Cv.num y m n = B := ⟨_, rfl⟩
  rw [hB] at hd1 b3 b4 ⊢
  obtain ⟨E, hE⟩ : ∃ E, B = E := ⟨_, rfl⟩
  rw [hE]
  have hO : ∃ a b : Int, ((if -719162 ≤ E ∧ E < 2932897 then E else 0) = a ∧ (if -719162 ≤ E ∧ E < 2932897 then (0 : Int) else 1) = b) ∧ ((b = 0 ∧ a = E ∧ -719162 ≤ E ∧ E < 2932897) ∨ (b = 1 ∧ a = 0 ∧ (E < -719162 ∨ 2932897 ≤ E))) := by
    by_cases h : -719162 ≤ E ∧ E < 2932897
    · exact ⟨E, 0, ⟨if_pos h, if_pos h⟩, .inl ⟨rfl, rfl, h.1, h.2⟩⟩
    · exact ⟨0, 1, ⟨if_neg h, if_neg h⟩, .inr ⟨rfl, rfl, by omega⟩⟩
  obtain ⟨ra, rb, ⟨e1, e2⟩, hcase⟩ := hO
  rw [e1, e2]
  have HC := Lib.hid hC
  have HL := Lib.hid hL
  have HD := Lib.hid hD
  have HE := Lib.hid hE
  have q1 : F + n - 1 = B := by omega
  have HQ := Lib.hid q1
  have q0 : n ≤ L := by omega
  have HCase := Lib.hid hcase
  clear hok hS hv hv1 hr hC hL hD hl hF hB hd1 hE e1 e2 q1 hcase
  go_enter Tryd.func94, Tryd.ntmps94
  go_wp2_with fail
  refine (HC.out _).mono ?_
  rintro e w1 ⟨rfl, hb1⟩
  obtain ⟨c1, f1⟩ := bcell hb1
  have HB := Lib.hid (below_new (hb1.mono (by simp) : Below (w.heap.size + 1) (w.alloc (.cells #[.int .u8 0, .int .i64 n, .int .i64 0] 83)) w1))
  have z1 : w.heap.size < w1.heap.size := by have := hb1.size; simp at this; omega
  clear hb1
  go_wp2_with fail
  refine (HL.out _).mono ?_
  rintro e w2 ⟨rfl, rfl⟩
  go_wp2_with fail
  refine (HD.out _).mono ?_
  rintro e w2 ⟨rfl, hb2⟩
  obtain ⟨c2, f2⟩ := bcell hb2
  have z2 : w1.heap.size ≤ w2.heap.size := by have := hb2.size; simpa using this
  replace HB := Lib.hid (below_then HB.out hb2)
  clear hb2
  have HCell : Hid (w2.cell? ⟨w.heap.size, 2, none⟩ = some (.int .i64 0)) := (c2 _ _ (by omega)).trans ((c1 _ _ (by simp)).trans (cell_of_row _ w.heap.size 2 _ _ _ (heap_alloc_new w _)))
  go_wp2_with fail
  rw [HQ.out]
  go_loopw [12] (fun t wr => t = .int .i64 B ∧ Drew w2 wr) (fun _ _ => 0)
  case atStart => exact ⟨rfl, Drew.refl _⟩
  case round =>
    obtain ⟨rfl, hdr⟩ := hrel
    rcases HCase.out with ⟨h1, h2, r1, r2⟩ | ⟨h1, h2, r1⟩
    · have HOf := Lib.hid fun W => refOf_ok E W r1 r2
      have H1 := Lib.hid h1
      have H2 := Lib.hid h2
      clear h1 h2 HCase
      go_wp2_with fail
      go_quiet (fail)
      go_wp2_with fail
      rw [HE.out]
      refine (HOf.out _).mono ?_
      rintro e w4 ⟨rfl, hb4⟩
      go_wp2
      go_ret2
      exact ⟨ret_int22 (by rw [H2.out]) (by rw [H1.out]), by first | exact (below_then (below_drew HB.out (hdr.drewN _)) hb4).alloc (Nat.le_trans (Nat.le_trans HB.out.size (hdr.drewN _ |>.below 0).size) hb4.size) _⟩
    · have HOf := Lib.hid fun W => refOf_bad E W r1
      have H1 := Lib.hid h1
      have H2 := Lib.hid h2
      clear h1 h2 HCase
      go_wp2_with fail
      go_quiet (fail)
      go_wp2_with fail
      rw [HE.out]
      refine (HOf.out _).mono ?_
      rintro e w4 ⟨rfl, hb4⟩
      go_wp2
      go_ret2
      exact ⟨ret_int22 (by rw [H2.out]) (by rw [H1.out]), by first | exact (below_then (below_drew HB.out (hdr.drewN _)) hb4).alloc (Nat.le_trans (Nat.le_trans HB.out.size (hdr.drewN _ |>.below 0).size) hb4.size) _⟩
set_option maxHeartbeats 1000000 in
set_option maxRecDepth 100000 in
theorem refIn_k1 (d  y m : Int) (w : World) (hc : InCal y m) (d0 : 0 ≤ d) (d1 : d ≤ 6) :
    Calls Tryd.prog 94 #[.agg #[.int .u8 1, .int .i64 0, .int .i64 d], .int .i64 y, .int .i64 m] w fun e w' => e = .returned (.tuple #[.int .i64 (Dy.inS 1 0 d y m).1, .int .i64 (Dy.inS 1 0 d y m).2]) ∧ Below w.heap.size w w' := by
  have hok : Dy.Ok 1 0 d := .inr (.inl ⟨rfl, rfl, d0, d1⟩)
  have hlp := Cv.len_pos y m hc.2.2.1 hc.2.2.2
  have hl31 := Cv.len_le y m hc.2.2.1 hc.2.2.2
  have hS := inS_ok 1 0 d y m hok hc (by omega)
  have hv : Cv.Valid y m (Cv.len y m) := ⟨hc.1, hc.2.1, hc.2.2.1, hc.2.2.2, by omega, by omega⟩
  have hv1 : Cv.Valid y m 1 := ⟨hc.1, hc.2.1, hc.2.2.1, hc.2.2.2, by omega, by omega⟩
  obtain ⟨b1, b2⟩ := num_bd y m 1 hv1
  obtain ⟨b3, b4⟩ := num_bd y m (Cv.len y m) hv
  have hd1 := num_day y m (Cv.len y m)
  have hr : Dy.res 1 0 d y m = Cv.num y m (Cv.len y m) - (dow (Cv.num y m (Cv.len y m)) - d) % 7 := by unfold Dy.res Dy.base; simp
  rw [hS, hr]
  have hC := fun W => refDayCheck_ok 1 0 d W hok
  have hL := fun W => refLength_ok y m W hc
  have hD := fun W => refDays_ok y m 1 W hv1
  obtain ⟨L, hl⟩ : ∃ L, Cv.len y m = L := ⟨_, rfl⟩
  obtain ⟨F, hF⟩ : ∃ F, Cv.num y m 1 = F := ⟨_, rfl⟩
  simp only [hl] at hL hd1 b3 b4 hlp hl31 ⊢
  simp only [hF] at hD hd1 b1 b2
  obtain ⟨B, hB⟩ : ∃ B, Cv.num y m L = B := ⟨_, rfl⟩
  rw [hB] at hd1 b3 b4 ⊢
  obtain ⟨J, hJ⟩ : ∃ J, (dow B - d) % 7 = J := ⟨_, rfl⟩
  have hj1 : 0 ≤ J := by omega
  have hj2 : J ≤ 6 := by omega
  have HD1 : Hid (∀ j, 0 ≤ j → j < J → ((dow (B - j) : Int) != d) = true) := by
    intro j a b
    have : ¬ dow (B - j) = d := by unfold dow at hJ ⊢; omega
    simpa using this
  have HD2 : Hid (((dow (B - J) : Int) != d) = false) := by
    have : dow (B - J) = d := by unfold dow at hJ ⊢; omega
    show ((dow (B - J) : Int) != d) = false
    simpa using this
  rw [hJ]
  obtain ⟨E, hE⟩ : ∃ E, B - J = E := ⟨_, rfl⟩
  rw [hE]
  have hO : ∃ a b : Int, ((if -719162 ≤ E ∧ E < 2932897 then E else 0) = a ∧ (if -719162 ≤ E ∧ E < 2932897 then (0 : Int) else 1) = b) ∧ ((b = 0 ∧ a = E ∧ -719162 ≤ E ∧ E < 2932897) ∨ (b = 1 ∧ a = 0 ∧ (E < -719162 ∨ 2932897 ≤ E))) := by
    by_cases h : -719162 ≤ E ∧ E < 2932897
    · exact ⟨E, 0, ⟨if_pos h, if_pos h⟩, .inl ⟨rfl, rfl, h.1, h.2⟩⟩
    · exact ⟨0, 1, ⟨if_neg h, if_neg h⟩, .inr ⟨rfl, rfl, by omega⟩⟩
  obtain ⟨ra, rb, ⟨e1, e2⟩, hcase⟩ := hO
  rw [e1, e2]
  have HC := Lib.hid hC
  have HL := Lib.hid hL
  have HD := Lib.hid hD
  have HE := Lib.hid hE
  have q1 : F + L - 1 = B := by omega
  have HQ := Lib.hid q1
  have q0 : 0 ≤ L := by omega
  have HCase := Lib.hid hcase
  clear hok hS hv hv1 hr hC hL hD hl hF hB hd1 hE e1 e2 q1 hcase hJ
  go_enter Tryd.func94, Tryd.ntmps94
  go_wp2_with fail
  refine (HC.out _).mono ?_
  rintro e w1 ⟨rfl, hb1⟩
  obtain ⟨c1, f1⟩ := bcell hb1
  have HB := Lib.hid (below_new (hb1.mono (by simp) : Below (w.heap.size + 1) (w.alloc (.cells #[.int .u8 1, .int .i64 0, .int .i64 d] 83)) w1))
  have z1 : w.heap.size < w1.heap.size := by have := hb1.size; simp at this; omega
  clear hb1
  go_wp2_with fail
  refine (HL.out _).mono ?_
  rintro e w2 ⟨rfl, rfl⟩
  go_wp2_with fail
  refine (HD.out _).mono ?_
  rintro e w2 ⟨rfl, hb2⟩
  obtain ⟨c2, f2⟩ := bcell hb2
  have z2 : w1.heap.size ≤ w2.heap.size := by have := hb2.size; simpa using this
  replace HB := Lib.hid (below_then HB.out hb2)
  clear hb2
  have HCell : Hid (w2.cell? ⟨w.heap.size, 2, none⟩ = some (.int .i64 d)) := (c2 _ _ (by omega)).trans ((c1 _ _ (by simp)).trans (cell_of_row _ w.heap.size 2 _ _ _ (heap_alloc_new w _)))
  go_wp2_with fail
  rw [HQ.out]
  go_loopw [12] (fun t wr => ∃ j : Int, 0 ≤ j ∧ j ≤ J ∧ t = .int .i64 (B - j) ∧ Drew w2 wr) (fun t _ => (intOf t - (B - J)).toNat)
  case atStart => exact ⟨0, by omega, by omega, by simp, Drew.refl _⟩
  case round =>
    obtain ⟨j, j0, j1, rfl, hdr⟩ := hrel
    have cw := (hdr.cell ⟨w.heap.size, 2, none⟩).trans HCell.out
    by_cases hj : j < J
    · have hq := HD1.out j j0 hj
      go_wp2_with fail
      go_quiet ((go_at_call 149; exact Calls.quiet_of_same (refWeekday_any _ _)))
      go_wp2
      go_roundw
      case rel => exact ⟨j + 1, by omega, by omega, congrArg (Value.int .i64) (by omega), by first | exact hdr.drewN _ | exact hdr⟩
      case measure => simp [intOf]; omega
    obtain rfl : j = J := by omega
    have hq := HD2.out
    rcases HCase.out with ⟨h1, h2, r1, r2⟩ | ⟨h1, h2, r1⟩
    · have HOf := Lib.hid fun W => refOf_ok E W r1 r2
      have H1 := Lib.hid h1
      have H2 := Lib.hid h2
      clear h1 h2 HCase
      go_wp2_with fail
      go_quiet ((go_at_call 149; exact Calls.quiet_of_same (refWeekday_any _ _)))
      go_wp2_with fail
      rw [HE.out]
      refine (HOf.out _).mono ?_
      rintro e w4 ⟨rfl, hb4⟩
      go_wp2
      go_ret2
      exact ⟨ret_int22 (by rw [H2.out]) (by rw [H1.out]), by first | exact (below_then (below_drew HB.out (hdr.drewN _)) hb4).alloc (Nat.le_trans (Nat.le_trans HB.out.size (hdr.drewN _ |>.below 0).size) hb4.size) _⟩
    · have HOf := Lib.hid fun W => refOf_bad E W r1
      have H1 := Lib.hid h1
      have H2 := Lib.hid h2
      clear h1 h2 HCase
      go_wp2_with fail
      go_quiet ((go_at_call 149; exact Calls.quiet_of_same (refWeekday_any _ _)))
      go_wp2_with fail
      rw [HE.out]
      refine (HOf.out _).mono ?_
      rintro e w4 ⟨rfl, hb4⟩
      go_wp2
      go_ret2
      exact ⟨ret_int22 (by rw [H2.out]) (by rw [H1.out]), by first | exact (below_then (below_drew HB.out (hdr.drewN _)) hb4).alloc (Nat.le_trans (Nat.le_trans HB.out.size (hdr.drewN _ |>.below 0).size) hb4.size) _⟩
set_option maxHeartbeats 1000000 in
set_option maxRecDepth 100000 in
theorem refIn_k2 (n d  y m : Int) (w : World) (hc : InCal y m) (h1 : 1 ≤ n) (h2 : n ≤ 31) (hn : n ≤ Cv.len y m) (d0 : 0 ≤ d) (d1 : d ≤ 6) :
    Calls Tryd.prog 94 #[.agg #[.int .u8 2, .int .i64 n, .int .i64 d], .int .i64 y, .int .i64 m] w fun e w' => e = .returned (.tuple #[.int .i64 (Dy.inS 2 n d y m).1, .int .i64 (Dy.inS 2 n d y m).2]) ∧ Below w.heap.size w w' := by
  have hok : Dy.Ok 2 n d := .inr (.inr ⟨.inl rfl, h1, h2, d0, d1⟩)
  have hlp := Cv.len_pos y m hc.2.2.1 hc.2.2.2
  have hl31 := Cv.len_le y m hc.2.2.1 hc.2.2.2
  have hS := inS_ok 2 n d y m hok hc (by omega)
  have hv : Cv.Valid y m n := ⟨hc.1, hc.2.1, hc.2.2.1, hc.2.2.2, by omega, by omega⟩
  have hv1 : Cv.Valid y m 1 := ⟨hc.1, hc.2.1, hc.2.2.1, hc.2.2.2, by omega, by omega⟩
  obtain ⟨b1, b2⟩ := num_bd y m 1 hv1
  obtain ⟨b3, b4⟩ := num_bd y m n hv
  have hd1 := num_day y m n
  have hr : Dy.res 2 n d y m = Cv.num y m n + (d - dow (Cv.num y m n)) % 7 := by unfold Dy.res Dy.base; simp
  rw [hS, hr]
  have hC := fun W => refDayCheck_ok 2 n d W hok
  have hL := fun W => refLength_ok y m W hc
  have hD := fun W => refDays_ok y m 1 W hv1
  obtain ⟨L, hl⟩ : ∃ L, Cv.len y m = L := ⟨_, rfl⟩
  obtain ⟨F, hF⟩ : ∃ F, Cv.num y m 1 = F := ⟨_, rfl⟩
  simp only [hl] at hL hd1 b3 b4 hlp hl31 hn ⊢
  simp only [hF] at hD hd1 b1 b2
  obtain ⟨B, hB⟩ : ∃ B, Cv.num y m n = B := ⟨_, rfl⟩
  rw [hB] at hd1 b3 b4 ⊢
  obtain ⟨J, hJ⟩ : ∃ J, (d - dow B) % 7 = J := ⟨_, rfl⟩
  have hj1 : 0 ≤ J := by omega
  have hj2 : J ≤ 6 := by omega
  have HD1 : Hid (∀ j, 0 ≤ j → j < J → ((dow (B + j) : Int) != d) = true) := by
    intro j a b
    have : ¬ dow (B + j) = d := by unfold dow at hJ ⊢; omega
    simpa using this
  have HD2 : Hid (((dow (B + J) : Int) != d) = false) := by
    have : dow (B + J) = d := by unfold dow at hJ ⊢; omega
    show ((dow (B + J) : Int) != d) = false
    simpa using this
  rw [hJ]
  obtain ⟨E, hE⟩ : ∃ E, B + J = E := ⟨_, rfl⟩
  rw [hE]
  have hO : ∃ a b : Int, ((if -719162 ≤ E ∧ E < 2932897 then E else 0) = a ∧ (if -719162 ≤ E ∧ E < 2932897 then (0 : Int) else 1) = b) ∧ ((b = 0 ∧ a = E ∧ -719162 ≤ E ∧ E < 2932897) ∨ (b = 1 ∧ a = 0 ∧ (E < -719162 ∨ 2932897 ≤ E))) := by
    by_cases h : -719162 ≤ E ∧ E < 2932897
    · exact ⟨E, 0, ⟨if_pos h, if_pos h⟩, .inl ⟨rfl, rfl, h.1, h.2⟩⟩
    · exact ⟨0, 1, ⟨if_neg h, if_neg h⟩, .inr ⟨rfl, rfl, by omega⟩⟩
  obtain ⟨ra, rb, ⟨e1, e2⟩, hcase⟩ := hO
  rw [e1, e2]
  have HC := Lib.hid hC
  have HL := Lib.hid hL
  have HD := Lib.hid hD
  have HE := Lib.hid hE
  have q1 : F + n - 1 = B := by omega
  have HQ := Lib.hid q1
  have q0 : n ≤ L := by omega
  have HCase := Lib.hid hcase
  clear hok hS hv hv1 hr hC hL hD hl hF hB hd1 hE e1 e2 q1 hcase hJ
  go_enter Tryd.func94, Tryd.ntmps94
  go_wp2_with fail
  refine (HC.out _).mono ?_
  rintro e w1 ⟨rfl, hb1⟩
  obtain ⟨c1, f1⟩ := bcell hb1
  have HB := Lib.hid (below_new (hb1.mono (by simp) : Below (w.heap.size + 1) (w.alloc (.cells #[.int .u8 2, .int .i64 n, .int .i64 d] 83)) w1))
  have z1 : w.heap.size < w1.heap.size := by have := hb1.size; simp at this; omega
  clear hb1
  go_wp2_with fail
  refine (HL.out _).mono ?_
  rintro e w2 ⟨rfl, rfl⟩
  go_wp2_with fail
  refine (HD.out _).mono ?_
  rintro e w2 ⟨rfl, hb2⟩
  obtain ⟨c2, f2⟩ := bcell hb2
  have z2 : w1.heap.size ≤ w2.heap.size := by have := hb2.size; simpa using this
  replace HB := Lib.hid (below_then HB.out hb2)
  clear hb2
  have HCell : Hid (w2.cell? ⟨w.heap.size, 2, none⟩ = some (.int .i64 d)) := (c2 _ _ (by omega)).trans ((c1 _ _ (by simp)).trans (cell_of_row _ w.heap.size 2 _ _ _ (heap_alloc_new w _)))
  go_wp2_with fail
  rw [HQ.out]
  go_loopw [12] (fun t wr => ∃ j : Int, 0 ≤ j ∧ j ≤ J ∧ t = .int .i64 (B + j) ∧ Drew w2 wr) (fun t _ => (B + J - intOf t).toNat)
  case atStart => exact ⟨0, by omega, by omega, by simp, Drew.refl _⟩
  case round =>
    obtain ⟨j, j0, j1, rfl, hdr⟩ := hrel
    have cw := (hdr.cell ⟨w.heap.size, 2, none⟩).trans HCell.out
    by_cases hj : j < J
    · have hq := HD1.out j j0 hj
      go_wp2_with fail
      go_quiet ((go_at_call 149; exact Calls.quiet_of_same (refWeekday_any _ _)))
      go_wp2
      go_roundw
      case rel => exact ⟨j + 1, by omega, by omega, congrArg (Value.int .i64) (by omega), by first | exact hdr.drewN _ | exact hdr⟩
      case measure => simp [intOf]; omega
    obtain rfl : j = J := by omega
    have hq := HD2.out
    rcases HCase.out with ⟨h1, h2, r1, r2⟩ | ⟨h1, h2, r1⟩
    · have HOf := Lib.hid fun W => refOf_ok E W r1 r2
      have H1 := Lib.hid h1
      have H2 := Lib.hid h2
      clear h1 h2 HCase
      go_wp2_with fail
      go_quiet ((go_at_call 149; exact Calls.quiet_of_same (refWeekday_any _ _)))
      go_wp2_with fail
      rw [HE.out]
      refine (HOf.out _).mono ?_
      rintro e w4 ⟨rfl, hb4⟩
      go_wp2
      go_ret2
      exact ⟨ret_int22 (by rw [H2.out]) (by rw [H1.out]), by first | exact (below_then (below_drew HB.out (hdr.drewN _)) hb4).alloc (Nat.le_trans (Nat.le_trans HB.out.size (hdr.drewN _ |>.below 0).size) hb4.size) _⟩
    · have HOf := Lib.hid fun W => refOf_bad E W r1
      have H1 := Lib.hid h1
      have H2 := Lib.hid h2
      clear h1 h2 HCase
      go_wp2_with fail
      go_quiet ((go_at_call 149; exact Calls.quiet_of_same (refWeekday_any _ _)))
      go_wp2_with fail
      rw [HE.out]
      refine (HOf.out _).mono ?_
      rintro e w4 ⟨rfl, hb4⟩
      go_wp2
      go_ret2
      exact ⟨ret_int22 (by rw [H2.out]) (by rw [H1.out]), by first | exact (below_then (below_drew HB.out (hdr.drewN _)) hb4).alloc (Nat.le_trans (Nat.le_trans HB.out.size (hdr.drewN _ |>.below 0).size) hb4.size) _⟩
set_option maxHeartbeats 1000000 in
set_option maxRecDepth 100000 in
theorem refIn_k3 (n d  y m : Int) (w : World) (hc : InCal y m) (h1 : 1 ≤ n) (h2 : n ≤ 31) (hn : n ≤ Cv.len y m) (d0 : 0 ≤ d) (d1 : d ≤ 6) :
    Calls Tryd.prog 94 #[.agg #[.int .u8 3, .int .i64 n, .int .i64 d], .int .i64 y, .int .i64 m] w fun e w' => e = .returned (.tuple #[.int .i64 (Dy.inS 3 n d y m).1, .int .i64 (Dy.inS 3 n d y m).2]) ∧ Below w.heap.size w w' := by
  have hok : Dy.Ok 3 n d := .inr (.inr ⟨.inr rfl, h1, h2, d0, d1⟩)
  have hlp := Cv.len_pos y m hc.2.2.1 hc.2.2.2
  have hl31 := Cv.len_le y m hc.2.2.1 hc.2.2.2
  have hS := inS_ok 3 n d y m hok hc (by omega)
  have hv : Cv.Valid y m n := ⟨hc.1, hc.2.1, hc.2.2.1, hc.2.2.2, by omega, by omega⟩
  have hv1 : Cv.Valid y m 1 := ⟨hc.1, hc.2.1, hc.2.2.1, hc.2.2.2, by omega, by omega⟩
  obtain ⟨b1, b2⟩ := num_bd y m 1 hv1
  obtain ⟨b3, b4⟩ := num_bd y m n hv
  have hd1 := num_day y m n
  have hr : Dy.res 3 n d y m = Cv.num y m n - (dow (Cv.num y m n) - d) % 7 := by unfold Dy.res Dy.base; simp
  rw [hS, hr]
  have hC := fun W => refDayCheck_ok 3 n d W hok
  have hL := fun W => refLength_ok y m W hc
  have hD := fun W => refDays_ok y m 1 W hv1
  obtain ⟨L, hl⟩ : ∃ L, Cv.len y m = L := ⟨_, rfl⟩
  obtain ⟨F, hF⟩ : ∃ F, Cv.num y m 1 = F := ⟨_, rfl⟩
  simp only [hl] at hL hd1 b3 b4 hlp hl31 hn ⊢
  simp only [hF] at hD hd1 b1 b2
  obtain ⟨B, hB⟩ : ∃ B, Cv.num y m n = B := ⟨_, rfl⟩
  rw [hB] at hd1 b3 b4 ⊢
  obtain ⟨J, hJ⟩ : ∃ J, (dow B - d) % 7 = J := ⟨_, rfl⟩
  have hj1 : 0 ≤ J := by omega
  have hj2 : J ≤ 6 := by omega
  have HD1 : Hid (∀ j, 0 ≤ j → j < J → ((dow (B - j) : Int) != d) = true) := by
    intro j a b
    have : ¬ dow (B - j) = d := by unfold dow at hJ ⊢; omega
    simpa using this
  have HD2 : Hid (((dow (B - J) : Int) != d) = false) := by
    have : dow (B - J) = d := by unfold dow at hJ ⊢; omega
    show ((dow (B - J) : Int) != d) = false
    simpa using this
  rw [hJ]
  obtain ⟨E, hE⟩ : ∃ E, B - J = E := ⟨_, rfl⟩
  rw [hE]
  have hO : ∃ a b : Int, ((if -719162 ≤ E ∧ E < 2932897 then E else 0) = a ∧ (if -719162 ≤ E ∧ E < 2932897 then (0 : Int) else 1) = b) ∧ ((b = 0 ∧ a = E ∧ -719162 ≤ E ∧ E < 2932897) ∨ (b = 1 ∧ a = 0 ∧ (E < -719162 ∨ 2932897 ≤ E))) := by
    by_cases h : -719162 ≤ E ∧ E < 2932897
    · exact ⟨E, 0, ⟨if_pos h, if_pos h⟩, .inl ⟨rfl, rfl, h.1, h.2⟩⟩
    · exact ⟨0, 1, ⟨if_neg h, if_neg h⟩, .inr ⟨rfl, rfl, by omega⟩⟩
  obtain ⟨ra, rb, ⟨e1, e2⟩, hcase⟩ := hO
  rw [e1, e2]
  have HC := Lib.hid hC
  have HL := Lib.hid hL
  have HD := Lib.hid hD
  have HE := Lib.hid hE
  have q1 : F + n - 1 = B := by omega
  have HQ := Lib.hid q1
  have q0 : n ≤ L := by omega
  have HCase := Lib.hid hcase
  clear hok hS hv hv1 hr hC hL hD hl hF hB hd1 hE e1 e2 q1 hcase hJ
  go_enter Tryd.func94, Tryd.ntmps94
  go_wp2_with fail
  refine (HC.out _).mono ?_
  rintro e w1 ⟨rfl, hb1⟩
  obtain ⟨c1, f1⟩ := bcell hb1
  have HB := Lib.hid (below_new (hb1.mono (by simp) : Below (w.heap.size + 1) (w.alloc (.cells #[.int .u8 3, .int .i64 n, .int .i64 d] 83)) w1))
  have z1 : w.heap.size < w1.heap.size := by have := hb1.size; simp at this; omega
  clear hb1
  go_wp2_with fail
  refine (HL.out _).mono ?_
  rintro e w2 ⟨rfl, rfl⟩
  go_wp2_with fail
  refine (HD.out _).mono ?_
  rintro e w2 ⟨rfl, hb2⟩
  obtain ⟨c2, f2⟩ := bcell hb2
  have z2 : w1.heap.size ≤ w2.heap.size := by have := hb2.size; simpa using this
  replace HB := Lib.hid (below_then HB.out hb2)
  clear hb2
  have HCell : Hid (w2.cell? ⟨w.heap.size, 2, none⟩ = some (.int .i64 d)) := (c2 _ _ (by omega)).trans ((c1 _ _ (by simp)).trans (cell_of_row _ w.heap.size 2 _ _ _ (heap_alloc_new w _)))
  go_wp2_with fail
  rw [HQ.out]
  go_loopw [12] (fun t wr => ∃ j : Int, 0 ≤ j ∧ j ≤ J ∧ t = .int .i64 (B - j) ∧ Drew w2 wr) (fun t _ => (intOf t - (B - J)).toNat)
  case atStart => exact ⟨0, by omega, by omega, by simp, Drew.refl _⟩
  case round =>
    obtain ⟨j, j0, j1, rfl, hdr⟩ := hrel
    have cw := (hdr.cell ⟨w.heap.size, 2, none⟩).trans HCell.out
    by_cases hj : j < J
    · have hq := HD1.out j j0 hj
      go_wp2_with fail
      go_quiet ((go_at_call 149; exact Calls.quiet_of_same (refWeekday_any _ _)))
      go_wp2
      go_roundw
      case rel => exact ⟨j + 1, by omega, by omega, congrArg (Value.int .i64) (by omega), by first | exact hdr.drewN _ | exact hdr⟩
      case measure => simp [intOf]; omega
    obtain rfl : j = J := by omega
    have hq := HD2.out
    rcases HCase.out with ⟨h1, h2, r1, r2⟩ | ⟨h1, h2, r1⟩
    · have HOf := Lib.hid fun W => refOf_ok E W r1 r2
      have H1 := Lib.hid h1
      have H2 := Lib.hid h2
      clear h1 h2 HCase
      go_wp2_with fail
      go_quiet ((go_at_call 149; exact Calls.quiet_of_same (refWeekday_any _ _)))
      go_wp2_with fail
      rw [HE.out]
      refine (HOf.out _).mono ?_
      rintro e w4 ⟨rfl, hb4⟩
      go_wp2
      go_ret2
      exact ⟨ret_int22 (by rw [H2.out]) (by rw [H1.out]), by first | exact (below_then (below_drew HB.out (hdr.drewN _)) hb4).alloc (Nat.le_trans (Nat.le_trans HB.out.size (hdr.drewN _ |>.below 0).size) hb4.size) _⟩
    · have HOf := Lib.hid fun W => refOf_bad E W r1
      have H1 := Lib.hid h1
      have H2 := Lib.hid h2
      clear h1 h2 HCase
      go_wp2_with fail
      go_quiet ((go_at_call 149; exact Calls.quiet_of_same (refWeekday_any _ _)))
      go_wp2_with fail
      rw [HE.out]
      refine (HOf.out _).mono ?_
      rintro e w4 ⟨rfl, hb4⟩
      go_wp2
      go_ret2
      exact ⟨ret_int22 (by rw [H2.out]) (by rw [H1.out]), by first | exact (below_then (below_drew HB.out (hdr.drewN _)) hb4).alloc (Nat.le_trans (Nat.le_trans HB.out.size (hdr.drewN _ |>.below 0).size) hb4.size) _⟩
end Go.Proofs.YtkpbkgfmdjhbpabDoor
