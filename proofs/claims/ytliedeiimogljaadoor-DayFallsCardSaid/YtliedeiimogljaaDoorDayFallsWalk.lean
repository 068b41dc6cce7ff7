/- The walk of the law DayFalls. -/
import Derived.Test.YtliedeiimogljaaDoorDayLives
namespace Go.Proofs.YtliedeiimogljaaDoor
open Go.RowKit

theorem inS_cases (k n d y m : Int) : (∃ b, Dy.inS k n d y m = (0, b) ∧ b ≠ 0) ∨
    (Dy.Ok k n d ∧ InCal y m ∧ n ≤ Cv.len y m ∧ -719162 ≤ Dy.res k n d y m ∧ Dy.res k n d y m < 2932897 ∧ Dy.inS k n d y m = (Dy.res k n d y m, 0)) := by
  by_cases h : Dy.Ok k n d
  · by_cases hc : InCal y m
    · by_cases hn : n > Cv.len y m
      · exact .inl ⟨3, by unfold Dy.inS; rw [if_neg (fun x => x h), if_neg (fun x => x hc), if_pos hn], by decide⟩
      · have e := inS_ok k n d y m h hc hn
        by_cases hr : -719162 ≤ Dy.res k n d y m ∧ Dy.res k n d y m < 2932897
        · rw [if_pos hr, if_pos hr] at e
          exact .inr ⟨h, hc, by omega, hr.1, hr.2, e⟩
        · rw [if_neg hr, if_neg hr] at e
          exact .inl ⟨1, e, by decide⟩
    · exact .inl ⟨1, by unfold Dy.inS; rw [if_neg (fun x => x h), if_pos (show ¬ (1 ≤ y ∧ y ≤ 9999 ∧ 1 ≤ m ∧ m ≤ 12) from hc)], by decide⟩
  · exact .inl ⟨2, by unfold Dy.inS; rw [if_pos h], by decide⟩

/-- Where a right day falls. -/
theorem falls (k n d y m : Int) (h : Dy.Ok k n d) (hc : InCal y m) (hn : n ≤ Cv.len y m) :
    (k = 0 → Cv.yearOf (Dy.res k n d y m) = y ∧ Cv.monthOf (Dy.res k n d y m) = m ∧ Cv.dayOf (Dy.res k n d y m) = n) ∧
    (k = 1 → Cv.yearOf (Dy.res k n d y m) = y ∧ Cv.monthOf (Dy.res k n d y m) = m ∧ Cv.len y m - 7 < Cv.dayOf (Dy.res k n d y m)) ∧
    (k = 2 → Cv.num y m 1 + n - 1 ≤ Dy.res k n d y m ∧ Dy.res k n d y m < Cv.num y m 1 + n - 1 + 7) ∧
    (k = 3 → Dy.res k n d y m ≤ Cv.num y m 1 + n - 1 ∧ Cv.num y m 1 + n - 1 - 7 < Dy.res k n d y m) ∧
    (k ≠ 0 → dow (Dy.res k n d y m) = d) := by
  have hl : 28 ≤ Cv.len y m ∧ Cv.len y m ≤ 31 := by
    rw [Cv.len_month y m hc.2.2.1 hc.2.2.2]
    split
    · split <;> omega
    · split <;> omega
  have hnum : ∀ e, Cv.num y m e = Cv.num y m 1 + e - 1 := fun e => by
    have := Cv.num_day y m 1 (e - 1)
    rw [show (1 : Int) + (e - 1) = e by omega] at this
    omega
  refine ⟨fun e => ?_, fun e => ?_, fun e => ?_, fun e => ?_, fun e => ?_⟩
  · subst e
    have hn1 : 1 ≤ n := by unfold Dy.Ok at h; omega
    have : Dy.res 0 n d y m = Cv.num y m n := by unfold Dy.res Dy.base; simp
    rw [this]
    exact Cv.of_num y m n ⟨hc.1, hc.2.1, hc.2.2.1, hc.2.2.2, hn1, hn⟩
  · subst e
    have hb := hnum (Cv.len y m)
    have : Dy.res 1 n d y m = Cv.num y m (Cv.len y m - (dow (Cv.num y m (Cv.len y m)) - d) % 7) := by
      rw [hnum (Cv.len y m - _)]
      unfold Dy.res Dy.base
      simp
      omega
    rw [this]
    have hv := Cv.of_num y m (Cv.len y m - (dow (Cv.num y m (Cv.len y m)) - d) % 7) ⟨hc.1, hc.2.1, hc.2.2.1, hc.2.2.2, by omega, by omega⟩
    refine ⟨hv.1, hv.2.1, ?_⟩
    rw [hv.2.2]
    omega
  · subst e
    have hb := hnum n
    have : Dy.res 2 n d y m = Cv.num y m n + (d - dow (Cv.num y m n)) % 7 := by unfold Dy.res Dy.base; simp
    omega
  · subst e
    have hb := hnum n
    have : Dy.res 3 n d y m = Cv.num y m n - (dow (Cv.num y m n) - d) % 7 := by unfold Dy.res Dy.base; simp
    omega
  · have hk : k = 1 ∨ k = 2 ∨ k = 3 := by unfold Dy.Ok at h; omega
    have hd : 0 ≤ d ∧ d ≤ 6 := by unfold Dy.Ok at h; omega
    unfold Dy.res
    obtain ⟨B, hB⟩ : ∃ B, Dy.base k n y m = B := ⟨_, rfl⟩
    rw [hB]
    rcases hk with rfl | rfl | rfl <;> simp <;> unfold dow <;> omega

set_option maxHeartbeats 2000000 in
set_option maxRecDepth 100000 in
theorem dayFalls_any (k n d y m : Int) (w : World) (hW : Wo w) :
    Calls Tryd.prog 4 #[.agg #[.int .u8 k, .int .i64 n, .int .i64 d], .int .i64 y, .int .i64 m] w fun e w' => e = .returned (.bool true) ∧ Below w.heap.size w w' := by

  have HW := Lib.hid hW
  have HB := Lib.hid (Below.refl w.heap.size w)
  clear hW
  rcases inS_cases k n d y m with ⟨b, hb, hb0⟩ | ⟨h, hc, hn, r1, r2, hi⟩
  · have HI := Lib.hid fun W hw => in_is k n d y m W hw 0 b hb
    have t1 : (b != 0) = true := by simp [hb0]
    clear hb hb0
    go_enter Tryd.func4, Tryd.ntmps4
    go_wp2_with fail
    refine (lives06 _ (HW.out.below (HB.out.alloc (Nat.le_refl _) _))).mono ?_
    rintro e w1 ⟨rfl, hb⟩
    replace HB := Lib.hid (below_then (HB.out.alloc (Nat.le_refl _) _) hb)
    have R0 := Lib.hid (kept3 (laid3 w (.int .u8 k) (.int .i64 n) (.int .i64 d) 24) hb)
    clear hb
    obtain ⟨R00, R01, R02⟩ := R0.out
    have zR0 := block_lt_of_cell R00
    simp only at zR0
    go_wp2_with fail
    refine (HI.out _ (HW.out.below HB.out)).mono ?_
    rintro e w2 ⟨rfl, hb⟩
    replace HB := Lib.hid (below_then HB.out hb)
    have R0' := kept3 R0.out hb
    clear R0
    have R0 := Lib.hid R0'
    clear R0'
    clear hb
    go_wp2
    go_ret
    exact ⟨rfl, HB.out⟩
  · have F := falls k n d y m h hc hn
    have hl : 28 ≤ Cv.len y m ∧ Cv.len y m ≤ 31 := by
      rw [Cv.len_month y m hc.2.2.1 hc.2.2.2]
      split
      · split <;> omega
      · split <;> omega
    have hv1 : Cv.Valid y m 1 := ⟨hc.1, hc.2.1, hc.2.2.1, hc.2.2.2, by omega, by omega⟩
    have hb1 := num_bd y m 1 hv1
    have hI := fun W hw => in_is k n d y m W hw (Dy.res k n d y m) 0 hi
    have hOf := fun W => of_ok (Dy.res k n d y m) W r1 r2
    have hD := fun W (hw : Lens W) => days_ok y m 1 W hw hv1
    have hLn := fun W (hw : Lens W) => length_ok y m W hw hc
    have hWd : ∀ W, Calls Tryd.prog 16 #[.int .i64 (Dy.res k n d y m)] W fun e w' => e = .returned (.int .i64 (dow (Dy.res k n d y m))) ∧ w' = W := fun W => (civWeekday_any (Dy.res k n d y m) W).mono fun _ _ ⟨a, b⟩ => ⟨a, b.symm⟩
    obtain ⟨R, hR⟩ : ∃ R, Dy.res k n d y m = R := ⟨_, rfl⟩
    obtain ⟨L, hL⟩ : ∃ L, Cv.len y m = L := ⟨_, rfl⟩
    obtain ⟨B1, hB1⟩ : ∃ B1, Cv.num y m 1 = B1 := ⟨_, rfl⟩
    simp only [hR, hL, hB1] at F hI hOf hD hLn hWd hl hb1 r1 r2 hn
    obtain ⟨l1, l2⟩ := hl
    obtain ⟨b1, b2⟩ := hb1
    have HI := Lib.hid hI
    have HD := Lib.hid hD
    have HL := Lib.hid hLn
    clear hR hL hB1 hI hD hLn hv1 hi hc
    obtain ⟨F0, F1, F2, F3, F4⟩ := F
    rcases h with ⟨rfl, h1, h2, rfl⟩ | ⟨rfl, rfl, h1, h2⟩ | ⟨rfl | rfl, h1, h2, h3, h4⟩
    · obtain ⟨f1, f2, f3⟩ := F0 rfl
      rw [f1, f2, f3] at hOf
      clear F0 F1 F2 F3 F4 f1 f2 f3 hWd
      have HOf := Lib.hid hOf
      clear hOf
      go_enter Tryd.func4, Tryd.ntmps4
      go_wp2_with fail
      refine (lives06 _ (HW.out.below (HB.out.alloc (Nat.le_refl _) _))).mono ?_
      rintro e w1 ⟨rfl, hb⟩
      replace HB := Lib.hid (below_then (HB.out.alloc (Nat.le_refl _) _) hb)
      have R0 := Lib.hid (kept3 (laid3 w (.int .u8 0) (.int .i64 n) (.int .i64 0) 24) hb)
      clear hb
      obtain ⟨R00, R01, R02⟩ := R0.out
      have zR0 := block_lt_of_cell R00
      simp only at zR0
      go_wp2_with fail
      refine (HI.out _ (HW.out.below HB.out)).mono ?_
      rintro e w2 ⟨rfl, hb⟩
      replace HB := Lib.hid (below_then HB.out hb)
      have R0' := kept3 R0.out hb
      clear R0
      have R0 := Lib.hid R0'
      clear R0'
      clear hb
      clear R00 R01 R02 zR0
      go_wp2_with fail
      refine (HOf.out _).mono ?_
      rintro e w3 ⟨rfl, hb⟩
      replace HB := Lib.hid (below_then HB.out hb)
      have R0' := kept3 R0.out hb
      clear R0
      have R0 := Lib.hid R0'
      clear R0'
      clear hb
      go_wp2_with fail
      refine (HD.out _ (HW.out.below (HB.out.alloc HB.out.size _)).lens).mono ?_
      rintro e w4 ⟨rfl, hb⟩
      replace HB := Lib.hid (below_then (HB.out.alloc HB.out.size _) hb)
      have R0' := kept3a R0.out hb
      clear R0
      have R0 := Lib.hid R0'
      clear R0'
      have RX := Lib.hid (kept3 (laid3 w3 (.int .i64 y) (.int .i64 m) (.int .i64 n) 36) hb)
      clear hb
      go_wp2_with fail
      refine (HL.out _ (HW.out.below HB.out).lens).mono ?_
      rintro e w5 ⟨rfl, rfl⟩
      obtain ⟨R00, R01, R02⟩ := R0.out
      have zR0 := block_lt_of_cell R00
      simp only at zR0
      obtain ⟨RX0, RX1, RX2⟩ := RX.out
      have zRX := block_lt_of_cell RX0
      simp only at zRX
      go_wp2
      go_ret
      exact ⟨rfl, HB.out⟩
    · obtain ⟨f1, f2, f3⟩ := F1 rfl
      have f4 := F4 (by decide)
      rw [f4] at hWd
      obtain ⟨Z, hZ⟩ : ∃ Z, Cv.dayOf R = Z := ⟨_, rfl⟩
      rw [f1, f2, hZ] at hOf
      rw [hZ] at f3
      clear F0 F1 F2 F3 F4 f1 f2 f4 hZ
      have HOf := Lib.hid hOf
      clear hOf
      have HWd := Lib.hid hWd
      clear hWd
      go_enter Tryd.func4, Tryd.ntmps4
      go_wp2_with fail
      refine (lives06 _ (HW.out.below (HB.out.alloc (Nat.le_refl _) _))).mono ?_
      rintro e w1 ⟨rfl, hb⟩
      replace HB := Lib.hid (below_then (HB.out.alloc (Nat.le_refl _) _) hb)
      have R0 := Lib.hid (kept3 (laid3 w (.int .u8 1) (.int .i64 0) (.int .i64 d) 24) hb)
      clear hb
      obtain ⟨R00, R01, R02⟩ := R0.out
      have zR0 := block_lt_of_cell R00
      simp only at zR0
      go_wp2_with fail
      refine (HI.out _ (HW.out.below HB.out)).mono ?_
      rintro e w2 ⟨rfl, hb⟩
      replace HB := Lib.hid (below_then HB.out hb)
      have R0' := kept3 R0.out hb
      clear R0
      have R0 := Lib.hid R0'
      clear R0'
      clear hb
      clear R00 R01 R02 zR0
      go_wp2_with fail
      refine (HOf.out _).mono ?_
      rintro e w3 ⟨rfl, hb⟩
      replace HB := Lib.hid (below_then HB.out hb)
      have R0' := kept3 R0.out hb
      clear R0
      have R0 := Lib.hid R0'
      clear R0'
      clear hb
      go_wp2_with fail
      refine (HD.out _ (HW.out.below (HB.out.alloc HB.out.size _)).lens).mono ?_
      rintro e w4 ⟨rfl, hb⟩
      replace HB := Lib.hid (below_then (HB.out.alloc HB.out.size _) hb)
      have R0' := kept3a R0.out hb
      clear R0
      have R0 := Lib.hid R0'
      clear R0'
      have RX := Lib.hid (kept3 (laid3 w3 (.int .i64 y) (.int .i64 m) (.int .i64 Z) 36) hb)
      clear hb
      go_wp2_with fail
      refine (HL.out _ (HW.out.below HB.out).lens).mono ?_
      rintro e w5 ⟨rfl, rfl⟩
      obtain ⟨R00, R01, R02⟩ := R0.out
      have zR0 := block_lt_of_cell R00
      simp only at zR0
      obtain ⟨RX0, RX1, RX2⟩ := RX.out
      have zRX := block_lt_of_cell RX0
      simp only at zRX
      have s1 : IntKind.i64.wrap (L - 7) = L - 7 := IntWalk.i64_in _ (by omega)
      go_wp2_with fail
      go_quiet ((go_at_call 16; exact Calls.quiet_of_same (HWd.out _)))
      clear s1
      go_wp2
      go_ret
      exact ⟨rfl, below_drewN HB.out _⟩
    · obtain ⟨f1, f2⟩ := F2 rfl
      have f4 := F4 (by decide)
      rw [f4] at hWd
      obtain ⟨X1, hX1⟩ : ∃ X1, Cv.yearOf R = X1 := ⟨_, rfl⟩
      obtain ⟨X2, hX2⟩ : ∃ X2, Cv.monthOf R = X2 := ⟨_, rfl⟩
      obtain ⟨X3, hX3⟩ : ∃ X3, Cv.dayOf R = X3 := ⟨_, rfl⟩
      rw [hX1, hX2, hX3] at hOf
      clear F0 F1 F2 F3 F4 f4 hX1 hX2 hX3
      have HOf := Lib.hid hOf
      clear hOf
      have HWd := Lib.hid hWd
      clear hWd
      go_enter Tryd.func4, Tryd.ntmps4
      go_wp2_with fail
      refine (lives06 _ (HW.out.below (HB.out.alloc (Nat.le_refl _) _))).mono ?_
      rintro e w1 ⟨rfl, hb⟩
      replace HB := Lib.hid (below_then (HB.out.alloc (Nat.le_refl _) _) hb)
      have R0 := Lib.hid (kept3 (laid3 w (.int .u8 2) (.int .i64 n) (.int .i64 d) 24) hb)
      clear hb
      obtain ⟨R00, R01, R02⟩ := R0.out
      have zR0 := block_lt_of_cell R00
      simp only at zR0
      go_wp2_with fail
      refine (HI.out _ (HW.out.below HB.out)).mono ?_
      rintro e w2 ⟨rfl, hb⟩
      replace HB := Lib.hid (below_then HB.out hb)
      have R0' := kept3 R0.out hb
      clear R0
      have R0 := Lib.hid R0'
      clear R0'
      clear hb
      clear R00 R01 R02 zR0
      go_wp2_with fail
      refine (HOf.out _).mono ?_
      rintro e w3 ⟨rfl, hb⟩
      replace HB := Lib.hid (below_then HB.out hb)
      have R0' := kept3 R0.out hb
      clear R0
      have R0 := Lib.hid R0'
      clear R0'
      clear hb
      go_wp2_with fail
      refine (HD.out _ (HW.out.below (HB.out.alloc HB.out.size _)).lens).mono ?_
      rintro e w4 ⟨rfl, hb⟩
      replace HB := Lib.hid (below_then (HB.out.alloc HB.out.size _) hb)
      have R0' := kept3a R0.out hb
      clear R0
      have R0 := Lib.hid R0'
      clear R0'
      have RX := Lib.hid (kept3 (laid3 w3 (.int .i64 X1) (.int .i64 X2) (.int .i64 X3) 36) hb)
      clear hb
      go_wp2_with fail
      refine (HL.out _ (HW.out.below HB.out).lens).mono ?_
      rintro e w5 ⟨rfl, rfl⟩
      obtain ⟨R00, R01, R02⟩ := R0.out
      have zR0 := block_lt_of_cell R00
      simp only at zR0
      obtain ⟨RX0, RX1, RX2⟩ := RX.out
      have zRX := block_lt_of_cell RX0
      simp only at zRX
      have s1 : IntKind.i64.wrap (B1 + n - 1 + 7) = B1 + n - 1 + 7 := IntWalk.i64_in _ (by omega)
      go_wp2_with fail
      go_quiet ((go_at_call 16; exact Calls.quiet_of_same (HWd.out _)))
      clear s1
      go_wp2
      go_ret
      exact ⟨rfl, below_drewN HB.out _⟩
    · obtain ⟨f1, f2⟩ := F3 rfl
      have f4 := F4 (by decide)
      rw [f4] at hWd
      obtain ⟨X1, hX1⟩ : ∃ X1, Cv.yearOf R = X1 := ⟨_, rfl⟩
      obtain ⟨X2, hX2⟩ : ∃ X2, Cv.monthOf R = X2 := ⟨_, rfl⟩
      obtain ⟨X3, hX3⟩ : ∃ X3, Cv.dayOf R = X3 := ⟨_, rfl⟩
      rw [hX1, hX2, hX3] at hOf
      clear F0 F1 F2 F3 F4 f4 hX1 hX2 hX3
      have HOf := Lib.hid hOf
      clear hOf
      have HWd := Lib.hid hWd
      clear hWd
      go_enter Tryd.func4, Tryd.ntmps4
      go_wp2_with fail
      refine (lives06 _ (HW.out.below (HB.out.alloc (Nat.le_refl _) _))).mono ?_
      rintro e w1 ⟨rfl, hb⟩
      replace HB := Lib.hid (below_then (HB.out.alloc (Nat.le_refl _) _) hb)
      have R0 := Lib.hid (kept3 (laid3 w (.int .u8 3) (.int .i64 n) (.int .i64 d) 24) hb)
      clear hb
      obtain ⟨R00, R01, R02⟩ := R0.out
      have zR0 := block_lt_of_cell R00
      simp only at zR0
      go_wp2_with fail
      refine (HI.out _ (HW.out.below HB.out)).mono ?_
      rintro e w2 ⟨rfl, hb⟩
      replace HB := Lib.hid (below_then HB.out hb)
      have R0' := kept3 R0.out hb
      clear R0
      have R0 := Lib.hid R0'
      clear R0'
      clear hb
      clear R00 R01 R02 zR0
      go_wp2_with fail
      refine (HOf.out _).mono ?_
      rintro e w3 ⟨rfl, hb⟩
      replace HB := Lib.hid (below_then HB.out hb)
      have R0' := kept3 R0.out hb
      clear R0
      have R0 := Lib.hid R0'
      clear R0'
      clear hb
      go_wp2_with fail
      refine (HD.out _ (HW.out.below (HB.out.alloc HB.out.size _)).lens).mono ?_
      rintro e w4 ⟨rfl, hb⟩
      replace HB := Lib.hid (below_then (HB.out.alloc HB.out.size _) hb)
      have R0' := kept3a R0.out hb
      clear R0
      have R0 := Lib.hid R0'
      clear R0'
      have RX := Lib.hid (kept3 (laid3 w3 (.int .i64 X1) (.int .i64 X2) (.int .i64 X3) 36) hb)
      clear hb
      go_wp2_with fail
      refine (HL.out _ (HW.out.below HB.out).lens).mono ?_
      rintro e w5 ⟨rfl, rfl⟩
      obtain ⟨R00, R01, R02⟩ := R0.out
      have zR0 := block_lt_of_cell R00
      simp only at zR0
      obtain ⟨RX0, RX1, RX2⟩ := RX.out
      have zRX := block_lt_of_cell RX0
      simp only at zRX
      have s1 : IntKind.i64.wrap (B1 + n - 1 - 7) = B1 + n - 1 - 7 := IntWalk.i64_in _ (by omega)
      go_wp2_with fail
      go_quiet ((go_at_call 16; exact Calls.quiet_of_same (HWd.out _)))
      clear s1
      go_wp2
      go_ret
      exact ⟨rfl, below_drewN HB.out _⟩
end Go.Proofs.YtliedeiimogljaaDoor
