/- The walk of the law DayBack. -/
import Derived.Test.YtliedeiimogljaaDoorDayLives
namespace Go.Proofs.YtliedeiimogljaaDoor
open Go.RowKit

theorem text_len (k n d : Int) : (⟨(Dy.text k n d).toArray⟩ : ByteArray).size ≤ 1000000 := by
  rw [size_mk]
  have h3 : (tl (textOf Days d)).length ≤ 3 := by rw [tl_length]; exact textDays_size d
  have h2 : (Dy.dec n).length ≤ 2 := dec_size n
  have e1 : Dy.lastL.length = 4 := rfl
  have e2 : Dy.fromL.length = 2 := rfl
  have e3 : Dy.uptoL.length = 2 := rfl
  unfold Dy.text
  split
  · rw [List.length_append]; omega
  · split
    · rw [List.length_append, List.length_append]; omega
    · split
      · rw [List.length_append, List.length_append]; omega
      · omega
theorem parse_text (k n d : Int) (w : World) (hW : Wo w) (h : Dy.Ok k n d) :
    Calls Tryd.prog 10 #[.string ⟨(Dy.text k n d).toArray⟩] w fun e w' => e = .returned (.tuple #[.agg #[.int .u8 k, .int .i64 n, .int .i64 d], .int .i64 0]) ∧ Below w.heap.size w w' :=
  parse_is _ w hW (text_len k n d) k n d (by rw [tl_mk]; exact Dy.told_text k n d h) h

set_option maxHeartbeats 2000000 in
set_option maxRecDepth 100000 in
theorem dayBack_any (k n d : Int) (s : ByteArray) (w : World) (hW : Wo w) (hs : s.size ≤ maxLen) :
    Calls Tryd.prog 3 #[.agg #[.int .u8 k, .int .i64 n, .int .i64 d], .string s] w fun e w' => e = .returned (.bool true) ∧ Below w.heap.size w w' := by
  unfold maxLen at hs
  have HW := Lib.hid hW
  have HB := Lib.hid (Below.refl w.heap.size w)
  clear hW
  by_cases h1 : 1000 < s.size
  · go_enter Tryd.func3, Tryd.ntmps3
    go_wp2_with fail
    refine (lives06 _ (HW.out.below (HB.out.alloc (Nat.le_refl _) _))).mono ?_
    rintro e w1 ⟨rfl, hb⟩
    go_wp2
    go_ret
    exact ⟨rfl, below_then (HB.out.alloc (Nat.le_refl _) _) hb⟩
  obtain ⟨k2, n2, d2, hT⟩ : ∃ k2 n2 d2, Dy.told (tl s) = (k2, n2, d2) := ⟨_, _, _, rfl⟩
  have HT := Lib.hid hT
  have hs' : s.size ≤ 1000000 := by omega
  clear hT
  by_cases h : Dy.Ok k n d <;> by_cases h2 : Dy.Ok k2 n2 d2
  · go_enter Tryd.func3, Tryd.ntmps3
    go_wp2_with fail
    refine (lives06 _ (HW.out.below (HB.out.alloc (Nat.le_refl _) _))).mono ?_
    rintro e w1 ⟨rfl, hb⟩
    replace HB := Lib.hid (below_then (HB.out.alloc (Nat.le_refl _) _) hb)
    have R0 := Lib.hid (kept3 (laid3 w (.int .u8 k) (.int .i64 n) (.int .i64 d) 24) hb)
    clear hb
    obtain ⟨R00, R01, R02⟩ := R0.out
    have zR0 := block_lt_of_cell R00
    simp only at zR0
    go_wp2_with fail
    refine (dayText_ok k n d _ h).mono ?_
    rintro e w2 ⟨rfl, hb⟩
    replace HB := Lib.hid (below_then HB.out hb)
    have R0' := kept3 R0.out hb
    clear R0
    have R0 := Lib.hid R0'
    clear R0'
    clear hb
    clear R00 R01 R02 zR0
    obtain ⟨X, hX⟩ : ∃ X, (⟨(Dy.text k n d).toArray⟩ : ByteArray) = X := ⟨_, rfl⟩
    have AP := fun W hW => parse_text k n d W hW h
    rw [hX] at AP ⊢
    have HAP := Lib.hid AP
    clear AP hX
    go_wp2_with fail
    refine (HAP.out _ (HW.out.below HB.out)).mono ?_
    rintro e w3 ⟨rfl, hb⟩
    replace HB := Lib.hid (below_then HB.out hb)
    have R0' := kept3 R0.out hb
    clear R0
    have R0 := Lib.hid R0'
    clear R0'
    clear hb
    obtain ⟨R00, R01, R02⟩ := R0.out
    have zR0 := block_lt_of_cell R00
    simp only at zR0
    go_wp2_with fail
    refine (parse_is s _ (HW.out.below (HB.out.alloc HB.out.size _)) hs' k2 n2 d2 HT.out h2).mono ?_
    rintro e w4 ⟨rfl, hb⟩
    replace HB := Lib.hid (below_then (HB.out.alloc HB.out.size _) hb)
    have R0' := kept3a R0.out hb
    clear R0
    have R0 := Lib.hid R0'
    clear R0'
    have R1 := Lib.hid (kept3 (laid3 w3 (.int .u8 k) (.int .i64 n) (.int .i64 d) 24) hb)
    clear hb
    clear R00 R01 R02 zR0
    go_wp2_with fail
    refine (dayText_ok k2 n2 d2 _ h2).mono ?_
    rintro e w5 ⟨rfl, hb⟩
    replace HB := Lib.hid (below_then (HB.out.alloc HB.out.size _) hb)
    have R0' := kept3a R0.out hb
    clear R0
    have R0 := Lib.hid R0'
    clear R0'
    have R1' := kept3a R1.out hb
    clear R1
    have R1 := Lib.hid R1'
    clear R1'
    have R2 := Lib.hid (kept3 (laid3 w4 (.int .u8 k2) (.int .i64 n2) (.int .i64 d2) 24) hb)
    clear hb
    obtain ⟨Y, hY⟩ : ∃ Y, (⟨(Dy.text k2 n2 d2).toArray⟩ : ByteArray) = Y := ⟨_, rfl⟩
    have AP2 := fun W hW => parse_text k2 n2 d2 W hW h2
    rw [hY] at AP2 ⊢
    have HAP2 := Lib.hid AP2
    clear AP2 hY
    go_wp2_with fail
    refine (HAP2.out _ (HW.out.below HB.out)).mono ?_
    rintro e w6 ⟨rfl, hb⟩
    replace HB := Lib.hid (below_then HB.out hb)
    have R0' := kept3 R0.out hb
    clear R0
    have R0 := Lib.hid R0'
    clear R0'
    have R1' := kept3 R1.out hb
    clear R1
    have R1 := Lib.hid R1'
    clear R1'
    have R2' := kept3 R2.out hb
    clear R2
    have R2 := Lib.hid R2'
    clear R2'
    clear hb
    obtain ⟨R20, R21, R22⟩ := R2.out
    have zR2 := block_lt_of_cell R20
    simp only at zR2
    go_wp2_with fail
    refine (dayCheck_ok k2 n2 d2 _ h2).mono ?_
    rintro e w7 ⟨rfl, hb⟩
    replace HB := Lib.hid (below_then (HB.out.alloc HB.out.size _) hb)
    have R0' := kept3a R0.out hb
    clear R0
    have R0 := Lib.hid R0'
    clear R0'
    have R1' := kept3a R1.out hb
    clear R1
    have R1 := Lib.hid R1'
    clear R1'
    have R2' := kept3a R2.out hb
    clear R2
    have R2 := Lib.hid R2'
    clear R2'
    have R3 := Lib.hid (kept3 (laid3 w6 (.int .u8 k2) (.int .i64 n2) (.int .i64 d2) 24) hb)
    clear hb
    clear R20 R21 R22 zR2
    obtain ⟨R20, R21, R22⟩ := R2.out
    have zR2 := block_lt_of_cell R20
    simp only at zR2
    obtain ⟨R30, R31, R32⟩ := R3.out
    have zR3 := block_lt_of_cell R30
    simp only at zR3
    go_wp2
    go_ret
    exact ⟨rfl, HB.out⟩
  · go_enter Tryd.func3, Tryd.ntmps3
    go_wp2_with fail
    refine (lives06 _ (HW.out.below (HB.out.alloc (Nat.le_refl _) _))).mono ?_
    rintro e w1 ⟨rfl, hb⟩
    replace HB := Lib.hid (below_then (HB.out.alloc (Nat.le_refl _) _) hb)
    have R0 := Lib.hid (kept3 (laid3 w (.int .u8 k) (.int .i64 n) (.int .i64 d) 24) hb)
    clear hb
    obtain ⟨R00, R01, R02⟩ := R0.out
    have zR0 := block_lt_of_cell R00
    simp only at zR0
    go_wp2_with fail
    refine (dayText_ok k n d _ h).mono ?_
    rintro e w2 ⟨rfl, hb⟩
    replace HB := Lib.hid (below_then HB.out hb)
    have R0' := kept3 R0.out hb
    clear R0
    have R0 := Lib.hid R0'
    clear R0'
    clear hb
    clear R00 R01 R02 zR0
    obtain ⟨X, hX⟩ : ∃ X, (⟨(Dy.text k n d).toArray⟩ : ByteArray) = X := ⟨_, rfl⟩
    have AP := fun W hW => parse_text k n d W hW h
    rw [hX] at AP ⊢
    have HAP := Lib.hid AP
    clear AP hX
    go_wp2_with fail
    refine (HAP.out _ (HW.out.below HB.out)).mono ?_
    rintro e w3 ⟨rfl, hb⟩
    replace HB := Lib.hid (below_then HB.out hb)
    have R0' := kept3 R0.out hb
    clear R0
    have R0 := Lib.hid R0'
    clear R0'
    clear hb
    obtain ⟨R00, R01, R02⟩ := R0.out
    have zR0 := block_lt_of_cell R00
    simp only at zR0
    go_wp2_with fail
    refine (parse_no s _ (HW.out.below (HB.out.alloc HB.out.size _)) hs' k2 n2 d2 HT.out h2).mono ?_
    rintro e w4 ⟨rfl, hb⟩
    replace HB := Lib.hid (below_then (HB.out.alloc HB.out.size _) hb)
    have R0' := kept3a R0.out hb
    clear R0
    have R0 := Lib.hid R0'
    clear R0'
    have R1 := Lib.hid (kept3 (laid3 w3 (.int .u8 k) (.int .i64 n) (.int .i64 d) 24) hb)
    clear hb
    clear R00 R01 R02 zR0
    obtain ⟨R00, R01, R02⟩ := R0.out
    have zR0 := block_lt_of_cell R00
    simp only at zR0
    go_wp2_with fail
    refine (dayCheck_ok k n d _ h).mono ?_
    rintro e w5 ⟨rfl, hb⟩
    replace HB := Lib.hid (below_then (HB.out.alloc HB.out.size _) hb)
    have R0' := kept3a R0.out hb
    clear R0
    have R0 := Lib.hid R0'
    clear R0'
    have R1' := kept3a R1.out hb
    clear R1
    have R1 := Lib.hid R1'
    clear R1'
    have R2 := Lib.hid (kept3 (laid3 w4 (.int .u8 0) (.int .i64 0) (.int .i64 0) 24) hb)
    clear hb
    clear R00 R01 R02 zR0
    go_wp2
    go_ret
    exact ⟨rfl, HB.out⟩
  · go_enter Tryd.func3, Tryd.ntmps3
    go_wp2_with fail
    refine (lives06 _ (HW.out.below (HB.out.alloc (Nat.le_refl _) _))).mono ?_
    rintro e w1 ⟨rfl, hb⟩
    replace HB := Lib.hid (below_then (HB.out.alloc (Nat.le_refl _) _) hb)
    have R0 := Lib.hid (kept3 (laid3 w (.int .u8 k) (.int .i64 n) (.int .i64 d) 24) hb)
    clear hb
    obtain ⟨R00, R01, R02⟩ := R0.out
    have zR0 := block_lt_of_cell R00
    simp only at zR0
    go_wp2_with fail
    refine (dayText_bad k n d _ h).mono ?_
    rintro e w2 ⟨rfl, hb⟩
    replace HB := Lib.hid (below_then HB.out hb)
    have R0' := kept3 R0.out hb
    clear R0
    have R0 := Lib.hid R0'
    clear R0'
    clear hb
    clear R00 R01 R02 zR0
    go_wp2_with fail
    refine (parse_is s _ (HW.out.below HB.out) hs' k2 n2 d2 HT.out h2).mono ?_
    rintro e w4 ⟨rfl, hb⟩
    replace HB := Lib.hid (below_then HB.out hb)
    have R0' := kept3 R0.out hb
    clear R0
    have R0 := Lib.hid R0'
    clear R0'
    clear hb
    go_wp2_with fail
    refine (dayText_ok k2 n2 d2 _ h2).mono ?_
    rintro e w5 ⟨rfl, hb⟩
    replace HB := Lib.hid (below_then (HB.out.alloc HB.out.size _) hb)
    have R0' := kept3a R0.out hb
    clear R0
    have R0 := Lib.hid R0'
    clear R0'
    have R2 := Lib.hid (kept3 (laid3 w4 (.int .u8 k2) (.int .i64 n2) (.int .i64 d2) 24) hb)
    clear hb
    obtain ⟨Y, hY⟩ : ∃ Y, (⟨(Dy.text k2 n2 d2).toArray⟩ : ByteArray) = Y := ⟨_, rfl⟩
    have AP2 := fun W hW => parse_text k2 n2 d2 W hW h2
    rw [hY] at AP2 ⊢
    have HAP2 := Lib.hid AP2
    clear AP2 hY
    go_wp2_with fail
    refine (HAP2.out _ (HW.out.below HB.out)).mono ?_
    rintro e w6 ⟨rfl, hb⟩
    replace HB := Lib.hid (below_then HB.out hb)
    have R0' := kept3 R0.out hb
    clear R0
    have R0 := Lib.hid R0'
    clear R0'
    have R2' := kept3 R2.out hb
    clear R2
    have R2 := Lib.hid R2'
    clear R2'
    clear hb
    obtain ⟨R20, R21, R22⟩ := R2.out
    have zR2 := block_lt_of_cell R20
    simp only at zR2
    go_wp2_with fail
    refine (dayCheck_ok k2 n2 d2 _ h2).mono ?_
    rintro e w7 ⟨rfl, hb⟩
    replace HB := Lib.hid (below_then (HB.out.alloc HB.out.size _) hb)
    have R0' := kept3a R0.out hb
    clear R0
    have R0 := Lib.hid R0'
    clear R0'
    have R2' := kept3a R2.out hb
    clear R2
    have R2 := Lib.hid R2'
    clear R2'
    have R3 := Lib.hid (kept3 (laid3 w6 (.int .u8 k2) (.int .i64 n2) (.int .i64 d2) 24) hb)
    clear hb
    clear R20 R21 R22 zR2
    obtain ⟨R20, R21, R22⟩ := R2.out
    have zR2 := block_lt_of_cell R20
    simp only at zR2
    obtain ⟨R30, R31, R32⟩ := R3.out
    have zR3 := block_lt_of_cell R30
    simp only at zR3
    go_wp2
    go_ret
    exact ⟨rfl, HB.out⟩
  · go_enter Tryd.func3, Tryd.ntmps3
    go_wp2_with fail
    refine (lives06 _ (HW.out.below (HB.out.alloc (Nat.le_refl _) _))).mono ?_
    rintro e w1 ⟨rfl, hb⟩
    replace HB := Lib.hid (below_then (HB.out.alloc (Nat.le_refl _) _) hb)
    have R0 := Lib.hid (kept3 (laid3 w (.int .u8 k) (.int .i64 n) (.int .i64 d) 24) hb)
    clear hb
    obtain ⟨R00, R01, R02⟩ := R0.out
    have zR0 := block_lt_of_cell R00
    simp only at zR0
    go_wp2_with fail
    refine (dayText_bad k n d _ h).mono ?_
    rintro e w2 ⟨rfl, hb⟩
    replace HB := Lib.hid (below_then HB.out hb)
    have R0' := kept3 R0.out hb
    clear R0
    have R0 := Lib.hid R0'
    clear R0'
    clear hb
    clear R00 R01 R02 zR0
    go_wp2_with fail
    refine (parse_no s _ (HW.out.below HB.out) hs' k2 n2 d2 HT.out h2).mono ?_
    rintro e w4 ⟨rfl, hb⟩
    replace HB := Lib.hid (below_then HB.out hb)
    have R0' := kept3 R0.out hb
    clear R0
    have R0 := Lib.hid R0'
    clear R0'
    clear hb
    obtain ⟨R00, R01, R02⟩ := R0.out
    have zR0 := block_lt_of_cell R00
    simp only at zR0
    go_wp2_with fail
    refine (dayCheck_bad k n d _ h).mono ?_
    rintro e w5 ⟨rfl, hb⟩
    replace HB := Lib.hid (below_then (HB.out.alloc HB.out.size _) hb)
    have R0' := kept3a R0.out hb
    clear R0
    have R0 := Lib.hid R0'
    clear R0'
    have R2 := Lib.hid (kept3 (laid3 w4 (.int .u8 0) (.int .i64 0) (.int .i64 0) 24) hb)
    clear hb
    clear R00 R01 R02 zR0
    go_wp2
    go_ret
    exact ⟨rfl, HB.out⟩
end Go.Proofs.YtliedeiimogljaaDoor
