/- Plain law of the calendar: numbers of days, and dates. -/
import Derived.Test.YthmhadgbhakdlaaDoorP01
import Derived.WalkKit
import Derived.Outline
import Derived.Lib.Hide
import Derived.IntWalk
import Derived.WalkSpells
import Derived.WalkLawsBesides
import Derived.Deep.DeepFit
import Derived.Deep.DeepCutAuto
import Derived.Test.YthmhadgbhakdlaaDoorP02
import Derived.Lib.AppendIntMem
import Derived.Test.YthmhadgbhakdlaaDoorP17
import Derived.Deep.RegionHeld3
import Derived.Deep.QuietTactic
import Derived.BigQuiet
import Derived.Test.YthmhadgbhakdlaaDoorP07
import Derived.WideShapes
import Derived.Lib.Split
import Derived.Lib.CutLaws
import Derived.Laws.IdiomStrings

namespace Go.Proofs.YthmhadgbhakdlaaDoor.Cv
/-- Days ahead of a March-year of four hundred. -/
def begun (r : Int) : Int := r * 365 + r / 4 - r / 100
/-- Which March-year. -/
def yrf (x : Int) : Int := (x - x / 1460 + x / 36524 - x / 146096) / 365
def lastDay (r : Nat) : Int := if r = 399 then 146096 else begun (r + 1) - 1

theorem yrf_mono (x y : Int) (h0 : 0 ≤ x) (h : x ≤ y) (h1 : y < 146097) : yrf x ≤ yrf y := by
  unfold yrf
  have a : x - x / 1460 ≤ y - y / 1460 := by omega
  have b : x / 36524 - x / 146096 ≤ y / 36524 - y / 146096 := by omega
  omega
def rowOk (r : Nat) : Bool := decide (yrf (begun r) = r ∧ yrf (lastDay r) = r ∧ 0 ≤ begun r ∧ begun r ≤ lastDay r ∧ lastDay r < 146097)
theorem rows_ok : ∀ r, r < 400 → rowOk r = true := by decide +kernel
theorem yr_find (x : Int) (h0 : 0 ≤ x) : ∀ k : Nat, k < 400 → x ≤ lastDay k → ∃ r : Nat, r ≤ k ∧ begun r ≤ x ∧ x ≤ lastDay r := by
  intro k
  induction k with
  | zero => intro _ h; exact ⟨0, Nat.le_refl _, by simpa [begun] using h0, h⟩
  | succ k ih =>
    intro hk h
    by_cases hb : begun ((k + 1 : Nat) : Int) ≤ x
    · exact ⟨k + 1, Nat.le_refl _, hb, h⟩
    · obtain ⟨r, h1, h2, h3⟩ := ih (by omega) (by unfold lastDay; rw [if_neg (by omega)]; have e : ((k + 1 : Nat) : Int) = (k : Int) + 1 := by omega
                                                  rw [e] at hb; omega)
      exact ⟨r, by omega, h2, h3⟩
/-- The year of a day among four hundred years. -/
theorem yrf_spec (x : Int) (h0 : 0 ≤ x) (h1 : x < 146097) : ∃ r : Nat, r < 400 ∧ yrf x = r ∧ begun r ≤ x ∧ x ≤ lastDay r := by
  obtain ⟨r, hr, hb, hl⟩ := yr_find x h0 399 (by omega) (by unfold lastDay; rw [if_pos rfl]; omega)
  have ok := rows_ok r (by omega)
  unfold rowOk at ok
  rw [decide_eq_true_eq] at ok
  obtain ⟨e1, e2, e3, e4, e5⟩ := ok
  have m1 := yrf_mono _ _ e3 hb h1
  have m2 := yrf_mono _ _ h0 hl e5
  exact ⟨r, by omega, by omega, hb, hl⟩
theorem yrf_of (x : Int) (r : Nat) (hr : r < 400) (hb : begun r ≤ x) (hl : x ≤ lastDay r) : yrf x = r := by
  have ok := rows_ok r hr
  unfold rowOk at ok
  rw [decide_eq_true_eq] at ok
  obtain ⟨e1, e2, e3, e4, e5⟩ := ok
  have m1 := yrf_mono _ _ e3 hb (by omega)
  have m2 := yrf_mono _ _ (by omega) hl e5
  omega

def leap (y : Int) : Bool := (y % 4 == 0 && y % 100 != 0) || y % 400 == 0
/-- The days of a month, as the table has them. -/
def lens : List Int := [31, 28, 31, 30, 31, 30, 31, 31, 30, 31, 30, 31]
def len (y m : Int) : Int := if m = 2 ∧ leap y = true then 29 else lens.getD (m - 1).toNat 0
/-- The March-year and March-month. -/
def my (y m : Int) : Int := if m < 3 then y - 1 else y
def mm (m : Int) : Int := if m < 3 then m + 9 else m - 3
def num (y m d : Int) : Int := my y m / 400 * 146097 + begun (my y m % 400) + (153 * mm m + 2) / 5 + d - 1 - 719468
def ofG (n : Int) : Int := (n + 719468) / 146097
def ofR (n : Int) : Int := (n + 719468) % 146097
def ofY (n : Int) : Int := yrf (ofR n)
def ofD (n : Int) : Int := ofR n - begun (ofY n)
def ofM (n : Int) : Int := (5 * ofD n + 2) / 153
def yearOf (n : Int) : Int := ofY n + ofG n * 400 + if ofM n + 3 > 12 then 1 else 0
def monthOf (n : Int) : Int := if ofM n + 3 > 12 then ofM n + 3 - 12 else ofM n + 3
def dayOf (n : Int) : Int := ofD n - (153 * ofM n + 2) / 5 + 1
def Valid (y m d : Int) : Prop := 1 ≤ y ∧ y ≤ 9999 ∧ 1 ≤ m ∧ m ≤ 12 ∧ 1 ≤ d ∧ d ≤ len y m

theorem num_day (y m d e : Int) : num y m (d + e) = num y m d + e := by unfold num; omega
theorem leap_iff (y : Int) : leap y = true ↔ (y % 4 = 0 ∧ y % 100 ≠ 0) ∨ y % 400 = 0 := by
  unfold leap; simp
theorem len_month (y m : Int) (h1 : 1 ≤ m) (h2 : m ≤ 12) :
    len y m = if m = 2 then (if leap y = true then 29 else 28) else if m = 4 ∨ m = 6 ∨ m = 9 ∨ m = 11 then 30 else 31 := by
  have : m = 1 ∨ m = 2 ∨ m = 3 ∨ m = 4 ∨ m = 5 ∨ m = 6 ∨ m = 7 ∨ m = 8 ∨ m = 9 ∨ m = 10 ∨ m = 11 ∨ m = 12 := by omega
  unfold len
  rcases this with rfl | rfl | rfl | rfl | rfl | rfl | rfl | rfl | rfl | rfl | rfl | rfl <;> simp [lens]
theorem lastDay_len (r : Nat) (hr : r < 400) : lastDay r - begun r = 364 ∨ lastDay r - begun r = 365 := by
  unfold lastDay begun
  split
  · subst_vars; decide
  · omega
/-- A March-year has 366 days just if its end lies in a leap year. -/
theorem lastDay_leap (r : Nat) (hr : r < 400) : lastDay r - begun r = if leap ((r : Int) + 1) = true then 365 else 364 := by
  have e := leap_iff ((r : Int) + 1)
  by_cases h : leap ((r : Int) + 1) = true
  · rw [if_pos h]
    have := e.1 h
    unfold lastDay begun
    split
    · subst_vars; decide
    · omega
  · rw [if_neg h]
    have h' : ¬ (((((r : Int) + 1) % 4 = 0 ∧ ((r : Int) + 1) % 100 ≠ 0) ∨ ((r : Int) + 1) % 400 = 0)) := fun x => h (e.2 x)
    unfold lastDay begun
    split
    · subst_vars; omega
    · omega
theorem leap_mod (y : Int) : leap y = leap (y % 400) := by
  rw [Bool.eq_iff_iff, leap_iff, leap_iff]; omega

/-- The day of its year that a month's day is. -/
theorem md_bd (y m d : Int) (h : Valid y m d) :
    ∃ r : Nat, r < 400 ∧ (r : Int) = my y m % 400 ∧ 0 ≤ (153 * mm m + 2) / 5 + d - 1 ∧ begun r + ((153 * mm m + 2) / 5 + d - 1) ≤ lastDay r := by
  obtain ⟨h1, h2, h3, h4, h5, h6⟩ := h
  rw [len_month y m h3 h4] at h6
  refine ⟨(my y m % 400).toNat, by omega, by omega, ?_, ?_⟩
  · have : 0 ≤ mm m := by unfold mm; split <;> omega
    omega
  · have hl := lastDay_leap (my y m % 400).toNat (by omega)
    have he : (((my y m % 400).toNat : Nat) : Int) = my y m % 400 := by omega
    have hlp : leap ((((my y m % 400).toNat : Nat) : Int) + 1) = leap (my y m + 1) := by
      rw [he, leap_mod, leap_mod (my y m + 1)]
      congr 1
      omega
    rw [hlp] at hl
    have hm : m = 1 ∨ m = 2 ∨ m = 3 ∨ m = 4 ∨ m = 5 ∨ m = 6 ∨ m = 7 ∨ m = 8 ∨ m = 9 ∨ m = 10 ∨ m = 11 ∨ m = 12 := by omega
    by_cases hlt : m < 3
    · have e1 : my y m + 1 = y := by unfold my; rw [if_pos hlt]; omega
      have e2 : mm m = m + 9 := by unfold mm; rw [if_pos hlt]
      rw [e1] at hl
      rw [e2]
      have : m = 1 ∨ m = 2 := by omega
      rcases this with rfl | rfl
      · simp at h6; split at hl <;> omega
      · rw [if_pos rfl] at h6
        by_cases hq : leap y = true
        · rw [if_pos hq] at h6 hl; omega
        · rw [if_neg hq] at h6 hl; omega
    · have e2 : mm m = m - 3 := by unfold mm; rw [if_neg hlt]
      rw [e2]
      have h7 : (153 * (m - 3) + 2) / 5 + d - 1 ≤ 305 := by
        rcases hm with rfl | rfl | rfl | rfl | rfl | rfl | rfl | rfl | rfl | rfl | rfl | rfl <;> simp at h6 <;> omega
      split at hl <;> omega

theorem num_parts (y m d : Int) (h : Valid y m d) : ofG (num y m d) = my y m / 400 ∧ ofY (num y m d) = my y m % 400 ∧ ofD (num y m d) = (153 * mm m + 2) / 5 + d - 1 := by
  obtain ⟨r, hr, he, h0, h1⟩ := md_bd y m d h
  have ok := rows_ok r hr
  unfold rowOk at ok
  rw [decide_eq_true_eq] at ok
  obtain ⟨e1, e2, e3, e4, e5⟩ := ok
  have eR : ofR (num y m d) = begun r + ((153 * mm m + 2) / 5 + d - 1) := by unfold ofR num; rw [he] at *; omega
  have eG : ofG (num y m d) = my y m / 400 := by unfold ofG num; rw [he] at *; omega
  have eY : ofY (num y m d) = r := by unfold ofY; rw [eR]; exact yrf_of _ r hr (by omega) h1
  refine ⟨eG, by rw [eY, he], ?_⟩
  unfold ofD
  rw [eY, eR]; omega
theorem of_num (y m d : Int) (h : Valid y m d) : yearOf (num y m d) = y ∧ monthOf (num y m d) = m ∧ dayOf (num y m d) = d := by
  obtain ⟨p1, p2, p3⟩ := num_parts y m d h
  obtain ⟨h1, h2, h3, h4, h5, h6⟩ := h
  rw [len_month y m h3 h4] at h6
  have eM : ofM (num y m d) = mm m := by
    unfold ofM; rw [p3]
    have hm : m = 1 ∨ m = 2 ∨ m = 3 ∨ m = 4 ∨ m = 5 ∨ m = 6 ∨ m = 7 ∨ m = 8 ∨ m = 9 ∨ m = 10 ∨ m = 11 ∨ m = 12 := by omega
    have hd : d ≤ if m = 2 then 29 else if m = 4 ∨ m = 6 ∨ m = 9 ∨ m = 11 then 30 else 31 := by
      split at h6
      · rw [if_pos (by assumption)]; split at h6 <;> omega
      · rw [if_neg (by assumption)]; exact h6
    rcases hm with rfl | rfl | rfl | rfl | rfl | rfl | rfl | rfl | rfl | rfl | rfl | rfl <;> simp [mm] at hd ⊢ <;> omega
  unfold yearOf monthOf dayOf
  rw [eM, p1, p2, p3]
  unfold my mm
  by_cases hlt : m < 3
  · simp only [if_pos hlt]
    rw [if_pos (by omega), if_pos (by omega)]
    omega
  · simp only [if_neg hlt]
    rw [if_neg (by omega), if_neg (by omega)]
    omega

/-- Each day of the calendar is the number of its date. -/
theorem num_of (n : Int) (h0 : -719162 ≤ n) (h1 : n < 2932897) : Valid (yearOf n) (monthOf n) (dayOf n) ∧ num (yearOf n) (monthOf n) (dayOf n) = n := by
  obtain ⟨r, hr, hY, hb, hl⟩ := yrf_spec (ofR n) (by unfold ofR; omega) (by unfold ofR; omega)
  have eY : ofY n = r := hY
  have hlen := lastDay_leap r hr
  have d0 : 0 ≤ ofD n := by unfold ofD; rw [eY]; omega
  have d1 : ofD n ≤ lastDay r - begun r := by unfold ofD; rw [eY]; omega
  have eRn : ofR n = begun r + ofD n := by unfold ofD; rw [eY]; omega
  have nG : n + 719468 = ofG n * 146097 + ofR n := by unfold ofG ofR; omega
  have m0 : 0 ≤ ofM n ∧ ofM n ≤ 11 := by
    have : ofD n ≤ 365 := by split at hlen <;> omega
    unfold ofM; omega
  have dd : 1 ≤ dayOf n := by unfold dayOf ofM; omega
  have g0 : 0 ≤ ofG n := by unfold ofG; omega
  have g1 : ofG n ≤ 24 := by unfold ofG; omega
  have hmm : mm (monthOf n) = ofM n := by
    unfold mm monthOf; split <;> split <;> omega
  have hmy : my (yearOf n) (monthOf n) = ofY n + ofG n * 400 := by
    unfold my monthOf yearOf
    by_cases hc : ofM n + 3 > 12
    · simp only [if_pos hc]; rw [if_pos (by omega)]; omega
    · simp only [if_neg hc]; rw [if_neg (by omega)]; omega
  have hr' : (r : Int) < 400 := by omega
  have hnum : num (yearOf n) (monthOf n) (dayOf n) = n := by
    unfold num
    rw [hmy, hmm, eY]
    have a1 : ((r : Int) + ofG n * 400) / 400 = ofG n := by omega
    have a2 : ((r : Int) + ofG n * 400) % 400 = r := by omega
    rw [a1, a2]
    unfold dayOf
    omega
  have hmon : 1 ≤ monthOf n ∧ monthOf n ≤ 12 := by unfold monthOf; split <;> omega
  refine ⟨⟨?_, ?_, hmon.1, hmon.2, dd, ?_⟩, hnum⟩
  · -- the year is 1 at least
    unfold yearOf
    rw [eY]
    rcases Int.lt_or_le 0 (ofG n) with h | h
    · split <;> omega
    · have : ofG n = 0 := by omega
      rw [this] at nG ⊢
      by_cases hz : r = 0
      · subst hz
        have hb0 : begun ((0 : Nat) : Int) = 0 := by decide
        have : 306 ≤ ofD n := by omega
        rw [if_pos (by unfold ofM; omega)]
        omega
      · split <;> omega
  · -- and 9999 at most
    unfold yearOf
    rw [eY]
    by_cases hz : ofG n = 24 ∧ r = 399
    · obtain ⟨hg, rfl⟩ := hz
      have hb0 : begun ((399 : Nat) : Int) = 145731 := by decide
      have : ofD n ≤ 305 := by rw [hg] at nG; omega
      rw [if_neg (by unfold ofM; omega), hg]
      omega
    · split <;> omega
  · -- no day is behind its month's end
    rw [len_month _ _ hmon.1 hmon.2]
    have hmoncases : ofM n = 0 ∨ ofM n = 1 ∨ ofM n = 2 ∨ ofM n = 3 ∨ ofM n = 4 ∨ ofM n = 5 ∨ ofM n = 6 ∨ ofM n = 7 ∨ ofM n = 8 ∨ ofM n = 9 ∨ ofM n = 10 ∨ ofM n = 11 := by omega
    have hM : ofM n = (5 * ofD n + 2) / 153 := rfl
    by_cases h11 : ofM n = 11
    · have e1 : monthOf n = 2 := by unfold monthOf; rw [if_pos (by omega)]; omega
      have e2 : yearOf n = r + 1 + ofG n * 400 := by unfold yearOf; rw [if_pos (by omega), eY]; omega
      rw [e1, if_pos rfl, e2]
      have e3 : leap ((r : Int) + 1 + ofG n * 400) = leap ((r : Int) + 1) := by
        rw [leap_mod, leap_mod ((r : Int) + 1)]; congr 1; omega
      rw [e3]
      unfold dayOf
      rw [h11]
      split at hlen
      · rw [if_pos (by assumption)]; omega
      · rw [if_neg (by assumption)]; omega
    · have e1 : monthOf n ≠ 2 := by unfold monthOf; split <;> omega
      rw [if_neg e1]
      unfold dayOf
      have e4 : monthOf n = if ofM n + 3 > 12 then ofM n + 3 - 12 else ofM n + 3 := rfl
      rcases hmoncases with h | h | h | h | h | h | h | h | h | h | h | h <;> rw [h] at hM e4 ⊢ <;> simp at e4 <;> rw [e4] <;> simp <;> omega

def ahead (y : Int) : Int := y / 400 * 146097 + begun (y % 400)
theorem of_facts (n : Int) (g r y d : Int) (hg : (n + 719468) / 146097 = g) (hr : (n + 719468) % 146097 = r) (hy : (r - r / 1460 + r / 36524 - r / 146096) / 365 = y) (hd : r - (365 * y + y / 4 - y / 100) = d) :
    0 ≤ d ∧ d ≤ 365 ∧ g = ofG n ∧ y = ofY n ∧ d = ofD n := by
  have e1 : ofR n = r := hr
  obtain ⟨k, hk, hY, hb, hl⟩ := yrf_spec r (by omega) (by omega)
  have e2 : y = k := by rw [← hY, ← hy]; rfl
  have e3 : ofY n = k := by unfold ofY; rw [e1]; exact hY
  have hlen := lastDay_leap k hk
  have e4 : d = r - begun k := by rw [← hd, e2]; unfold begun; omega
  refine ⟨by omega, by split at hlen <;> omega, hg.symm, by rw [e2, e3], by unfold ofD; rw [e1, e3, e4]⟩
theorem parts_big (n : Int) (h : (5 * ofD n + 2) / 153 + 3 > 12) : yearOf n = ofY n + ofG n * 400 + 1 ∧ monthOf n = (5 * ofD n + 2) / 153 + 3 - 12 ∧ dayOf n = ofD n - (153 * ((5 * ofD n + 2) / 153) + 2) / 5 + 1 := by
  have h' : ofM n + 3 > 12 := h
  unfold yearOf monthOf
  rw [if_pos h', if_pos h']
  exact ⟨rfl, rfl, rfl⟩
theorem parts_small (n : Int) (h : (5 * ofD n + 2) / 153 + 3 ≤ 12) : yearOf n = ofY n + ofG n * 400 ∧ monthOf n = (5 * ofD n + 2) / 153 + 3 ∧ dayOf n = ofD n - (153 * ((5 * ofD n + 2) / 153) + 2) / 5 + 1 := by
  have h' : ¬ (ofM n + 3 > 12) := by unfold ofM; omega
  unfold yearOf monthOf
  rw [if_neg h', if_neg h']
  exact ⟨by omega, rfl, rfl⟩
theorem ahead_eq (y : Int) : ahead y = y * 365 + y / 4 - y / 100 + y / 400 := by unfold ahead begun; omega
theorem ahead_succ (y : Int) : ahead y = ahead (y - 1) + 365 + if leap y = true then 1 else 0 := by
  rw [ahead_eq, ahead_eq]
  have hlp := leap_iff y
  by_cases hl : leap y = true
  · rw [if_pos hl]; have := hlp.1 hl; omega
  · rw [if_neg hl]; have : ¬ ((y % 4 = 0 ∧ y % 100 ≠ 0) ∨ y % 400 = 0) := fun x => hl (hlp.2 x); omega
theorem num_ahead (y m d : Int) : num y m d = ahead (my y m) + (153 * mm m + 2) / 5 + d - 1 - 719468 := rfl
theorem first_ahead (y : Int) : num y 1 1 = ahead (y - 1) + 306 - 719468 := by rw [num_ahead]; simp [my, mm]
theorem first_succ (y : Int) : num (y + 1) 1 1 = num y 1 1 + 365 + if leap y = true then 1 else 0 := by
  rw [first_ahead, first_ahead, show y + 1 - 1 = y by omega, ahead_succ y]; omega
theorem first_le (y m d : Int) (h : Valid y m d) : num y 1 1 ≤ num y m d ∧ num y m d < num (y + 1) 1 1 := by
  obtain ⟨h1, h2, h3, h4, h5, h6⟩ := h
  rw [len_month y m h3 h4] at h6
  have hm : m = 1 ∨ m = 2 ∨ m = 3 ∨ m = 4 ∨ m = 5 ∨ m = 6 ∨ m = 7 ∨ m = 8 ∨ m = 9 ∨ m = 10 ∨ m = 11 ∨ m = 12 := by omega
  rw [first_succ, first_ahead, num_ahead]
  have hs := ahead_succ y
  unfold my mm
  by_cases hl : leap y = true
  · simp only [if_pos hl] at h6 hs ⊢
    rcases hm with rfl | rfl | rfl | rfl | rfl | rfl | rfl | rfl | rfl | rfl | rfl | rfl <;> simp at h6 ⊢ <;> omega
  · simp only [if_neg hl] at h6 hs ⊢
    rcases hm with rfl | rfl | rfl | rfl | rfl | rfl | rfl | rfl | rfl | rfl | rfl | rfl <;> simp at h6 ⊢ <;> omega
theorem first_mono (y z : Int) (h : y ≤ z) : num y 1 1 ≤ num z 1 1 := by
  rw [first_ahead, first_ahead, ahead_eq, ahead_eq]; omega
end Go.Proofs.YthmhadgbhakdlaaDoor.Cv

/- The contracts of package civil. -/
namespace Go.Proofs.YthmhadgbhakdlaaDoor
open Go.RowKit

def InCal (y m : Int) : Prop := 1 ≤ y ∧ y ≤ 9999 ∧ 1 ≤ m ∧ m ≤ 12

theorem ret_int2 {k : IntKind} {a b : Int} {v : Value} (h : a = b) : Ending.returned (.tuple #[.int k a, v]) = .returned (.tuple #[.int k b, v]) := by rw [h]

theorem valid_31 {y m d : Int} (h : Cv.Valid y m d) : 1 ≤ d ∧ d ≤ 31 := by
  obtain ⟨h1, h2, h3, h4, h5, h6⟩ := h
  rw [Cv.len_month y m h3 h4] at h6
  refine ⟨h5, ?_⟩
  split at h6
  · split at h6 <;> omega
  · split at h6 <;> omega

def dow (n : Int) : Int := (n % 7 + 4) % 7
theorem tmod_7 (n : Int) : n.tmod 7 = if 0 ≤ n then n % 7 else -((-n) % 7) := by
  by_cases h : 0 ≤ n
  · rw [if_pos h, Int.tmod_eq_emod_of_nonneg h]
  · rw [if_neg h]
    have : n = -(-n) := by omega
    rw [this, Int.neg_tmod, Int.tmod_eq_emod_of_nonneg (by omega)]
    omega
theorem dow_walk (n : Int) : (wrap64 (n.tmod 7 + 11)).tmod 7 = dow n := by
  have h := tmod_7 n
  have hb : 0 ≤ n.tmod 7 + 11 ∧ n.tmod 7 + 11 ≤ 17 := by rw [h]; split <;> omega
  have hw : wrap64 (n.tmod 7 + 11) = n.tmod 7 + 11 := by unfold wrap64; omega
  rw [hw, Int.tmod_eq_emod_of_nonneg hb.1, h]
  unfold dow
  split <;> omega
theorem num_min : Cv.num 1 1 1 = -719162 := by decide
theorem num_max : Cv.num 10000 1 1 = 2932897 := by decide
end Go.Proofs.YthmhadgbhakdlaaDoor

/- Plain law of digits: what a text of digits tells. -/
namespace Go.Proofs.YthmhadgbhakdlaaDoor.Dy
open Go.RowKit

def numLoop : List UInt8 → Int → Int
  | [], a => a
  | c :: r, a => if (c.toNat : Int) < 48 ∨ 57 < (c.toNat : Int) then -1 else numLoop r (a * 10 + ((c.toNat : Int) - 48))

theorem numLoop_bad (l : List UInt8) (k : Nat) (c : UInt8) (a : Int) (N : Int) (hN : N = numLoop (l.drop k) a) (hc : l[k]? = some c) (h : (c.toNat : Int) < 48 ∨ 57 < (c.toNat : Int)) : N = -1 := by
  obtain ⟨hk, e⟩ := List.getElem?_eq_some_iff.1 hc
  rw [hN, List.drop_eq_getElem_cons hk, e]
  simp only [numLoop]
  rw [if_pos h]
theorem numLoop_next (l : List UInt8) (k : Nat) (c : UInt8) (a : Int) (N : Int) (hN : N = numLoop (l.drop k) a) (hc : l[k]? = some c) (h : ¬ ((c.toNat : Int) < 48 ∨ 57 < (c.toNat : Int))) : N = numLoop (l.drop (k + 1)) (a * 10 + ((c.toNat : Int) - 48)) := by
  obtain ⟨hk, e⟩ := List.getElem?_eq_some_iff.1 hc
  rw [hN, List.drop_eq_getElem_cons hk, e]
  simp only [numLoop]
  rw [if_neg h]
theorem numLoop_end (l : List UInt8) (k : Nat) (a : Int) (N : Int) (hN : N = numLoop (l.drop k) a) (h : l.length = k) : N = a := by
  rw [hN, List.drop_eq_nil_of_le (by omega)]; rfl
theorem tl_get (s : ByteArray) (k : Nat) (h : k < s.size) : (tl s)[k]? = some s[k] := by
  unfold tl
  rw [List.getElem?_eq_getElem (by simpa using h), Array.getElem_toList]
  rfl
end Go.Proofs.YthmhadgbhakdlaaDoor.Dy

/- Plain law of the days of a month: what is read of a text, and how one is written. -/
namespace Go.Proofs.YthmhadgbhakdlaaDoor.Dy
open Go.RowKit

/-- Whether a day is right: 0, or 2. -/
def Ok (k n w : Int) : Prop := (k = 0 ∧ 1 ≤ n ∧ n ≤ 31 ∧ w = 0) ∨ (k = 1 ∧ n = 0 ∧ 0 ≤ w ∧ w ≤ 6) ∨ ((k = 2 ∨ k = 3) ∧ 1 ≤ n ∧ n ≤ 31 ∧ 0 ≤ w ∧ w ≤ 6)
instance (k n w : Int) : Decidable (Ok k n w) := by unfold Ok; exact inferInstance

def numD (l : List UInt8) : Int := if l.length < 1 ∨ 2 < l.length then -1 else numLoop l 0

theorem numLoop_bd : ∀ (l : List UInt8) (a : Int), 0 ≤ a → a < 100000 → l.length ≤ 2 → -1 ≤ numLoop l a ∧ numLoop l a < 100000000 := by
  intro l a h0 h1 hl
  match l, hl with
  | [], _ => simp only [numLoop]; omega
  | [c], _ =>
    simp only [numLoop]
    split <;> omega
  | [c, d], _ =>
    simp only [numLoop]
    split
    · omega
    · split <;> omega
theorem numD_bd (l : List UInt8) : -1 ≤ numD l ∧ numD l < 100000000 := by
  unfold numD
  split
  · omega
  · exact numLoop_bd l 0 (by omega) (by omega) (by omega)

def lastL : List UInt8 := [108, 97, 115, 116]
def fromL : List UInt8 := [62, 61]
def uptoL : List UInt8 := [60, 61]
def told (l : List UInt8) : Int × Int × Int :=
  if 0 ≤ numD l then (0, numD l, 0)
  else if 4 ≤ l.length ∧ Wd.same (l.take 4) lastL = true then (1, 0, Wd.pick (l.drop 4) (Days.map tl))
  else if (Lib.cut l fromL).2.2 = true then (2, numD (Lib.cut l fromL).2.1, Wd.pick (Lib.cut l fromL).1 (Days.map tl))
  else if (Lib.cut l uptoL).2.2 = true then (3, numD (Lib.cut l uptoL).2.1, Wd.pick (Lib.cut l uptoL).1 (Days.map tl))
  else (4, 0, 0)
def dec (n : Int) : List UInt8 := if n < 10 then [UInt8.ofNat (48 + n.toNat)] else [UInt8.ofNat (48 + n.toNat / 10), UInt8.ofNat (48 + n.toNat % 10)]
theorem dec_eq (n : Nat) (h : n < 100) : Lib.decDigits n = dec (n : Int) := by
  unfold dec Lib.decDigits
  by_cases h1 : n < 10
  · rw [dif_pos h1, if_pos (by omega), Int.toNat_natCast]
  · rw [dif_neg h1, if_neg (by omega), Int.toNat_natCast]
    unfold Lib.decDigits
    rw [dif_pos (by omega)]; rfl
def text (k n w : Int) : List UInt8 :=
  if k = 1 then lastL ++ tl (textOf Days w) else if k = 2 then tl (textOf Days w) ++ fromL ++ dec n else if k = 3 then tl (textOf Days w) ++ uptoL ++ dec n else dec n

def backOk (k n w : Int) : Bool := decide (told (text k n w) = (k, n, w))
theorem back0 : ∀ n : Nat, n < 31 → backOk 0 ((n : Int) + 1) 0 = true := by decide +kernel
theorem back1 : ∀ w : Nat, w < 7 → backOk 1 0 (w : Int) = true := by decide +kernel
theorem back2 : ∀ n : Nat, n < 31 → ∀ w : Nat, w < 7 → backOk 2 ((n : Int) + 1) (w : Int) = true := by decide +kernel
theorem back3 : ∀ n : Nat, n < 31 → ∀ w : Nat, w < 7 → backOk 3 ((n : Int) + 1) (w : Int) = true := by decide +kernel
/-- A right day is read from its text. -/
theorem told_text (k n w : Int) (h : Ok k n w) : told (text k n w) = (k, n, w) := by
  rcases h with ⟨rfl, h1, h2, rfl⟩ | ⟨rfl, rfl, h1, h2⟩ | ⟨hk, h1, h2, h3, h4⟩
  · have := back0 (n - 1).toNat (by omega)
    rw [show (((n - 1).toNat : Nat) : Int) + 1 = n by omega] at this
    exact of_decide_eq_true this
  · have := back1 w.toNat (by omega)
    rw [show ((w.toNat : Nat) : Int) = w by omega] at this
    exact of_decide_eq_true this
  · rcases hk with rfl | rfl
    · have := back2 (n - 1).toNat (by omega) w.toNat (by omega)
      rw [show (((n - 1).toNat : Nat) : Int) + 1 = n by omega, show ((w.toNat : Nat) : Int) = w by omega] at this
      exact of_decide_eq_true this
    · have := back3 (n - 1).toNat (by omega) w.toNat (by omega)
      rw [show (((n - 1).toNat : Nat) : Int) + 1 = n by omega, show ((w.toNat : Nat) : Int) = w by omega] at this
      exact of_decide_eq_true this
end Go.Proofs.YthmhadgbhakdlaaDoor.Dy

/- The contracts of package day. -/
namespace Go.Proofs.YthmhadgbhakdlaaDoor
open Go.RowKit

end Go.Proofs.YthmhadgbhakdlaaDoor

/- The contracts of package day: what a text tells, and a day's text. -/
namespace Go.Proofs.YthmhadgbhakdlaaDoor
open Go.RowKit


theorem tl_take (s : ByteArray) (k : Nat) : tl (s.extract 0 k) = (tl s).take k := by simp [tl]
/-- A day as a value. -/
def dayV (x : Int × Int × Int) : Value := .agg #[.int .u8 x.1, .int .i64 x.2.1, .int .i64 x.2.2]
theorem tl_mk (l : List UInt8) : tl ⟨l.toArray⟩ = l := by simp [tl]
theorem size_mk (l : List UInt8) : (⟨l.toArray⟩ : ByteArray).size = l.length := rfl
theorem cut_len (s sep : List UInt8) : (Lib.cut s sep).1.length ≤ s.length ∧ (Lib.cut s sep).2.1.length ≤ s.length := by
  unfold Lib.cut
  split
  · simp only [List.length_take, List.length_drop]; omega
  · simp
theorem tl_drop (s : ByteArray) (k : Nat) : tl (s.extract k s.size) = (tl s).drop k := by
  have h : (s.extract k s.size).data.toList = (s.data.toList.drop k) := by
    simp [ByteArray.data_extract, Array.toList_extract]
    exact List.take_of_length_le (by rw [List.length_drop]; exact Nat.le_refl _)
  exact h

/-- A block of three cells, behind what a callee did. -/
theorem new3 {w w1 : World} {a b c : Value} {t : TypeId} (hb : Below (w.heap.size + 1) (w.alloc (.cells #[a, b, c] t)) w1) :
    w1.cell? ⟨w.heap.size, 0, none⟩ = some a ∧ w1.cell? ⟨w.heap.size, 1, none⟩ = some b ∧ w1.cell? ⟨w.heap.size, 2, none⟩ = some c ∧
    w1.frozen? ⟨w.heap.size, 0, none⟩ = false ∧ w1.frozen? ⟨w.heap.size, 1, none⟩ = false ∧ w1.frozen? ⟨w.heap.size, 2, none⟩ = false := by
  have h : ∀ i, w1.cell? ⟨w.heap.size, i, none⟩ = #[a, b, c][i]? := fun i => (hb.cell (p := ⟨w.heap.size, i, none⟩) (Nat.lt_succ_self _)).trans (cell_of_row _ w.heap.size i _ _ _ (heap_alloc_new w _))
  have hf : ∀ i, w1.frozen? ⟨w.heap.size, i, none⟩ = false := fun i => (hb.frozen (p := ⟨w.heap.size, i, none⟩) (Nat.lt_succ_self _)).trans (by have e := heap_alloc_new w (.cells #[a, b, c] t); unfold World.frozen?; simp only [e]; simp)
  exact ⟨h 0, h 1, h 2, hf 0, hf 1, hf 2⟩
theorem below_new {w w1 : World} {o : Obj} (hb : Below (w.heap.size + 1) (w.alloc o) w1) : Below w.heap.size w w1 := ((Below.refl _ _).alloc (Nat.le_refl _) _).trans (hb.mono (Nat.le_succ _))

end Go.Proofs.YthmhadgbhakdlaaDoor

/- The contracts of package day: Parse, Text. -/
namespace Go.Proofs.YthmhadgbhakdlaaDoor
open Go.RowKit

theorem app_mk (a b : ByteArray) : a ++ b = ⟨(tl a ++ tl b).toArray⟩ := by
  apply WideShapes.bytes_inj
  simp [tl]
theorem app_mk2 (a b c : ByteArray) : a ++ b ++ c = ⟨(tl a ++ tl b ++ tl c).toArray⟩ := by
  rw [app_mk (a ++ b) c, app_mk a b, tl_mk]
theorem textDays_size (d : Int) : (textOf Days d).size ≤ 3 := by
  unfold textOf
  split
  · simp only [ByteArray.size_extract]; omega
  · exact Nat.zero_le _
theorem dec_size (n : Int) : (⟨(Dy.dec n).toArray⟩ : ByteArray).size ≤ 2 := by
  rw [size_mk]; unfold Dy.dec; split <;> simp
theorem ret_str2 {a b : ByteArray} {v : Value} (h : a = b) : Ending.returned (.tuple #[.string a, v]) = .returned (.tuple #[.string b, v]) := by rw [h]

end Go.Proofs.YthmhadgbhakdlaaDoor

/- The contract of day.In. -/
namespace Go.Proofs.YthmhadgbhakdlaaDoor
open Go.RowKit

namespace Dy
/-- The day that a kind tells, ahead of the look at the calendar's bounds. -/
def base (k n y m : Int) : Int := Cv.num y m (if k = 1 then Cv.len y m else n)
def res (k n d y m : Int) : Int := if k = 2 then base k n y m + (d - dow (base k n y m)) % 7 else if k = 0 then base k n y m else base k n y m - (dow (base k n y m) - d) % 7
def inS (k n d y m : Int) : Int × Int :=
  if ¬ Ok k n d then (0, 2) else if ¬ (1 ≤ y ∧ y ≤ 9999 ∧ 1 ≤ m ∧ m ≤ 12) then (0, 1) else if n > Cv.len y m then (0, 3)
  else if -719162 ≤ res k n d y m ∧ res k n d y m < 2932897 then (res k n d y m, 0) else (0, 1)
end Dy
theorem dow_bd (n : Int) : 0 ≤ dow n ∧ dow n ≤ 6 := by unfold dow; omega
theorem num_bd (y m d : Int) (h : Cv.Valid y m d) : -719162 ≤ Cv.num y m d ∧ Cv.num y m d < 2932897 := by
  have h1 := Cv.first_le y m d h
  obtain ⟨a, b, _⟩ := h
  have h2 := Cv.first_mono 1 y a
  have h3 := Cv.first_mono (y + 1) 10000 (by omega)
  rw [num_min] at h2
  rw [num_max] at h3
  omega

end Go.Proofs.YthmhadgbhakdlaaDoor

/- The contract of the statements' own 'lives' of package day. -/
namespace Go.Proofs.YthmhadgbhakdlaaDoor
open Go.RowKit

theorem inS_ok (k n d y m : Int) (h : Dy.Ok k n d) (hc : InCal y m) (hn : ¬ n > Cv.len y m) : Dy.inS k n d y m = (if -719162 ≤ Dy.res k n d y m ∧ Dy.res k n d y m < 2932897 then Dy.res k n d y m else 0, if -719162 ≤ Dy.res k n d y m ∧ Dy.res k n d y m < 2932897 then 0 else 1) := by
  unfold Dy.inS
  rw [if_neg (fun x => x h), if_neg (fun x => x hc), if_neg hn]
  by_cases hr : -719162 ≤ Dy.res k n d y m ∧ Dy.res k n d y m < 2932897
  · rw [if_pos hr, if_pos hr, if_pos hr]
  · rw [if_neg hr, if_neg hr, if_neg hr]
/-- What a block of cells holds stays behind what a callee did. -/
theorem kept3 {w w1 : World} {g : Nat} {a b c : Value} (h : w.cell? ⟨g, 0, none⟩ = some a ∧ w.cell? ⟨g, 1, none⟩ = some b ∧ w.cell? ⟨g, 2, none⟩ = some c) (hb : Below w.heap.size w w1) :
    w1.cell? ⟨g, 0, none⟩ = some a ∧ w1.cell? ⟨g, 1, none⟩ = some b ∧ w1.cell? ⟨g, 2, none⟩ = some c := by
  have hg : g < w.heap.size := block_lt_of_cell h.1
  exact ⟨(hb.cell (p := ⟨g, 0, none⟩) hg).trans h.1, (hb.cell (p := ⟨g, 1, none⟩) hg).trans h.2.1, (hb.cell (p := ⟨g, 2, none⟩) hg).trans h.2.2⟩
theorem laid3 (w : World) (a b c : Value) (t : TypeId) : (w.alloc (.cells #[a, b, c] t)).cell? ⟨w.heap.size, 0, none⟩ = some a ∧ (w.alloc (.cells #[a, b, c] t)).cell? ⟨w.heap.size, 1, none⟩ = some b ∧ (w.alloc (.cells #[a, b, c] t)).cell? ⟨w.heap.size, 2, none⟩ = some c :=
  ⟨cell_of_row _ w.heap.size 0 _ _ _ (heap_alloc_new w _), cell_of_row _ w.heap.size 1 _ _ _ (heap_alloc_new w _), cell_of_row _ w.heap.size 2 _ _ _ (heap_alloc_new w _)⟩

theorem kept3a {w w1 : World} {o : Obj} {g : Nat} {a b c : Value} (h : w.cell? ⟨g, 0, none⟩ = some a ∧ w.cell? ⟨g, 1, none⟩ = some b ∧ w.cell? ⟨g, 2, none⟩ = some c) (hb : Below (w.alloc o).heap.size (w.alloc o) w1) :
    w1.cell? ⟨g, 0, none⟩ = some a ∧ w1.cell? ⟨g, 1, none⟩ = some b ∧ w1.cell? ⟨g, 2, none⟩ = some c := kept3 (kept3 h ((Below.refl _ _).alloc (Nat.le_refl _) _)) hb

end Go.Proofs.YthmhadgbhakdlaaDoor

/- The contracts of package clock: instants. -/
namespace Go.Proofs.YthmhadgbhakdlaaDoor
open Go.RowKit

def IsTime (s : Int) : Prop := -604800 ≤ s ∧ s ≤ 604800
instance (s : Int) : Decidable (IsTime s) := by unfold IsTime; exact inferInstance
def InT (s : Int) : Prop := -1099511627776 ≤ s ∧ s ≤ 1099511627776
instance (s : Int) : Decidable (InT s) := by unfold InT; exact inferInstance

theorem ret_int22 {k : IntKind} {a b c d : Int} (h : a = b) (h' : c = d) : Ending.returned (.tuple #[.int k a, .int k c]) = .returned (.tuple #[.int k b, .int k d]) := by rw [h, h']
end Go.Proofs.YthmhadgbhakdlaaDoor

/- The contracts of package clock: a time's text is read. -/
namespace Go.Proofs.YthmhadgbhakdlaaDoor
open Go.RowKit

namespace Ck
def numC (l : List UInt8) (least most : Nat) : Int := if l.length < least ∨ most < l.length then -1 else Dy.numLoop l 0
def resN (N : Int) : Int := if N = -1 then 0 else N
def okN (N : Int) : Bool := !decide (N = -1)
end Ck
theorem ret_nb {a c : Int} {b d : Bool} (h : a = c) (h' : b = d) : Ending.returned (.tuple #[.int .i64 a, .bool b]) = .returned (.tuple #[.int .i64 c, .bool d]) := by rw [h, h']

theorem numLoop3_bd : ∀ (l : List UInt8) (a : Int), 0 ≤ a → -1 ≤ Dy.numLoop l a := by
  intro l
  induction l with
  | nil => intro a h; simp only [Dy.numLoop]; omega
  | cons c r ih =>
    intro a h
    simp only [Dy.numLoop]
    split
    · omega
    · exact ih _ (by omega)

end Go.Proofs.YthmhadgbhakdlaaDoor

/- The contract of clock.Parse. -/
namespace Go.Proofs.YthmhadgbhakdlaaDoor
open Go.RowKit

namespace Ck
def part (i : Nat) : Int := if i = 0 then 3600 else if i = 1 then 60 else 1
def least (i : Nat) : Nat := if i = 0 then 1 else 2
def most (i : Nat) : Nat := if i = 0 then 3 else 2
def bad (v : Int) (i : Nat) : Bool := decide (v = -1) || (decide (0 < i) && decide (60 ≤ v))
def loop : List ByteArray → Nat → Int → Option Int
  | [], _, s => some s
  | f :: r, i, s => if bad (numC (tl f) (least i) (most i)) i = true then none else loop r (i + 1) (s + numC (tl f) (least i) (most i) * part i)
def fin (o : Option Int) (b : Bool) : Int × Int :=
  match o with
  | none => (0, 4)
  | some v => if IsTime (if b then -v else v) then (if b then -v else v, 0) else (0, 1)
def rest (s : ByteArray) : ByteArray := ⟨(Lib.trimPrefix s.data.toList [45]).toArray⟩
def fields (r : ByteArray) : List ByteArray := Lib.splitB ⟨#[58]⟩ 0 (min 4 (r.size + 1) - 1) r
def parse (s : ByteArray) : Int × Int := if 3 < (fields (rest s)).length then (0, 4) else fin (loop (fields (rest s)) 0 0) (Lib.hasPrefix s.data.toList [45])
end Ck

theorem numC_bd (l : List UInt8) (least most : Nat) (h : most ≤ 3) : -1 ≤ Ck.numC l least most ∧ Ck.numC l least most ≤ 999 := by
  unfold Ck.numC
  split
  · omega
  · rename_i hn
    have hl : l.length ≤ 3 := by omega
    match l, hl with
    | [], _ => simp only [Dy.numLoop]; omega
    | [c], _ => simp only [Dy.numLoop]; split <;> omega
    | [c, d], _ =>
      simp only [Dy.numLoop]
      split
      · omega
      · split <;> omega
    | [c, d, e], _ =>
      simp only [Dy.numLoop]
      split
      · omega
      · split
        · omega
        · split <;> omega

theorem field_cell (w : World) (F : List ByteArray) (N : Nat) (t : TypeId) (k : Nat) (f : ByteArray) (h : F[k]? = some f) : (w.alloc (.cells (Lib.cellsOf F N) t)).cell? ⟨w.heap.size, k, none⟩ = some (.string f) := by
  rw [cell_of_row (w.alloc (.cells (Lib.cellsOf F N) t)) w.heap.size k (Lib.cellsOf F N) t (0, 0) (heap_alloc_new w _)]
  unfold Lib.cellsOf
  obtain ⟨hk, e⟩ := List.getElem?_eq_some_iff.1 h
  simp [List.getElem?_append, hk, e]
theorem loop_bad (F : List ByteArray) (k : Nat) (s : Int) (f : ByteArray) (o : Option Int) (h : o = Ck.loop (F.drop k) k s) (hf : F[k]? = some f) (hb : Ck.bad (Ck.numC (tl f) (Ck.least k) (Ck.most k)) k = true) : o = none := by
  obtain ⟨hk, e⟩ := List.getElem?_eq_some_iff.1 hf
  rw [h, List.drop_eq_getElem_cons hk, e, Ck.loop, if_pos hb]
theorem loop_next (F : List ByteArray) (k : Nat) (s : Int) (f : ByteArray) (o : Option Int) (h : o = Ck.loop (F.drop k) k s) (hf : F[k]? = some f) (hb : Ck.bad (Ck.numC (tl f) (Ck.least k) (Ck.most k)) k = false) : o = Ck.loop (F.drop (k + 1)) (k + 1) (s + Ck.numC (tl f) (Ck.least k) (Ck.most k) * Ck.part k) := by
  obtain ⟨hk, e⟩ := List.getElem?_eq_some_iff.1 hf
  rw [h, List.drop_eq_getElem_cons hk, e, Ck.loop, if_neg (by rw [hb]; decide)]
theorem loop_end (F : List ByteArray) (k : Nat) (s : Int) (o : Option Int) (h : o = Ck.loop (F.drop k) k s) (hk : F.length = k) : o = some s := by
  rw [h, List.drop_eq_nil_of_le (by omega)]; rfl

end Go.Proofs.YthmhadgbhakdlaaDoor

/- The contract of clock.Text. -/
namespace Go.Proofs.YthmhadgbhakdlaaDoor
open Go.RowKit

namespace Ck
def two (n : Int) : List UInt8 := [58, UInt8.ofNat (48 + n.toNat / 10), UInt8.ofNat (48 + n.toNat % 10)]
def body (a : Int) : List UInt8 := Lib.itoa (a / 3600) ++ two (a % 3600 / 60) ++ (if 0 < a % 3600 % 60 then two (a % 3600 % 60) else [])
def sign (s : Int) : List UInt8 := if s < 0 then [45] else []
def text (s : Int) : List UInt8 := if IsTime s then sign s ++ body (if s < 0 then -s else s) else []
/-- What is written ahead of a round. -/
def out (l : List UInt8) (a : Int) (k : Nat) : List UInt8 :=
  if k = 0 then l else if k = 1 then l ++ Lib.itoa (a / 3600) else if k = 2 then l ++ Lib.itoa (a / 3600) ++ two (a % 3600 / 60) else l ++ body a
def sec (a : Int) (k : Nat) : Int := if k = 0 then a else if k = 1 then a % 3600 else if k = 2 then a % 3600 % 60 else 0
end Ck

theorem two_cells (m : Int) (h0 : 0 ≤ m) (h1 : m < 100) : Lib.byteCells (Ck.two m) = [.int .u8 58, .int .u8 (48 + m / 10), .int .u8 (48 + m % 10)] := by
  obtain ⟨n, rfl⟩ : ∃ n : Nat, m = (n : Int) := ⟨m.toNat, by omega⟩
  unfold Ck.two Lib.byteCells
  have a1 : (48 + n / 10) % 256 = 48 + n / 10 := by omega
  have a2 : (48 + n % 10) % 256 = 48 + n % 10 := by omega
  simp [UInt8.toNat_ofNat, a1, a2]
theorem reads_cells (w : World) (cs : Array Value) (t : TypeId) : Reads (w.alloc (.cells cs t)) (w.heap.size + 1) 1 (some ⟨w.heap.size, 0, none⟩) cs.size cs.toList := by
  refine ⟨by simp, fun _ => ⟨_, rfl, Nat.lt_succ_self _, fun j u hu => ?_⟩⟩
  have h := cell_of_row (w.alloc (.cells cs t)) w.heap.size j cs t (0, 0) (heap_alloc_new w _)
  have e : (⟨w.heap.size, 0, none⟩ : Addr).add j = ⟨w.heap.size, j, none⟩ := by
    unfold Addr.add
    split
    · subst_vars; rfl
    · simp
  rw [e, h]
  simpa using hu
theorem u8_info : (Tryd.prog.info? 5).map (fun i => (i.zero, i.size, i.bytes)) = some (some (.int .u8 0), 1, 1) := by kernel_rfl
theorem byteCells_append (a b : List UInt8) : Lib.byteCells (a ++ b) = Lib.byteCells a ++ Lib.byteCells b := by simp [Lib.byteCells]
theorem itoa_len (n : Int) (h0 : 0 ≤ n) (h1 : n < 1000) : 1 ≤ (Lib.itoa n).length ∧ (Lib.itoa n).length ≤ 3 := by
  unfold Lib.itoa
  rw [if_neg (by omega)]
  have hn : n.toNat < 1000 := by omega
  obtain ⟨u, hu⟩ : ∃ u, n.toNat = u := ⟨_, rfl⟩
  rw [hu] at hn ⊢
  unfold Lib.decDigits
  split
  · simp
  · unfold Lib.decDigits
    split
    · simp
    · unfold Lib.decDigits
      rw [dif_pos (by omega)]
      simp
theorem two_len (n : Int) : (Ck.two n).length = 3 := rfl

/-- What a loop of Text holds. -/
def TextRel (w : World) (l : List UInt8) (a : Int) (s v i : Value) (wr : World) : Prop :=
  ∃ k : Nat, k ≤ 3 ∧ i = .int .i64 k ∧ s = .int .i64 (Ck.sec a k) ∧ wr.ownsRow w.heap.size 5 1 v (Ck.out l a k).length (Lib.byteCells (Ck.out l a k)) ∧ Below w.heap.size w wr
theorem owned_bytes {w wr : World} {v : Value} {L : List UInt8} (h : wr.ownsRow w.heap.size 5 1 v L.length (Lib.byteCells L)) (hp : 0 < L.length) :
    ∃ g cap, v = .slice (some ⟨g, 0, none⟩) L.length cap ∧ ∀ j (hj : j < L.length), wr.cell? ((⟨g, 0, none⟩ : Addr).add j) = some (.int .u8 (L[j].toNat : Int)) := by
  obtain ⟨g, cap, rfl, _, _⟩ := h.form hp
  exact ⟨g, cap, rfl, fun j hj => h.cells (g := g) rfl j _ (by simp [Lib.byteCells, hj])⟩
theorem out_len (l : List UInt8) (a : Int) (k : Nat) (hl : l.length ≤ 1) (h0 : 0 ≤ a) (h1 : a ≤ 604800) : (Ck.out l a k).length ≤ 10 := by
  have h := itoa_len (a / 3600) (by omega) (by omega)
  unfold Ck.out
  split
  · omega
  · split
    · simp only [List.length_append]; omega
    · split
      · simp only [List.length_append, two_len]; omega
      · unfold Ck.body
        split
        · simp only [List.length_append, two_len]; omega
        · simp only [List.length_append, two_len, List.length_nil]; omega
theorem out_pos (l : List UInt8) (a : Int) (h0 : 0 ≤ a) (h1 : a ≤ 604800) : 0 < (Ck.out l a 3).length := by
  have h := itoa_len (a / 3600) (by omega) (by omega)
  have e : Ck.out l a 3 = l ++ Ck.body a := rfl
  rw [e]; unfold Ck.body
  simp only [List.length_append]; omega

theorem own_next {wr : World} {B : Nat} {v : Value} {L M : List UInt8} (h : wr.ownsRow B 5 1 v (L.length + M.length) (Lib.byteCells L ++ Lib.byteCells M)) : wr.ownsRow B 5 1 v (L ++ M).length (Lib.byteCells (L ++ M)) := by
  rw [List.length_append, byteCells_append]; exact h
theorem own_two {wr : World} {B : Nat} {v : Value} {L : List UInt8} (L' : List UInt8) (m : Int) (h0 : 0 ≤ m) (h1 : m < 100) (e : L' = L ++ Ck.two m) (h : wr.ownsRow B 5 1 v (L.length + 3) (Lib.byteCells L ++ [.int .u8 58, .int .u8 (48 + m / 10), .int .u8 (48 + m % 10)])) : wr.ownsRow B 5 1 v L'.length (Lib.byteCells L') := by
  rw [e]
  exact own_next (by rw [two_cells m h0 h1, two_len]; exact h)
theorem grown_below {w wr w4 : World} {v : Value} {n : Nat} {xs : List Value} {o : Obj} (hb : Below w.heap.size w wr) (hown : wr.ownsRow w.heap.size 5 1 v n xs) (hg : (wr.alloc o).grownBy w4 v.ownBlock) : Below w.heap.size w w4 :=
  (hb.alloc hb.size o).grown hg (Nat.le_trans hb.size (by simp)) (fun k hk => (hown.lt k hk).1)

end Go.Proofs.YthmhadgbhakdlaaDoor

/- Contracts of package clock in plain form. -/
namespace Go.Proofs.YthmhadgbhakdlaaDoor
open Go.RowKit

namespace Ck
def dec3 (n : Int) : List UInt8 := if n < 10 then [UInt8.ofNat (48 + n.toNat)] else if n < 100 then [UInt8.ofNat (48 + n.toNat / 10), UInt8.ofNat (48 + n.toNat % 10)] else [UInt8.ofNat (48 + n.toNat / 10 / 10), UInt8.ofNat (48 + n.toNat / 10 % 10), UInt8.ofNat (48 + n.toNat % 10)]
def body' (a : Int) : List UInt8 := dec3 (a / 3600) ++ two (a % 3600 / 60) ++ (if 0 < a % 3600 % 60 then two (a % 3600 % 60) else [])
def text' (s : Int) : List UInt8 := if IsTime s then sign s ++ body' (if s < 0 then -s else s) else []
end Ck
theorem itoa_dec3 (n : Int) (h0 : 0 ≤ n) (h1 : n < 1000) : Lib.itoa n = Ck.dec3 n := by
  unfold Lib.itoa Ck.dec3
  rw [if_neg (by omega)]
  unfold Lib.decDigits
  by_cases a : n < 10
  · rw [dif_pos (by omega), if_pos a]
  · rw [dif_neg (by omega), if_neg a]
    unfold Lib.decDigits
    by_cases b : n < 100
    · rw [dif_pos (by omega), if_pos b]; rfl
    · rw [dif_neg (by omega), if_neg b]
      unfold Lib.decDigits
      rw [dif_pos (by omega)]; rfl
theorem text_eq (s : Int) : Ck.text s = Ck.text' s := by
  unfold Ck.text Ck.text'
  by_cases h : IsTime s
  · rw [if_pos h, if_pos h]
    have hb : 0 ≤ (if s < 0 then -s else s) ∧ (if s < 0 then -s else s) ≤ 604800 := by obtain ⟨a, b⟩ := h; split <;> omega
    unfold Ck.body Ck.body'
    rw [itoa_dec3 _ (by omega) (by omega)]
  · rw [if_neg h, if_neg h]

theorem int64_bd {t : Int} (h : (Lit.int .i64 t).wf = true) : -9223372036854775808 ≤ t ∧ t ≤ 9223372036854775807 := by
  simpa [Lit.wf, IntKind.min, IntKind.max, IntKind.signed, IntKind.bits] using h
end Go.Proofs.YthmhadgbhakdlaaDoor
