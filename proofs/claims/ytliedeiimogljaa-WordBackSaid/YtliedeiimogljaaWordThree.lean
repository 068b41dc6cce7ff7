/- The contracts of package word, the end: Keyword, MonthText, WeekdayText; the law's 'small' and 'lives'. -/
import Derived.Test.YtliedeiimogljaaWordTwo
namespace Go.Proofs.Ytliedeiimogljaa
open Go.RowKit


theorem keyword_any (s : ByteArray) (w : World) (hs : s.size ≤ maxLen) :
    Calls Try.prog 12 #[.string s] w fun e w' => e = .returned (.int .i64 (Wd.pick (tl s) (Kinds.map tl) + 1)) ∧ Below w.heap.size w w' := by
  have hb := Wd.pick_bd (tl s) (Kinds.map tl) (by decide)
  go_enter Try.func12, Try.ntmps12
  go_wp2_with fail
  refine (pick_any s _ 3 3 Kinds _ hs (by unfold maxLen; omega) (reads_new w Kinds 9)).mono ?_
  rintro e w2 ⟨rfl, HD⟩
  go_wp2
  go_ret
  exact ⟨rfl, ((Below.refl _ _).alloc (Nat.le_refl _) _).trans (HD.below _)⟩

/-- How a month, a day is written. -/
def textOf (l : List ByteArray) (i : Int) : ByteArray := if 0 ≤ i ∧ i < l.length then (l.getD i.toNat ByteArray.empty).extract 0 3 else ByteArray.empty

theorem textOf_out (l : List ByteArray) (i : Int) (h : ¬ (0 ≤ i ∧ i < l.length)) : textOf l i = ByteArray.empty := by unfold textOf; rw [if_neg h]
theorem months_len (k : Nat) (hk : k < 12) : ∃ nm, Months[k]? = some nm ∧ 3 ≤ nm.size ∧ textOf Months (k : Int) = nm.extract 0 3 := by
  have : k = 0 ∨ k = 1 ∨ k = 2 ∨ k = 3 ∨ k = 4 ∨ k = 5 ∨ k = 6 ∨ k = 7 ∨ k = 8 ∨ k = 9 ∨ k = 10 ∨ k = 11 := by omega
  rcases this with rfl | rfl | rfl | rfl | rfl | rfl | rfl | rfl | rfl | rfl | rfl | rfl <;> exact ⟨_, rfl, by decide, rfl⟩
theorem days_len (k : Nat) (hk : k < 7) : ∃ nm, Days[k]? = some nm ∧ 3 ≤ nm.size ∧ textOf Days (k : Int) = nm.extract 0 3 := by
  have : k = 0 ∨ k = 1 ∨ k = 2 ∨ k = 3 ∨ k = 4 ∨ k = 5 ∨ k = 6 := by omega
  rcases this with rfl | rfl | rfl | rfl | rfl | rfl | rfl <;> exact ⟨_, rfl, by decide, rfl⟩

theorem cell_new (w : World) (l : List ByteArray) (t : TypeId) (k : Nat) (nm : ByteArray) (h : l[k]? = some nm) : (w.alloc (.cells (strCells l) t)).cell? ⟨w.heap.size, k, none⟩ = some (.string nm) := by
  rw [cell_of_row (w.alloc (.cells (strCells l) t)) w.heap.size k (strCells l) t (0, 0) (heap_alloc_new w _)]
  simp [strCells, h]

theorem monthText_any (m : Int) (w : World) :
    Calls Try.prog 6 #[.int .i64 m] w fun e w' => e = .returned (.string (textOf Months (m - 1))) ∧ Below w.heap.size w w' := by
  by_cases h1 : m < 1
  · have HE := Lib.hid (textOf_out Months (m - 1) (by omega))
    go_enter Try.func6, Try.ntmps6
    go_wp2
    go_ret
    exact ⟨by rw [HE.out]; rfl, Below.refl _ _⟩
  · by_cases h2 : 12 < m
    · have HE := Lib.hid (textOf_out Months (m - 1) (by simp [Months]; omega))
      go_enter Try.func6, Try.ntmps6
      go_wp2
      go_ret
      exact ⟨by rw [HE.out]; rfl, Below.refl _ _⟩
    · obtain ⟨k, hk⟩ : ∃ k : Nat, m - 1 = (k : Int) := ⟨(m - 1).toNat, by omega⟩
      obtain ⟨nm, h3, h4, h5⟩ := months_len k (by omega)
      have hc := cell_new w Months 9 k nm h3
      rw [← hk] at h5
      have H5 := Lib.hid h5
      have q1 : (0 : Int) ≤ (k : Int) := by omega
      have q2 : (k : Int) < 12 := by omega
      obtain rfl : m = (k : Int) + 1 := by omega
      clear h5 h3 hk h1 h2
      go_enter Try.func6, Try.ntmps6
      go_wp2_with fail
      refine (months_any _).mono ?_
      rintro e w1 ⟨rfl, rfl⟩
      go_wp2
      go_ret
      exact ⟨ret_str H5.out.symm, (Below.refl _ _).alloc (Nat.le_refl _) _⟩
theorem weekdayText_any (m : Int) (w : World) :
    Calls Try.prog 8 #[.int .i64 m] w fun e w' => e = .returned (.string (textOf Days m)) ∧ Below w.heap.size w w' := by
  by_cases h1 : m < 0
  · have HE := Lib.hid (textOf_out Days m (by omega))
    go_enter Try.func8, Try.ntmps8
    go_wp2
    go_ret
    exact ⟨by rw [HE.out]; rfl, Below.refl _ _⟩
  · by_cases h2 : 6 < m
    · have HE := Lib.hid (textOf_out Days m (by simp [Days]; omega))
      go_enter Try.func8, Try.ntmps8
      go_wp2
      go_ret
      exact ⟨by rw [HE.out]; rfl, Below.refl _ _⟩
    · obtain ⟨k, rfl⟩ : ∃ k : Nat, m = (k : Int) := ⟨m.toNat, by omega⟩
      obtain ⟨nm, h3, h4, h5⟩ := days_len k (by omega)
      have hc := cell_new w Days 9 k nm h3
      have H5 := Lib.hid h5
      have q1 : (0 : Int) ≤ (k : Int) := by omega
      have q2 : (k : Int) < 7 := by omega
      clear h5 h3 h1 h2
      go_enter Try.func8, Try.ntmps8
      go_wp2_with fail
      refine (weekdays_any _).mono ?_
      rintro e w1 ⟨rfl, rfl⟩
      go_wp2
      go_ret
      exact ⟨ret_str H5.out.symm, (Below.refl _ _).alloc (Nat.le_refl _) _⟩

theorem calls_int {P : Program} {f : FuncId} {args : Array Value} {w : World} {k : IntKind} {a b : Int} {R : World → Prop} (h : Calls P f args w fun e w' => e = .returned (.int k a) ∧ R w') (e : a = b) :
    Calls P f args w fun e w' => e = .returned (.int k b) ∧ R w' := by rw [← e]; exact h
theorem calls_bool {P : Program} {f : FuncId} {args : Array Value} {w : World} {a b : Bool} {R : World → Prop} (h : Calls P f args w fun e w' => e = .returned (.bool a) ∧ R w') (e : a = b) :
    Calls P f args w fun e w' => e = .returned (.bool b) ∧ R w' := by rw [← e]; exact h
theorem calls_str {P : Program} {f : FuncId} {args : Array Value} {w : World} {a b : ByteArray} {R : World → Prop} (h : Calls P f args w fun e w' => e = .returned (.string a) ∧ R w') (e : a = b) :
    Calls P f args w fun e w' => e = .returned (.string b) ∧ R w' := by rw [← e]; exact h

set_option maxHeartbeats 1000000 in
theorem lives05 (w : World) : Calls Try.prog 4 #[] w fun e w' => e = .returned (.bool true) ∧ Below w.heap.size w w' := by
  go_enter Try.func4, Try.ntmps4
  have hb := Below.refl w.heap.size w
  go_wp2_with fail
  refine (calls_int (month_any _ _ (by decide)) (show _ = (12 : Int) by decide)).mono ?_
  rintro e w1 ⟨rfl, hb1⟩
  replace hb := below_then hb hb1
  clear hb1
  go_wp2_with fail
  refine (calls_int (month_any _ _ (by decide)) (show _ = (0 : Int) by decide)).mono ?_
  rintro e w1 ⟨rfl, hb1⟩
  replace hb := below_then hb hb1
  clear hb1
  go_wp2_with fail
  refine (calls_int (month_any _ _ (by decide)) (show _ = (5 : Int) by decide)).mono ?_
  rintro e w1 ⟨rfl, hb1⟩
  replace hb := below_then hb hb1
  clear hb1
  go_wp2_with fail
  refine (calls_int (month_any _ _ (by decide)) (show _ = (0 : Int) by decide)).mono ?_
  rintro e w1 ⟨rfl, hb1⟩
  replace hb := below_then hb hb1
  clear hb1
  go_wp2_with fail
  refine (calls_int (weekday_any _ _ (by decide)) (show _ = (0 : Int) by decide)).mono ?_
  rintro e w1 ⟨rfl, hb1⟩
  replace hb := below_then hb hb1
  clear hb1
  go_wp2_with fail
  refine (calls_int (weekday_any _ _ (by decide)) (show _ = (-1 : Int) by decide)).mono ?_
  rintro e w1 ⟨rfl, hb1⟩
  replace hb := below_then hb hb1
  clear hb1
  go_wp2_with fail
  refine (calls_int (weekday_any _ _ (by decide)) (show _ = (-1 : Int) by decide)).mono ?_
  rintro e w1 ⟨rfl, hb1⟩
  replace hb := below_then hb hb1
  clear hb1
  go_wp2_with fail
  refine (calls_int (keyword_any _ _ (by decide)) (show _ = (1 : Int) by decide)).mono ?_
  rintro e w1 ⟨rfl, hb1⟩
  replace hb := below_then hb hb1
  clear hb1
  go_wp2_with fail
  refine (calls_int (keyword_any _ _ (by decide)) (show _ = (2 : Int) by decide)).mono ?_
  rintro e w1 ⟨rfl, hb1⟩
  replace hb := below_then hb hb1
  clear hb1
  go_wp2_with fail
  refine (calls_int (keyword_any _ _ (by decide)) (show _ = (0 : Int) by decide)).mono ?_
  rintro e w1 ⟨rfl, hb1⟩
  replace hb := below_then hb hb1
  clear hb1
  go_wp2_with fail
  refine (calls_str (monthText_any 9 _) (show _ = (⟨#[83, 101, 112]⟩ : ByteArray) by decide)).mono ?_
  rintro e w1 ⟨rfl, hb1⟩
  replace hb := below_then hb hb1
  clear hb1
  go_wp2_with fail
  refine (calls_str (monthText_any 0 _) (show _ = (⟨#[]⟩ : ByteArray) by decide)).mono ?_
  rintro e w1 ⟨rfl, hb1⟩
  replace hb := below_then hb hb1
  clear hb1
  go_wp2_with fail
  refine (calls_str (weekdayText_any 6 _) (show _ = (⟨#[83, 97, 116]⟩ : ByteArray) by decide)).mono ?_
  rintro e w1 ⟨rfl, hb1⟩
  replace hb := below_then hb hb1
  clear hb1
  go_wp2_with fail
  refine (calls_bool (same_any _ _ _ (by decide)) (show _ = true by decide)).mono ?_
  rintro e w1 ⟨rfl, hb1⟩
  replace hb := below_drew hb hb1
  clear hb1
  go_wp2_with fail
  refine (calls_bool (same_any _ _ _ (by decide)) (show _ = false by decide)).mono ?_
  rintro e w1 ⟨rfl, hb1⟩
  replace hb := below_drew hb hb1
  clear hb1
  go_wp2_with fail
  rename_i w1
  refine (calls_int (pick_any _ _ _ _ [⟨#[97, 98, 99]⟩, ⟨#[97, 98]⟩, ⟨#[97, 98, 100]⟩] _ (by decide) (by decide) (reads_new _ _ 9)) (show _ = (1 : Int) by decide)).mono ?_
  rintro e w2 ⟨rfl, hb1⟩
  replace hb := below_drew (hb.alloc hb.size _) hb1
  clear hb1
  go_wp2_with fail
  rename_i w1
  refine (calls_int (pick_any _ _ _ _ [⟨#[97, 98, 99]⟩, ⟨#[97, 98]⟩] _ (by decide) (by decide) (reads_new _ _ 9)) (show _ = (-1 : Int) by decide)).mono ?_
  rintro e w2 ⟨rfl, hb1⟩
  replace hb := below_drew (hb.alloc hb.size _) hb1
  clear hb1
  go_wp2
  go_ret
  exact ⟨rfl, hb⟩
end Go.Proofs.Ytliedeiimogljaa
