/- The contracts of package word: the days of the week. -/
import Derived.Test.YtokimlfbfbfenaaDoorWord
namespace Go.Proofs.YtokimlfbfbfenaaDoor
open Go.RowKit

def Days : List ByteArray := [⟨#[83, 117, 110, 100, 97, 121]⟩, ⟨#[77, 111, 110, 100, 97, 121]⟩, ⟨#[84, 117, 101, 115, 100, 97, 121]⟩, ⟨#[87, 101, 100, 110, 101, 115, 100, 97, 121]⟩, ⟨#[84, 104, 117, 114, 115, 100, 97, 121]⟩, ⟨#[70, 114, 105, 100, 97, 121]⟩, ⟨#[83, 97, 116, 117, 114, 100, 97, 121]⟩]
def strCells (l : List ByteArray) : Array Value := (l.map Value.string).toArray

theorem weekdays_any (w : World) :
    Calls Tryd.prog 120 #[] w fun e w' => e = .returned (.slice (some ⟨w.heap.size, 0, none⟩) 7 7) ∧ w' = w.alloc (.cells (strCells Days) 9) := by
  go_enter Tryd.func120, Tryd.ntmps120
  go_wp2
  go_ret
  exact ⟨rfl, rfl⟩

theorem reads_new (w : World) (l : List ByteArray) (t : TypeId) : Reads (w.alloc (.cells (strCells l) t)) (w.alloc (.cells (strCells l) t)).heap.size 1 (some ⟨w.heap.size, 0, none⟩) l.length (l.map Value.string) := by
  refine ⟨by simp, fun _ => ⟨_, rfl, by simp, fun j u hu => ?_⟩⟩
  have h := cell_of_row (w.alloc (.cells (strCells l) t)) w.heap.size j (strCells l) t (0, 0) (heap_alloc_new w _)
  have e : (⟨w.heap.size, 0, none⟩ : Addr).add j = ⟨w.heap.size, j, none⟩ := by
    unfold Addr.add
    split
    · subst_vars; rfl
    · simp
  rw [e, h]
  simpa [strCells] using hu

theorem weekday_any (s : ByteArray) (w : World) (hs : s.size ≤ maxLen) :
    Calls Tryd.prog 126 #[.string s] w fun e w' => e = .returned (.int .i64 (Wd.pick (tl s) (Days.map tl))) ∧ Below w.heap.size w w' := by
  go_enter Tryd.func126, Tryd.ntmps126
  go_wp2_with fail
  refine (weekdays_any _).mono ?_
  rintro e w1 ⟨rfl, rfl⟩
  go_wp2_with fail
  refine (pick_any s _ 7 7 Days _ hs (by unfold maxLen; omega) (reads_new w Days 9)).mono ?_
  rintro e w2 ⟨rfl, HD⟩
  go_wp2
  go_ret
  exact ⟨rfl, ((Below.refl _ _).alloc (Nat.le_refl _) _).trans (HD.below _)⟩

/-- How a month, a day is written. -/
def textOf (l : List ByteArray) (i : Int) : ByteArray := if 0 ≤ i ∧ i < l.length then (l.getD i.toNat ByteArray.empty).extract 0 3 else ByteArray.empty

theorem textOf_out (l : List ByteArray) (i : Int) (h : ¬ (0 ≤ i ∧ i < l.length)) : textOf l i = ByteArray.empty := by unfold textOf; rw [if_neg h]
theorem days_len (k : Nat) (hk : k < 7) : ∃ nm, Days[k]? = some nm ∧ 3 ≤ nm.size ∧ textOf Days (k : Int) = nm.extract 0 3 := by
  have : k = 0 ∨ k = 1 ∨ k = 2 ∨ k = 3 ∨ k = 4 ∨ k = 5 ∨ k = 6 := by omega
  rcases this with rfl | rfl | rfl | rfl | rfl | rfl | rfl <;> exact ⟨_, rfl, by decide, rfl⟩

theorem cell_new (w : World) (l : List ByteArray) (t : TypeId) (k : Nat) (nm : ByteArray) (h : l[k]? = some nm) : (w.alloc (.cells (strCells l) t)).cell? ⟨w.heap.size, k, none⟩ = some (.string nm) := by
  rw [cell_of_row (w.alloc (.cells (strCells l) t)) w.heap.size k (strCells l) t (0, 0) (heap_alloc_new w _)]
  simp [strCells, h]

theorem weekdayText_any (m : Int) (w : World) :
    Calls Tryd.prog 91 #[.int .i64 m] w fun e w' => e = .returned (.string (textOf Days m)) ∧ Below w.heap.size w w' := by
  by_cases h1 : m < 0
  · have HE := Lib.hid (textOf_out Days m (by omega))
    go_enter Tryd.func91, Tryd.ntmps91
    go_wp2
    go_ret
    exact ⟨by rw [HE.out]; rfl, Below.refl _ _⟩
  · by_cases h2 : 6 < m
    · have HE := Lib.hid (textOf_out Days m (by simp [Days]; omega))
      go_enter Tryd.func91, Tryd.ntmps91
      go_wp2
      go_ret
      exact ⟨by rw [HE.out]; rfl, Below.refl _ _⟩
    · obtain ⟨k, rfl⟩ : ∃ k : Nat, m = (k : Int) := ⟨m.toNat, by omega⟩
      obtain ⟨nm, h3, h4, h5⟩ := days_len k (by omega)
      have hc := cell_new w Days 9 k nm h3
      have H5 := Lib.hid h5
      have q1 : (0 : Int) ≤ (k : Int) := by omega
      have q2 : (k : Int) < 7 := by omega
      clear h5 h3 h1 h2
      go_enter Tryd.func91, Tryd.ntmps91
      go_wp2_with fail
      refine (weekdays_any _).mono ?_
      rintro e w1 ⟨rfl, rfl⟩
      go_wp2
      go_ret
      exact ⟨ret_str H5.out.symm, (Below.refl _ _).alloc (Nat.le_refl _) _⟩

theorem day_text (n : Int) : (textOf Days n).toList.isEmpty = !(decide (0 ≤ n) && decide (n ≤ 6)) ∧ (textOf Days n).size ≤ maxLen ∧ (0 ≤ n ∧ n ≤ 6 → Wd.pick (tl (textOf Days n)) (Days.map tl) = n) := by
  by_cases h : 0 ≤ n ∧ n ≤ 6
  · have : n = 0 ∨ n = 1 ∨ n = 2 ∨ n = 3 ∨ n = 4 ∨ n = 5 ∨ n = 6 := by omega
    rcases this with rfl | rfl | rfl | rfl | rfl | rfl | rfl <;> exact ⟨by rw [ByteArray.toList_eq]; decide, by decide, fun _ => by decide⟩
  · rw [textOf_out Days n (by simp [Days]; omega)]
    refine ⟨?_, by decide, fun h' => absurd h' h⟩
    have : (decide (0 ≤ n) && decide (n ≤ 6)) = false := by simpa using h
    rw [this, ByteArray.toList_eq]; rfl
end Go.Proofs.YtokimlfbfbfenaaDoor
