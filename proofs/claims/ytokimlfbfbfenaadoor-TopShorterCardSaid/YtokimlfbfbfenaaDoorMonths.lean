/- The contracts of package word: the months. -/
import Derived.Test.YtokimlfbfbfenaaDoorDays
namespace Go.Proofs.YtokimlfbfbfenaaDoor
open Go.RowKit

def Months : List ByteArray := [⟨#[74, 97, 110, 117, 97, 114, 121]⟩, ⟨#[70, 101, 98, 114, 117, 97, 114, 121]⟩, ⟨#[77, 97, 114, 99, 104]⟩, ⟨#[65, 112, 114, 105, 108]⟩, ⟨#[77, 97, 121]⟩, ⟨#[74, 117, 110, 101]⟩, ⟨#[74, 117, 108, 121]⟩, ⟨#[65, 117, 103, 117, 115, 116]⟩, ⟨#[83, 101, 112, 116, 101, 109, 98, 101, 114]⟩, ⟨#[79, 99, 116, 111, 98, 101, 114]⟩, ⟨#[78, 111, 118, 101, 109, 98, 101, 114]⟩, ⟨#[68, 101, 99, 101, 109, 98, 101, 114]⟩]

theorem months_any (w : World) :
    Calls Tryd.prog 92 #[] w fun e w' => e = .returned (.slice (some ⟨w.heap.size, 0, none⟩) 12 12) ∧ w' = w.alloc (.cells (strCells Months) 9) := by
  go_enter Tryd.func92, Tryd.ntmps92
  go_wp2
  go_ret
  exact ⟨rfl, rfl⟩

theorem month_any (s : ByteArray) (w : World) (hs : s.size ≤ maxLen) :
    Calls Tryd.prog 58 #[.string s] w fun e w' => e = .returned (.int .i64 (Wd.pick (tl s) (Months.map tl) + 1)) ∧ Below w.heap.size w w' := by
  have hb := Wd.pick_bd (tl s) (Months.map tl) (by decide)
  go_enter Tryd.func58, Tryd.ntmps58
  go_wp2_with fail
  refine (months_any _).mono ?_
  rintro e w1 ⟨rfl, rfl⟩
  go_wp2_with fail
  refine (pick_any s _ 12 12 Months _ hs (by unfold maxLen; omega) (reads_new w Months 9)).mono ?_
  rintro e w2 ⟨rfl, HD⟩
  go_wp2
  go_ret
  exact ⟨rfl, ((Below.refl _ _).alloc (Nat.le_refl _) _).trans (HD.below _)⟩

theorem months_len (k : Nat) (hk : k < 12) : ∃ nm, Months[k]? = some nm ∧ 3 ≤ nm.size ∧ textOf Months (k : Int) = nm.extract 0 3 := by
  have : k = 0 ∨ k = 1 ∨ k = 2 ∨ k = 3 ∨ k = 4 ∨ k = 5 ∨ k = 6 ∨ k = 7 ∨ k = 8 ∨ k = 9 ∨ k = 10 ∨ k = 11 := by omega
  rcases this with rfl | rfl | rfl | rfl | rfl | rfl | rfl | rfl | rfl | rfl | rfl | rfl <;> exact ⟨_, rfl, by decide, rfl⟩

theorem monthText_any (m : Int) (w : World) :
    Calls Tryd.prog 52 #[.int .i64 m] w fun e w' => e = .returned (.string (textOf Months (m - 1))) ∧ Below w.heap.size w w' := by
  by_cases h1 : m < 1
  · have HE := Lib.hid (textOf_out Months (m - 1) (by omega))
    go_enter Tryd.func52, Tryd.ntmps52
    go_wp2
    go_ret
    exact ⟨by rw [HE.out]; rfl, Below.refl _ _⟩
  · by_cases h2 : 12 < m
    · have HE := Lib.hid (textOf_out Months (m - 1) (by simp [Months]; omega))
      go_enter Tryd.func52, Tryd.ntmps52
      go_wp2
      go_ret
      exact ⟨by rw [HE.out]; rfl, Below.refl _ _⟩
    · obtain ⟨k, hk⟩ : ∃ k : Nat, m - 1 = (k : Int) := ⟨(m - 1).toNat, by omega⟩
      obtain ⟨nm, h3, h4, h5⟩ := months_len k (by omega)
      have hc := cell_new w Months 9 k nm h3
      rw [← hk] at h5
      have H5 := Lib.hid h5
      have q1 : (0 : Int) ≤ (k : Int) := by omega
      have q2 : (k : Int) < 12 := by omega
      obtain rfl : m = (k : Int) + 1 := by omega
      clear h5 h3 hk h1 h2
      go_enter Tryd.func52, Tryd.ntmps52
      go_wp2_with fail
      refine (months_any _).mono ?_
      rintro e w1 ⟨rfl, rfl⟩
      go_wp2
      go_ret
      exact ⟨ret_str H5.out.symm, (Below.refl _ _).alloc (Nat.le_refl _) _⟩
end Go.Proofs.YtokimlfbfbfenaaDoor
