/- The contracts of package word: the names of months and days, and what is meant by words. -/
import Derived.Test.YtliedeiimogljaaWord
namespace Go.Proofs.Ytliedeiimogljaa
open Go.RowKit

def Months : List ByteArray := [⟨#[74, 97, 110, 117, 97, 114, 121]⟩, ⟨#[70, 101, 98, 114, 117, 97, 114, 121]⟩, ⟨#[77, 97, 114, 99, 104]⟩, ⟨#[65, 112, 114, 105, 108]⟩, ⟨#[77, 97, 121]⟩, ⟨#[74, 117, 110, 101]⟩, ⟨#[74, 117, 108, 121]⟩, ⟨#[65, 117, 103, 117, 115, 116]⟩, ⟨#[83, 101, 112, 116, 101, 109, 98, 101, 114]⟩, ⟨#[79, 99, 116, 111, 98, 101, 114]⟩, ⟨#[78, 111, 118, 101, 109, 98, 101, 114]⟩, ⟨#[68, 101, 99, 101, 109, 98, 101, 114]⟩]
def Days : List ByteArray := [⟨#[83, 117, 110, 100, 97, 121]⟩, ⟨#[77, 111, 110, 100, 97, 121]⟩, ⟨#[84, 117, 101, 115, 100, 97, 121]⟩, ⟨#[87, 101, 100, 110, 101, 115, 100, 97, 121]⟩, ⟨#[84, 104, 117, 114, 115, 100, 97, 121]⟩, ⟨#[70, 114, 105, 100, 97, 121]⟩, ⟨#[83, 97, 116, 117, 114, 100, 97, 121]⟩]
def Kinds : List ByteArray := [⟨#[82, 117, 108, 101]⟩, ⟨#[90, 111, 110, 101]⟩, ⟨#[76, 105, 110, 107]⟩]
def strCells (l : List ByteArray) : Array Value := (l.map Value.string).toArray

theorem months_any (w : World) :
    Calls Try.prog 13 #[] w fun e w' => e = .returned (.slice (some ⟨w.heap.size, 0, none⟩) 12 12) ∧ w' = w.alloc (.cells (strCells Months) 9) := by
  go_enter Try.func13, Try.ntmps13
  go_wp2
  go_ret
  exact ⟨rfl, rfl⟩
theorem weekdays_any (w : World) :
    Calls Try.prog 14 #[] w fun e w' => e = .returned (.slice (some ⟨w.heap.size, 0, none⟩) 7 7) ∧ w' = w.alloc (.cells (strCells Days) 9) := by
  go_enter Try.func14, Try.ntmps14
  go_wp2
  go_ret
  exact ⟨rfl, rfl⟩

theorem reads_new (w : World) (l : List ByteArray) (t : TypeId) : Reads (w.alloc (.cells (strCells l) t)) (w.alloc (.cells (strCells l) t)).heap.size 1 (some ⟨w.heap.size, 0, none⟩) l.length (l.map Value.string) := by
  refine ⟨by simp, fun _ => ⟨_, rfl, by simp, fun j u hu => ?_⟩⟩
  have h := cell_of_row (w.alloc (.cells (strCells l) t)) w.heap.size j (strCells l) t (0, 0) (heap_alloc_new w _)
  have e : (⟨w.heap.size, 0, none⟩ : Addr).add j = ⟨w.heap.size, j, none⟩ := by
    unfold Addr.add
    split
    · subst_vars; rfl
    · simp
  rw [e, h]
  simpa [strCells] using hu

theorem month_any (s : ByteArray) (w : World) (hs : s.size ≤ maxLen) :
    Calls Try.prog 7 #[.string s] w fun e w' => e = .returned (.int .i64 (Wd.pick (tl s) (Months.map tl) + 1)) ∧ Below w.heap.size w w' := by
  have hb := Wd.pick_bd (tl s) (Months.map tl) (by decide)
  go_enter Try.func7, Try.ntmps7
  go_wp2_with fail
  refine (months_any _).mono ?_
  rintro e w1 ⟨rfl, rfl⟩
  go_wp2_with fail
  refine (pick_any s _ 12 12 Months _ hs (by unfold maxLen; omega) (reads_new w Months 9)).mono ?_
  rintro e w2 ⟨rfl, HD⟩
  go_wp2
  go_ret
  exact ⟨rfl, ((Below.refl _ _).alloc (Nat.le_refl _) _).trans (HD.below _)⟩
theorem weekday_any (s : ByteArray) (w : World) (hs : s.size ≤ maxLen) :
    Calls Try.prog 9 #[.string s] w fun e w' => e = .returned (.int .i64 (Wd.pick (tl s) (Days.map tl))) ∧ Below w.heap.size w w' := by
  go_enter Try.func9, Try.ntmps9
  go_wp2_with fail
  refine (weekdays_any _).mono ?_
  rintro e w1 ⟨rfl, rfl⟩
  go_wp2_with fail
  refine (pick_any s _ 7 7 Days _ hs (by unfold maxLen; omega) (reads_new w Days 9)).mono ?_
  rintro e w2 ⟨rfl, HD⟩
  go_wp2
  go_ret
  exact ⟨rfl, ((Below.refl _ _).alloc (Nat.le_refl _) _).trans (HD.below _)⟩
end Go.Proofs.Ytliedeiimogljaa
