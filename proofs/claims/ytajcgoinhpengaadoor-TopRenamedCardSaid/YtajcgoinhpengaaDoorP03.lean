/- The contracts of package word: small, Same, Pick, the tables of names. -/
import Derived.Test.YtajcgoinhpengaaDoorChecked
import Derived.Test.YtajcgoinhpengaaDoorP02
import Derived.Test.YtajcgoinhpengaaDoorP01
import Derived.WalkKit
import Derived.Outline
import Derived.Deep.QuietTactic
import Derived.BigQuiet
import Derived.Deep.DeepFit
import Derived.Lib.Hide
import Derived.IntWalk
import Derived.WalkSpells
import Derived.WalkLawsBesides
import Derived.Deep.DeepCutAuto

namespace Go.Proofs.YtajcgoinhpengaaDoor
open Go.RowKit

def lowI (x : Int) : Int := if 65 ≤ x ∧ x ≤ 90 then x + 32 else x

theorem lowI_low (c : UInt8) : lowI (c.toNat : Int) = ((Wd.low c).toNat : Int) := by
  unfold lowI Wd.low
  have e : (65 ≤ c ∧ c ≤ 90) ↔ (65 ≤ (c.toNat : Int) ∧ (c.toNat : Int) ≤ 90) := by
    simp [UInt8.le_iff_toNat_le]; omega
  by_cases h : 65 ≤ c ∧ c ≤ 90
  · rw [if_pos h, if_pos (e.1 h), UInt8.toNat_add]
    have := e.1 h
    simp; omega
  · rw [if_neg h, if_neg (fun h' => h (e.2 h'))]
theorem lowI_eq (c d : UInt8) : lowI (c.toNat : Int) = lowI (d.toNat : Int) ↔ Wd.low c = Wd.low d := by
  rw [lowI_low, lowI_low]
  constructor
  · intro h; exact UInt8.toNat_inj.1 (by omega)
  · intro h; rw [h]

theorem same_len (a b : ByteArray) (h : ¬ a.size = b.size) : Wd.same a.data.toList b.data.toList = false := by
  simp only [Wd.same, decide_eq_false_iff_not]
  intro e
  have := congrArg List.length e
  simp [Wd.lows] at this
  exact h this
theorem same_step (a b : ByteArray) (k : Nat) (hla : k < a.size) (hlb : k < b.size) (H : ∀ j (_ : j < k) (_ : k ≤ a.size) (_ : k ≤ b.size), Wd.low a[j] = Wd.low b[j]) (e : Wd.low a[k] = Wd.low b[k]) :
    ∀ j (_ : j < k + 1) (_ : k + 1 ≤ a.size) (_ : k + 1 ≤ b.size), Wd.low a[j] = Wd.low b[j] := by
  intro j hj ha hb
  by_cases h : j = k
  · subst h; exact e
  · exact H j (by omega) (by omega) (by omega)
theorem same_no (a b : ByteArray) (k : Nat) (hla : k < a.size) (hlb : k < b.size) (e : ¬ Wd.low a[k] = Wd.low b[k]) : Wd.same a.data.toList b.data.toList = false := by
  simp only [Wd.same, decide_eq_false_iff_not]
  intro h
  have h2 : (Wd.lows a.data.toList)[k]? = (Wd.lows b.data.toList)[k]? := by rw [h]
  simp only [Wd.lows, List.getElem?_map] at h2
  rw [List.getElem?_eq_getElem (by simpa using hla), List.getElem?_eq_getElem (by simpa using hlb)] at h2
  simp only [Option.map_some, Option.some.injEq, Array.getElem_toList] at h2
  exact e h2
theorem same_yes (a b : ByteArray) (hl : a.size = b.size) (H : ∀ j (_ : j < a.size) (_ : a.size ≤ a.size) (_ : a.size ≤ b.size), Wd.low a[j] = Wd.low b[j]) : Wd.same a.data.toList b.data.toList = true := by
  simp only [Wd.same, decide_eq_true_eq]
  refine List.ext_getElem (by simpa [Wd.lows] using hl) fun j h1 h2 => ?_
  simp only [Wd.lows, List.getElem_map]
  have hj : j < a.size := by simpa [Wd.lows] using h1
  simp only [Array.getElem_toList]
  exact H j hj (by omega) (by omega)

theorem reads_str {w : World} {B : Nat} {A : Option Addr} {n k : Nat} {ss : List ByteArray} (h : Reads w B 1 A n (ss.map Value.string)) (hk : k < n) :
    ∃ ad nm, A = some ad ∧ Hid (ss[k]? = some nm) ∧ w.cell? (ad.add k) = some (.string nm) := by
  obtain ⟨ad, u, e, _, hx, hc⟩ := h.at_ hk
  rw [List.getElem?_map] at hx
  match hs : ss[k]? with
  | none => rw [hs] at hx; simp at hx
  | some nm =>
    rw [hs] at hx
    obtain rfl : Value.string nm = u := by simpa using hx
    exact ⟨ad, nm, e, rfl, hc⟩
theorem pick_start (s : ByteArray) (ss : List ByteArray) (h : ¬ s.toList = []) : Wd.pick (tl s) (ss.map tl) = Wd.pickLoop (tl s) ((ss.map tl).drop 0) 0 (-1) 0 := by
  unfold Wd.pick
  rw [if_neg (show ¬ tl s = [] from fun e => h (by rw [ByteArray.toList_eq]; exact e)), List.drop_zero]
theorem drop_of {α : Type} {l : List α} {k : Nat} {a : α} (h : l[k]? = some a) : l.drop k = a :: l.drop (k + 1) := by
  obtain ⟨hk, e⟩ := List.getElem?_eq_some_iff.1 h
  rw [List.drop_eq_getElem_cons hk, e]
theorem pick_next1 (s : ByteArray) (ss : List ByteArray) (k : Nat) (bg : Int) (cnt : Nat) (nm : ByteArray) (h : Wd.pick (tl s) (ss.map tl) = Wd.pickLoop (tl s) ((ss.map tl).drop k) k bg cnt) (hn : ss[k]? = some nm) (hs : nm.size < s.size) :
    Wd.pick (tl s) (ss.map tl) = Wd.pickLoop (tl s) ((ss.map tl).drop (k + 1)) (k + 1) bg cnt := by
  rw [h, drop_of (a := tl nm) (by simp [hn]), Wd.pickLoop, if_neg]
  simp only [Wd.begins, tl_length, Bool.and_eq_true, decide_eq_true_eq]
  omega

theorem begins_of (s nm : ByteArray) (hs : ¬ nm.size < s.size) : Wd.begins (tl nm) (tl s) = Wd.same (nm.extract 0 s.size).data.toList s.data.toList := by
  have e : (nm.extract 0 s.size).data.toList = (tl nm).take (tl s).length := by
    rw [tl_length]; simp [tl]
  unfold Wd.begins
  rw [e]
  have : (tl s).length ≤ (tl nm).length := by rw [tl_length, tl_length]; omega
  simp [this]; rfl
theorem pick_next2 (s : ByteArray) (ss : List ByteArray) (k : Nat) (bg : Int) (cnt : Nat) (nm : ByteArray) (h : Wd.pick (tl s) (ss.map tl) = Wd.pickLoop (tl s) ((ss.map tl).drop k) k bg cnt) (hn : ss[k]? = some nm) (hs : ¬ nm.size < s.size)
    (hb : Wd.same (nm.extract 0 s.size).data.toList s.data.toList = false) :
    Wd.pick (tl s) (ss.map tl) = Wd.pickLoop (tl s) ((ss.map tl).drop (k + 1)) (k + 1) bg cnt := by
  rw [h, drop_of (a := tl nm) (by simp [hn]), Wd.pickLoop, if_neg]
  rw [begins_of s nm hs, hb]; simp
theorem pick_next3 (s : ByteArray) (ss : List ByteArray) (k : Nat) (bg : Int) (cnt : Nat) (nm : ByteArray) (h : Wd.pick (tl s) (ss.map tl) = Wd.pickLoop (tl s) ((ss.map tl).drop k) k bg cnt) (hn : ss[k]? = some nm) (hs : nm.size = s.size)
    (hb : Wd.same (nm.extract 0 s.size).data.toList s.data.toList = true) :
    Wd.pick (tl s) (ss.map tl) = (k : Int) := by
  rw [h, drop_of (a := tl nm) (by simp [hn]), Wd.pickLoop, if_pos (by rw [begins_of s nm (by omega), hb]), if_pos (by rw [tl_length, tl_length, hs])]
theorem pick_next4 (s : ByteArray) (ss : List ByteArray) (k : Nat) (bg : Int) (cnt : Nat) (nm : ByteArray) (h : Wd.pick (tl s) (ss.map tl) = Wd.pickLoop (tl s) ((ss.map tl).drop k) k bg cnt) (hn : ss[k]? = some nm) (hs : ¬ nm.size < s.size) (hne : ¬ nm.size = s.size)
    (hb : Wd.same (nm.extract 0 s.size).data.toList s.data.toList = true) :
    Wd.pick (tl s) (ss.map tl) = Wd.pickLoop (tl s) ((ss.map tl).drop (k + 1)) (k + 1) k (cnt + 1) := by
  rw [h, drop_of (a := tl nm) (by simp [hn]), Wd.pickLoop, if_pos (by rw [begins_of s nm hs, hb]), if_neg (by rw [tl_length, tl_length]; exact hne)]
theorem pick_end (s : ByteArray) (ss : List ByteArray) (k : Nat) (bg : Int) (cnt : Nat) (h : Wd.pick (tl s) (ss.map tl) = Wd.pickLoop (tl s) ((ss.map tl).drop k) k bg cnt) (hk : ss.length = k) :
    Wd.pick (tl s) (ss.map tl) = if cnt = 1 then bg else -1 := by
  rw [h, List.drop_eq_nil_of_le (by simp; omega)]; rfl

end Go.Proofs.YtajcgoinhpengaaDoor

/- The contracts of package word: the days of the week. -/
namespace Go.Proofs.YtajcgoinhpengaaDoor
open Go.RowKit

def Days : List ByteArray := [⟨#[83, 117, 110, 100, 97, 121]⟩, ⟨#[77, 111, 110, 100, 97, 121]⟩, ⟨#[84, 117, 101, 115, 100, 97, 121]⟩, ⟨#[87, 101, 100, 110, 101, 115, 100, 97, 121]⟩, ⟨#[84, 104, 117, 114, 115, 100, 97, 121]⟩, ⟨#[70, 114, 105, 100, 97, 121]⟩, ⟨#[83, 97, 116, 117, 114, 100, 97, 121]⟩]
def strCells (l : List ByteArray) : Array Value := (l.map Value.string).toArray

theorem reads_new (w : World) (l : List ByteArray) (t : TypeId) : Reads (w.alloc (.cells (strCells l) t)) (w.alloc (.cells (strCells l) t)).heap.size 1 (some ⟨w.heap.size, 0, none⟩) l.length (l.map Value.string) := by
  refine ⟨by simp, fun _ => ⟨_, rfl, by simp, fun j u hu => ?_⟩⟩
  have h := cell_of_row (w.alloc (.cells (strCells l) t)) w.heap.size j (strCells l) t (0, 0) (heap_alloc_new w _)
  have e : (⟨w.heap.size, 0, none⟩ : Addr).add j = ⟨w.heap.size, j, none⟩ := by
    unfold Addr.add
    split
    · subst_vars; rfl
    · simp
  rw [e, h]
  simpa [strCells] using hu

/-- How a month, a day is written. -/
def textOf (l : List ByteArray) (i : Int) : ByteArray := if 0 ≤ i ∧ i < l.length then (l.getD i.toNat ByteArray.empty).extract 0 3 else ByteArray.empty

theorem textOf_out (l : List ByteArray) (i : Int) (h : ¬ (0 ≤ i ∧ i < l.length)) : textOf l i = ByteArray.empty := by unfold textOf; rw [if_neg h]
theorem days_len (k : Nat) (hk : k < 7) : ∃ nm, Days[k]? = some nm ∧ 3 ≤ nm.size ∧ textOf Days (k : Int) = nm.extract 0 3 := by
  have : k = 0 ∨ k = 1 ∨ k = 2 ∨ k = 3 ∨ k = 4 ∨ k = 5 ∨ k = 6 := by omega
  rcases this with rfl | rfl | rfl | rfl | rfl | rfl | rfl <;> exact ⟨_, rfl, by decide, rfl⟩

theorem cell_new (w : World) (l : List ByteArray) (t : TypeId) (k : Nat) (nm : ByteArray) (h : l[k]? = some nm) : (w.alloc (.cells (strCells l) t)).cell? ⟨w.heap.size, k, none⟩ = some (.string nm) := by
  rw [cell_of_row (w.alloc (.cells (strCells l) t)) w.heap.size k (strCells l) t (0, 0) (heap_alloc_new w _)]
  simp [strCells, h]

theorem day_text (n : Int) : (textOf Days n).toList.isEmpty = !(decide (0 ≤ n) && decide (n ≤ 6)) ∧ (textOf Days n).size ≤ maxLen ∧ (0 ≤ n ∧ n ≤ 6 → Wd.pick (tl (textOf Days n)) (Days.map tl) = n) := by
  by_cases h : 0 ≤ n ∧ n ≤ 6
  · have : n = 0 ∨ n = 1 ∨ n = 2 ∨ n = 3 ∨ n = 4 ∨ n = 5 ∨ n = 6 := by omega
    rcases this with rfl | rfl | rfl | rfl | rfl | rfl | rfl <;> exact ⟨by rw [ByteArray.toList_eq]; decide, by decide, fun _ => by decide⟩
  · rw [textOf_out Days n (by simp [Days]; omega)]
    refine ⟨?_, by decide, fun h' => absurd h' h⟩
    have : (decide (0 ≤ n) && decide (n ≤ 6)) = false := by simpa using h
    rw [this, ByteArray.toList_eq]; rfl
end Go.Proofs.YtajcgoinhpengaaDoor

/- Plain law of the calendar: numbers of days, and dates. -/
namespace Go.Proofs.YtajcgoinhpengaaDoor.Cv
/-- Days ahead of a March-year of four hundred. -/
def begun (r : Int) : Int := r * 365 + r / 4 - r / 100
/-- Which March-year. -/
def yrf (x : Int) : Int := (x - x / 1460 + x / 36524 - x / 146096) / 365
def lastDay (r : Nat) : Int := if r = 399 then 146096 else begun (r + 1) - 1

theorem yrf_mono (x y : Int) (h0 : 0 ≤ x) (h : x ≤ y) (h1 : y < 146097) : yrf x ≤ yrf y := by
  unfold yrf
  have a : x - x / 1460 ≤ y - y / 1460 := by omega
  have b : x / 36524 - x / 146096 ≤ y / 36524 - y / 146096 := by omega
  omega
def rowOk (r : Nat) : Bool := decide (yrf (begun r) = r ∧ yrf (lastDay r) = r ∧ 0 ≤ begun r ∧ begun r ≤ lastDay r ∧ lastDay r < 146097)
theorem rows_ok : ∀ r, r < 400 → rowOk r = true := by decide +kernel
theorem yr_find (x : Int) (h0 : 0 ≤ x) : ∀ k : Nat, k < 400 → x ≤ lastDay k → ∃ r : Nat, r ≤ k ∧ begun r ≤ x ∧ x ≤ lastDay r := by
  intro k
  induction k with
  | zero => intro _ h; exact ⟨0, Nat.le_refl _, by simpa [begun] using h0, h⟩
  | succ k ih =>
    intro hk h
    by_cases hb : begun ((k + 1 : Nat) : Int) ≤ x
    · exact ⟨k + 1, Nat.le_refl _, hb, h⟩
    · obtain ⟨r, h1, h2, h3⟩ := ih (by omega) (by unfold lastDay; rw [if_neg (by omega)]; have e : ((k + 1 : Nat) : Int) = (k : Int) + 1 := by omega
                                                  rw [e] at hb; omega)
      exact ⟨r, by omega, h2, h3⟩
/-- The year of a day among four hundred years. -/
theorem yrf_spec (x : Int) (h0 : 0 ≤ x) (h1 : x < 146097) : ∃ r : Nat, r < 400 ∧ yrf x = r ∧ begun r ≤ x ∧ x ≤ lastDay r := by
  obtain ⟨r, hr, hb, hl⟩ := yr_find x h0 399 (by omega) (by unfold lastDay; rw [if_pos rfl]; omega)
  have ok := rows_ok r (by omega)
  unfold rowOk at ok
  rw [decide_eq_true_eq] at ok
  obtain ⟨e1, e2, e3, e4, e5⟩ := ok
  have m1 := yrf_mono _ _ e3 hb h1
  have m2 := yrf_mono _ _ h0 hl e5
  exact ⟨r, by omega, by omega, hb, hl⟩
theorem yrf_of (x : Int) (r : Nat) (hr : r < 400) (hb : begun r ≤ x) (hl : x ≤ lastDay r) : yrf x = r := by
  have ok := rows_ok r hr
  unfold rowOk at ok
  rw [decide_eq_true_eq] at ok
  obtain ⟨e1, e2, e3, e4, e5⟩ := ok
  have m1 := yrf_mono _ _ e3 hb (by omega)
  have m2 := yrf_mono _ _ (by omega) hl e5
  omega

def leap (y : Int) : Bool := (y % 4 == 0 && y % 100 != 0) || y % 400 == 0
/-- The days of a month, as the table has them. -/
def lens : List Int := [31, 28, 31, 30, 31, 30, 31, 31, 30, 31, 30, 31]
def len (y m : Int) : Int := if m = 2 ∧ leap y = true then 29 else lens.getD (m - 1).toNat 0
/-- The March-year and March-month. -/
def my (y m : Int) : Int := if m < 3 then y - 1 else y
def mm (m : Int) : Int := if m < 3 then m + 9 else m - 3
def num (y m d : Int) : Int := my y m / 400 * 146097 + begun (my y m % 400) + (153 * mm m + 2) / 5 + d - 1 - 719468
def ofG (n : Int) : Int := (n + 719468) / 146097
def ofR (n : Int) : Int := (n + 719468) % 146097
def ofY (n : Int) : Int := yrf (ofR n)
def ofD (n : Int) : Int := ofR n - begun (ofY n)
def ofM (n : Int) : Int := (5 * ofD n + 2) / 153
def yearOf (n : Int) : Int := ofY n + ofG n * 400 + if ofM n + 3 > 12 then 1 else 0
def monthOf (n : Int) : Int := if ofM n + 3 > 12 then ofM n + 3 - 12 else ofM n + 3
def dayOf (n : Int) : Int := ofD n - (153 * ofM n + 2) / 5 + 1
def Valid (y m d : Int) : Prop := 1 ≤ y ∧ y ≤ 9999 ∧ 1 ≤ m ∧ m ≤ 12 ∧ 1 ≤ d ∧ d ≤ len y m

theorem num_day (y m d e : Int) : num y m (d + e) = num y m d + e := by unfold num; omega
theorem leap_iff (y : Int) : leap y = true ↔ (y % 4 = 0 ∧ y % 100 ≠ 0) ∨ y % 400 = 0 := by
  unfold leap; simp
theorem len_month (y m : Int) (h1 : 1 ≤ m) (h2 : m ≤ 12) :
    len y m = if m = 2 then (if leap y = true then 29 else 28) else if m = 4 ∨ m = 6 ∨ m = 9 ∨ m = 11 then 30 else 31 := by
  have : m = 1 ∨ m = 2 ∨ m = 3 ∨ m = 4 ∨ m = 5 ∨ m = 6 ∨ m = 7 ∨ m = 8 ∨ m = 9 ∨ m = 10 ∨ m = 11 ∨ m = 12 := by omega
  unfold len
  rcases this with rfl | rfl | rfl | rfl | rfl | rfl | rfl | rfl | rfl | rfl | rfl | rfl <;> simp [lens]
theorem lastDay_len (r : Nat) (hr : r < 400) : lastDay r - begun r = 364 ∨ lastDay r - begun r = 365 := by
  unfold lastDay begun
  split
  · subst_vars; decide
  · omega
/-- A March-year has 366 days just if its end lies in a leap year. -/
theorem lastDay_leap (r : Nat) (hr : r < 400) : lastDay r - begun r = if leap ((r : Int) + 1) = true then 365 else 364 := by
  have e := leap_iff ((r : Int) + 1)
  by_cases h : leap ((r : Int) + 1) = true
  · rw [if_pos h]
    have := e.1 h
    unfold lastDay begun
    split
    · subst_vars; decide
    · omega
  · rw [if_neg h]
    have h' : ¬ (((((r : Int) + 1) % 4 = 0 ∧ ((r : Int) + 1) % 100 ≠ 0) ∨ ((r : Int) + 1) % 400 = 0)) := fun x => h (e.2 x)
    unfold lastDay begun
    split
    · subst_vars; omega
    · omega
theorem leap_mod (y : Int) : leap y = leap (y % 400) := by
  rw [Bool.eq_iff_iff, leap_iff, leap_iff]; omega

/-- The day of its year that a month's day is. -/
theorem md_bd (y m d : Int) (h : Valid y m d) :
    ∃ r : Nat, r < 400 ∧ (r : Int) = my y m % 400 ∧ 0 ≤ (153 * mm m + 2) / 5 + d - 1 ∧ begun r + ((153 * mm m + 2) / 5 + d - 1) ≤ lastDay r := by
  obtain ⟨h1, h2, h3, h4, h5, h6⟩ := h
  rw [len_month y m h3 h4] at h6
  refine ⟨(my y m % 400).toNat, by omega, by omega, ?_, ?_⟩
  · have : 0 ≤ mm m := by unfold mm; split <;> omega
    omega
  · have hl := lastDay_leap (my y m % 400).toNat (by omega)
    have he : (((my y m % 400).toNat : Nat) : Int) = my y m % 400 := by omega
    have hlp : leap ((((my y m % 400).toNat : Nat) : Int) + 1) = leap (my y m + 1) := by
      rw [he, leap_mod, leap_mod (my y m + 1)]
      congr 1
      omega
    rw [hlp] at hl
    have hm : m = 1 ∨ m = 2 ∨ m = 3 ∨ m = 4 ∨ m = 5 ∨ m = 6 ∨ m = 7 ∨ m = 8 ∨ m = 9 ∨ m = 10 ∨ m = 11 ∨ m = 12 := by omega
    by_cases hlt : m < 3
    · have e1 : my y m + 1 = y := by unfold my; rw [if_pos hlt]; omega
      have e2 : mm m = m + 9 := by unfold mm; rw [if_pos hlt]
      rw [e1] at hl
      rw [e2]
      have : m = 1 ∨ m = 2 := by omega
      rcases this with rfl | rfl
      · simp at h6; split at hl <;> omega
      · rw [if_pos rfl] at h6
        by_cases hq : leap y = true
        · rw [if_pos hq] at h6 hl; omega
        · rw [if_neg hq] at h6 hl; omega
    · have e2 : mm m = m - 3 := by unfold mm; rw [if_neg hlt]
      rw [e2]
      have h7 : (153 * (m - 3) + 2) / 5 + d - 1 ≤ 305 := by
        rcases hm with rfl | rfl | rfl | rfl | rfl | rfl | rfl | rfl | rfl | rfl | rfl | rfl <;> simp at h6 <;> omega
      split at hl <;> omega

theorem num_parts (y m d : Int) (h : Valid y m d) : ofG (num y m d) = my y m / 400 ∧ ofY (num y m d) = my y m % 400 ∧ ofD (num y m d) = (153 * mm m + 2) / 5 + d - 1 := by
  obtain ⟨r, hr, he, h0, h1⟩ := md_bd y m d h
  have ok := rows_ok r hr
  unfold rowOk at ok
  rw [decide_eq_true_eq] at ok
  obtain ⟨e1, e2, e3, e4, e5⟩ := ok
  have eR : ofR (num y m d) = begun r + ((153 * mm m + 2) / 5 + d - 1) := by unfold ofR num; rw [he] at *; omega
  have eG : ofG (num y m d) = my y m / 400 := by unfold ofG num; rw [he] at *; omega
  have eY : ofY (num y m d) = r := by unfold ofY; rw [eR]; exact yrf_of _ r hr (by omega) h1
  refine ⟨eG, by rw [eY, he], ?_⟩
  unfold ofD
  rw [eY, eR]; omega
theorem of_num (y m d : Int) (h : Valid y m d) : yearOf (num y m d) = y ∧ monthOf (num y m d) = m ∧ dayOf (num y m d) = d := by
  obtain ⟨p1, p2, p3⟩ := num_parts y m d h
  obtain ⟨h1, h2, h3, h4, h5, h6⟩ := h
  rw [len_month y m h3 h4] at h6
  have eM : ofM (num y m d) = mm m := by
    unfold ofM; rw [p3]
    have hm : m = 1 ∨ m = 2 ∨ m = 3 ∨ m = 4 ∨ m = 5 ∨ m = 6 ∨ m = 7 ∨ m = 8 ∨ m = 9 ∨ m = 10 ∨ m = 11 ∨ m = 12 := by omega
    have hd : d ≤ if m = 2 then 29 else if m = 4 ∨ m = 6 ∨ m = 9 ∨ m = 11 then 30 else 31 := by
      split at h6
      · rw [if_pos (by assumption)]; split at h6 <;> omega
      · rw [if_neg (by assumption)]; exact h6
    rcases hm with rfl | rfl | rfl | rfl | rfl | rfl | rfl | rfl | rfl | rfl | rfl | rfl <;> simp [mm] at hd ⊢ <;> omega
  unfold yearOf monthOf dayOf
  rw [eM, p1, p2, p3]
  unfold my mm
  by_cases hlt : m < 3
  · simp only [if_pos hlt]
    rw [if_pos (by omega), if_pos (by omega)]
    omega
  · simp only [if_neg hlt]
    rw [if_neg (by omega), if_neg (by omega)]
    omega

/-- Each day of the calendar is the number of its date. -/
theorem num_of (n : Int) (h0 : -719162 ≤ n) (h1 : n < 2932897) : Valid (yearOf n) (monthOf n) (dayOf n) ∧ num (yearOf n) (monthOf n) (dayOf n) = n := by
  obtain ⟨r, hr, hY, hb, hl⟩ := yrf_spec (ofR n) (by unfold ofR; omega) (by unfold ofR; omega)
  have eY : ofY n = r := hY
  have hlen := lastDay_leap r hr
  have d0 : 0 ≤ ofD n := by unfold ofD; rw [eY]; omega
  have d1 : ofD n ≤ lastDay r - begun r := by unfold ofD; rw [eY]; omega
  have eRn : ofR n = begun r + ofD n := by unfold ofD; rw [eY]; omega
  have nG : n + 719468 = ofG n * 146097 + ofR n := by unfold ofG ofR; omega
  have m0 : 0 ≤ ofM n ∧ ofM n ≤ 11 := by
    have : ofD n ≤ 365 := by split at hlen <;> omega
    unfold ofM; omega
  have dd : 1 ≤ dayOf n := by unfold dayOf ofM; omega
  have g0 : 0 ≤ ofG n := by unfold ofG; omega
  have g1 : ofG n ≤ 24 := by unfold ofG; omega
  have hmm : mm (monthOf n) = ofM n := by
    unfold mm monthOf; split <;> split <;> omega
  have hmy : my (yearOf n) (monthOf n) = ofY n + ofG n * 400 := by
    unfold my monthOf yearOf
    by_cases hc : ofM n + 3 > 12
    · simp only [if_pos hc]; rw [if_pos (by omega)]; omega
    · simp only [if_neg hc]; rw [if_neg (by omega)]; omega
  have hr' : (r : Int) < 400 := by omega
  have hnum : num (yearOf n) (monthOf n) (dayOf n) = n := by
    unfold num
    rw [hmy, hmm, eY]
    have a1 : ((r : Int) + ofG n * 400) / 400 = ofG n := by omega
    have a2 : ((r : Int) + ofG n * 400) % 400 = r := by omega
    rw [a1, a2]
    unfold dayOf
    omega
  have hmon : 1 ≤ monthOf n ∧ monthOf n ≤ 12 := by unfold monthOf; split <;> omega
  refine ⟨⟨?_, ?_, hmon.1, hmon.2, dd, ?_⟩, hnum⟩
  · -- the year is 1 at least
    unfold yearOf
    rw [eY]
    rcases Int.lt_or_le 0 (ofG n) with h | h
    · split <;> omega
    · have : ofG n = 0 := by omega
      rw [this] at nG ⊢
      by_cases hz : r = 0
      · subst hz
        have hb0 : begun ((0 : Nat) : Int) = 0 := by decide
        have : 306 ≤ ofD n := by omega
        rw [if_pos (by unfold ofM; omega)]
        omega
      · split <;> omega
  · -- and 9999 at most
    unfold yearOf
    rw [eY]
    by_cases hz : ofG n = 24 ∧ r = 399
    · obtain ⟨hg, rfl⟩ := hz
      have hb0 : begun ((399 : Nat) : Int) = 145731 := by decide
      have : ofD n ≤ 305 := by rw [hg] at nG; omega
      rw [if_neg (by unfold ofM; omega), hg]
      omega
    · split <;> omega
  · -- no day is behind its month's end
    rw [len_month _ _ hmon.1 hmon.2]
    have hmoncases : ofM n = 0 ∨ ofM n = 1 ∨ ofM n = 2 ∨ ofM n = 3 ∨ ofM n = 4 ∨ ofM n = 5 ∨ ofM n = 6 ∨ ofM n = 7 ∨ ofM n = 8 ∨ ofM n = 9 ∨ ofM n = 10 ∨ ofM n = 11 := by omega
    have hM : ofM n = (5 * ofD n + 2) / 153 := rfl
    by_cases h11 : ofM n = 11
    · have e1 : monthOf n = 2 := by unfold monthOf; rw [if_pos (by omega)]; omega
      have e2 : yearOf n = r + 1 + ofG n * 400 := by unfold yearOf; rw [if_pos (by omega), eY]; omega
      rw [e1, if_pos rfl, e2]
      have e3 : leap ((r : Int) + 1 + ofG n * 400) = leap ((r : Int) + 1) := by
        rw [leap_mod, leap_mod ((r : Int) + 1)]; congr 1; omega
      rw [e3]
      unfold dayOf
      rw [h11]
      split at hlen
      · rw [if_pos (by assumption)]; omega
      · rw [if_neg (by assumption)]; omega
    · have e1 : monthOf n ≠ 2 := by unfold monthOf; split <;> omega
      rw [if_neg e1]
      unfold dayOf
      have e4 : monthOf n = if ofM n + 3 > 12 then ofM n + 3 - 12 else ofM n + 3 := rfl
      rcases hmoncases with h | h | h | h | h | h | h | h | h | h | h | h <;> rw [h] at hM e4 ⊢ <;> simp at e4 <;> rw [e4] <;> simp <;> omega

def ahead (y : Int) : Int := y / 400 * 146097 + begun (y % 400)
theorem of_facts (n : Int) (g r y d : Int) (hg : (n + 719468) / 146097 = g) (hr : (n + 719468) % 146097 = r) (hy : (r - r / 1460 + r / 36524 - r / 146096) / 365 = y) (hd : r - (365 * y + y / 4 - y / 100) = d) :
    0 ≤ d ∧ d ≤ 365 ∧ g = ofG n ∧ y = ofY n ∧ d = ofD n := by
  have e1 : ofR n = r := hr
  obtain ⟨k, hk, hY, hb, hl⟩ := yrf_spec r (by omega) (by omega)
  have e2 : y = k := by rw [← hY, ← hy]; rfl
  have e3 : ofY n = k := by unfold ofY; rw [e1]; exact hY
  have hlen := lastDay_leap k hk
  have e4 : d = r - begun k := by rw [← hd, e2]; unfold begun; omega
  refine ⟨by omega, by split at hlen <;> omega, hg.symm, by rw [e2, e3], by unfold ofD; rw [e1, e3, e4]⟩
theorem parts_big (n : Int) (h : (5 * ofD n + 2) / 153 + 3 > 12) : yearOf n = ofY n + ofG n * 400 + 1 ∧ monthOf n = (5 * ofD n + 2) / 153 + 3 - 12 ∧ dayOf n = ofD n - (153 * ((5 * ofD n + 2) / 153) + 2) / 5 + 1 := by
  have h' : ofM n + 3 > 12 := h
  unfold yearOf monthOf
  rw [if_pos h', if_pos h']
  exact ⟨rfl, rfl, rfl⟩
theorem parts_small (n : Int) (h : (5 * ofD n + 2) / 153 + 3 ≤ 12) : yearOf n = ofY n + ofG n * 400 ∧ monthOf n = (5 * ofD n + 2) / 153 + 3 ∧ dayOf n = ofD n - (153 * ((5 * ofD n + 2) / 153) + 2) / 5 + 1 := by
  have h' : ¬ (ofM n + 3 > 12) := by unfold ofM; omega
  unfold yearOf monthOf
  rw [if_neg h', if_neg h']
  exact ⟨by omega, rfl, rfl⟩
theorem ahead_eq (y : Int) : ahead y = y * 365 + y / 4 - y / 100 + y / 400 := by unfold ahead begun; omega
theorem ahead_succ (y : Int) : ahead y = ahead (y - 1) + 365 + if leap y = true then 1 else 0 := by
  rw [ahead_eq, ahead_eq]
  have hlp := leap_iff y
  by_cases hl : leap y = true
  · rw [if_pos hl]; have := hlp.1 hl; omega
  · rw [if_neg hl]; have : ¬ ((y % 4 = 0 ∧ y % 100 ≠ 0) ∨ y % 400 = 0) := fun x => hl (hlp.2 x); omega
theorem num_ahead (y m d : Int) : num y m d = ahead (my y m) + (153 * mm m + 2) / 5 + d - 1 - 719468 := rfl
theorem first_ahead (y : Int) : num y 1 1 = ahead (y - 1) + 306 - 719468 := by rw [num_ahead]; simp [my, mm]
theorem first_succ (y : Int) : num (y + 1) 1 1 = num y 1 1 + 365 + if leap y = true then 1 else 0 := by
  rw [first_ahead, first_ahead, show y + 1 - 1 = y by omega, ahead_succ y]; omega
theorem first_le (y m d : Int) (h : Valid y m d) : num y 1 1 ≤ num y m d ∧ num y m d < num (y + 1) 1 1 := by
  obtain ⟨h1, h2, h3, h4, h5, h6⟩ := h
  rw [len_month y m h3 h4] at h6
  have hm : m = 1 ∨ m = 2 ∨ m = 3 ∨ m = 4 ∨ m = 5 ∨ m = 6 ∨ m = 7 ∨ m = 8 ∨ m = 9 ∨ m = 10 ∨ m = 11 ∨ m = 12 := by omega
  rw [first_succ, first_ahead, num_ahead]
  have hs := ahead_succ y
  unfold my mm
  by_cases hl : leap y = true
  · simp only [if_pos hl] at h6 hs ⊢
    rcases hm with rfl | rfl | rfl | rfl | rfl | rfl | rfl | rfl | rfl | rfl | rfl | rfl <;> simp at h6 ⊢ <;> omega
  · simp only [if_neg hl] at h6 hs ⊢
    rcases hm with rfl | rfl | rfl | rfl | rfl | rfl | rfl | rfl | rfl | rfl | rfl | rfl <;> simp at h6 ⊢ <;> omega
theorem first_mono (y z : Int) (h : y ≤ z) : num y 1 1 ≤ num z 1 1 := by
  rw [first_ahead, first_ahead, ahead_eq, ahead_eq]; omega
end Go.Proofs.YtajcgoinhpengaaDoor.Cv

/- The contracts of package civil. -/
namespace Go.Proofs.YtajcgoinhpengaaDoor
open Go.RowKit

def InCal (y m : Int) : Prop := 1 ≤ y ∧ y ≤ 9999 ∧ 1 ≤ m ∧ m ≤ 12

theorem ret_int2 {k : IntKind} {a b : Int} {v : Value} (h : a = b) : Ending.returned (.tuple #[.int k a, v]) = .returned (.tuple #[.int k b, v]) := by rw [h]

theorem valid_31 {y m d : Int} (h : Cv.Valid y m d) : 1 ≤ d ∧ d ≤ 31 := by
  obtain ⟨h1, h2, h3, h4, h5, h6⟩ := h
  rw [Cv.len_month y m h3 h4] at h6
  refine ⟨h5, ?_⟩
  split at h6
  · split at h6 <;> omega
  · split at h6 <;> omega

def dow (n : Int) : Int := (n % 7 + 4) % 7
theorem tmod_7 (n : Int) : n.tmod 7 = if 0 ≤ n then n % 7 else -((-n) % 7) := by
  by_cases h : 0 ≤ n
  · rw [if_pos h, Int.tmod_eq_emod_of_nonneg h]
  · rw [if_neg h]
    have : n = -(-n) := by omega
    rw [this, Int.neg_tmod, Int.tmod_eq_emod_of_nonneg (by omega)]
    omega
theorem dow_walk (n : Int) : (wrap64 (n.tmod 7 + 11)).tmod 7 = dow n := by
  have h := tmod_7 n
  have hb : 0 ≤ n.tmod 7 + 11 ∧ n.tmod 7 + 11 ≤ 17 := by rw [h]; split <;> omega
  have hw : wrap64 (n.tmod 7 + 11) = n.tmod 7 + 11 := by unfold wrap64; omega
  rw [hw, Int.tmod_eq_emod_of_nonneg hb.1, h]
  unfold dow
  split <;> omega
theorem num_min : Cv.num 1 1 1 = -719162 := by decide
theorem num_max : Cv.num 10000 1 1 = 2932897 := by decide
end Go.Proofs.YtajcgoinhpengaaDoor
