/- Words for markup's walks: parts of texts, the first that do not fit. -/
import Derived.Test.YtjbgmbhifnihaaaDoorMkSmall
import Derived.Test.YtjbgmbhifnihaaaDoorUtf
namespace Go.Proofs.YtjbgmbhifnihaaaDoor
open Go.RowKit

namespace Mk
theorem bts_take (s : ByteArray) (k : Nat) : bts ((tl s).take k) = s.extract 0 k := by
  apply ByteArray.ext
  unfold bts tl
  apply Array.toList_inj.1
  rw [ByteArray.data_extract, Array.toList_extract]
  simp [List.extract]
theorem bts_drop (s : ByteArray) (k : Nat) : bts ((tl s).drop k) = s.extract k s.size := by
  apply ByteArray.ext
  unfold bts tl
  apply Array.toList_inj.1
  rw [ByteArray.data_extract, Array.toList_extract]
  simp only [List.extract]
  rw [List.take_of_length_le]
  rw [List.length_drop]
  exact Nat.le_refl _
theorem bts_mid (s : ByteArray) (a b : Nat) : bts (((tl s).drop a).take (b - a)) = s.extract a b := by
  apply ByteArray.ext
  unfold bts tl
  apply Array.toList_inj.1
  rw [ByteArray.data_extract, Array.toList_extract]
theorem tl_mid (s : ByteArray) (a b : Nat) : tl (s.extract a b) = ((tl s).drop a).take (b - a) := by rw [← bts_mid]; rfl
theorem tl_from (s : ByteArray) (k : Nat) : tl (s.extract k s.size) = (tl s).drop k := by rw [← bts_drop]; rfl
theorem at_tl (s : ByteArray) (k : Nat) (h : k < s.size) : (tl s)[k]? = some s[k] := by
  unfold tl
  rw [Array.getElem?_toList, Array.getElem?_eq_getElem (by exact h)]
  rfl
def upto (p : UInt8 → Bool) (l : Txt) (k : Nat) : Prop := ∀ j, j < k → ∃ b, l[j]? = some b ∧ p b = true
theorem upto_zero (p : UInt8 → Bool) (l : Txt) : upto p l 0 := fun _ h => by omega
theorem upto_succ {p : UInt8 → Bool} {l : Txt} {k : Nat} (h : upto p l k) (b : UInt8) (hb : l[k]? = some b) (hp : p b = true) : upto p l (k + 1) := by
  intro j hj
  by_cases e : j = k
  · subst e; exact ⟨b, hb, hp⟩
  · exact h j (by omega)
theorem upto_cut {p : UInt8 → Bool} : ∀ (l : Txt) (k : Nat), upto p l k → (∀ b, l[k]? = some b → p b = false) → l.takeWhile p = l.take k ∧ l.dropWhile p = l.drop k
  | [], k, _, _ => by simp
  | b :: l, 0, _, h2 => by
    have := h2 b rfl
    rw [List.takeWhile_cons, List.dropWhile_cons, this]
    exact ⟨rfl, rfl⟩
  | b :: l, k + 1, h1, h2 => by
    obtain ⟨c, hc, hp⟩ := h1 0 (by omega)
    cases hc
    have ih := upto_cut l k (fun j hj => h1 (j + 1) (by omega)) h2
    rw [List.takeWhile_cons, List.dropWhile_cons, hp, List.take_succ_cons, List.drop_succ_cons, ← ih.1, ← ih.2]
    exact ⟨rfl, rfl⟩
theorem emp_no {s : ByteArray} (h : 0 < s.size) : s.toList.isEmpty = false := by
  rw [Lib.toList_data]
  cases e : s.data.toList with
  | nil => have := Lib.size_eq s; rw [e, List.length_nil] at this; omega
  | cons _ _ => rfl
theorem emp_yes {s : ByteArray} (h : s.size = 0) : s.toList.isEmpty = true := by
  rw [Lib.toList_data]
  cases e : s.data.toList with
  | nil => rfl
  | cons _ _ => have := Lib.size_eq s; rw [e, List.length_cons] at this; omega
theorem is_list {s : ByteArray} {l : Txt} (h : tl s = l) : (s.toList == l) = true := by
  rw [Lib.toList_data]
  exact beq_iff_eq.2 h
theorem not_list {s : ByteArray} {l : Txt} (h : tl s ≠ l) : (s.toList == l) = false := by
  rw [Lib.toList_data]
  exact beq_eq_false_iff_ne.2 h
end Mk
end Go.Proofs.YtjbgmbhifnihaaaDoor
