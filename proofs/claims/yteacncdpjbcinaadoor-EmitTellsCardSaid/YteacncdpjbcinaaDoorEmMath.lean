/- A hive's text, in plain words. -/
import Derived.Test.YteacncdpjbcinaaDoorEmPlain
import Derived.Test.YteacncdpjbcinaaDoorHvKey
namespace Go.Proofs.YteacncdpjbcinaaDoor
open Go.RowKit

namespace Em
/-- What stands behind a value's name. -/
def rest (v : Hv.V) : Txt :=
  if v.kind = 1 then quote (tl v.text) else if v.kind = 2 then [110, 117, 109, 98, 101, 114, 58] ++ num v.num.toNat else if v.kind = 3 then [98, 121, 116, 101, 115, 58] ++ bytes (tl v.bytes) else []
def val (v : Hv.V) : Txt := quote (tl v.name) ++ 61 :: rest v
theorem val_len (v : Hv.V) : (val v).length ≤ 2 * v.name.size + 2 * v.text.size + 65 * v.bytes.size + 25 := by
  have h1 := quote_len (tl v.name)
  have h2 := quote_len (tl v.text)
  have h3 := bytes_len (tl v.bytes)
  have h4 := num_len v.num.toNat
  rw [tl_length] at h1 h2 h3
  unfold val rest
  rw [List.length_append, List.length_cons]
  split
  · omega
  · split
    · rw [List.length_append]; simp; omega
    · split
      · rw [List.length_append]; simp; omega
      · simp only [List.length_nil]; omega
def vals (l : List Hv.V) : Txt := l.flatMap fun v => val v ++ [10]
def head : Txt := [82, 69, 71, 73, 83, 84, 69, 82, 32, 49, 10]
def keyHead (k : Hv.K) : Txt := [10, 91] ++ tl k.path ++ [93, 10]
def key (k : Hv.K) : Txt := keyHead k ++ vals k.vals
def text (l : List Hv.K) : Txt := head ++ l.flatMap key
theorem vals_snoc (l : List Hv.V) (v : Hv.V) : vals (l ++ [v]) = vals l ++ (val v ++ [10]) := by unfold vals; rw [List.flatMap_append]; simp
theorem text_snoc (l : List Hv.K) (k : Hv.K) : text (l ++ [k]) = text l ++ key k := by unfold text; rw [List.flatMap_append]; simp [List.append_assoc]
theorem val_small {v : Hv.V} (h : Hv.valB v = true) : v.name.size ≤ 64 ∧ v.text.size ≤ 4096 ∧ v.bytes.size ≤ 4096 ∧ (v.kind = 1 ∨ v.kind = 2 ∨ v.kind = 3) ∧ Te.plain v.name = true := by
  unfold Hv.valB Hv.nameB Hv.kindB at h
  simp only [Bool.and_eq_true, decide_eq_true_eq] at h
  obtain ⟨⟨h1, h2, h3⟩, h4⟩ := h
  split at h4
  · rename_i hk
    simp only [Bool.and_eq_true, decide_eq_true_eq] at h4
    exact ⟨h2, h4.1, by omega, .inl hk, h3⟩
  · split at h4
    · rename_i hk
      simp only [Bool.and_eq_true, decide_eq_true_eq] at h4
      exact ⟨h2, by omega, by omega, .inr (.inl hk), h3⟩
    · split at h4
      · rename_i hk
        simp only [Bool.and_eq_true, decide_eq_true_eq] at h4
        exact ⟨h2, by omega, h4.1, .inr (.inr hk), h3⟩
      · cases h4
theorem val_len2 {v : Hv.V} (h : Hv.valB v = true) : (val v).length ≤ 300000 := by
  have h1 := val_small h
  have h2 := val_len v
  omega
theorem valsB_all : ∀ (l : List Hv.V) (seen : List ByteArray), Hv.valsB seen l = true → ∀ v ∈ l, Hv.valB v = true
  | [], _, _, v, h => by cases h
  | x :: l, seen, hb, v, h => by
    unfold Hv.valsB at hb
    simp only [Bool.and_eq_true] at hb
    rcases List.mem_cons.1 h with rfl | h
    · exact hb.1
    · exact valsB_all l _ hb.2.2 v h
theorem keysB_all : ∀ (l : List Hv.K) (seen : List ByteArray), Hv.keysB seen l = true → ∀ k ∈ l, Hv.keyB k = true
  | [], _, _, v, h => by cases h
  | x :: l, seen, hb, v, h => by
    unfold Hv.keysB at hb
    simp only [Bool.and_eq_true] at hb
    rcases List.mem_cons.1 h with rfl | h
    · exact hb.1
    · exact keysB_all l _ hb.2.2 v h
theorem key_parts {k : Hv.K} (h : Hv.keyB k = true) : k.path.size ≤ 256 ∧ k.vals.length ≤ 512 ∧ ∀ v ∈ k.vals, Hv.valB v = true := by
  unfold Hv.keyB at h
  simp only [Bool.and_eq_true, decide_eq_true_eq] at h
  exact ⟨Hv.path_size h.1, h.2.1, valsB_all _ _ h.2.2⟩
theorem vals_len (l : List Hv.V) (h : ∀ v ∈ l, Hv.valB v = true) : (vals l).length ≤ 300001 * l.length := by
  unfold vals
  induction l with
  | nil => simp
  | cons v r ih =>
    have h1 := val_len2 (h v (by simp))
    have h2 := ih fun x hx => h x (by simp [hx])
    rw [List.flatMap_cons, List.length_append, List.length_append, List.length_cons]
    simp only [List.length_cons, List.length_nil]
    omega
theorem key_len {k : Hv.K} (h : Hv.keyB k = true) : (key k).length ≤ 160000000 := by
  obtain ⟨h1, h2, h3⟩ := key_parts h
  have h4 := vals_len k.vals h3
  unfold key keyHead
  rw [List.length_append, List.length_append, List.length_append, tl_length]
  simp only [List.length_cons, List.length_nil]
  omega
theorem text_len (l : List Hv.K) (h : ∀ k ∈ l, Hv.keyB k = true) : (text l).length ≤ 11 + 160000000 * l.length := by
  unfold text
  rw [List.length_append]
  have h5 : head.length = 11 := rfl
  have : (l.flatMap key).length ≤ 160000000 * l.length := by
    induction l with
    | nil => simp
    | cons k r ih =>
      have h1 := key_len (h k (by simp))
      have h2 := ih fun x hx => h x (by simp [hx])
      rw [List.flatMap_cons, List.length_append, List.length_cons]
      omega
  omega
end Em
end Go.Proofs.YteacncdpjbcinaaDoor
