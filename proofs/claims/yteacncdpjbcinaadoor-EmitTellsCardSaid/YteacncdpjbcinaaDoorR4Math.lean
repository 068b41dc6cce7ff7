/- The document's way to tell a path: part by part. -/
import Derived.Test.YteacncdpjbcinaaDoorHvPath
namespace Go.Proofs.YteacncdpjbcinaaDoor
open Go.RowKit

namespace R4
/-- A path, letter by letter: p letters of a part are over. -/
def pgo : Nat → List UInt8 → Bool
  | p, [] => decide (0 < p)
  | p, b :: r => if b = 91 ∨ b = 93 then false else if b = 92 then (if p = 0 then false else pgo 0 r) else pgo (p + 1) r
theorem index_pos {l : List UInt8} {c : UInt8} {k : Nat} (h : Lib.count l [c] = k + 1) : ∃ i : Nat, Lib.index l [c] = (i : Int) := by
  rw [Lib.count_one] at h
  have hm : c ∈ l := List.count_pos_iff.1 (by omega)
  rw [Lib.index_one]
  have hg := Lib.indexByte_ge l c
  by_cases he : Lib.indexByte l c = -1
  · exfalso
    obtain ⟨j, hj, e⟩ := List.mem_iff_getElem.1 hm
    exact Lib.indexByte_none he j (by rw [List.getElem?_eq_getElem hj, e])
  · exact ⟨(Lib.indexByte l c).toNat, by omega⟩
theorem split_pgo : ∀ (l : List UInt8) (k : Nat), Lib.count l [92] = k → (∀ b ∈ l, b ≠ 91 ∧ b ≠ 93) → ∃ h t, Lib.splitK [92] 0 k l = h :: t ∧ ∀ p, pgo p l = true ↔ (0 < p ∨ h ≠ []) ∧ [] ∉ t
  | [], k, hk, _ => by
    have : k = 0 := by rw [← hk, Lib.count_one]; rfl
    subst this
    refine ⟨[], [], rfl, fun p => ?_⟩
    simp [pgo]
  | b :: l, k, hk, hb => by
    have hb0 := hb b (by simp)
    have hbl := fun x hx => hb x (List.mem_cons_of_mem b hx)
    by_cases h92 : b = 92
    · subst h92
      rw [Lib.count_cons_eq] at hk
      obtain ⟨k, rfl⟩ : ∃ j, k = j + 1 := ⟨k - 1, by omega⟩
      obtain ⟨h, t, hs, hp⟩ := split_pgo l k (by omega) hbl
      have hi : Lib.index (92 :: l) [92] = 0 := by unfold Lib.index; rw [if_pos (by simp)]
      refine ⟨[], h :: t, ?_, fun p => ?_⟩
      · rw [Lib.splitK, hi, if_neg (by decide)]
        show List.take 0 _ :: Lib.splitK [92] 0 k (List.drop 1 (92 :: l)) = _
        rw [List.take_zero, List.drop_one, List.tail_cons, hs]
      · rw [pgo, if_neg (by decide), if_pos rfl]
        by_cases hp0 : p = 0
        · rw [if_pos hp0]
          simp [hp0]
        · rw [if_neg hp0, hp 0]
          simp only [List.mem_cons, not_or, Nat.lt_irrefl, false_or, ne_eq, not_true_eq_false, or_false]
          constructor
          · rintro ⟨a, c⟩
            exact ⟨by omega, fun e => a e.symm, c⟩
          · rintro ⟨_, a, c⟩
            exact ⟨fun e => a e.symm, c⟩
    · rw [Lib.count_cons_ne b 92 l h92] at hk
      obtain ⟨h, t, hs, hp⟩ := split_pgo l k hk hbl
      have hpg : ∀ p, pgo p (b :: l) = pgo (p + 1) l := fun p => by rw [pgo, if_neg (fun q => by rcases q with q | q; exact hb0.1 q; exact hb0.2 q), if_neg h92]
      have key : Lib.splitK [92] 0 k (b :: l) = (b :: h) :: t := by
        cases k with
        | zero =>
          rw [Lib.splitK] at hs ⊢
          injection hs with e1 e2
          rw [e1, ← e2]
        | succ k =>
          obtain ⟨i, hi⟩ := index_pos hk
          have hi2 : Lib.index (b :: l) [92] = ((i + 1 : Nat) : Int) := by
            rw [Lib.index, if_neg (by simp; exact fun e => h92 e.symm), hi, if_neg (by simp)]
            rfl
          rw [Lib.splitK, hi, if_neg (by simp)] at hs
          rw [Lib.splitK, hi2, if_neg (by simp; omega)]
          simp only [Int.toNat_natCast, Nat.add_zero, List.length_cons, List.length_nil, Nat.zero_add] at hs ⊢
          injection hs with e1 e2
          rw [List.take_succ_cons, e1, List.drop_succ_cons, e2]
      refine ⟨b :: h, t, key, fun p => ?_⟩
      rw [hpg, hp (p + 1)]
      simp
theorem pgo_sq : ∀ (l : List UInt8) (p : Nat), (∃ b ∈ l, b = 91 ∨ b = 93) → pgo p l = false
  | [], p, h => by obtain ⟨b, hb, _⟩ := h; cases hb
  | b :: l, p, h => by
    unfold pgo
    by_cases hb : b = 91 ∨ b = 93
    · rw [if_pos hb]
    · rw [if_neg hb]
      have hl : ∃ b ∈ l, b = 91 ∨ b = 93 := by
        obtain ⟨c, hc, h2⟩ := h
        rcases List.mem_cons.1 hc with rfl | hc
        · exact absurd h2 hb
        · exact ⟨c, hc, h2⟩
      split
      · split
        · rfl
        · exact pgo_sq l 0 hl
      · exact pgo_sq l _ hl
theorem any_sq (l : List UInt8) : Lib.containsAny l Hv.sqs = true ↔ ∃ b ∈ l, b = 91 ∨ b = 93 := by
  unfold Lib.containsAny
  rw [decide_eq_true_eq]
  induction l with
  | nil => exact ⟨fun h => by unfold Lib.indexAny at h; omega, fun ⟨b, h, _⟩ => by cases h⟩
  | cons b l ih =>
    have hc : Hv.sqs.contains b = true ↔ b = 91 ∨ b = 93 := by unfold Hv.sqs; simp
    have hg := Lib.indexAny_ge Hv.sqs l
    unfold Lib.indexAny
    by_cases hb : Hv.sqs.contains b = true
    · rw [if_pos hb]
      exact ⟨fun _ => ⟨b, by simp, hc.1 hb⟩, fun _ => by omega⟩
    · rw [if_neg hb]
      have hn : (∃ x, x ∈ b :: l ∧ (x = 91 ∨ x = 93)) ↔ ∃ x, x ∈ l ∧ (x = 91 ∨ x = 93) := by
        constructor
        · rintro ⟨x, hx, h⟩
          rcases List.mem_cons.1 hx with rfl | hx
          · exact absurd (hc.2 h) hb
          · exact ⟨x, hx, h⟩
        · rintro ⟨x, hx, h⟩
          exact ⟨x, List.mem_cons_of_mem b hx, h⟩
      rw [hn, ← ih]
      by_cases h1 : Lib.indexAny l Hv.sqs = -1
      · rw [h1]; decide
      · rw [if_neg (by simpa using h1)]
        omega
theorem path_law (s : ByteArray) : (!Lib.containsAny (tl s) Hv.sqs && !Lib.containsS (Hv.parts s) ⟨#[]⟩) = pgo 0 (tl s) := by
  by_cases hq : Lib.containsAny (tl s) Hv.sqs = true
  · rw [hq, pgo_sq _ _ ((any_sq _).1 hq)]; rfl
  · have hb : ∀ b ∈ tl s, b ≠ 91 ∧ b ≠ 93 := fun b hb => ⟨fun e => hq ((any_sq _).2 ⟨b, hb, .inl e⟩), fun e => hq ((any_sq _).2 ⟨b, hb, .inr e⟩)⟩
    rw [Bool.eq_false_iff.2 hq, Bool.not_false, Bool.true_and]
    have hc : Lib.countB s ⟨#[92]⟩ = Lib.count (tl s) [92] := rfl
    obtain ⟨h, t, hs, hp⟩ := split_pgo (tl s) _ hc.symm hb
    have hd := Lib.splitB_data ⟨#[92]⟩ 0 (Lib.countB s ⟨#[92]⟩) s
    have hm : Lib.containsS (Hv.parts s) ⟨#[]⟩ = true ↔ [] ∈ h :: t := by
      rw [Lib.containsS_iff, ← hs]
      rw [show Lib.splitK [92] 0 (Lib.countB s ⟨#[92]⟩) (tl s) = (Lib.splitB ⟨#[92]⟩ 0 (Lib.countB s ⟨#[92]⟩) s).map (·.data.toList) from hd.symm]
      constructor
      · intro hh
        exact List.mem_map.2 ⟨_, hh, rfl⟩
      · intro hh
        obtain ⟨x, hx, e⟩ := List.mem_map.1 hh
        have : x = ⟨#[]⟩ := ByteArray.ext (Array.toList_inj.1 e)
        rw [← this]
        exact hx
    have hp0 := hp 0
    rw [Bool.eq_iff_iff, Bool.not_eq_true', hp0]
    rw [Bool.eq_false_iff, ne_eq, hm]
    simp only [List.mem_cons, not_or, Nat.lt_irrefl, false_or, ne_eq]
    constructor
    · rintro ⟨a, b⟩; exact ⟨fun e => a e.symm, b⟩
    · rintro ⟨a, b⟩; exact ⟨fun e => a e.symm, b⟩
end R4
end Go.Proofs.YteacncdpjbcinaaDoor
