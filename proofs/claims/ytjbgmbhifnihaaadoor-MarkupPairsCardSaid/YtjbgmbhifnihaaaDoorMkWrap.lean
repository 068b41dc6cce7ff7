/- An escaped text, and one within an element, is right, and has no low byte. -/
import Derived.Test.YtjbgmbhifnihaaaDoorMkRt
namespace Go.Proofs.YtjbgmbhifnihaaaDoor
open Go.RowKit

namespace Mk
theorem decN_high {n b0 b1 b2 b3 : Nat} (h : 128 ≤ b0) : (Lib.decodeN n b0 b1 b2 b3).2 ≤ 4 ∧ (1 < (Lib.decodeN n b0 b1 b2 b3).2 → 128 ≤ b1) ∧ (2 < (Lib.decodeN n b0 b1 b2 b3).2 → 128 ≤ b2) ∧ (3 < (Lib.decodeN n b0 b1 b2 b3).2 → 128 ≤ b3) := by
  unfold Lib.decodeN
  repeat' split
  all_goals (simp only; omega)
theorem esc1_high {b : UInt8} (h : 128 ≤ b.toNat) : esc1 b = [b] := by
  unfold esc1
  rw [if_neg (by rintro rfl; exact absurd h (by decide)), if_neg (by rintro rfl; exact absurd h (by decide)), if_neg (by rintro rfl; exact absurd h (by decide)), if_neg (by rintro rfl; exact absurd h (by decide)), if_neg (by rintro rfl; exact absurd h (by decide))]
theorem esc_high : ∀ (l : Txt), (∀ b ∈ l, 128 ≤ b.toNat) → esc l = l
  | [], _ => rfl
  | b :: l, h => by
    have ih := esc_high l fun x hx => h x (by simp [hx])
    unfold esc at ih ⊢
    rw [List.flatMap_cons, ih, esc1_high (h b (by simp))]
    rfl
theorem ch_cases {c : Txt} (h : Ch c) : (∃ b, c = [b] ∧ b.toNat < 128) ∨ ∀ b ∈ c, 128 ≤ b.toNat := by
  obtain ⟨hne, x, hx⟩ := h
  have h0 := (hx []).1
  rw [List.append_nil] at h0
  have h2 : (dL c).2 = c.length := by rw [h0]
  match c, hne with
  | b :: r, _ =>
    by_cases hb : b.toNat < 128
    · have e : dL (b :: r) = (b.toNat, 1) := by
        unfold dL Lib.decodeN
        exact if_pos hb
      rw [e] at h2
      have : r = [] := List.eq_nil_of_length_eq_zero (by have h3 : 1 = r.length + 1 := h2; omega)
      subst this
      exact .inl ⟨b, rfl, hb⟩
    · right
      have hh := decN_high (n := (b :: r).length) (b0 := nth (b :: r) 0) (b1 := nth (b :: r) 1) (b2 := nth (b :: r) 2) (b3 := nth (b :: r) 3) (show 128 ≤ b.toNat by omega)
      have hd : (Lib.decodeN (b :: r).length (nth (b :: r) 0) (nth (b :: r) 1) (nth (b :: r) 2) (nth (b :: r) 3)).2 = (b :: r).length := h2
      rw [hd] at hh
      intro y hy
      obtain ⟨j, hj, rfl⟩ := List.mem_iff_getElem.1 hy
      have hn : nth (b :: r) j = ((b :: r)[j]).toNat := by unfold nth; rw [List.getElem?_eq_getElem hj]; rfl
      rw [← hn]
      rcases (by omega : j = 0 ∨ j = 1 ∨ j = 2 ∨ j = 3) with rfl | rfl | rfl | rfl
      · show 128 ≤ b.toNat; omega
      · exact hh.2.1 hj
      · exact hh.2.2.1 hj
      · exact hh.2.2.2 hj
theorem esc1_ascii {b : UInt8} (h : b.toNat < 128) : ∀ x ∈ esc1 b, x.toNat < 128 := by
  unfold esc1
  repeat' split
  all_goals
    intro x hx
    simp at hx
    first
      | (subst hx; exact h)
      | (rcases hx with rfl | rfl | rfl | rfl <;> decide)
      | (rcases hx with rfl | rfl | rfl | rfl | rfl <;> decide)
      | (rcases hx with rfl | rfl | rfl | rfl | rfl | rfl <;> decide)
theorem esc_ap (a b : Txt) : esc (a ++ b) = esc a ++ esc b := by unfold esc; rw [List.flatMap_append]
theorem rt_esc {l : Txt} (h : Rt l) : Rt (esc l) := by
  induction h with
  | nil => exact .nil
  | @cons c l hc _ ih =>
    rw [esc_ap]
    refine Rt.app ?_ ih
    rcases ch_cases hc with ⟨b, rfl, hb⟩ | hall
    · have : esc [b] = esc1 b := by unfold esc; rw [List.flatMap_cons, List.flatMap_nil, List.append_nil]
      rw [this]
      exact rt_ascii _ (esc1_ascii hb)
    · rw [esc_high c hall]
      have := Rt.cons hc .nil
      rw [List.append_nil] at this
      exact this
theorem rt_wrap {l : Txt} (h : Rt l) : Rt (wrap (esc l)) := by
  unfold wrap
  exact (((rt_ascii _ (by decide)).app (rt_esc h)).app (rt_ascii _ (by decide))).app (rt_esc h) |>.app (rt_ascii _ (by decide))
theorem low_esc {l : Txt} (h : ∀ b ∈ l, low b = false) : ∀ b ∈ esc l, low b = false := by
  intro b hb
  unfold esc at hb
  obtain ⟨x, hx, hm⟩ := List.mem_flatMap.1 hb
  have h2 := h x hx
  revert hm
  unfold esc1
  repeat' split
  all_goals
    intro hm
    simp at hm
    first
      | (subst hm; exact h2)
      | (rcases hm with rfl | rfl | rfl | rfl <;> decide)
      | (rcases hm with rfl | rfl | rfl | rfl | rfl <;> decide)
      | (rcases hm with rfl | rfl | rfl | rfl | rfl | rfl <;> decide)
theorem low_wrap {l : Txt} (h : ∀ b ∈ l, low b = false) : ∀ b ∈ wrap (esc l), low b = false := by
  intro b hb
  unfold wrap at hb
  simp only [List.mem_append] at hb
  have h1 : ∀ b ∈ ([60, 97, 32, 98, 61, 34] : Txt), low b = false := by decide
  have h2 : ∀ b ∈ ([34, 62] : Txt), low b = false := by decide
  have h3 : ∀ b ∈ ([60, 47, 97, 62] : Txt), low b = false := by decide
  rcases hb with (((hb | hb) | hb) | hb) | hb
  · exact h1 b hb
  · exact low_esc h b hb
  · exact h2 b hb
  · exact low_esc h b hb
  · exact h3 b hb
end Mk
end Go.Proofs.YtjbgmbhifnihaaaDoor
