/- Right texts, as lists: joined right texts are right, an escaped one too. -/
import Derived.Test.YtjbgmbhifnihaaaDoorMkUtf
namespace Go.Proofs.YtjbgmbhifnihaaaDoor
open Go.RowKit

namespace Mk
def badL (l : Txt) : Bool := (dL l).1 == 65533 && !(Lib.hasPrefix l Te.wrongL)
theorem bad_eq (s : ByteArray) (pos : Nat) : Te.bad s pos = badL ((tl s).drop pos) := by unfold Te.bad badL; rw [dec_dL]
def rightL : Nat → Txt → Bool
  | 0, _ => true
  | f + 1, l => if l = [] then true else !(badL l) && rightL f (l.drop (dL l).2)
theorem right_eq (s : ByteArray) : ∀ (f pos : Nat), Te.rightFrom s f pos = rightL f ((tl s).drop pos)
  | 0, _ => rfl
  | f + 1, pos => by
    rw [Te.rightFrom, rightL]
    by_cases h : pos < s.size
    · have hne : (tl s).drop pos ≠ [] := fun e => by
        have := congrArg List.length e
        rw [List.length_drop, tl_length] at this
        simp at this
        omega
      rw [if_pos h, if_neg hne, bad_eq, right_eq s f, dec_dL, List.drop_drop]
    · rw [if_neg h, if_pos (List.drop_eq_nil_of_le (by rw [tl_length]; omega))]
theorem right_L (s : ByteArray) : Te.right s = rightL (tl s).length (tl s) := by
  unfold Te.right
  rw [right_eq, tl_length]
  rfl
/-- A right character. -/
def Ch (c : Txt) : Prop := c ≠ [] ∧ ∃ x, ∀ r, dL (c ++ r) = (x, c.length) ∧ badL (c ++ r) = false
inductive Rt : Txt → Prop
  | nil : Rt []
  | cons {c l : Txt} (h : Ch c) (t : Rt l) : Rt (c ++ l)
theorem Rt.app {a b : Txt} (ha : Rt a) (hb : Rt b) : Rt (a ++ b) := by
  induction ha with
  | nil => exact hb
  | cons h _ ih => rw [List.append_assoc]; exact .cons h ih
theorem ch_ascii {b : UInt8} (h : b.toNat < 128) : Ch [b] := by
  refine ⟨by simp, b.toNat, fun r => ?_⟩
  have e : dL ([b] ++ r) = (b.toNat, 1) := by
    unfold dL Lib.decodeN
    exact if_pos h
  refine ⟨e, ?_⟩
  unfold badL
  rw [e]
  have : (b.toNat == 65533) = false := by rw [beq_eq_false_iff_ne]; omega
  simp [this]
theorem rt_ascii : ∀ (l : Txt), (∀ b ∈ l, b.toNat < 128) → Rt l
  | [], _ => .nil
  | b :: l, h => .cons (c := [b]) (ch_ascii (h b (by simp))) (rt_ascii l fun x hx => h x (by simp [hx]))
theorem rt_right {l : Txt} (h : Rt l) : ∀ f, l.length ≤ f → rightL f l = true := by
  induction h with
  | nil => intro f _; cases f <;> rfl
  | @cons c l hc _ ih =>
    intro f hf
    obtain ⟨hne, x, hx⟩ := hc
    have hp := List.length_pos_iff.2 hne
    rw [List.length_append] at hf
    obtain ⟨f, rfl⟩ : ∃ g, f = g + 1 := ⟨f - 1, by omega⟩
    rw [rightL, if_neg (by simp [hne]), (hx l).2, (hx l).1]
    simp only [List.drop_left, Bool.not_false, Bool.true_and]
    exact ih f (by omega)
theorem decN_width {n b0 b1 b2 b3 : Nat} (h : 1 ≤ n) : 1 ≤ (Lib.decodeN n b0 b1 b2 b3).2 ∧ (Lib.decodeN n b0 b1 b2 b3).2 ≤ n := by
  unfold Lib.decodeN
  repeat' split
  all_goals (simp only; omega)
theorem nth_take {l r : Txt} {k j : Nat} (h : j < k) (hk : k ≤ l.length) : nth (l.take k ++ r) j = nth l j := by
  unfold nth
  rw [List.getElem?_append_left (by rw [List.length_take]; omega), List.getElem?_take_of_lt h]
theorem ch_wrong : Ch Te.wrongL := by
  refine ⟨by unfold Te.wrongL; simp, 65533, fun r => ?_⟩
  have e : dL (Te.wrongL ++ r) = (65533, 3) := by
    show Lib.decodeN (r.length + 3) 239 191 189 _ = _
    unfold Lib.decodeN
    rw [if_neg (by decide), if_neg (by omega), if_pos ⟨by decide, ⟨by omega, by decide⟩, by omega, by decide⟩, if_pos (by decide)]
  refine ⟨e, ?_⟩
  unfold badL
  have : Lib.hasPrefix (Te.wrongL ++ r) Te.wrongL = true := by
    show Te.wrongL.isPrefixOf _ = true
    rw [List.isPrefixOf_iff_prefix]
    exact List.prefix_append _ _
  rw [this]
  simp
theorem head_ch {l : Txt} (hne : l ≠ []) (hb : badL l = false) : Ch (l.take (dL l).2) := by
  have hp := List.length_pos_iff.2 hne
  have hw : 1 ≤ (dL l).2 ∧ (dL l).2 ≤ l.length := decN_width hp
  by_cases hx : (dL l).1 = 65533
  · have hpre : Lib.hasPrefix l Te.wrongL = true := by
      unfold badL at hb
      rw [hx] at hb
      simpa using hb
    obtain ⟨r, hr⟩ := List.isPrefixOf_iff_prefix.1 (show Te.wrongL.isPrefixOf l = true from hpre)
    obtain ⟨_, x, hcw⟩ := ch_wrong
    have h2 := (hcw r).1
    rw [hr] at h2
    have h3 : (dL l).2 = 3 := by rw [h2]; rfl
    rw [h3, ← hr]
    exact ch_wrong
  · have hlen : (l.take (dL l).2).length = (dL l).2 := by rw [List.length_take]; omega
    refine ⟨fun e => by rw [e] at hlen; simp at hlen; omega, (dL l).1, fun r => ?_⟩
    have e : dL (l.take (dL l).2 ++ r) = ((dL l).1, (dL l).2) := by
      have h0 : Lib.decodeN l.length (nth l 0) (nth l 1) (nth l 2) (nth l 3) = ((dL l).1, (dL l).2) := rfl
      have h1 := decN_local h0 (.inl hx) (n' := (l.take (dL l).2 ++ r).length) (by rw [List.length_append, hlen]; omega) (fun q => nth_take (r := r) q hw.2) (fun q => nth_take (r := r) q hw.2) (fun q => nth_take (r := r) q hw.2)
      rw [← nth_take (r := r) (show 0 < (dL l).2 from hw.1) hw.2] at h1
      exact h1
    refine ⟨by rw [e, hlen], ?_⟩
    unfold badL
    rw [e]
    have : ((dL l).1 == 65533) = false := by rw [beq_eq_false_iff_ne]; exact hx
    simp [this]
theorem right_rt : ∀ (f : Nat) (l : Txt), l.length ≤ f → rightL f l = true → Rt l
  | 0, l, h, _ => by
    have : l = [] := List.eq_nil_of_length_eq_zero (by omega)
    rw [this]; exact .nil
  | f + 1, l, h, hr => by
    by_cases hne : l = []
    · rw [hne]; exact .nil
    · rw [rightL, if_neg hne, Bool.and_eq_true, Bool.not_eq_true'] at hr
      have hw : 1 ≤ (dL l).2 ∧ (dL l).2 ≤ l.length := decN_width (List.length_pos_iff.2 hne)
      have h1 := head_ch hne hr.1
      have h2 := right_rt f _ (by rw [List.length_drop]; omega) hr.2
      have := Rt.cons h1 h2
      rw [List.take_append_drop] at this
      exact this
theorem rt_iff (s : ByteArray) : Te.right s = true ↔ Rt (tl s) := by
  rw [right_L]
  exact ⟨right_rt _ _ (Nat.le_refl _), fun h => rt_right h _ (Nat.le_refl _)⟩
end Mk
end Go.Proofs.YtjbgmbhifnihaaaDoor
