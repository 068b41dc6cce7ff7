/- An escaped text, and one within an element, is right, and has no low byte. -/
import Derived.Test.YtjbgmbhifnihaaaDoorP16
import Derived.Shelf.Strings.BuilderK

namespace Go.Proofs.YtjbgmbhifnihaaaDoor
open Go.RowKit

namespace Mk
theorem decN_high {n b0 b1 b2 b3 : Nat} (h : 128 ≤ b0) : (Lib.decodeN n b0 b1 b2 b3).2 ≤ 4 ∧ (1 < (Lib.decodeN n b0 b1 b2 b3).2 → 128 ≤ b1) ∧ (2 < (Lib.decodeN n b0 b1 b2 b3).2 → 128 ≤ b2) ∧ (3 < (Lib.decodeN n b0 b1 b2 b3).2 → 128 ≤ b3) := by
  unfold Lib.decodeN
  repeat' split
  all_goals (simp only; omega)
theorem esc1_high {b : UInt8} (h : 128 ≤ b.toNat) : esc1 b = [b] := by
  unfold esc1
  rw [if_neg (by rintro rfl; exact absurd h (by decide)), if_neg (by rintro rfl; exact absurd h (by decide)), if_neg (by rintro rfl; exact absurd h (by decide)), if_neg (by rintro rfl; exact absurd h (by decide)), if_neg (by rintro rfl; exact absurd h (by decide))]
theorem esc_high : ∀ (l : Txt), (∀ b ∈ l, 128 ≤ b.toNat) → esc l = l
  | [], _ => rfl
  | b :: l, h => by
    have ih := esc_high l fun x hx => h x (by simp [hx])
    unfold esc at ih ⊢
    rw [List.flatMap_cons, ih, esc1_high (h b (by simp))]
    rfl
theorem ch_cases {c : Txt} (h : Ch c) : (∃ b, c = [b] ∧ b.toNat < 128) ∨ ∀ b ∈ c, 128 ≤ b.toNat := by
  obtain ⟨hne, x, hx⟩ := h
  have h0 := (hx []).1
  rw [List.append_nil] at h0
  have h2 : (dL c).2 = c.length := by rw [h0]
  match c, hne with
  | b :: r, _ =>
    by_cases hb : b.toNat < 128
    · have e : dL (b :: r) = (b.toNat, 1) := by
        unfold dL Lib.decodeN
        exact if_pos hb
      rw [e] at h2
      have : r = [] := List.eq_nil_of_length_eq_zero (by have h3 : 1 = r.length + 1 := h2; omega)
      subst this
      exact .inl ⟨b, rfl, hb⟩
    · right
      have hh := decN_high (n := (b :: r).length) (b0 := nth (b :: r) 0) (b1 := nth (b :: r) 1) (b2 := nth (b :: r) 2) (b3 := nth (b :: r) 3) (show 128 ≤ b.toNat by omega)
      have hd : (Lib.decodeN (b :: r).length (nth (b :: r) 0) (nth (b :: r) 1) (nth (b :: r) 2) (nth (b :: r) 3)).2 = (b :: r).length := h2
      rw [hd] at hh
      intro y hy
      obtain ⟨j, hj, rfl⟩ := List.mem_iff_getElem.1 hy
      have hn : nth (b :: r) j = ((b :: r)[j]).toNat := by unfold nth; rw [List.getElem?_eq_getElem hj]; rfl
      rw [← hn]
      rcases (by omega : j = 0 ∨ j = 1 ∨ j = 2 ∨ j = 3) with rfl | rfl | rfl | rfl
      · show 128 ≤ b.toNat; omega
      · exact hh.2.1 hj
      · exact hh.2.2.1 hj
      · exact hh.2.2.2 hj
theorem esc1_ascii {b : UInt8} (h : b.toNat < 128) : ∀ x ∈ esc1 b, x.toNat < 128 := by
  unfold esc1
  repeat' split
  all_goals
    intro x hx
    simp at hx
    first
      | (subst hx; exact h)
      | (rcases hx with rfl | rfl | rfl | rfl <;> decide)
      | (rcases hx with rfl | rfl | rfl | rfl | rfl <;> decide)
      | (rcases hx with rfl | rfl | rfl | rfl | rfl | rfl <;> decide)
theorem esc_ap (a b : Txt) : esc (a ++ b) = esc a ++ esc b := by unfold esc; rw [List.flatMap_append]
theorem rt_esc {l : Txt} (h : Rt l) : Rt (esc l) := by
  induction h with
  | nil => exact .nil
  | @cons c l hc _ ih =>
    rw [esc_ap]
    refine Rt.app ?_ ih
    rcases ch_cases hc with ⟨b, rfl, hb⟩ | hall
    · have : esc [b] = esc1 b := by unfold esc; rw [List.flatMap_cons, List.flatMap_nil, List.append_nil]
      rw [this]
      exact rt_ascii _ (esc1_ascii hb)
    · rw [esc_high c hall]
      have := Rt.cons hc .nil
      rw [List.append_nil] at this
      exact this
theorem rt_wrap {l : Txt} (h : Rt l) : Rt (wrap (esc l)) := by
  unfold wrap
  exact (((rt_ascii _ (by decide)).app (rt_esc h)).app (rt_ascii _ (by decide))).app (rt_esc h) |>.app (rt_ascii _ (by decide))
theorem low_esc {l : Txt} (h : ∀ b ∈ l, low b = false) : ∀ b ∈ esc l, low b = false := by
  intro b hb
  unfold esc at hb
  obtain ⟨x, hx, hm⟩ := List.mem_flatMap.1 hb
  have h2 := h x hx
  revert hm
  unfold esc1
  repeat' split
  all_goals
    intro hm
    simp at hm
    first
      | (subst hm; exact h2)
      | (rcases hm with rfl | rfl | rfl | rfl <;> decide)
      | (rcases hm with rfl | rfl | rfl | rfl | rfl <;> decide)
      | (rcases hm with rfl | rfl | rfl | rfl | rfl | rfl <;> decide)
theorem low_wrap {l : Txt} (h : ∀ b ∈ l, low b = false) : ∀ b ∈ wrap (esc l), low b = false := by
  intro b hb
  unfold wrap at hb
  simp only [List.mem_append] at hb
  have h1 : ∀ b ∈ ([60, 97, 32, 98, 61, 34] : Txt), low b = false := by decide
  have h2 : ∀ b ∈ ([34, 62] : Txt), low b = false := by decide
  have h3 : ∀ b ∈ ([60, 47, 97, 62] : Txt), low b = false := by decide
  rcases hb with (((hb | hb) | hb) | hb) | hb
  · exact h1 b hb
  · exact low_esc h b hb
  · exact h2 b hb
  · exact low_esc h b hb
  · exact h3 b hb
end Mk
end Go.Proofs.YtjbgmbhifnihaaaDoor

/- markup: what the laws of layer 31 ask first: answers that the document gives. -/
namespace Go.Proofs.YtjbgmbhifnihaaaDoor
open Go.RowKit

namespace Mk
theorem fine_ascii {s : ByteArray} (h : s.size ≤ 1048576) (h1 : ∀ b ∈ tl s, b.toNat < 128) (h2 : ∀ b ∈ tl s, low b = false) : Fine s := ⟨h, (rt_iff s).2 (rt_ascii _ h1), h2⟩
def want : List T := [⟨1, [97], [([98], [49, 60, 50]), ([99], [39])], [], 6⟩, ⟨3, [], [], [120, 65], 38⟩, ⟨1, [100], [], [], 44⟩, ⟨2, [100], [], [], 44⟩, ⟨2, [97], [], [], 48⟩]
/-- Tokens of a text that is right. -/
theorem tok_ok (s : ByteArray) (st : S) (hf : Fine s) (h : tokens (tl s) = .inr st) (w : World) (hW : Wl w) :
    Calls Tryd.prog 11 #[.string s] w fun e w' => (∃ A c avs, e = .returned (.tuple #[.slice A st.toks.length c, .agg #[.int .i64 0, .int .i64 0, .int .i64 0]]) ∧ Parts w' A c st.toks avs) ∧ Below w.heap.size w w' := by
  refine (tokens_any s (Nat.le_trans hf.1 (by unfold maxLen; omega)) w hW).mono ?_
  rintro e w' ⟨hb, h1, _⟩
  have h2 := h1 hf
  rw [h] at h2
  exact ⟨h2, hb⟩
/-- Tokens of a text that is not. -/
theorem tok_bad (s : ByteArray) (c y : Nat) (hf : Fine s) (h : tokens (tl s) = .inl (c, y)) (w : World) (hW : Wl w) :
    Calls Tryd.prog 11 #[.string s] w fun e w' => e = .returned (.tuple #[.slice none 0 0, .agg #[.int .i64 0, .int .i64 (c : Int), .int .i64 (y : Int)]]) ∧ Below w.heap.size w w' := by
  refine (tokens_any s (Nat.le_trans hf.1 (by unfold maxLen; omega)) w hW).mono ?_
  rintro e w' ⟨hb, h1, _⟩
  have h2 := h1 hf
  rw [h] at h2
  exact ⟨h2, hb⟩
theorem esc_ok (s : ByteArray) (hf : Fine s) (w : World) : Calls Tryd.prog 8 #[.string s] w fun e w' => e = .returned (.tuple #[.string (bts (esc (tl s))), .int .i64 0]) ∧ Below w.heap.size w w' := by
  refine (escape_any s (Nat.le_trans hf.1 (by omega)) w).mono ?_
  rintro e w' ⟨⟨E, v, rfl, h⟩, hb⟩
  rcases h with ⟨rfl, rfl, _⟩ | ⟨_, _, h⟩
  · exact ⟨rfl, hb⟩
  · exact absurd ⟨hf.2.1, hf.2.2⟩ h
theorem esc_no (s : ByteArray) (hs : s.size ≤ 100000000) (hf : ¬ (Te.right s = true ∧ ∀ b ∈ tl s, low b = false)) (w : World) : Calls Tryd.prog 8 #[.string s] w fun e w' => e = .returned (.tuple #[.string ⟨#[]⟩, .int .i64 11]) ∧ Below w.heap.size w w' := by
  refine (escape_any s hs w).mono ?_
  rintro e w' ⟨⟨E, v, rfl, h⟩, hb⟩
  rcases h with ⟨_, _, h1, h2⟩ | ⟨rfl, rfl, _⟩
  · exact absurd ⟨h1, h2⟩ hf
  · exact ⟨rfl, hb⟩
theorem parts_want (w : World) : Parts ((w.alloc (.cells #[.string ⟨#[98]⟩, .string ⟨#[49, 60, 50]⟩, .string ⟨#[99]⟩, .string ⟨#[39]⟩] 40)).alloc (.cells #[.int .u8 1, .string ⟨#[97]⟩, .slice (some ⟨w.heap.size, 0, none⟩) 2 2, .string ⟨#[]⟩, .int .i64 6, .int .u8 3, .string ⟨#[]⟩, .slice none 0 0, .string ⟨#[120, 65]⟩, .int .i64 38, .int .u8 1, .string ⟨#[100]⟩, .slice none 0 0, .string ⟨#[]⟩, .int .i64 44, .int .u8 2, .string ⟨#[100]⟩, .slice none 0 0, .string ⟨#[]⟩, .int .i64 44, .int .u8 2, .string ⟨#[97]⟩, .slice none 0 0, .string ⟨#[]⟩, .int .i64 48] 38)) (some ⟨w.heap.size + 1, 0, none⟩) 5 want [.slice (some ⟨w.heap.size, 0, none⟩) 2 2, .slice none 0 0, .slice none 0 0, .slice none 0 0, .slice none 0 0] := by
  have HA := (At.new w #[.string ⟨#[98]⟩, .string ⟨#[49, 60, 50]⟩, .string ⟨#[99]⟩, .string ⟨#[39]⟩] 40).allocO (.cells #[.int .u8 1, .string ⟨#[97]⟩, .slice (some ⟨w.heap.size, 0, none⟩) 2 2, .string ⟨#[]⟩, .int .i64 6, .int .u8 3, .string ⟨#[]⟩, .slice none 0 0, .string ⟨#[120, 65]⟩, .int .i64 38, .int .u8 1, .string ⟨#[100]⟩, .slice none 0 0, .string ⟨#[]⟩, .int .i64 44, .int .u8 2, .string ⟨#[100]⟩, .slice none 0 0, .string ⟨#[]⟩, .int .i64 44, .int .u8 2, .string ⟨#[97]⟩, .slice none 0 0, .string ⟨#[]⟩, .int .i64 48] 38)
  have HT := At.new (w.alloc (.cells #[.string ⟨#[98]⟩, .string ⟨#[49, 60, 50]⟩, .string ⟨#[99]⟩, .string ⟨#[39]⟩] 40)) #[.int .u8 1, .string ⟨#[97]⟩, .slice (some ⟨w.heap.size, 0, none⟩) 2 2, .string ⟨#[]⟩, .int .i64 6, .int .u8 3, .string ⟨#[]⟩, .slice none 0 0, .string ⟨#[120, 65]⟩, .int .i64 38, .int .u8 1, .string ⟨#[100]⟩, .slice none 0 0, .string ⟨#[]⟩, .int .i64 44, .int .u8 2, .string ⟨#[100]⟩, .slice none 0 0, .string ⟨#[]⟩, .int .i64 44, .int .u8 2, .string ⟨#[97]⟩, .slice none 0 0, .string ⟨#[]⟩, .int .i64 48] 38
  rw [World.size_alloc] at HT
  refine ⟨rfl, ⟨by decide, by decide⟩, ⟨rfl, fun _ => ⟨_, rfl, HT.lt, fun j u hu => ?_⟩⟩, fun k t v ht hv => ?_⟩
  · rw [add_off]
    exact HT.cell j u hu
  · match k, ht, hv with
    | 0, ht, hv =>
      cases ht; cases hv
      refine ⟨_, _, rfl, by decide, by decide, rfl, fun _ => ⟨_, rfl, HA.lt, fun j u hu => ?_⟩⟩
      rw [add_off]
      exact HA.cell j u hu
    | 1, ht, hv => cases ht; cases hv; exact ⟨_, _, rfl, by decide, by decide, Reads.none_⟩
    | 2, ht, hv => cases ht; cases hv; exact ⟨_, _, rfl, by decide, by decide, Reads.none_⟩
    | 3, ht, hv => cases ht; cases hv; exact ⟨_, _, rfl, by decide, by decide, Reads.none_⟩
    | 4, ht, hv => cases ht; cases hv; exact ⟨_, _, rfl, by decide, by decide, Reads.none_⟩
    | k + 5, ht, hv => cases ht
theorem lf0 : Fine ⟨#[60, 63, 120, 63, 62, 10, 60, 97, 32, 98, 61, 39, 49, 38, 108, 116, 59, 50, 39, 32, 99, 32, 61, 32, 34, 39, 34, 62, 60, 33, 45, 45, 32, 45, 32, 45, 45, 62, 120, 38, 35, 54, 53, 59, 60, 100, 47, 62, 60, 47, 97, 32, 62, 10]⟩ := fine_ascii (by decide) (by decide +kernel) (by decide +kernel)
theorem lk0 : tokens [60, 63, 120, 63, 62, 10, 60, 97, 32, 98, 61, 39, 49, 38, 108, 116, 59, 50, 39, 32, 99, 32, 61, 32, 34, 39, 34, 62, 60, 33, 45, 45, 32, 45, 32, 45, 45, 62, 120, 38, 35, 54, 53, 59, 60, 100, 47, 62, 60, 47, 97, 32, 62, 10] = .inr ⟨want, [], true⟩ := by kernel_rfl
theorem lf1 : Fine ⟨#[60, 97, 62, 60, 47, 98, 62]⟩ := fine_ascii (by decide) (by decide +kernel) (by decide +kernel)
theorem lk1 : tokens [60, 97, 62, 60, 47, 98, 62] = .inl (3, 12) := by kernel_rfl
theorem lf2 : Fine ⟨#[60, 97, 62, 38, 120, 59, 60, 47, 97, 62]⟩ := fine_ascii (by decide) (by decide +kernel) (by decide +kernel)
theorem lk2 : tokens [60, 97, 62, 38, 120, 59, 60, 47, 97, 62] = .inl (3, 3) := by kernel_rfl
theorem lf3 : Fine ⟨#[60, 97, 32, 98, 61, 39, 49, 39, 32, 98, 61, 39, 50, 39, 47, 62]⟩ := fine_ascii (by decide) (by decide +kernel) (by decide +kernel)
theorem lk3 : tokens [60, 97, 32, 98, 61, 39, 49, 39, 32, 98, 61, 39, 50, 39, 47, 62] = .inl (0, 8) := by kernel_rfl
theorem lf4 : Fine ⟨#[60, 97, 62]⟩ := fine_ascii (by decide) (by decide +kernel) (by decide +kernel)
theorem lk4 : tokens [60, 97, 62] = .inl (3, 5) := by kernel_rfl
theorem lf5 : Fine ⟨#[120, 60, 97, 47, 62]⟩ := fine_ascii (by decide) (by decide +kernel) (by decide +kernel)
theorem lk5 : tokens [120, 60, 97, 47, 62] = .inl (0, 12) := by kernel_rfl
theorem lr1 : resolve [97, 38, 97, 109, 112, 59, 38, 35, 120, 50, 48, 65, 67, 59] = ([97, 38, 226, 130, 172], 0, 0) := by kernel_rfl
theorem lr2 : resolve [97, 98, 38, 35, 48, 59] = ([], 2, 1) := by kernel_rfl
theorem le1 : esc [60, 97, 38, 39, 34, 62] = [38, 108, 116, 59, 97, 38, 97, 109, 112, 59, 38, 97, 112, 111, 115, 59, 38, 113, 117, 111, 116, 59, 38, 103, 116, 59] := by kernel_rfl
theorem lef : Fine ⟨#[60, 97, 38, 39, 34, 62]⟩ := fine_ascii (by decide) (by decide +kernel) (by decide +kernel)
theorem leb : ¬ (Te.right ⟨#[1]⟩ = true ∧ ∀ b ∈ tl ⟨#[1]⟩, low b = false) := fun h => by have := h.2 1 (by decide); revert this; decide
end Mk
set_option maxHeartbeats 4000000 in
set_option maxRecDepth 100000 in
theorem lives31_any (w : World) (hW : Wl w) : Calls Tryd.prog 7 #[] w fun e w' => e = .returned (.bool true) ∧ Below w.heap.size w w' := by
  have HW := Lib.hid hW
  clear hW
  have HB := Lib.hid (Below.refl w.heap.size w)
  have HC0 := Lib.hid (fun W hw => Mk.tok_ok ⟨#[60, 63, 120, 63, 62, 10, 60, 97, 32, 98, 61, 39, 49, 38, 108, 116, 59, 50, 39, 32, 99, 32, 61, 32, 34, 39, 34, 62, 60, 33, 45, 45, 32, 45, 32, 45, 45, 62, 120, 38, 35, 54, 53, 59, 60, 100, 47, 62, 60, 47, 97, 32, 62, 10]⟩ _ Mk.lf0 Mk.lk0 W hw)
  have HC1 := Lib.hid (fun W hw => Mk.tok_bad ⟨#[60, 97, 62, 60, 47, 98, 62]⟩ 3 12 Mk.lf1 Mk.lk1 W hw)
  have HC2 := Lib.hid (fun W hw => Mk.tok_bad ⟨#[60, 97, 62, 38, 120, 59, 60, 47, 97, 62]⟩ 3 3 Mk.lf2 Mk.lk2 W hw)
  have HC3 := Lib.hid (fun W hw => Mk.tok_bad ⟨#[60, 97, 32, 98, 61, 39, 49, 39, 32, 98, 61, 39, 50, 39, 47, 62]⟩ 0 8 Mk.lf3 Mk.lk3 W hw)
  have HC4 := Lib.hid (fun W hw => Mk.tok_bad ⟨#[60, 97, 62]⟩ 3 5 Mk.lf4 Mk.lk4 W hw)
  have HC5 := Lib.hid (fun W hw => Mk.tok_bad ⟨#[120, 60, 97, 47, 62]⟩ 0 12 Mk.lf5 Mk.lk5 W hw)
  have HR1 : Hid (∀ W, Calls Tryd.prog 10 #[.string ⟨#[97, 38, 97, 109, 112, 59, 38, 35, 120, 50, 48, 65, 67, 59]⟩] W fun e w' => e = .returned (.tuple #[.string ⟨#[97, 38, 226, 130, 172]⟩, .int .i64 0, .int .i64 0]) ∧ Below W.heap.size W w') := fun W => by
    have h := resolve_any ⟨#[97, 38, 97, 109, 112, 59, 38, 35, 120, 50, 48, 65, 67, 59]⟩ (by decide) W
    rw [show tl ⟨#[97, 38, 97, 109, 112, 59, 38, 35, 120, 50, 48, 65, 67, 59]⟩ = [97, 38, 97, 109, 112, 59, 38, 35, 120, 50, 48, 65, 67, 59] from rfl, Mk.lr1] at h
    exact h
  have HR2 : Hid (∀ W, Calls Tryd.prog 10 #[.string ⟨#[97, 98, 38, 35, 48, 59]⟩] W fun e w' => e = .returned (.tuple #[.string ⟨#[]⟩, .int .i64 2, .int .i64 1]) ∧ Below W.heap.size W w') := fun W => by
    have h := resolve_any ⟨#[97, 98, 38, 35, 48, 59]⟩ (by decide) W
    rw [show tl ⟨#[97, 98, 38, 35, 48, 59]⟩ = [97, 98, 38, 35, 48, 59] from rfl, Mk.lr2] at h
    exact h
  have HE1 : Hid (∀ W, Calls Tryd.prog 8 #[.string ⟨#[60, 97, 38, 39, 34, 62]⟩] W fun e w' => e = .returned (.tuple #[.string ⟨#[38, 108, 116, 59, 97, 38, 97, 109, 112, 59, 38, 97, 112, 111, 115, 59, 38, 113, 117, 111, 116, 59, 38, 103, 116, 59]⟩, .int .i64 0]) ∧ Below W.heap.size W w') := fun W => by
    have h := Mk.esc_ok ⟨#[60, 97, 38, 39, 34, 62]⟩ Mk.lef W
    rw [show tl ⟨#[60, 97, 38, 39, 34, 62]⟩ = [60, 97, 38, 39, 34, 62] from rfl, Mk.le1] at h
    exact h
  have HE2 := Lib.hid (fun W => Mk.esc_no ⟨#[1]⟩ (by decide) Mk.leb W)
  go_enter Tryd.func7, Tryd.ntmps7
  go_wp2_with fail
  refine (HC0.out _ HW.out).mono ?_
  rintro e w1 ⟨⟨A, c, avs, rfl, hp⟩, hb⟩
  have HP := Lib.hid hp
  clear hp
  replace HW := Lib.hid (HW.out.below hb)
  replace HB := Lib.hid (below_then HB.out hb)
  clear hb
  go_wp2_with fail
  refine (HC1.out _ (HW.out.below (Mk.below_new _ _))).mono ?_
  rintro e w2 ⟨rfl, hb⟩
  have K0 := Lib.hid ((At.new w1 #[.int .i64 0, .int .i64 0, .int .i64 0] 32).call hb)
  replace HP := Lib.hid ((HP.out.call (Mk.below_new _ (.cells #[.int .i64 0, .int .i64 0, .int .i64 0] 32))).call hb)
  replace HW := Lib.hid ((HW.out.below (Mk.below_new _ _)).below hb)
  replace HB := Lib.hid (below_then (HB.out.alloc HB.out.size (.cells #[.int .i64 0, .int .i64 0, .int .i64 0] 32)) hb)
  clear hb
  go_wp2_with fail
  refine (HC2.out _ (HW.out.below (Mk.below_new _ _))).mono ?_
  rintro e w3 ⟨rfl, hb⟩
  replace K0 := Lib.hid ((K0.out.allocO (.cells #[.int .i64 0, .int .i64 3, .int .i64 12] 32)).call hb)
  have K1 := Lib.hid ((At.new w2 #[.int .i64 0, .int .i64 3, .int .i64 12] 32).call hb)
  replace HP := Lib.hid ((HP.out.call (Mk.below_new _ (.cells #[.int .i64 0, .int .i64 3, .int .i64 12] 32))).call hb)
  replace HW := Lib.hid ((HW.out.below (Mk.below_new _ _)).below hb)
  replace HB := Lib.hid (below_then (HB.out.alloc HB.out.size (.cells #[.int .i64 0, .int .i64 3, .int .i64 12] 32)) hb)
  clear hb
  go_wp2_with fail
  refine (HC3.out _ (HW.out.below (Mk.below_new _ _))).mono ?_
  rintro e w4 ⟨rfl, hb⟩
  replace K0 := Lib.hid ((K0.out.allocO (.cells #[.int .i64 0, .int .i64 3, .int .i64 3] 32)).call hb)
  replace K1 := Lib.hid ((K1.out.allocO (.cells #[.int .i64 0, .int .i64 3, .int .i64 3] 32)).call hb)
  have K2 := Lib.hid ((At.new w3 #[.int .i64 0, .int .i64 3, .int .i64 3] 32).call hb)
  replace HP := Lib.hid ((HP.out.call (Mk.below_new _ (.cells #[.int .i64 0, .int .i64 3, .int .i64 3] 32))).call hb)
  replace HW := Lib.hid ((HW.out.below (Mk.below_new _ _)).below hb)
  replace HB := Lib.hid (below_then (HB.out.alloc HB.out.size (.cells #[.int .i64 0, .int .i64 3, .int .i64 3] 32)) hb)
  clear hb
  go_wp2_with fail
  refine (HC4.out _ (HW.out.below (Mk.below_new _ _))).mono ?_
  rintro e w5 ⟨rfl, hb⟩
  replace K0 := Lib.hid ((K0.out.allocO (.cells #[.int .i64 0, .int .i64 0, .int .i64 8] 32)).call hb)
  replace K1 := Lib.hid ((K1.out.allocO (.cells #[.int .i64 0, .int .i64 0, .int .i64 8] 32)).call hb)
  replace K2 := Lib.hid ((K2.out.allocO (.cells #[.int .i64 0, .int .i64 0, .int .i64 8] 32)).call hb)
  have K3 := Lib.hid ((At.new w4 #[.int .i64 0, .int .i64 0, .int .i64 8] 32).call hb)
  replace HP := Lib.hid ((HP.out.call (Mk.below_new _ (.cells #[.int .i64 0, .int .i64 0, .int .i64 8] 32))).call hb)
  replace HW := Lib.hid ((HW.out.below (Mk.below_new _ _)).below hb)
  replace HB := Lib.hid (below_then (HB.out.alloc HB.out.size (.cells #[.int .i64 0, .int .i64 0, .int .i64 8] 32)) hb)
  clear hb
  go_wp2_with fail
  refine (HC5.out _ (HW.out.below (Mk.below_new _ _))).mono ?_
  rintro e w6 ⟨rfl, hb⟩
  replace K0 := Lib.hid ((K0.out.allocO (.cells #[.int .i64 0, .int .i64 3, .int .i64 5] 32)).call hb)
  replace K1 := Lib.hid ((K1.out.allocO (.cells #[.int .i64 0, .int .i64 3, .int .i64 5] 32)).call hb)
  replace K2 := Lib.hid ((K2.out.allocO (.cells #[.int .i64 0, .int .i64 3, .int .i64 5] 32)).call hb)
  replace K3 := Lib.hid ((K3.out.allocO (.cells #[.int .i64 0, .int .i64 3, .int .i64 5] 32)).call hb)
  have K4 := Lib.hid ((At.new w5 #[.int .i64 0, .int .i64 3, .int .i64 5] 32).call hb)
  replace HP := Lib.hid ((HP.out.call (Mk.below_new _ (.cells #[.int .i64 0, .int .i64 3, .int .i64 5] 32))).call hb)
  replace HW := Lib.hid ((HW.out.below (Mk.below_new _ _)).below hb)
  replace HB := Lib.hid (below_then (HB.out.alloc HB.out.size (.cells #[.int .i64 0, .int .i64 3, .int .i64 5] 32)) hb)
  clear hb
  go_wp2_with fail
  refine (HR1.out _).mono ?_
  rintro e w7 ⟨rfl, hb⟩
  replace K0 := Lib.hid ((K0.out.allocO (.cells #[.int .i64 0, .int .i64 0, .int .i64 12] 32)).call hb)
  replace K1 := Lib.hid ((K1.out.allocO (.cells #[.int .i64 0, .int .i64 0, .int .i64 12] 32)).call hb)
  replace K2 := Lib.hid ((K2.out.allocO (.cells #[.int .i64 0, .int .i64 0, .int .i64 12] 32)).call hb)
  replace K3 := Lib.hid ((K3.out.allocO (.cells #[.int .i64 0, .int .i64 0, .int .i64 12] 32)).call hb)
  replace K4 := Lib.hid ((K4.out.allocO (.cells #[.int .i64 0, .int .i64 0, .int .i64 12] 32)).call hb)
  have K5 := Lib.hid ((At.new w6 #[.int .i64 0, .int .i64 0, .int .i64 12] 32).call hb)
  replace HP := Lib.hid ((HP.out.call (Mk.below_new _ (.cells #[.int .i64 0, .int .i64 0, .int .i64 12] 32))).call hb)
  replace HW := Lib.hid ((HW.out.below (Mk.below_new _ _)).below hb)
  replace HB := Lib.hid (below_then (HB.out.alloc HB.out.size (.cells #[.int .i64 0, .int .i64 0, .int .i64 12] 32)) hb)
  clear hb
  go_wp2_with fail
  refine (HR2.out _).mono ?_
  rintro e w8 ⟨rfl, hb⟩
  replace K0 := Lib.hid ((K0.out).call hb)
  replace K1 := Lib.hid ((K1.out).call hb)
  replace K2 := Lib.hid ((K2.out).call hb)
  replace K3 := Lib.hid ((K3.out).call hb)
  replace K4 := Lib.hid ((K4.out).call hb)
  replace K5 := Lib.hid ((K5.out).call hb)
  replace HP := Lib.hid ((HP.out).call hb)
  replace HW := Lib.hid (HW.out.below hb)
  replace HB := Lib.hid (below_then HB.out hb)
  clear hb
  go_wp2_with fail
  refine (HE1.out _).mono ?_
  rintro e w9 ⟨rfl, hb⟩
  replace K0 := Lib.hid ((K0.out).call hb)
  replace K1 := Lib.hid ((K1.out).call hb)
  replace K2 := Lib.hid ((K2.out).call hb)
  replace K3 := Lib.hid ((K3.out).call hb)
  replace K4 := Lib.hid ((K4.out).call hb)
  replace K5 := Lib.hid ((K5.out).call hb)
  replace HP := Lib.hid ((HP.out).call hb)
  replace HW := Lib.hid (HW.out.below hb)
  replace HB := Lib.hid (below_then HB.out hb)
  clear hb
  go_wp2_with fail
  refine (HE2.out _).mono ?_
  rintro e w10 ⟨rfl, hb⟩
  replace K0 := Lib.hid ((K0.out).call hb)
  replace K1 := Lib.hid ((K1.out).call hb)
  replace K2 := Lib.hid ((K2.out).call hb)
  replace K3 := Lib.hid ((K3.out).call hb)
  replace K4 := Lib.hid ((K4.out).call hb)
  replace K5 := Lib.hid ((K5.out).call hb)
  replace HP := Lib.hid ((HP.out).call hb)
  replace HW := Lib.hid (HW.out.below hb)
  replace HB := Lib.hid (below_then HB.out hb)
  clear hb
  have HS := Lib.hid (same_any A (some ⟨w10.heap.size + 1, 0, none⟩) 5 5 c 5 Mk.want Mk.want avs _ ((w10.alloc (.cells #[.string ⟨#[98]⟩, .string ⟨#[49, 60, 50]⟩, .string ⟨#[99]⟩, .string ⟨#[39]⟩] 40)).alloc (.cells #[.int .u8 1, .string ⟨#[97]⟩, .slice (some ⟨w10.heap.size, 0, none⟩) 2 2, .string ⟨#[]⟩, .int .i64 6, .int .u8 3, .string ⟨#[]⟩, .slice none 0 0, .string ⟨#[120, 65]⟩, .int .i64 38, .int .u8 1, .string ⟨#[100]⟩, .slice none 0 0, .string ⟨#[]⟩, .int .i64 44, .int .u8 2, .string ⟨#[100]⟩, .slice none 0 0, .string ⟨#[]⟩, .int .i64 44, .int .u8 2, .string ⟨#[97]⟩, .slice none 0 0, .string ⟨#[]⟩, .int .i64 48] 38)) rfl rfl ((HP.out.call (Mk.below_new _ _)).call (Mk.below_new _ _)) (Mk.parts_want w10))
  have HBf := Lib.hid ((HB.out.alloc HB.out.size (.cells #[.string ⟨#[98]⟩, .string ⟨#[49, 60, 50]⟩, .string ⟨#[99]⟩, .string ⟨#[39]⟩] 40)).alloc (by rw [World.size_alloc]; have := HB.out.size; omega) (.cells #[.int .u8 1, .string ⟨#[97]⟩, .slice (some ⟨w10.heap.size, 0, none⟩) 2 2, .string ⟨#[]⟩, .int .i64 6, .int .u8 3, .string ⟨#[]⟩, .slice none 0 0, .string ⟨#[120, 65]⟩, .int .i64 38, .int .u8 1, .string ⟨#[100]⟩, .slice none 0 0, .string ⟨#[]⟩, .int .i64 44, .int .u8 2, .string ⟨#[100]⟩, .slice none 0 0, .string ⟨#[]⟩, .int .i64 44, .int .u8 2, .string ⟨#[97]⟩, .slice none 0 0, .string ⟨#[]⟩, .int .i64 48] 38))
  replace K0 := Lib.hid ((K0.out.allocO (.cells #[.string ⟨#[98]⟩, .string ⟨#[49, 60, 50]⟩, .string ⟨#[99]⟩, .string ⟨#[39]⟩] 40)).allocO (.cells #[.int .u8 1, .string ⟨#[97]⟩, .slice (some ⟨w10.heap.size, 0, none⟩) 2 2, .string ⟨#[]⟩, .int .i64 6, .int .u8 3, .string ⟨#[]⟩, .slice none 0 0, .string ⟨#[120, 65]⟩, .int .i64 38, .int .u8 1, .string ⟨#[100]⟩, .slice none 0 0, .string ⟨#[]⟩, .int .i64 44, .int .u8 2, .string ⟨#[100]⟩, .slice none 0 0, .string ⟨#[]⟩, .int .i64 44, .int .u8 2, .string ⟨#[97]⟩, .slice none 0 0, .string ⟨#[]⟩, .int .i64 48] 38))
  replace K1 := Lib.hid ((K1.out.allocO (.cells #[.string ⟨#[98]⟩, .string ⟨#[49, 60, 50]⟩, .string ⟨#[99]⟩, .string ⟨#[39]⟩] 40)).allocO (.cells #[.int .u8 1, .string ⟨#[97]⟩, .slice (some ⟨w10.heap.size, 0, none⟩) 2 2, .string ⟨#[]⟩, .int .i64 6, .int .u8 3, .string ⟨#[]⟩, .slice none 0 0, .string ⟨#[120, 65]⟩, .int .i64 38, .int .u8 1, .string ⟨#[100]⟩, .slice none 0 0, .string ⟨#[]⟩, .int .i64 44, .int .u8 2, .string ⟨#[100]⟩, .slice none 0 0, .string ⟨#[]⟩, .int .i64 44, .int .u8 2, .string ⟨#[97]⟩, .slice none 0 0, .string ⟨#[]⟩, .int .i64 48] 38))
  replace K2 := Lib.hid ((K2.out.allocO (.cells #[.string ⟨#[98]⟩, .string ⟨#[49, 60, 50]⟩, .string ⟨#[99]⟩, .string ⟨#[39]⟩] 40)).allocO (.cells #[.int .u8 1, .string ⟨#[97]⟩, .slice (some ⟨w10.heap.size, 0, none⟩) 2 2, .string ⟨#[]⟩, .int .i64 6, .int .u8 3, .string ⟨#[]⟩, .slice none 0 0, .string ⟨#[120, 65]⟩, .int .i64 38, .int .u8 1, .string ⟨#[100]⟩, .slice none 0 0, .string ⟨#[]⟩, .int .i64 44, .int .u8 2, .string ⟨#[100]⟩, .slice none 0 0, .string ⟨#[]⟩, .int .i64 44, .int .u8 2, .string ⟨#[97]⟩, .slice none 0 0, .string ⟨#[]⟩, .int .i64 48] 38))
  replace K3 := Lib.hid ((K3.out.allocO (.cells #[.string ⟨#[98]⟩, .string ⟨#[49, 60, 50]⟩, .string ⟨#[99]⟩, .string ⟨#[39]⟩] 40)).allocO (.cells #[.int .u8 1, .string ⟨#[97]⟩, .slice (some ⟨w10.heap.size, 0, none⟩) 2 2, .string ⟨#[]⟩, .int .i64 6, .int .u8 3, .string ⟨#[]⟩, .slice none 0 0, .string ⟨#[120, 65]⟩, .int .i64 38, .int .u8 1, .string ⟨#[100]⟩, .slice none 0 0, .string ⟨#[]⟩, .int .i64 44, .int .u8 2, .string ⟨#[100]⟩, .slice none 0 0, .string ⟨#[]⟩, .int .i64 44, .int .u8 2, .string ⟨#[97]⟩, .slice none 0 0, .string ⟨#[]⟩, .int .i64 48] 38))
  replace K4 := Lib.hid ((K4.out.allocO (.cells #[.string ⟨#[98]⟩, .string ⟨#[49, 60, 50]⟩, .string ⟨#[99]⟩, .string ⟨#[39]⟩] 40)).allocO (.cells #[.int .u8 1, .string ⟨#[97]⟩, .slice (some ⟨w10.heap.size, 0, none⟩) 2 2, .string ⟨#[]⟩, .int .i64 6, .int .u8 3, .string ⟨#[]⟩, .slice none 0 0, .string ⟨#[120, 65]⟩, .int .i64 38, .int .u8 1, .string ⟨#[100]⟩, .slice none 0 0, .string ⟨#[]⟩, .int .i64 44, .int .u8 2, .string ⟨#[100]⟩, .slice none 0 0, .string ⟨#[]⟩, .int .i64 44, .int .u8 2, .string ⟨#[97]⟩, .slice none 0 0, .string ⟨#[]⟩, .int .i64 48] 38))
  replace K5 := Lib.hid ((K5.out.allocO (.cells #[.string ⟨#[98]⟩, .string ⟨#[49, 60, 50]⟩, .string ⟨#[99]⟩, .string ⟨#[39]⟩] 40)).allocO (.cells #[.int .u8 1, .string ⟨#[97]⟩, .slice (some ⟨w10.heap.size, 0, none⟩) 2 2, .string ⟨#[]⟩, .int .i64 6, .int .u8 3, .string ⟨#[]⟩, .slice none 0 0, .string ⟨#[120, 65]⟩, .int .i64 38, .int .u8 1, .string ⟨#[100]⟩, .slice none 0 0, .string ⟨#[]⟩, .int .i64 44, .int .u8 2, .string ⟨#[100]⟩, .slice none 0 0, .string ⟨#[]⟩, .int .i64 44, .int .u8 2, .string ⟨#[97]⟩, .slice none 0 0, .string ⟨#[]⟩, .int .i64 48] 38))
  go_wp2_with fail
  refine HS.out.mono ?_
  rintro e w20 ⟨⟨bb, rfl, hbb⟩, hb⟩
  obtain rfl : bb = true := by simpa using hbb
  replace K0 := Lib.hid (K0.out.call hb)
  replace K1 := Lib.hid (K1.out.call hb)
  replace K2 := Lib.hid (K2.out.call hb)
  replace K3 := Lib.hid (K3.out.call hb)
  replace K4 := Lib.hid (K4.out.call hb)
  replace K5 := Lib.hid (K5.out.call hb)
  replace HBf := Lib.hid (below_then HBf.out hb)
  clear hb hbb
  obtain ⟨K00, K01, K02, _⟩ := K0.out.three
  have K0z := K0.out.lt
  obtain ⟨K10, K11, K12, _⟩ := K1.out.three
  have K1z := K1.out.lt
  obtain ⟨K20, K21, K22, _⟩ := K2.out.three
  have K2z := K2.out.lt
  obtain ⟨K30, K31, K32, _⟩ := K3.out.three
  have K3z := K3.out.lt
  obtain ⟨K40, K41, K42, _⟩ := K4.out.three
  have K4z := K4.out.lt
  obtain ⟨K50, K51, K52, _⟩ := K5.out.three
  have K5z := K5.out.lt
  go_wp2
  go_ret
  exact ⟨rfl, HBf.out⟩
end Go.Proofs.YtjbgmbhifnihaaaDoor

/- markup: the law MarkupBack, walked. -/
namespace Go.Proofs.YtjbgmbhifnihaaaDoor
open Go.RowKit

namespace Mk
theorem add_bts (a b : Txt) (h : a.length + b.length ≤ 9000000000000000000) (W : World) : (Op.stringOp .add (bts a) (bts b)).run Tryd.prog W = .ok (.string (bts (a ++ b))) W := by
  have e : bts (a ++ b) = bts a ++ bts b := by
    apply ByteArray.ext
    unfold bts
    rw [ByteArray.data_append]
    simp
  rw [e]
  exact run_string_add_sum W _ _ (by rw [bts_size, bts_size]; omega)
theorem addr_zero (a : Addr) : a.add 0 = a := by unfold Addr.add; rw [if_pos rfl]
end Mk
set_option maxHeartbeats 4000000 in
set_option maxRecDepth 100000 in
theorem markupBack_any (s : ByteArray) (w : World) (hW : Wl w) (hs : s.size ≤ maxLen) :
    Calls Tryd.prog 3 #[.string s] w fun e w' => e = .returned (.bool true) ∧ Below w.heap.size w w' := by
  unfold maxLen at hs
  have HLv := Lib.hid (lives31_any w hW)
  have HW := Lib.hid hW
  have hmax : IntKind.i64.wrap (s.size : Int) = s.size := by rw [IntKind.wrap_i64]; omega
  clear hW
  by_cases hl : 4096 < s.size
  · have q1 : (4096 : Int) < (s.size : Int) := by omega
    clear hl
    go_enter Tryd.func3, Tryd.ntmps3
    go_wp2_with fail
    refine HLv.out.mono ?_
    rintro e w1 ⟨rfl, hb⟩
    have HB1 := Lib.hid hb
    clear hb
    go_wp2
    go_ret
    exact ⟨rfl, HB1.out⟩
  have q1 : ¬ (4096 : Int) < (s.size : Int) := by omega
  have HEs := Lib.hid (fun W => escape_any s (by omega) W)
  have HUt := Lib.hid (fun W => utfPlace_any s (by unfold maxLen; omega) W)
  have HSl : Hid (s.size ≤ 4096) := by show _ ≤ _; omega
  clear hl
  go_enter Tryd.func3, Tryd.ntmps3
  go_wp2_with fail
  refine HLv.out.mono ?_
  rintro e w1 ⟨rfl, hb⟩
  have HB1 := Lib.hid hb
  clear hb
  go_wp2_with fail
  refine (HEs.out _).mono ?_
  rintro e w2 ⟨⟨E, v, rfl, hE⟩, hb⟩
  have HB2 := Lib.hid (below_then HB1.out hb)
  clear hb
  go_wp2_with fail
  refine (HUt.out _).mono ?_
  rintro e w3 ⟨⟨i, hi, rfl⟩, hb⟩
  have HB3 := Lib.hid (below_then HB2.out hb)
  clear hb
  rcases hE with ⟨rfl, hE, hright, hlow⟩ | ⟨rfl, rfl, _⟩
  · rw [hright, if_pos rfl]
    have hfine : Mk.Rt (tl s) := (Mk.rt_iff s).1 hright
    obtain ⟨n, hn⟩ : ∃ n, s.size = n := ⟨_, rfl⟩
    obtain ⟨l, hl⟩ : ∃ l, tl s = l := ⟨_, rfl⟩
    have hll : l.length = n := by rw [← hl, tl_length, hn]
    have hn4 := HSl.out
    rw [hn] at hn4
    rw [hl] at hE hlow hfine
    have hel := Mk.esc_len l
    have hsb : s = Mk.bts l := by rw [← hl]; rfl
    obtain ⟨x, hx⟩ : ∃ x, Mk.esc l = x := ⟨_, rfl⟩
    have HRs : Hid (∀ W, Calls Tryd.prog 10 #[.string E] W fun e w' => e = .returned (.tuple #[.string s, .int .i64 0, .int .i64 0]) ∧ Below W.heap.size W w') := fun W => by
      have h := resolve_any E (by rw [hE, Mk.bts_size]; omega) W
      rw [hE, Mk.tl_bts, Mk.resolve_esc, ← hE, ← hsb] at h
      exact h
    have hwr := Mk.rt_wrap hfine
    have hlw := Mk.low_wrap hlow
    have htk := Mk.tokens_wrap l
    rw [hx] at hE hel hwr hlw htk
    obtain ⟨X1, hX1⟩ : ∃ y, Mk.bts ([60, 97, 32, 98, 61, 34] ++ x) = y := ⟨_, rfl⟩
    obtain ⟨X2, hX2⟩ : ∃ y, Mk.bts ([60, 97, 32, 98, 61, 34] ++ x ++ [34, 62]) = y := ⟨_, rfl⟩
    obtain ⟨X3, hX3⟩ : ∃ y, Mk.bts ([60, 97, 32, 98, 61, 34] ++ x ++ [34, 62] ++ x) = y := ⟨_, rfl⟩
    obtain ⟨X4, hX4⟩ : ∃ y, Mk.bts (Mk.wrap x) = y := ⟨_, rfl⟩
    have hxl : x.length ≤ 30000 := by omega
    have sm1 : ∀ W, (Op.stringOp .add ⟨#[60, 97, 32, 98, 61, 34]⟩ E).run Tryd.prog W = .ok (.string X1) W := fun W => by rw [← hX1, hE]; exact Mk.add_bts [60, 97, 32, 98, 61, 34] x (by simp only [List.length_cons, List.length_nil]; omega) W
    have sm2 : ∀ W, (Op.stringOp .add X1 ⟨#[34, 62]⟩).run Tryd.prog W = .ok (.string X2) W := fun W => by rw [← hX1, ← hX2]; exact Mk.add_bts _ [34, 62] (by simp only [List.length_append, List.length_cons, List.length_nil]; omega) W
    have sm3 : ∀ W, (Op.stringOp .add X2 E).run Tryd.prog W = .ok (.string X3) W := fun W => by rw [← hX2, ← hX3, hE]; exact Mk.add_bts _ x (by simp only [List.length_append, List.length_cons, List.length_nil]; omega) W
    have sm4 : ∀ W, (Op.stringOp .add X3 ⟨#[60, 47, 97, 62]⟩).run Tryd.prog W = .ok (.string X4) W := fun W => by rw [← hX3, ← hX4]; exact Mk.add_bts _ [60, 47, 97, 62] (by simp only [List.length_append, List.length_cons, List.length_nil]; omega) W
    have htl4 : tl X4 = Mk.wrap x := by rw [← hX4]; rfl
    have h4s : X4.size ≤ 1048576 := by
      rw [← tl_length, htl4]
      unfold Mk.wrap
      simp only [List.length_append, List.length_cons, List.length_nil]
      omega
    have hf4 : Mk.Fine X4 := ⟨h4s, (Mk.rt_iff X4).2 (by rw [htl4]; exact hwr), by rw [htl4]; exact hlw⟩
    have HT := Lib.hid (fun W hw => Mk.tok_ok X4 _ hf4 (by rw [htl4]; exact htk) W hw)
    have hss : (s.toList == s.toList) = true := beq_self_eq_true _
    clear hE hright hlow hfine hwr hlw htk hX1 hX2 hX3 hX4 htl4 h4s hf4 hi
    by_cases h0 : l = []
    · have e0 : s.toList.isEmpty = true := Mk.emp_yes (by rw [hn, ← hll, h0]; rfl)
      rw [h0, if_pos rfl] at HT
      have HT2 : Hid (∀ W, Wl W → Calls Tryd.prog 11 #[.string X4] W fun e w' => (∃ A c avs, e = .returned (.tuple #[.slice A 2 c, .agg #[.int .i64 0, .int .i64 0, .int .i64 0]]) ∧ Mk.Parts w' A c [⟨1, [97], [([98], [])], [], 0⟩, ⟨2, [97], [], [], 8 + 2 * x.length⟩] avs) ∧ Below W.heap.size W w') := fun W hw => by
        have h := HT.out W hw
        exact h
      have hsb2 : s = ⟨#[]⟩ := by rw [hsb, h0]; rfl
      clear HT hll hl hel hx hxl h0 hn hn4 hsb
      go_wp2_with fail
      refine (HRs.out _).mono ?_
      rintro e w4 ⟨rfl, hb⟩
      have HB4 := Lib.hid (below_then HB3.out hb)
      clear hb
      go_wp2_with fail
      refine (HT2.out _ (HW.out.below HB4.out)).mono ?_
      rintro e w5 ⟨⟨A, c, avs, rfl, hp⟩, hb⟩
      have HB5 := Lib.hid (below_then HB4.out hb)
      clear hb
      obtain ⟨ad, t, B, d, rfl, hab, ht, hd1, hd2, hra, _, _, k2, _, _⟩ := hp.cells (show 0 < 2 by decide)
      cases ht
      obtain ⟨bd, a, rfl, hbb, ha, _, u1⟩ := Mk.attr_cells hra rfl (show 0 < 1 by decide)
      cases ha
      simp only [Nat.zero_mul, Mk.addr_zero] at k2 u1
      have k2' : w5.cell? ⟨ad.block, ad.off + 2, none⟩ = some (.slice (some bd) 1 d) := k2
      have u1' : w5.cell? ⟨bd.block, bd.off + 1, none⟩ = some (.string ⟨#[]⟩) := u1
      have HBf := Lib.hid (HB5.out.alloc HB5.out.size (.cells #[.int .i64 0, .int .i64 0, .int .i64 0] 32))
      clear k2 u1 hp hra
      go_wp2
      go_ret
      exact ⟨rfl, HBf.out⟩
    · have e0 : s.toList.isEmpty = false := Mk.emp_no (by rw [hn, ← hll]; exact List.length_pos_iff.2 h0)
      rw [if_neg h0] at HT
      obtain ⟨q, hq⟩ : ∃ q, 8 + x.length = q := ⟨_, rfl⟩
      have HT2 : Hid (∀ W, Wl W → Calls Tryd.prog 11 #[.string X4] W fun e w' => (∃ A c avs, e = .returned (.tuple #[.slice A 3 c, .agg #[.int .i64 0, .int .i64 0, .int .i64 0]]) ∧ Mk.Parts w' A c [⟨1, [97], [([98], l)], [], 0⟩, ⟨3, [], [], l, q⟩, ⟨2, [97], [], [], 8 + 2 * x.length⟩] avs) ∧ Below W.heap.size W w') := fun W hw => by
        have h := HT.out W hw
        rw [hq] at h
        exact h
      have HSB := Lib.hid hsb
      clear HT hll hl hel hx hxl h0 hn hn4 hsb hq
      go_wp2_with fail
      refine (HRs.out _).mono ?_
      rintro e w4 ⟨rfl, hb⟩
      have HB4 := Lib.hid (below_then HB3.out hb)
      clear hb
      go_wp2_with fail
      refine (HT2.out _ (HW.out.below HB4.out)).mono ?_
      rintro e w5 ⟨⟨A, c, avs, rfl, hp⟩, hb⟩
      have HB5 := Lib.hid (below_then HB4.out hb)
      clear hb
      obtain ⟨ad, t, B, d, rfl, hab, ht, hd1, hd2, hra, _, _, k2, _, _⟩ := hp.cells (show 0 < 3 by decide)
      cases ht
      obtain ⟨bd, a, rfl, hbb, ha, _, u1⟩ := Mk.attr_cells hra rfl (show 0 < 1 by decide)
      cases ha
      obtain ⟨ad', t', B', d', e', hab', ht', _, _, _, m0, _, _, m3, _⟩ := hp.cells (show 1 < 3 by decide)
      injection e' with e'
      subst e'
      cases ht'
      simp only [Nat.zero_mul, Nat.one_mul, Mk.addr_zero] at k2 u1 m0 m3
      have k2' : w5.cell? ⟨ad.block, ad.off + 2, none⟩ = some (.slice (some bd) 1 d) := k2
      have u1' : w5.cell? ⟨bd.block, bd.off + 1, none⟩ = some (.string s) := by rw [HSB.out]; exact u1
      have m0' : w5.cell? ⟨ad.block, ad.off + 5, none⟩ = some (.int .u8 3) := m0
      have m3' : w5.cell? ⟨ad.block, ad.off + 5 + 3, none⟩ = some (.string s) := by rw [HSB.out]; exact m3
      have HBf := Lib.hid (HB5.out.alloc HB5.out.size (.cells #[.int .i64 0, .int .i64 0, .int .i64 0] 32))
      clear k2 u1 m0 m3 hp hra
      go_wp2
      go_ret
      exact ⟨rfl, HBf.out⟩
  · have HBf := Lib.hid HB3.out
    cases hrt : Te.right s with
    | false =>
      go_wp2
      go_ret
      exact ⟨rfl, HBf.out⟩
    | true =>
      go_wp2
      go_ret
      exact ⟨rfl, HBf.out⟩
end Go.Proofs.YtjbgmbhifnihaaaDoor
