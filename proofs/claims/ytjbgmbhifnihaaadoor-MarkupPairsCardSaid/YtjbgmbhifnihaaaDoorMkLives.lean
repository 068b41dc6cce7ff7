/- markup: what the laws of layer 31 ask first: answers that the document gives. -/
import Derived.Test.YtjbgmbhifnihaaaDoorMkSame
import Derived.Test.YtjbgmbhifnihaaaDoorMkWrap
namespace Go.Proofs.YtjbgmbhifnihaaaDoor
open Go.RowKit

namespace Mk
theorem fine_ascii {s : ByteArray} (h : s.size ≤ 1048576) (h1 : ∀ b ∈ tl s, b.toNat < 128) (h2 : ∀ b ∈ tl s, low b = false) : Fine s := ⟨h, (rt_iff s).2 (rt_ascii _ h1), h2⟩
def want : List T := [⟨1, [97], [([98], [49, 60, 50]), ([99], [39])], [], 6⟩, ⟨3, [], [], [120, 65], 38⟩, ⟨1, [100], [], [], 44⟩, ⟨2, [100], [], [], 44⟩, ⟨2, [97], [], [], 48⟩]
/-- Tokens of a text that is right. -/
theorem tok_ok (s : ByteArray) (st : S) (hf : Fine s) (h : tokens (tl s) = .inr st) (w : World) (hW : Wl w) :
    Calls Tryd.prog 11 #[.string s] w fun e w' => (∃ A c avs, e = .returned (.tuple #[.slice A st.toks.length c, .agg #[.int .i64 0, .int .i64 0, .int .i64 0]]) ∧ Parts w' A c st.toks avs) ∧ Below w.heap.size w w' := by
  refine (tokens_any s (Nat.le_trans hf.1 (by unfold maxLen; omega)) w hW).mono ?_
  rintro e w' ⟨hb, h1, _⟩
  have h2 := h1 hf
  rw [h] at h2
  exact ⟨h2, hb⟩
/-- Tokens of a text that is not. -/
theorem tok_bad (s : ByteArray) (c y : Nat) (hf : Fine s) (h : tokens (tl s) = .inl (c, y)) (w : World) (hW : Wl w) :
    Calls Tryd.prog 11 #[.string s] w fun e w' => e = .returned (.tuple #[.slice none 0 0, .agg #[.int .i64 0, .int .i64 (c : Int), .int .i64 (y : Int)]]) ∧ Below w.heap.size w w' := by
  refine (tokens_any s (Nat.le_trans hf.1 (by unfold maxLen; omega)) w hW).mono ?_
  rintro e w' ⟨hb, h1, _⟩
  have h2 := h1 hf
  rw [h] at h2
  exact ⟨h2, hb⟩
theorem esc_ok (s : ByteArray) (hf : Fine s) (w : World) : Calls Tryd.prog 8 #[.string s] w fun e w' => e = .returned (.tuple #[.string (bts (esc (tl s))), .int .i64 0]) ∧ Below w.heap.size w w' := by
  refine (escape_any s (Nat.le_trans hf.1 (by omega)) w).mono ?_
  rintro e w' ⟨⟨E, v, rfl, h⟩, hb⟩
  rcases h with ⟨rfl, rfl, _⟩ | ⟨_, _, h⟩
  · exact ⟨rfl, hb⟩
  · exact absurd ⟨hf.2.1, hf.2.2⟩ h
theorem esc_no (s : ByteArray) (hs : s.size ≤ 100000000) (hf : ¬ (Te.right s = true ∧ ∀ b ∈ tl s, low b = false)) (w : World) : Calls Tryd.prog 8 #[.string s] w fun e w' => e = .returned (.tuple #[.string ⟨#[]⟩, .int .i64 11]) ∧ Below w.heap.size w w' := by
  refine (escape_any s hs w).mono ?_
  rintro e w' ⟨⟨E, v, rfl, h⟩, hb⟩
  rcases h with ⟨_, _, h1, h2⟩ | ⟨rfl, rfl, _⟩
  · exact absurd ⟨h1, h2⟩ hf
  · exact ⟨rfl, hb⟩
theorem parts_want (w : World) : Parts ((w.alloc (.cells #[.string ⟨#[98]⟩, .string ⟨#[49, 60, 50]⟩, .string ⟨#[99]⟩, .string ⟨#[39]⟩] 40)).alloc (.cells #[.int .u8 1, .string ⟨#[97]⟩, .slice (some ⟨w.heap.size, 0, none⟩) 2 2, .string ⟨#[]⟩, .int .i64 6, .int .u8 3, .string ⟨#[]⟩, .slice none 0 0, .string ⟨#[120, 65]⟩, .int .i64 38, .int .u8 1, .string ⟨#[100]⟩, .slice none 0 0, .string ⟨#[]⟩, .int .i64 44, .int .u8 2, .string ⟨#[100]⟩, .slice none 0 0, .string ⟨#[]⟩, .int .i64 44, .int .u8 2, .string ⟨#[97]⟩, .slice none 0 0, .string ⟨#[]⟩, .int .i64 48] 38)) (some ⟨w.heap.size + 1, 0, none⟩) 5 want [.slice (some ⟨w.heap.size, 0, none⟩) 2 2, .slice none 0 0, .slice none 0 0, .slice none 0 0, .slice none 0 0] := by
  have HA := (At.new w #[.string ⟨#[98]⟩, .string ⟨#[49, 60, 50]⟩, .string ⟨#[99]⟩, .string ⟨#[39]⟩] 40).allocO (.cells #[.int .u8 1, .string ⟨#[97]⟩, .slice (some ⟨w.heap.size, 0, none⟩) 2 2, .string ⟨#[]⟩, .int .i64 6, .int .u8 3, .string ⟨#[]⟩, .slice none 0 0, .string ⟨#[120, 65]⟩, .int .i64 38, .int .u8 1, .string ⟨#[100]⟩, .slice none 0 0, .string ⟨#[]⟩, .int .i64 44, .int .u8 2, .string ⟨#[100]⟩, .slice none 0 0, .string ⟨#[]⟩, .int .i64 44, .int .u8 2, .string ⟨#[97]⟩, .slice none 0 0, .string ⟨#[]⟩, .int .i64 48] 38)
  have HT := At.new (w.alloc (.cells #[.string ⟨#[98]⟩, .string ⟨#[49, 60, 50]⟩, .string ⟨#[99]⟩, .string ⟨#[39]⟩] 40)) #[.int .u8 1, .string ⟨#[97]⟩, .slice (some ⟨w.heap.size, 0, none⟩) 2 2, .string ⟨#[]⟩, .int .i64 6, .int .u8 3, .string ⟨#[]⟩, .slice none 0 0, .string ⟨#[120, 65]⟩, .int .i64 38, .int .u8 1, .string ⟨#[100]⟩, .slice none 0 0, .string ⟨#[]⟩, .int .i64 44, .int .u8 2, .string ⟨#[100]⟩, .slice none 0 0, .string ⟨#[]⟩, .int .i64 44, .int .u8 2, .string ⟨#[97]⟩, .slice none 0 0, .string ⟨#[]⟩, .int .i64 48] 38
  rw [World.size_alloc] at HT
  refine ⟨rfl, ⟨by decide, by decide⟩, ⟨rfl, fun _ => ⟨_, rfl, HT.lt, fun j u hu => ?_⟩⟩, fun k t v ht hv => ?_⟩
  · rw [add_off]
    exact HT.cell j u hu
  · match k, ht, hv with
    | 0, ht, hv =>
      cases ht; cases hv
      refine ⟨_, _, rfl, by decide, by decide, rfl, fun _ => ⟨_, rfl, HA.lt, fun j u hu => ?_⟩⟩
      rw [add_off]
      exact HA.cell j u hu
    | 1, ht, hv => cases ht; cases hv; exact ⟨_, _, rfl, by decide, by decide, Reads.none_⟩
    | 2, ht, hv => cases ht; cases hv; exact ⟨_, _, rfl, by decide, by decide, Reads.none_⟩
    | 3, ht, hv => cases ht; cases hv; exact ⟨_, _, rfl, by decide, by decide, Reads.none_⟩
    | 4, ht, hv => cases ht; cases hv; exact ⟨_, _, rfl, by decide, by decide, Reads.none_⟩
    | k + 5, ht, hv => cases ht
theorem lf0 : Fine ⟨#[60, 63, 120, 63, 62, 10, 60, 97, 32, 98, 61, 39, 49, 38, 108, 116, 59, 50, 39, 32, 99, 32, 61, 32, 34, 39, 34, 62, 60, 33, 45, 45, 32, 45, 32, 45, 45, 62, 120, 38, 35, 54, 53, 59, 60, 100, 47, 62, 60, 47, 97, 32, 62, 10]⟩ := fine_ascii (by decide) (by decide +kernel) (by decide +kernel)
theorem lk0 : tokens [60, 63, 120, 63, 62, 10, 60, 97, 32, 98, 61, 39, 49, 38, 108, 116, 59, 50, 39, 32, 99, 32, 61, 32, 34, 39, 34, 62, 60, 33, 45, 45, 32, 45, 32, 45, 45, 62, 120, 38, 35, 54, 53, 59, 60, 100, 47, 62, 60, 47, 97, 32, 62, 10] = .inr ⟨want, [], true⟩ := by kernel_rfl
theorem lf1 : Fine ⟨#[60, 97, 62, 60, 47, 98, 62]⟩ := fine_ascii (by decide) (by decide +kernel) (by decide +kernel)
theorem lk1 : tokens [60, 97, 62, 60, 47, 98, 62] = .inl (3, 12) := by kernel_rfl
theorem lf2 : Fine ⟨#[60, 97, 62, 38, 120, 59, 60, 47, 97, 62]⟩ := fine_ascii (by decide) (by decide +kernel) (by decide +kernel)
theorem lk2 : tokens [60, 97, 62, 38, 120, 59, 60, 47, 97, 62] = .inl (3, 3) := by kernel_rfl
theorem lf3 : Fine ⟨#[60, 97, 32, 98, 61, 39, 49, 39, 32, 98, 61, 39, 50, 39, 47, 62]⟩ := fine_ascii (by decide) (by decide +kernel) (by decide +kernel)
theorem lk3 : tokens [60, 97, 32, 98, 61, 39, 49, 39, 32, 98, 61, 39, 50, 39, 47, 62] = .inl (0, 8) := by kernel_rfl
theorem lf4 : Fine ⟨#[60, 97, 62]⟩ := fine_ascii (by decide) (by decide +kernel) (by decide +kernel)
theorem lk4 : tokens [60, 97, 62] = .inl (3, 5) := by kernel_rfl
theorem lf5 : Fine ⟨#[120, 60, 97, 47, 62]⟩ := fine_ascii (by decide) (by decide +kernel) (by decide +kernel)
theorem lk5 : tokens [120, 60, 97, 47, 62] = .inl (0, 12) := by kernel_rfl
theorem lr1 : resolve [97, 38, 97, 109, 112, 59, 38, 35, 120, 50, 48, 65, 67, 59] = ([97, 38, 226, 130, 172], 0, 0) := by kernel_rfl
theorem lr2 : resolve [97, 98, 38, 35, 48, 59] = ([], 2, 1) := by kernel_rfl
theorem le1 : esc [60, 97, 38, 39, 34, 62] = [38, 108, 116, 59, 97, 38, 97, 109, 112, 59, 38, 97, 112, 111, 115, 59, 38, 113, 117, 111, 116, 59, 38, 103, 116, 59] := by kernel_rfl
theorem lef : Fine ⟨#[60, 97, 38, 39, 34, 62]⟩ := fine_ascii (by decide) (by decide +kernel) (by decide +kernel)
theorem leb : ¬ (Te.right ⟨#[1]⟩ = true ∧ ∀ b ∈ tl ⟨#[1]⟩, low b = false) := fun h => by have := h.2 1 (by decide); revert this; decide
end Mk
set_option maxHeartbeats 4000000 in
set_option maxRecDepth 100000 in
theorem lives31_any (w : World) (hW : Wl w) : Calls Tryd.prog 7 #[] w fun e w' => e = .returned (.bool true) ∧ Below w.heap.size w w' := by
  have HW := Lib.hid hW
  clear hW
  have HB := Lib.hid (Below.refl w.heap.size w)
  have HC0 := Lib.hid (fun W hw => Mk.tok_ok ⟨#[60, 63, 120, 63, 62, 10, 60, 97, 32, 98, 61, 39, 49, 38, 108, 116, 59, 50, 39, 32, 99, 32, 61, 32, 34, 39, 34, 62, 60, 33, 45, 45, 32, 45, 32, 45, 45, 62, 120, 38, 35, 54, 53, 59, 60, 100, 47, 62, 60, 47, 97, 32, 62, 10]⟩ _ Mk.lf0 Mk.lk0 W hw)
  have HC1 := Lib.hid (fun W hw => Mk.tok_bad ⟨#[60, 97, 62, 60, 47, 98, 62]⟩ 3 12 Mk.lf1 Mk.lk1 W hw)
  have HC2 := Lib.hid (fun W hw => Mk.tok_bad ⟨#[60, 97, 62, 38, 120, 59, 60, 47, 97, 62]⟩ 3 3 Mk.lf2 Mk.lk2 W hw)
  have HC3 := Lib.hid (fun W hw => Mk.tok_bad ⟨#[60, 97, 32, 98, 61, 39, 49, 39, 32, 98, 61, 39, 50, 39, 47, 62]⟩ 0 8 Mk.lf3 Mk.lk3 W hw)
  have HC4 := Lib.hid (fun W hw => Mk.tok_bad ⟨#[60, 97, 62]⟩ 3 5 Mk.lf4 Mk.lk4 W hw)
  have HC5 := Lib.hid (fun W hw => Mk.tok_bad ⟨#[120, 60, 97, 47, 62]⟩ 0 12 Mk.lf5 Mk.lk5 W hw)
  have HR1 : Hid (∀ W, Calls Tryd.prog 10 #[.string ⟨#[97, 38, 97, 109, 112, 59, 38, 35, 120, 50, 48, 65, 67, 59]⟩] W fun e w' => e = .returned (.tuple #[.string ⟨#[97, 38, 226, 130, 172]⟩, .int .i64 0, .int .i64 0]) ∧ Below W.heap.size W w') := fun W => by
    have h := resolve_any ⟨#[97, 38, 97, 109, 112, 59, 38, 35, 120, 50, 48, 65, 67, 59]⟩ (by decide) W
    rw [show tl ⟨#[97, 38, 97, 109, 112, 59, 38, 35, 120, 50, 48, 65, 67, 59]⟩ = [97, 38, 97, 109, 112, 59, 38, 35, 120, 50, 48, 65, 67, 59] from rfl, Mk.lr1] at h
    exact h
  have HR2 : Hid (∀ W, Calls Tryd.prog 10 #[.string ⟨#[97, 98, 38, 35, 48, 59]⟩] W fun e w' => e = .returned (.tuple #[.string ⟨#[]⟩, .int .i64 2, .int .i64 1]) ∧ Below W.heap.size W w') := fun W => by
    have h := resolve_any ⟨#[97, 98, 38, 35, 48, 59]⟩ (by decide) W
    rw [show tl ⟨#[97, 98, 38, 35, 48, 59]⟩ = [97, 98, 38, 35, 48, 59] from rfl, Mk.lr2] at h
    exact h
  have HE1 : Hid (∀ W, Calls Tryd.prog 8 #[.string ⟨#[60, 97, 38, 39, 34, 62]⟩] W fun e w' => e = .returned (.tuple #[.string ⟨#[38, 108, 116, 59, 97, 38, 97, 109, 112, 59, 38, 97, 112, 111, 115, 59, 38, 113, 117, 111, 116, 59, 38, 103, 116, 59]⟩, .int .i64 0]) ∧ Below W.heap.size W w') := fun W => by
    have h := Mk.esc_ok ⟨#[60, 97, 38, 39, 34, 62]⟩ Mk.lef W
    rw [show tl ⟨#[60, 97, 38, 39, 34, 62]⟩ = [60, 97, 38, 39, 34, 62] from rfl, Mk.le1] at h
    exact h
  have HE2 := Lib.hid (fun W => Mk.esc_no ⟨#[1]⟩ (by decide) Mk.leb W)
  go_enter Tryd.func7, Tryd.ntmps7
  go_wp2_with fail
  refine (HC0.out _ HW.out).mono ?_
  rintro e w1 ⟨⟨A, c, avs, rfl, hp⟩, hb⟩
  have HP := Lib.hid hp
  clear hp
  replace HW := Lib.hid (HW.out.below hb)
  replace HB := Lib.hid (below_then HB.out hb)
  clear hb
  go_wp2_with fail
  refine (HC1.out _ (HW.out.below (Mk.below_new _ _))).mono ?_
  rintro e w2 ⟨rfl, hb⟩
  have K0 := Lib.hid ((At.new w1 #[.int .i64 0, .int .i64 0, .int .i64 0] 32).call hb)
  replace HP := Lib.hid ((HP.out.call (Mk.below_new _ (.cells #[.int .i64 0, .int .i64 0, .int .i64 0] 32))).call hb)
  replace HW := Lib.hid ((HW.out.below (Mk.below_new _ _)).below hb)
  replace HB := Lib.hid (below_then (HB.out.alloc HB.out.size (.cells #[.int .i64 0, .int .i64 0, .int .i64 0] 32)) hb)
  clear hb
  go_wp2_with fail
  refine (HC2.out _ (HW.out.below (Mk.below_new _ _))).mono ?_
  rintro e w3 ⟨rfl, hb⟩
  replace K0 := Lib.hid ((K0.out.allocO (.cells #[.int .i64 0, .int .i64 3, .int .i64 12] 32)).call hb)
  have K1 := Lib.hid ((At.new w2 #[.int .i64 0, .int .i64 3, .int .i64 12] 32).call hb)
  replace HP := Lib.hid ((HP.out.call (Mk.below_new _ (.cells #[.int .i64 0, .int .i64 3, .int .i64 12] 32))).call hb)
  replace HW := Lib.hid ((HW.out.below (Mk.below_new _ _)).below hb)
  replace HB := Lib.hid (below_then (HB.out.alloc HB.out.size (.cells #[.int .i64 0, .int .i64 3, .int .i64 12] 32)) hb)
  clear hb
  go_wp2_with fail
  refine (HC3.out _ (HW.out.below (Mk.below_new _ _))).mono ?_
  rintro e w4 ⟨rfl, hb⟩
  replace K0 := Lib.hid ((K0.out.allocO (.cells #[.int .i64 0, .int .i64 3, .int .i64 3] 32)).call hb)
  replace K1 := Lib.hid ((K1.out.allocO (.cells #[.int .i64 0, .int .i64 3, .int .i64 3] 32)).call hb)
  have K2 := Lib.hid ((At.new w3 #[.int .i64 0, .int .i64 3, .int .i64 3] 32).call hb)
  replace HP := Lib.hid ((HP.out.call (Mk.below_new _ (.cells #[.int .i64 0, .int .i64 3, .int .i64 3] 32))).call hb)
  replace HW := Lib.hid ((HW.out.below (Mk.below_new _ _)).below hb)
  replace HB := Lib.hid (below_then (HB.out.alloc HB.out.size (.cells #[.int .i64 0, .int .i64 3, .int .i64 3] 32)) hb)
  clear hb
  go_wp2_with fail
  refine (HC4.out _ (HW.out.below (Mk.below_new _ _))).mono ?_
  rintro e w5 ⟨rfl, hb⟩
  replace K0 := Lib.hid ((K0.out.allocO (.cells #[.int .i64 0, .int .i64 0, .int .i64 8] 32)).call hb)
  replace K1 := Lib.hid ((K1.out.allocO (.cells #[.int .i64 0, .int .i64 0, .int .i64 8] 32)).call hb)
  replace K2 := Lib.hid ((K2.out.allocO (.cells #[.int .i64 0, .int .i64 0, .int .i64 8] 32)).call hb)
  have K3 := Lib.hid ((At.new w4 #[.int .i64 0, .int .i64 0, .int .i64 8] 32).call hb)
  replace HP := Lib.hid ((HP.out.call (Mk.below_new _ (.cells #[.int .i64 0, .int .i64 0, .int .i64 8] 32))).call hb)
  replace HW := Lib.hid ((HW.out.below (Mk.below_new _ _)).below hb)
  replace HB := Lib.hid (below_then (HB.out.alloc HB.out.size (.cells #[.int .i64 0, .int .i64 0, .int .i64 8] 32)) hb)
  clear hb
  go_wp2_with fail
  refine (HC5.out _ (HW.out.below (Mk.below_new _ _))).mono ?_
  rintro e w6 ⟨rfl, hb⟩
  replace K0 := Lib.hid ((K0.out.allocO (.cells #[.int .i64 0, .int .i64 3, .int .i64 5] 32)).call hb)
  replace K1 := Lib.hid ((K1.out.allocO (.cells #[.int .i64 0, .int .i64 3, .int .i64 5] 32)).call hb)
  replace K2 := Lib.hid ((K2.out.allocO (.cells #[.int .i64 0, .int .i64 3, .int .i64 5] 32)).call hb)
  replace K3 := Lib.hid ((K3.out.allocO (.cells #[.int .i64 0, .int .i64 3, .int .i64 5] 32)).call hb)
  have K4 := Lib.hid ((At.new w5 #[.int .i64 0, .int .i64 3, .int .i64 5] 32).call hb)
  replace HP := Lib.hid ((HP.out.call (Mk.below_new _ (.cells #[.int .i64 0, .int .i64 3, .int .i64 5] 32))).call hb)
  replace HW := Lib.hid ((HW.out.below (Mk.below_new _ _)).below hb)
  replace HB := Lib.hid (below_then (HB.out.alloc HB.out.size (.cells #[.int .i64 0, .int .i64 3, .int .i64 5] 32)) hb)
  clear hb
  go_wp2_with fail
  refine (HR1.out _).mono ?_
  rintro e w7 ⟨rfl, hb⟩
  replace K0 := Lib.hid ((K0.out.allocO (.cells #[.int .i64 0, .int .i64 0, .int .i64 12] 32)).call hb)
  replace K1 := Lib.hid ((K1.out.allocO (.cells #[.int .i64 0, .int .i64 0, .int .i64 12] 32)).call hb)
  replace K2 := Lib.hid ((K2.out.allocO (.cells #[.int .i64 0, .int .i64 0, .int .i64 12] 32)).call hb)
  replace K3 := Lib.hid ((K3.out.allocO (.cells #[.int .i64 0, .int .i64 0, .int .i64 12] 32)).call hb)
  replace K4 := Lib.hid ((K4.out.allocO (.cells #[.int .i64 0, .int .i64 0, .int .i64 12] 32)).call hb)
  have K5 := Lib.hid ((At.new w6 #[.int .i64 0, .int .i64 0, .int .i64 12] 32).call hb)
  replace HP := Lib.hid ((HP.out.call (Mk.below_new _ (.cells #[.int .i64 0, .int .i64 0, .int .i64 12] 32))).call hb)
  replace HW := Lib.hid ((HW.out.below (Mk.below_new _ _)).below hb)
  replace HB := Lib.hid (below_then (HB.out.alloc HB.out.size (.cells #[.int .i64 0, .int .i64 0, .int .i64 12] 32)) hb)
  clear hb
  go_wp2_with fail
  refine (HR2.out _).mono ?_
  rintro e w8 ⟨rfl, hb⟩
  replace K0 := Lib.hid ((K0.out).call hb)
  replace K1 := Lib.hid ((K1.out).call hb)
  replace K2 := Lib.hid ((K2.out).call hb)
  replace K3 := Lib.hid ((K3.out).call hb)
  replace K4 := Lib.hid ((K4.out).call hb)
  replace K5 := Lib.hid ((K5.out).call hb)
  replace HP := Lib.hid ((HP.out).call hb)
  replace HW := Lib.hid (HW.out.below hb)
  replace HB := Lib.hid (below_then HB.out hb)
  clear hb
  go_wp2_with fail
  refine (HE1.out _).mono ?_
  rintro e w9 ⟨rfl, hb⟩
  replace K0 := Lib.hid ((K0.out).call hb)
  replace K1 := Lib.hid ((K1.out).call hb)
  replace K2 := Lib.hid ((K2.out).call hb)
  replace K3 := Lib.hid ((K3.out).call hb)
  replace K4 := Lib.hid ((K4.out).call hb)
  replace K5 := Lib.hid ((K5.out).call hb)
  replace HP := Lib.hid ((HP.out).call hb)
  replace HW := Lib.hid (HW.out.below hb)
  replace HB := Lib.hid (below_then HB.out hb)
  clear hb
  go_wp2_with fail
  refine (HE2.out _).mono ?_
  rintro e w10 ⟨rfl, hb⟩
  replace K0 := Lib.hid ((K0.out).call hb)
  replace K1 := Lib.hid ((K1.out).call hb)
  replace K2 := Lib.hid ((K2.out).call hb)
  replace K3 := Lib.hid ((K3.out).call hb)
  replace K4 := Lib.hid ((K4.out).call hb)
  replace K5 := Lib.hid ((K5.out).call hb)
  replace HP := Lib.hid ((HP.out).call hb)
  replace HW := Lib.hid (HW.out.below hb)
  replace HB := Lib.hid (below_then HB.out hb)
  clear hb
  have HS := Lib.hid (same_any A (some ⟨w10.heap.size + 1, 0, none⟩) 5 5 c 5 Mk.want Mk.want avs _ ((w10.alloc (.cells #[.string ⟨#[98]⟩, .string ⟨#[49, 60, 50]⟩, .string ⟨#[99]⟩, .string ⟨#[39]⟩] 40)).alloc (.cells #[.int .u8 1, .string ⟨#[97]⟩, .slice (some ⟨w10.heap.size, 0, none⟩) 2 2, .string ⟨#[]⟩, .int .i64 6, .int .u8 3, .string ⟨#[]⟩, .slice none 0 0, .string ⟨#[120, 65]⟩, .int .i64 38, .int .u8 1, .string ⟨#[100]⟩, .slice none 0 0, .string ⟨#[]⟩, .int .i64 44, .int .u8 2, .string ⟨#[100]⟩, .slice none 0 0, .string ⟨#[]⟩, .int .i64 44, .int .u8 2, .string ⟨#[97]⟩, .slice none 0 0, .string ⟨#[]⟩, .int .i64 48] 38)) rfl rfl ((HP.out.call (Mk.below_new _ _)).call (Mk.below_new _ _)) (Mk.parts_want w10))
  have HBf := Lib.hid ((HB.out.alloc HB.out.size (.cells #[.string ⟨#[98]⟩, .string ⟨#[49, 60, 50]⟩, .string ⟨#[99]⟩, .string ⟨#[39]⟩] 40)).alloc (by rw [World.size_alloc]; have := HB.out.size; omega) (.cells #[.int .u8 1, .string ⟨#[97]⟩, .slice (some ⟨w10.heap.size, 0, none⟩) 2 2, .string ⟨#[]⟩, .int .i64 6, .int .u8 3, .string ⟨#[]⟩, .slice none 0 0, .string ⟨#[120, 65]⟩, .int .i64 38, .int .u8 1, .string ⟨#[100]⟩, .slice none 0 0, .string ⟨#[]⟩, .int .i64 44, .int .u8 2, .string ⟨#[100]⟩, .slice none 0 0, .string ⟨#[]⟩, .int .i64 44, .int .u8 2, .string ⟨#[97]⟩, .slice none 0 0, .string ⟨#[]⟩, .int .i64 48] 38))
  replace K0 := Lib.hid ((K0.out.allocO (.cells #[.string ⟨#[98]⟩, .string ⟨#[49, 60, 50]⟩, .string ⟨#[99]⟩, .string ⟨#[39]⟩] 40)).allocO (.cells #[.int .u8 1, .string ⟨#[97]⟩, .slice (some ⟨w10.heap.size, 0, none⟩) 2 2, .string ⟨#[]⟩, .int .i64 6, .int .u8 3, .string ⟨#[]⟩, .slice none 0 0, .string ⟨#[120, 65]⟩, .int .i64 38, .int .u8 1, .string ⟨#[100]⟩, .slice none 0 0, .string ⟨#[]⟩, .int .i64 44, .int .u8 2, .string ⟨#[100]⟩, .slice none 0 0, .string ⟨#[]⟩, .int .i64 44, .int .u8 2, .string ⟨#[97]⟩, .slice none 0 0, .string ⟨#[]⟩, .int .i64 48] 38))
  replace K1 := Lib.hid ((K1.out.allocO (.cells #[.string ⟨#[98]⟩, .string ⟨#[49, 60, 50]⟩, .string ⟨#[99]⟩, .string ⟨#[39]⟩] 40)).allocO (.cells #[.int .u8 1, .string ⟨#[97]⟩, .slice (some ⟨w10.heap.size, 0, none⟩) 2 2, .string ⟨#[]⟩, .int .i64 6, .int .u8 3, .string ⟨#[]⟩, .slice none 0 0, .string ⟨#[120, 65]⟩, .int .i64 38, .int .u8 1, .string ⟨#[100]⟩, .slice none 0 0, .string ⟨#[]⟩, .int .i64 44, .int .u8 2, .string ⟨#[100]⟩, .slice none 0 0, .string ⟨#[]⟩, .int .i64 44, .int .u8 2, .string ⟨#[97]⟩, .slice none 0 0, .string ⟨#[]⟩, .int .i64 48] 38))
  replace K2 := Lib.hid ((K2.out.allocO (.cells #[.string ⟨#[98]⟩, .string ⟨#[49, 60, 50]⟩, .string ⟨#[99]⟩, .string ⟨#[39]⟩] 40)).allocO (.cells #[.int .u8 1, .string ⟨#[97]⟩, .slice (some ⟨w10.heap.size, 0, none⟩) 2 2, .string ⟨#[]⟩, .int .i64 6, .int .u8 3, .string ⟨#[]⟩, .slice none 0 0, .string ⟨#[120, 65]⟩, .int .i64 38, .int .u8 1, .string ⟨#[100]⟩, .slice none 0 0, .string ⟨#[]⟩, .int .i64 44, .int .u8 2, .string ⟨#[100]⟩, .slice none 0 0, .string ⟨#[]⟩, .int .i64 44, .int .u8 2, .string ⟨#[97]⟩, .slice none 0 0, .string ⟨#[]⟩, .int .i64 48] 38))
  replace K3 := Lib.hid ((K3.out.allocO (.cells #[.string ⟨#[98]⟩, .string ⟨#[49, 60, 50]⟩, .string ⟨#[99]⟩, .string ⟨#[39]⟩] 40)).allocO (.cells #[.int .u8 1, .string ⟨#[97]⟩, .slice (some ⟨w10.heap.size, 0, none⟩) 2 2, .string ⟨#[]⟩, .int .i64 6, .int .u8 3, .string ⟨#[]⟩, .slice none 0 0, .string ⟨#[120, 65]⟩, .int .i64 38, .int .u8 1, .string ⟨#[100]⟩, .slice none 0 0, .string ⟨#[]⟩, .int .i64 44, .int .u8 2, .string ⟨#[100]⟩, .slice none 0 0, .string ⟨#[]⟩, .int .i64 44, .int .u8 2, .string ⟨#[97]⟩, .slice none 0 0, .string ⟨#[]⟩, .int .i64 48] 38))
  replace K4 := Lib.hid ((K4.out.allocO (.cells #[.string ⟨#[98]⟩, .string ⟨#[49, 60, 50]⟩, .string ⟨#[99]⟩, .string ⟨#[39]⟩] 40)).allocO (.cells #[.int .u8 1, .string ⟨#[97]⟩, .slice (some ⟨w10.heap.size, 0, none⟩) 2 2, .string ⟨#[]⟩, .int .i64 6, .int .u8 3, .string ⟨#[]⟩, .slice none 0 0, .string ⟨#[120, 65]⟩, .int .i64 38, .int .u8 1, .string ⟨#[100]⟩, .slice none 0 0, .string ⟨#[]⟩, .int .i64 44, .int .u8 2, .string ⟨#[100]⟩, .slice none 0 0, .string ⟨#[]⟩, .int .i64 44, .int .u8 2, .string ⟨#[97]⟩, .slice none 0 0, .string ⟨#[]⟩, .int .i64 48] 38))
  replace K5 := Lib.hid ((K5.out.allocO (.cells #[.string ⟨#[98]⟩, .string ⟨#[49, 60, 50]⟩, .string ⟨#[99]⟩, .string ⟨#[39]⟩] 40)).allocO (.cells #[.int .u8 1, .string ⟨#[97]⟩, .slice (some ⟨w10.heap.size, 0, none⟩) 2 2, .string ⟨#[]⟩, .int .i64 6, .int .u8 3, .string ⟨#[]⟩, .slice none 0 0, .string ⟨#[120, 65]⟩, .int .i64 38, .int .u8 1, .string ⟨#[100]⟩, .slice none 0 0, .string ⟨#[]⟩, .int .i64 44, .int .u8 2, .string ⟨#[100]⟩, .slice none 0 0, .string ⟨#[]⟩, .int .i64 44, .int .u8 2, .string ⟨#[97]⟩, .slice none 0 0, .string ⟨#[]⟩, .int .i64 48] 38))
  go_wp2_with fail
  refine HS.out.mono ?_
  rintro e w20 ⟨⟨bb, rfl, hbb⟩, hb⟩
  obtain rfl : bb = true := by simpa using hbb
  replace K0 := Lib.hid (K0.out.call hb)
  replace K1 := Lib.hid (K1.out.call hb)
  replace K2 := Lib.hid (K2.out.call hb)
  replace K3 := Lib.hid (K3.out.call hb)
  replace K4 := Lib.hid (K4.out.call hb)
  replace K5 := Lib.hid (K5.out.call hb)
  replace HBf := Lib.hid (below_then HBf.out hb)
  clear hb hbb
  obtain ⟨K00, K01, K02, _⟩ := K0.out.three
  have K0z := K0.out.lt
  obtain ⟨K10, K11, K12, _⟩ := K1.out.three
  have K1z := K1.out.lt
  obtain ⟨K20, K21, K22, _⟩ := K2.out.three
  have K2z := K2.out.lt
  obtain ⟨K30, K31, K32, _⟩ := K3.out.three
  have K3z := K3.out.lt
  obtain ⟨K40, K41, K42, _⟩ := K4.out.three
  have K4z := K4.out.lt
  obtain ⟨K50, K51, K52, _⟩ := K5.out.three
  have K5z := K5.out.lt
  go_wp2
  go_ret
  exact ⟨rfl, HBf.out⟩
end Go.Proofs.YtjbgmbhifnihaaaDoor
