/- markup: digits, numbers; utf.Encode. -/
import Derived.Test.YthmhadgbhakdlaaDoorP03

namespace Go.Proofs.YthmhadgbhakdlaaDoor
open Go.RowKit

namespace Mk
def optI : Option Nat → Int
  | some n => n
  | none => -1
def raw (b : UInt8) : Option Nat := if 48 ≤ b.toNat ∧ b.toNat ≤ 57 then some (b.toNat - 48) else if 97 ≤ b.toNat ∧ b.toNat ≤ 102 then some (b.toNat - 87) else if 65 ≤ b.toNat ∧ b.toNat ≤ 70 then some (b.toNat - 55) else none
theorem dig_eq (b : UInt8) (base : Nat) : dig b base = match raw b with | some k => if base ≤ k then none else some k | none => none := rfl
theorem dig_some {b : UInt8} {base k : Nat} (h : raw b = some k) (hb : ¬ base ≤ k) : dig b base = some k := by rw [dig_eq, h]; exact if_neg hb
theorem dig_big {b : UInt8} {base k : Nat} (h : raw b = some k) (hb : base ≤ k) : dig b base = none := by rw [dig_eq, h]; exact if_pos hb
theorem dig_no {b : UInt8} {base : Nat} (h : raw b = none) : dig b base = none := by rw [dig_eq, h]
theorem dig_lt {b : UInt8} {base k : Nat} (h : dig b base = some k) : k < base := by
  rw [dig_eq] at h
  cases hr : raw b with
  | none => rw [hr] at h; cases h
  | some j =>
    rw [hr] at h
    simp only at h
    split at h
    · cases h
    · cases h; omega
end Mk
set_option maxHeartbeats 1000000 in
set_option maxRecDepth 100000 in
theorem digit_any (b : UInt8) (base : Nat) (hb : base ≤ 16) (w : World) :
    Calls Tryd.prog 90 #[.int .u8 (b.toNat : Int), .int .i64 (base : Int)] w fun e w' => e = .returned (.int .i64 (Mk.optI (Mk.dig b base))) ∧ w = w' := by
  have hlt := b.toNat_lt
  obtain ⟨D, hD⟩ : ∃ D, Mk.dig b base = D := ⟨_, rfl⟩
  rw [hD]
  obtain ⟨x, hx⟩ : ∃ x : Int, (b.toNat : Int) = x := ⟨_, rfl⟩
  rw [hx]
  have hmb : IntKind.i64.wrap (base : Int) = base := by rw [IntKind.wrap_i64]; omega
  rcases (by omega : (0 ≤ x ∧ x ≤ 47) ∨ (48 ≤ x ∧ x ≤ 57) ∨ (58 ≤ x ∧ x ≤ 64) ∨ (65 ≤ x ∧ x ≤ 70) ∨ (71 ≤ x ∧ x ≤ 96) ∨ (97 ≤ x ∧ x ≤ 102) ∨ (103 ≤ x ∧ x ≤ 255)) with ⟨u1, u2⟩ | ⟨u1, u2⟩ | ⟨u1, u2⟩ | ⟨u1, u2⟩ | ⟨u1, u2⟩ | ⟨u1, u2⟩ | ⟨u1, u2⟩
  · have hr : Mk.raw b = none := by unfold Mk.raw; rw [if_neg (by omega), if_neg (by omega), if_neg (by omega)]
    have hd : D = none := by rw [← hD]; exact Mk.dig_no hr
    have gb : ¬ (base : Int) ≤ -1 := by omega
    have g0 : ¬ 48 ≤ x := by omega
    have gl0 : x < 48 := by omega
    have g1 : ¬ 97 ≤ x := by omega
    have gl1 : x < 97 := by omega
    have g2 : ¬ 65 ≤ x := by omega
    have gl2 : x < 65 := by omega
    have l0 : x ≤ 57 := by omega
    have l1 : x ≤ 102 := by omega
    have l2 : x ≤ 70 := by omega
    subst hd
    clear hD hr hx u1 u2 hlt hb
    go_enter Tryd.func90, Tryd.ntmps90
    go_wp2
    go_ret
    exact ⟨rfl, rfl⟩
  · obtain ⟨y, hy⟩ : ∃ y : Nat, (x - 48 : Int) = y := ⟨(x - 48).toNat, by omega⟩
    have hr : Mk.raw b = some (y + 0) := by unfold Mk.raw; rw [if_pos (by omega)]; congr 1; omega
    have g0 : 48 ≤ x := by omega
    have g1 : ¬ 97 ≤ x := by omega
    have gl1 : x < 97 := by omega
    have g2 : ¬ 65 ≤ x := by omega
    have gl2 : x < 65 := by omega
    have l0 : x ≤ 57 := by omega
    have l1 : x ≤ 102 := by omega
    have l2 : x ≤ 70 := by omega
    have w1 : IntKind.u8.wrap (y : Int) = y := by rw [IntKind.wrap_u8]; omega
    have w2 : IntKind.i64.wrap (y : Int) = y := by rw [IntKind.wrap_i64]; omega
    by_cases hc : (base : Int) ≤ (y : Int)
    · have hd : D = none := by rw [← hD]; exact Mk.dig_big hr (by omega)
      subst hd
      clear hD hr hx u1 u2 hlt hb
      go_enter Tryd.func90, Tryd.ntmps90
      go_wp2
      go_ret
      exact ⟨rfl, rfl⟩
    · have hd : D = some (y + 0) := by rw [← hD]; exact Mk.dig_some hr (by omega)
      subst hd
      clear hD hr hx u1 u2 hlt hb
      go_enter Tryd.func90, Tryd.ntmps90
      go_wp2
      go_ret
      exact ⟨by show _ = Ending.returned (.int .i64 ((y + 0 : Nat) : Int)); rfl, rfl⟩
  · have hr : Mk.raw b = none := by unfold Mk.raw; rw [if_neg (by omega), if_neg (by omega), if_neg (by omega)]
    have hd : D = none := by rw [← hD]; exact Mk.dig_no hr
    have gb : ¬ (base : Int) ≤ -1 := by omega
    have g0 : 48 ≤ x := by omega
    have g1 : ¬ 97 ≤ x := by omega
    have gl1 : x < 97 := by omega
    have g2 : ¬ 65 ≤ x := by omega
    have gl2 : x < 65 := by omega
    have l0 : ¬ x ≤ 57 := by omega
    have l1 : x ≤ 102 := by omega
    have l2 : x ≤ 70 := by omega
    subst hd
    clear hD hr hx u1 u2 hlt hb
    go_enter Tryd.func90, Tryd.ntmps90
    go_wp2
    go_ret
    exact ⟨rfl, rfl⟩
  · obtain ⟨y, hy⟩ : ∃ y : Nat, (x - 65 : Int) = y := ⟨(x - 65).toNat, by omega⟩
    have hr : Mk.raw b = some (y + 10) := by unfold Mk.raw; rw [if_neg (by omega), if_neg (by omega), if_pos (by omega)]; congr 1; omega
    have g0 : 48 ≤ x := by omega
    have g1 : ¬ 97 ≤ x := by omega
    have gl1 : x < 97 := by omega
    have g2 : 65 ≤ x := by omega
    have l0 : ¬ x ≤ 57 := by omega
    have l1 : x ≤ 102 := by omega
    have l2 : x ≤ 70 := by omega
    have w1 : IntKind.u8.wrap (y : Int) = y := by rw [IntKind.wrap_u8]; omega
    have w2 : IntKind.i64.wrap (y : Int) = y := by rw [IntKind.wrap_i64]; omega
    have w3 : wrap64 ((y : Int) + 10) = (y : Int) + 10 := by unfold wrap64; omega
    have w4 : IntKind.i64.wrap ((y : Int) + 10) = (y : Int) + 10 := by rw [IntKind.wrap_i64]; omega
    by_cases hc : (base : Int) ≤ (y : Int) + 10
    · have hd : D = none := by rw [← hD]; exact Mk.dig_big hr (by omega)
      subst hd
      clear hD hr hx u1 u2 hlt hb
      go_enter Tryd.func90, Tryd.ntmps90
      go_wp2
      go_ret
      exact ⟨rfl, rfl⟩
    · have hd : D = some (y + 10) := by rw [← hD]; exact Mk.dig_some hr (by omega)
      subst hd
      clear hD hr hx u1 u2 hlt hb
      go_enter Tryd.func90, Tryd.ntmps90
      go_wp2
      go_ret
      exact ⟨by show _ = Ending.returned (.int .i64 ((y + 10 : Nat) : Int)); rw [Int.natCast_add]; rfl, rfl⟩
  · have hr : Mk.raw b = none := by unfold Mk.raw; rw [if_neg (by omega), if_neg (by omega), if_neg (by omega)]
    have hd : D = none := by rw [← hD]; exact Mk.dig_no hr
    have gb : ¬ (base : Int) ≤ -1 := by omega
    have g0 : 48 ≤ x := by omega
    have g1 : ¬ 97 ≤ x := by omega
    have gl1 : x < 97 := by omega
    have g2 : 65 ≤ x := by omega
    have l0 : ¬ x ≤ 57 := by omega
    have l1 : x ≤ 102 := by omega
    have l2 : ¬ x ≤ 70 := by omega
    subst hd
    clear hD hr hx u1 u2 hlt hb
    go_enter Tryd.func90, Tryd.ntmps90
    go_wp2
    go_ret
    exact ⟨rfl, rfl⟩
  · obtain ⟨y, hy⟩ : ∃ y : Nat, (x - 97 : Int) = y := ⟨(x - 97).toNat, by omega⟩
    have hr : Mk.raw b = some (y + 10) := by unfold Mk.raw; rw [if_neg (by omega), if_pos (by omega)]; congr 1; omega
    have g0 : 48 ≤ x := by omega
    have g1 : 97 ≤ x := by omega
    have g2 : 65 ≤ x := by omega
    have l0 : ¬ x ≤ 57 := by omega
    have l1 : x ≤ 102 := by omega
    have l2 : ¬ x ≤ 70 := by omega
    have w1 : IntKind.u8.wrap (y : Int) = y := by rw [IntKind.wrap_u8]; omega
    have w2 : IntKind.i64.wrap (y : Int) = y := by rw [IntKind.wrap_i64]; omega
    have w3 : wrap64 ((y : Int) + 10) = (y : Int) + 10 := by unfold wrap64; omega
    have w4 : IntKind.i64.wrap ((y : Int) + 10) = (y : Int) + 10 := by rw [IntKind.wrap_i64]; omega
    by_cases hc : (base : Int) ≤ (y : Int) + 10
    · have hd : D = none := by rw [← hD]; exact Mk.dig_big hr (by omega)
      subst hd
      clear hD hr hx u1 u2 hlt hb
      go_enter Tryd.func90, Tryd.ntmps90
      go_wp2
      go_ret
      exact ⟨rfl, rfl⟩
    · have hd : D = some (y + 10) := by rw [← hD]; exact Mk.dig_some hr (by omega)
      subst hd
      clear hD hr hx u1 u2 hlt hb
      go_enter Tryd.func90, Tryd.ntmps90
      go_wp2
      go_ret
      exact ⟨by show _ = Ending.returned (.int .i64 ((y + 10 : Nat) : Int)); rw [Int.natCast_add]; rfl, rfl⟩
  · have hr : Mk.raw b = none := by unfold Mk.raw; rw [if_neg (by omega), if_neg (by omega), if_neg (by omega)]
    have hd : D = none := by rw [← hD]; exact Mk.dig_no hr
    have gb : ¬ (base : Int) ≤ -1 := by omega
    have g0 : 48 ≤ x := by omega
    have g1 : 97 ≤ x := by omega
    have g2 : 65 ≤ x := by omega
    have l0 : ¬ x ≤ 57 := by omega
    have l1 : ¬ x ≤ 102 := by omega
    have l2 : ¬ x ≤ 70 := by omega
    subst hd
    clear hD hr hx u1 u2 hlt hb
    go_enter Tryd.func90, Tryd.ntmps90
    go_wp2
    go_ret
    exact ⟨rfl, rfl⟩
namespace Mk
theorem num_short {base most : Nat} {l : Txt} (h : l = []) : num base most l = none := by unfold num; rw [if_pos (.inl h)]
theorem num_long {base most : Nat} {l : Txt} (h : most < l.length) : num base most l = none := by unfold num; rw [if_pos (.inr h)]
theorem num_mid {base most : Nat} {l : Txt} (h : l ≠ []) (h2 : ¬ most < l.length) : num base most l = numGo base 0 l := by unfold num; rw [if_neg (fun q => q.elim h h2)]
theorem go_none {base n k : Nat} {l : Txt} {b : UInt8} (h : l[k]? = some b) (hd : dig b base = none) : numGo base n (l.drop k) = none := by
  obtain ⟨h1, h2⟩ := List.getElem?_eq_some_iff.1 h
  rw [List.drop_eq_getElem_cons h1, h2, numGo, hd]
theorem go_some {base n k d : Nat} {l : Txt} {b : UInt8} (h : l[k]? = some b) (hd : dig b base = some d) : numGo base n (l.drop k) = numGo base (n * base + d) (l.drop (k + 1)) := by
  obtain ⟨h1, h2⟩ := List.getElem?_eq_some_iff.1 h
  rw [List.drop_eq_getElem_cons h1, h2, numGo, hd]
theorem pow_le {k : Nat} (h : k ≤ 7) : 16 ^ k ≤ 268435456 := by
  have : (16 : Nat) ^ k ≤ 16 ^ 7 := Nat.pow_le_pow_right (by omega) h
  exact this
theorem numGo_le : ∀ (l : Txt) (base n k m : Nat), base ≤ 16 → n < 16 ^ k → numGo base n l = some m → m < 16 ^ (k + l.length)
  | [], base, n, k, m, _, h, e => by cases e; exact h
  | b :: l, base, n, k, m, hb, h, e => by
    rw [numGo] at e
    cases hd : dig b base with
    | none => rw [hd] at e; cases e
    | some d =>
      rw [hd] at e
      have h1 := dig_lt hd
      have h2 : n * base + d < 16 ^ (k + 1) := by
        rw [Nat.pow_succ]
        have : n * base ≤ n * 16 := Nat.mul_le_mul_left n hb
        omega
      have := numGo_le l base _ (k + 1) m hb h2 e
      rw [List.length_cons, show k + (l.length + 1) = k + 1 + l.length by omega]
      exact this
theorem num_le {base most : Nat} {l : Txt} {m : Nat} (hb : base ≤ 16) (hm : most ≤ 7) (h : num base most l = some m) : m < 268435456 := by
  unfold num at h
  split at h
  · cases h
  · rename_i q
    have h1 := numGo_le l base 0 0 m hb (by decide) h
    have : (16 : Nat) ^ (0 + l.length) ≤ 16 ^ 7 := Nat.pow_le_pow_right (by omega) (by omega)
    exact Nat.lt_of_lt_of_le h1 this
theorem tl_nil {s : ByteArray} (h : s.size = 0) : tl s = [] := List.eq_nil_of_length_eq_zero (by rw [tl_length]; exact h)
theorem tl_cons {s : ByteArray} (h : 0 < s.size) : tl s ≠ [] := fun e => by have := tl_length s; rw [e, List.length_nil] at this; omega
end Mk
set_option maxHeartbeats 1000000 in
set_option maxRecDepth 100000 in
theorem number10 (s : ByteArray) (most : Nat) (hm : most ≤ 7) (hs : s.size ≤ maxLen) (w : World) :
    Calls Tryd.prog 87 #[.string s, .int .i64 10, .int .i64 (most : Int)] w fun e w' => e = .returned (.int .i64 (Mk.optI (Mk.num 10 most (tl s)))) ∧ w = w' := by
  unfold maxLen at hs
  have hmax : IntKind.i64.wrap (s.size : Int) = s.size := by rw [IntKind.wrap_i64]; omega
  by_cases h0 : s.size = 0
  · rw [Mk.num_short (Mk.tl_nil h0)]
    have he := Mk.emp_yes h0
    go_enter Tryd.func87, Tryd.ntmps87
    go_wp2
    go_ret
    exact ⟨rfl, rfl⟩
  · have hp : 0 < s.size := by omega
    have he := Mk.emp_no hp
    by_cases hl : most < s.size
    · rw [Mk.num_long (by rw [tl_length]; exact hl)]
      have hl2 : (most : Int) < (s.size : Int) := by omega
      go_enter Tryd.func87, Tryd.ntmps87
      go_wp2
      go_ret
      exact ⟨rfl, rfl⟩
    · rw [Mk.num_mid (Mk.tl_cons hp) (by rw [tl_length]; exact hl)]
      have hl2 : ¬ (most : Int) < (s.size : Int) := by omega
      have hs7 : s.size ≤ 7 := by omega
      have HL := Lib.hid (tl_length s)
      obtain ⟨R, hR⟩ : ∃ R, Mk.numGo 10 0 (tl s) = R := ⟨_, rfl⟩
      have HR0 : Hid (Mk.numGo 10 0 ((tl s).drop 0) = R) := hR
      rw [hR]
      clear hR
      go_enter Tryd.func87, Tryd.ntmps87
      go_wp2
      go_loopw [7, 20] (fun a i wr => ∃ n k : Nat, k ≤ s.size ∧ a = .int .i64 (n : Int) ∧ i = .int .i64 (k : Int) ∧ Hid (Mk.numGo 10 n ((tl s).drop k) = R) ∧ Hid (n < 16 ^ k) ∧ wr = w) (fun _ i _ => s.size - (intOf i).toNat)
      case atStart => exact ⟨0, 0, Nat.zero_le _, rfl, rfl, HR0.out, by show 0 < 16 ^ 0; decide, rfl⟩
      case round =>
        obtain ⟨n, k, hk, rfl, rfl, HR, HN, rfl⟩ := hrel
        by_cases hlt : k < s.size
        · have q1 : (0 : Int) ≤ (k : Int) := by omega
          have q2 : (k : Int) < (s.size : Int) := by omega
          obtain ⟨b, hb⟩ : ∃ b, s[k]'hlt = b := ⟨_, rfl⟩
          have HA : Hid ((tl s)[k]? = some b) := by show _ = _; rw [← hb]; exact Mk.at_tl s k hlt
          have hbk := hb
          have hn : n < 268435456 := Nat.lt_of_lt_of_le HN.out (Mk.pow_le (by omega))
          have HD := Lib.hid (fun W => digit_any b 10 (by decide) W)
          obtain ⟨D, hD⟩ : ∃ D, Mk.dig b 10 = D := ⟨_, rfl⟩
          rw [hD] at HD
          have HDD := Lib.hid hD
          clear hD
          cases D with
          | none =>
            have HE : Hid (none = R) := by show _ = _; rw [← HR.out]; exact (Mk.go_none HA.out HDD.out).symm
            have HD2 : Hid (∀ W, Calls Tryd.prog 90 #[.int .u8 (b.toNat : Int), .int .i64 10] W fun e w' => e = .returned (.int .i64 (-1)) ∧ W = w') := fun W => HD.out W
            clear HD
            go_wp2_with (refine (HD2.out _).mono ?_; rintro e w' ⟨rfl, rfl⟩)
            go_wp2
            go_ret
            exact ⟨by rw [← HE.out]; rfl, rfl⟩
          | some d =>
            have hd : d < 10 := Mk.dig_lt HDD.out
            have HE : Hid (Mk.numGo 10 (n * 10 + d) ((tl s).drop (k + 1)) = R) := by show _ = _; rw [← HR.out]; exact (Mk.go_some HA.out HDD.out).symm
            have HN2 : Hid (n * 10 + d < 16 ^ (k + 1)) := by show _ < _; rw [Nat.pow_succ]; have := HN.out; omega
            have HD2 : Hid (∀ W, Calls Tryd.prog 90 #[.int .u8 (b.toNat : Int), .int .i64 10] W fun e w' => e = .returned (.int .i64 (d : Int)) ∧ W = w') := fun W => HD.out W
            clear HD
            have q3 : ¬ (d : Int) < 0 := by omega
            go_wp2_with (refine (HD2.out _).mono ?_; rintro e w' ⟨rfl, rfl⟩)
            go_wp2
            go_roundw
            case rel => exact ⟨n * 10 + d, k + 1, by omega, by go_num, by go_num, HE.out, HN2.out, by first | rfl | trivial⟩
            case measure => simp [intOf]; omega
        · have q2 : ¬ (k : Int) < (s.size : Int) := by omega
          have HE : Hid (some n = R) := by
            show _ = _
            rw [← HR.out, List.drop_of_length_le (by rw [HL.out]; omega)]
            rfl
          go_wp2
          go_ret
          exact ⟨by rw [← HE.out]; rfl, rfl⟩
set_option maxHeartbeats 1000000 in
set_option maxRecDepth 100000 in
theorem number16 (s : ByteArray) (most : Nat) (hm : most ≤ 7) (hs : s.size ≤ maxLen) (w : World) :
    Calls Tryd.prog 87 #[.string s, .int .i64 16, .int .i64 (most : Int)] w fun e w' => e = .returned (.int .i64 (Mk.optI (Mk.num 16 most (tl s)))) ∧ w = w' := by
  unfold maxLen at hs
  have hmax : IntKind.i64.wrap (s.size : Int) = s.size := by rw [IntKind.wrap_i64]; omega
  by_cases h0 : s.size = 0
  · rw [Mk.num_short (Mk.tl_nil h0)]
    have he := Mk.emp_yes h0
    go_enter Tryd.func87, Tryd.ntmps87
    go_wp2
    go_ret
    exact ⟨rfl, rfl⟩
  · have hp : 0 < s.size := by omega
    have he := Mk.emp_no hp
    by_cases hl : most < s.size
    · rw [Mk.num_long (by rw [tl_length]; exact hl)]
      have hl2 : (most : Int) < (s.size : Int) := by omega
      go_enter Tryd.func87, Tryd.ntmps87
      go_wp2
      go_ret
      exact ⟨rfl, rfl⟩
    · rw [Mk.num_mid (Mk.tl_cons hp) (by rw [tl_length]; exact hl)]
      have hl2 : ¬ (most : Int) < (s.size : Int) := by omega
      have hs7 : s.size ≤ 7 := by omega
      have HL := Lib.hid (tl_length s)
      obtain ⟨R, hR⟩ : ∃ R, Mk.numGo 16 0 (tl s) = R := ⟨_, rfl⟩
      have HR0 : Hid (Mk.numGo 16 0 ((tl s).drop 0) = R) := hR
      rw [hR]
      clear hR
      go_enter Tryd.func87, Tryd.ntmps87
      go_wp2
      go_loopw [7, 20] (fun a i wr => ∃ n k : Nat, k ≤ s.size ∧ a = .int .i64 (n : Int) ∧ i = .int .i64 (k : Int) ∧ Hid (Mk.numGo 16 n ((tl s).drop k) = R) ∧ Hid (n < 16 ^ k) ∧ wr = w) (fun _ i _ => s.size - (intOf i).toNat)
      case atStart => exact ⟨0, 0, Nat.zero_le _, rfl, rfl, HR0.out, by show 0 < 16 ^ 0; decide, rfl⟩
      case round =>
        obtain ⟨n, k, hk, rfl, rfl, HR, HN, rfl⟩ := hrel
        by_cases hlt : k < s.size
        · have q1 : (0 : Int) ≤ (k : Int) := by omega
          have q2 : (k : Int) < (s.size : Int) := by omega
          obtain ⟨b, hb⟩ : ∃ b, s[k]'hlt = b := ⟨_, rfl⟩
          have HA : Hid ((tl s)[k]? = some b) := by show _ = _; rw [← hb]; exact Mk.at_tl s k hlt
          have hbk := hb
          have hn : n < 268435456 := Nat.lt_of_lt_of_le HN.out (Mk.pow_le (by omega))
          have HD := Lib.hid (fun W => digit_any b 16 (by decide) W)
          obtain ⟨D, hD⟩ : ∃ D, Mk.dig b 16 = D := ⟨_, rfl⟩
          rw [hD] at HD
          have HDD := Lib.hid hD
          clear hD
          cases D with
          | none =>
            have HE : Hid (none = R) := by show _ = _; rw [← HR.out]; exact (Mk.go_none HA.out HDD.out).symm
            have HD2 : Hid (∀ W, Calls Tryd.prog 90 #[.int .u8 (b.toNat : Int), .int .i64 16] W fun e w' => e = .returned (.int .i64 (-1)) ∧ W = w') := fun W => HD.out W
            clear HD
            go_wp2_with (refine (HD2.out _).mono ?_; rintro e w' ⟨rfl, rfl⟩)
            go_wp2
            go_ret
            exact ⟨by rw [← HE.out]; rfl, rfl⟩
          | some d =>
            have hd : d < 16 := Mk.dig_lt HDD.out
            have HE : Hid (Mk.numGo 16 (n * 16 + d) ((tl s).drop (k + 1)) = R) := by show _ = _; rw [← HR.out]; exact (Mk.go_some HA.out HDD.out).symm
            have HN2 : Hid (n * 16 + d < 16 ^ (k + 1)) := by show _ < _; rw [Nat.pow_succ]; have := HN.out; omega
            have HD2 : Hid (∀ W, Calls Tryd.prog 90 #[.int .u8 (b.toNat : Int), .int .i64 16] W fun e w' => e = .returned (.int .i64 (d : Int)) ∧ W = w') := fun W => HD.out W
            clear HD
            have q3 : ¬ (d : Int) < 0 := by omega
            go_wp2_with (refine (HD2.out _).mono ?_; rintro e w' ⟨rfl, rfl⟩)
            go_wp2
            go_roundw
            case rel => exact ⟨n * 16 + d, k + 1, by omega, by go_num, by go_num, HE.out, HN2.out, by first | rfl | trivial⟩
            case measure => simp [intOf]; omega
        · have q2 : ¬ (k : Int) < (s.size : Int) := by omega
          have HE : Hid (some n = R) := by
            show _ = _
            rw [← HR.out, List.drop_of_length_le (by rw [HL.out]; omega)]
            rfl
          go_wp2
          go_ret
          exact ⟨by rw [← HE.out]; rfl, rfl⟩
set_option maxHeartbeats 1000000 in
set_option maxRecDepth 100000 in
theorem encode_any (c : Nat) (hc : c ≤ 268435456) (w : World) :
    Calls Tryd.prog 88 #[.int .i64 (c : Int)] w fun e w' => e = .returned (.tuple #[.string (if Mk.encodes c = true then Utf8.encode (c : Int) else ByteArray.empty), .int .i64 (if Mk.encodes c = true then 0 else 1)]) ∧ w = w' := by
  have p0 : ¬ (c : Int) < 0 := by omega
  have hmb : IntKind.i64.wrap (c : Int) = c := by rw [IntKind.wrap_i64]; omega
  obtain ⟨X, hX⟩ : ∃ x, Utf8.encode (c : Int) = x := ⟨_, rfl⟩
  have hcv : ∀ W, (convert 21 9 (.int .i32 (c : Int))).run Tryd.prog W = .ok (.string X) W := fun W => by
    rw [← hX]
    exact run_convert_int_string W _ _ _ _ (by rw [Tryd.underlying21]; rfl) Tryd.underlying9
  rw [hX]
  clear hX
  by_cases h1 : c ≤ 1114111
  · have p1 : ¬ (1114111 : Int) < (c : Int) := by omega
    have hw32 : IntKind.i32.wrap (c : Int) = c := by rw [IntKind.wrap_i32]; omega
    by_cases h2 : 55296 ≤ c
    · have p2 : (55296 : Int) ≤ (c : Int) := by omega
      by_cases h3 : c ≤ 57343
      · have p3 : (c : Int) ≤ 57343 := by omega
        have he : Mk.encodes c = false := by unfold Mk.encodes; simp [h1, h2, h3]
        rw [he]
        clear he h1 h2 h3 hc
        go_enter Tryd.func88, Tryd.ntmps88
        go_wp2
        go_ret2
        exact ⟨rfl, rfl⟩
      · have p3 : ¬ (c : Int) ≤ 57343 := by omega
        have he : Mk.encodes c = true := by unfold Mk.encodes; simp [h1]; omega
        rw [he]
        clear he h1 h2 h3 hc
        go_enter Tryd.func88, Tryd.ntmps88
        go_wp2
        go_ret2
        exact ⟨rfl, rfl⟩
    · have p2 : ¬ (55296 : Int) ≤ (c : Int) := by omega
      have he : Mk.encodes c = true := by unfold Mk.encodes; simp [h1]; omega
      rw [he]
      clear he h1 h2 hc
      go_enter Tryd.func88, Tryd.ntmps88
      go_wp2
      go_ret2
      exact ⟨rfl, rfl⟩
  · have p1 : (1114111 : Int) < (c : Int) := by omega
    have he : Mk.encodes c = false := by unfold Mk.encodes; simp [h1]
    rw [he]
    clear he h1 hc
    go_enter Tryd.func88, Tryd.ntmps88
    go_wp2
    go_ret2
    exact ⟨rfl, rfl⟩
end Go.Proofs.YthmhadgbhakdlaaDoor
