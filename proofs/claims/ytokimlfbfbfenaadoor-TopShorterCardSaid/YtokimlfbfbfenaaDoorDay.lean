/- The contracts of package day. -/
import Derived.Test.YtokimlfbfbfenaaDoorDayMath
import Derived.Test.YtokimlfbfbfenaaDoorCivil
import Derived.Deep.RegionHeld3
import Derived.Deep.QuietTactic
import Derived.BigQuiet
namespace Go.Proofs.YtokimlfbfbfenaaDoor
open Go.RowKit

set_option maxHeartbeats 1000000 in
theorem dayCheck_ok (k n d : Int) (w : World) (h : Dy.Ok k n d) :
    Calls Tryd.prog 46 #[.agg #[.int .u8 k, .int .i64 n, .int .i64 d]] w fun e w' => e = .returned (.int .i64 0) ∧ Below w.heap.size w w' := by
  rcases h with ⟨rfl, h1, h2, rfl⟩ | ⟨rfl, rfl, h1, h2⟩ | ⟨rfl | rfl, h1, h2, h3, h4⟩
  all_goals
    go_enter Tryd.func46, Tryd.ntmps46
    go_wp2
    go_ret
    exact ⟨rfl, (Below.refl _ _).alloc (Nat.le_refl _) _⟩

set_option maxHeartbeats 2000000 in
theorem dayCheck_bad (k n d : Int) (w : World) (h : ¬ Dy.Ok k n d) :
    Calls Tryd.prog 46 #[.agg #[.int .u8 k, .int .i64 n, .int .i64 d]] w fun e w' => e = .returned (.int .i64 2) ∧ Below w.heap.size w w' := by
  have H := Lib.hid h
  clear h
  by_cases k0 : k = 0
  · subst k0
    go_enter Tryd.func46, Tryd.ntmps46
    go_wp2
    all_goals first
      | (exfalso; refine H.out ?_; unfold Dy.Ok; omega)
      | (go_ret; exact ⟨rfl, (Below.refl _ _).alloc (Nat.le_refl _) _⟩)
  by_cases k1 : k = 1
  · subst k1
    go_enter Tryd.func46, Tryd.ntmps46
    go_wp2
    all_goals first
      | (exfalso; refine H.out ?_; unfold Dy.Ok; omega)
      | (go_ret; exact ⟨rfl, (Below.refl _ _).alloc (Nat.le_refl _) _⟩)
  by_cases k2 : k = 2
  · subst k2
    go_enter Tryd.func46, Tryd.ntmps46
    go_wp2
    all_goals first
      | (exfalso; refine H.out ?_; unfold Dy.Ok; omega)
      | (go_ret; exact ⟨rfl, (Below.refl _ _).alloc (Nat.le_refl _) _⟩)
  by_cases k3 : k = 3
  · subst k3
    go_enter Tryd.func46, Tryd.ntmps46
    go_wp2
    all_goals first
      | (exfalso; refine H.out ?_; unfold Dy.Ok; omega)
      | (go_ret; exact ⟨rfl, (Below.refl _ _).alloc (Nat.le_refl _) _⟩)
  have e0 : (k == 0) = false := by simp [k0]
  have e1 : (k == 1) = false := by simp [k1]
  have e2 : (k == 2) = false := by simp [k2]
  have e3 : (k == 3) = false := by simp [k3]
  clear k0 k1 k2 k3
  go_enter Tryd.func46, Tryd.ntmps46
  go_wp2
  go_ret
  exact ⟨rfl, (Below.refl _ _).alloc (Nat.le_refl _) _⟩

set_option maxHeartbeats 1000000 in
theorem dayNumber_any (s : ByteArray) (w : World) (hs : s.size ≤ maxLen) :
    Calls Tryd.prog 125 #[.string s] w fun e w' => e = .returned (.int .i64 (Dy.numD (tl s))) ∧ w = w' := by
  unfold maxLen at hs
  by_cases h1 : s.size < 1
  · have HE : Hid (Dy.numD (tl s) = -1) := by show Dy.numD (tl s) = -1; unfold Dy.numD; rw [tl_length, if_pos (.inl h1)]
    go_enter Tryd.func125, Tryd.ntmps125
    go_wp2
    go_ret
    exact ⟨ret_int HE.out.symm, rfl⟩
  by_cases h2 : 2 < s.size
  · have HE : Hid (Dy.numD (tl s) = -1) := by show Dy.numD (tl s) = -1; unfold Dy.numD; rw [tl_length, if_pos (.inr h2)]
    go_enter Tryd.func125, Tryd.ntmps125
    go_wp2
    go_ret
    exact ⟨ret_int HE.out.symm, rfl⟩
  have HE : Hid (Dy.numD (tl s) = Dy.numLoop ((tl s).drop 0) 0) := by show Dy.numD (tl s) = _; unfold Dy.numD; rw [tl_length, if_neg (by omega)]; rfl
  obtain ⟨N, hN⟩ : ∃ N, Dy.numD (tl s) = N := ⟨_, rfl⟩
  rw [hN] at HE ⊢
  clear hN
  go_enter Tryd.func125, Tryd.ntmps125
  go_wp2
  go_loop [3, 15] (fun t i => ∃ (k : Nat) (a : Int), k ≤ s.size ∧ i = .int .i64 k ∧ t = .int .i64 a ∧ 0 ≤ a ∧ a ≤ 99 ∧ Hid (k ≤ 1 → a ≤ 9) ∧ Hid (k = 0 → a = 0) ∧ Hid (N = Dy.numLoop ((tl s).drop k) a)) (fun _ i => s.size - (intOf i).toNat)
  case atStart => exact ⟨0, 0, by omega, rfl, rfl, by omega, by omega, fun _ => by omega, fun _ => rfl, HE.out⟩
  case round =>
    obtain ⟨k, a, hk, rfl, rfl, a0, a1, HA1, HA0, HN⟩ := hrel
    by_cases hlt : k < s.size
    · have q1 : (0 : Int) ≤ (k : Int) := by omega
      have q2 : (k : Int) < (s.size : Int) := by omega
      have b1 := u8_bd s[k]
      have a2 : a ≤ 9 := HA1.out (by omega)
      by_cases hc : (s[k].toNat : Int) < 48 ∨ 57 < (s[k].toNat : Int)
      · have HB := Lib.hid (Dy.numLoop_bad (tl s) k s[k] a N HN.out (Dy.tl_get s k hlt) hc)
        by_cases hc1 : (s[k].toNat : Int) < 48
        · clear hc
          go_wp2
          go_ret
          exact ⟨ret_int HB.out.symm, rfl⟩
        · have hc2 : 57 < (s[k].toNat : Int) := by omega
          clear hc
          go_wp2
          go_ret
          exact ⟨ret_int HB.out.symm, rfl⟩
      · have HB := Lib.hid (Dy.numLoop_next (tl s) k s[k] a N HN.out (Dy.tl_get s k hlt) hc)
        have c1 : 48 ≤ (s[k].toNat : Int) := by omega
        have c2 : (s[k].toNat : Int) ≤ 57 := by omega
        have HA0' := HA0.out
        have HZ : Hid (k + 1 ≤ 1 → a * 10 + ((s[k].toNat : Int) - 48) ≤ 9) := by intro h; have := HA0' (by omega); omega
        clear hc HA0'
        go_wp2
        go_round
        case rel => exact ⟨k + 1, a * 10 + ((s[k].toNat : Int) - 48), by omega, by go_num, rfl, by omega, by omega, HZ, fun h => absurd h (by omega), HB⟩
        case measure => simp [intOf]; omega
    · obtain rfl : k = s.size := by omega
      have HB := Lib.hid (Dy.numLoop_end (tl s) s.size a N HN.out (tl_length s))
      go_wp2
      go_ret
      exact ⟨ret_int HB.out.symm, rfl⟩
end Go.Proofs.YtokimlfbfbfenaaDoor
