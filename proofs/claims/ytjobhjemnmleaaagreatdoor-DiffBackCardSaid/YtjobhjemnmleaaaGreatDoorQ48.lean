/- The statements' Near: that it hands back something, and of a small source. -/
import Derived.Test.YtjobhjemnmleaaaGreatDoorQ47
set_option maxRecDepth 100000
set_option maxHeartbeats 4000000
namespace Go.Proofs.YtjobhjemnmleaaaGreatDoor
open Go.RowKit
namespace Eg
def SomeB (w : World) (e : Ending) (w' : World) : Prop := (∃ b, e = .returned (.bool b)) ∧ Below w.heap.size w w'
def SomeN (w : World) (e : Ending) (w' : World) : Prop := (e = .returned (.int .i64 0) ∨ e = .returned (.int .i64 2)) ∧ Below w.heap.size w w'
def SomeZ (w : World) (e : Ending) (w' : World) : Prop := (e = .returned (.int .i64 0) ∨ e = .returned (.int .i64 1)) ∧ Below w.heap.size w w'
def SomeC (fr tt : Int) (w : World) (e : Ending) (w' : World) : Prop := ((e = .returned (.int .i64 0) ∧ 1 ≤ fr ∧ fr ≤ tt ∧ tt ≤ 9999) ∨ e = .returned (.int .i64 2)) ∧ Below w.heap.size w w'
end Eg
theorem refSigns_some (s : ByteArray) (w : World) (hs : s.size ≤ maxLen) :
  Calls Tryz.prog 195 #[.string s] w (Eg.SomeB w) := by
 unfold maxLen at hs;go_enter Tryz.func195, Tryz.ntmps195
 go_wp2;go_loop [3] (fun i => ∃ j : Nat, j ≤ s.size ∧ i = .int .i64 j) (fun i => s.size - (intOf i).toNat)
 case atStart => exact ⟨0, Nat.zero_le _, rfl⟩
 case round =>
  obtain ⟨j, hj, rfl⟩ := hrel
  by_cases hlj : j < s.size
  ·have p1 : (0 : Int) ≤ (j : Int) := by omega
   have p2 : (j : Int) < (s.size : Int) := by omega
   obtain ⟨b1, b2⟩ := u8_bd s[j];have hcs := Ab.cases_ (s[j].toNat : Int) b1 b2
   ·rcases hcs with hc | hc | hc | hc | hc | hc | hc | hc | hc | hc | hc
    ·obtain ⟨i1, i2⟩ := hc;have f97 : ¬ 97 ≤ (s[j].toNat : Int) := by omega
     have f65 : ¬ 65 ≤ (s[j].toNat : Int) := by omega
     have f48 : ¬ 48 ≤ (s[j].toNat : Int) := by omega
     have h122 : (s[j].toNat : Int) ≤ 122 := by omega
     have h90 : (s[j].toNat : Int) ≤ 90 := by omega
     have h57 : (s[j].toNat : Int) ≤ 57 := by omega
     have e43 : ((s[j].toNat : Int) == 43) = false := bqf (by omega);have e45 : ((s[j].toNat : Int) == 45) = false := bqf (by omega);go_wp2;go_ret
     exact ⟨⟨_, rfl⟩, Below.refl _ _⟩
    ·obtain ⟨i1, i2⟩ := hc;have f97 : ¬ 97 ≤ (s[j].toNat : Int) := by omega
     have f65 : ¬ 65 ≤ (s[j].toNat : Int) := by omega
     have f48 : ¬ 48 ≤ (s[j].toNat : Int) := by omega
     have h122 : (s[j].toNat : Int) ≤ 122 := by omega
     have h90 : (s[j].toNat : Int) ≤ 90 := by omega
     have h57 : (s[j].toNat : Int) ≤ 57 := by omega
     have e43 : ((s[j].toNat : Int) == 43) = true := by rw [beq_iff_eq]; omega
     have e45 : ((s[j].toNat : Int) == 45) = false := bqf (by omega);go_wp2;go_round
     case rel => exact ⟨j + 1, by omega, by go_num⟩
     case measure => simp [intOf]; omega
    ·obtain ⟨i1, i2⟩ := hc;have f97 : ¬ 97 ≤ (s[j].toNat : Int) := by omega
     have f65 : ¬ 65 ≤ (s[j].toNat : Int) := by omega
     have f48 : ¬ 48 ≤ (s[j].toNat : Int) := by omega
     have h122 : (s[j].toNat : Int) ≤ 122 := by omega
     have h90 : (s[j].toNat : Int) ≤ 90 := by omega
     have h57 : (s[j].toNat : Int) ≤ 57 := by omega
     have e43 : ((s[j].toNat : Int) == 43) = false := bqf (by omega);have e45 : ((s[j].toNat : Int) == 45) = false := bqf (by omega);go_wp2;go_ret
     exact ⟨⟨_, rfl⟩, Below.refl _ _⟩
    ·obtain ⟨i1, i2⟩ := hc;have f97 : ¬ 97 ≤ (s[j].toNat : Int) := by omega
     have f65 : ¬ 65 ≤ (s[j].toNat : Int) := by omega
     have f48 : ¬ 48 ≤ (s[j].toNat : Int) := by omega
     have h122 : (s[j].toNat : Int) ≤ 122 := by omega
     have h90 : (s[j].toNat : Int) ≤ 90 := by omega
     have h57 : (s[j].toNat : Int) ≤ 57 := by omega
     have e43 : ((s[j].toNat : Int) == 43) = false := bqf (by omega);have e45 : ((s[j].toNat : Int) == 45) = true := by rw [beq_iff_eq]; omega
     go_wp2;go_round
     case rel => exact ⟨j + 1, by omega, by go_num⟩
     case measure => simp [intOf]; omega
    ·obtain ⟨i1, i2⟩ := hc;have f97 : ¬ 97 ≤ (s[j].toNat : Int) := by omega
     have f65 : ¬ 65 ≤ (s[j].toNat : Int) := by omega
     have f48 : ¬ 48 ≤ (s[j].toNat : Int) := by omega
     have h122 : (s[j].toNat : Int) ≤ 122 := by omega
     have h90 : (s[j].toNat : Int) ≤ 90 := by omega
     have h57 : (s[j].toNat : Int) ≤ 57 := by omega
     have e43 : ((s[j].toNat : Int) == 43) = false := bqf (by omega);have e45 : ((s[j].toNat : Int) == 45) = false := bqf (by omega);go_wp2;go_ret
     exact ⟨⟨_, rfl⟩, Below.refl _ _⟩
    ·obtain ⟨i1, i2⟩ := hc;have f97 : ¬ 97 ≤ (s[j].toNat : Int) := by omega
     have f65 : ¬ 65 ≤ (s[j].toNat : Int) := by omega
     have f48 : 48 ≤ (s[j].toNat : Int) := by omega
     have h122 : (s[j].toNat : Int) ≤ 122 := by omega
     have h90 : (s[j].toNat : Int) ≤ 90 := by omega
     have h57 : (s[j].toNat : Int) ≤ 57 := by omega
     have e43 : ((s[j].toNat : Int) == 43) = false := bqf (by omega);have e45 : ((s[j].toNat : Int) == 45) = false := bqf (by omega);go_wp2;go_round
     case rel => exact ⟨j + 1, by omega, by go_num⟩
     case measure => simp [intOf]; omega
    ·obtain ⟨i1, i2⟩ := hc;have f97 : ¬ 97 ≤ (s[j].toNat : Int) := by omega
     have f65 : ¬ 65 ≤ (s[j].toNat : Int) := by omega
     have f48 : 48 ≤ (s[j].toNat : Int) := by omega
     have h122 : (s[j].toNat : Int) ≤ 122 := by omega
     have h90 : (s[j].toNat : Int) ≤ 90 := by omega
     have h57 : ¬ (s[j].toNat : Int) ≤ 57 := by omega
     have e43 : ((s[j].toNat : Int) == 43) = false := bqf (by omega);have e45 : ((s[j].toNat : Int) == 45) = false := bqf (by omega);go_wp2;go_ret
     exact ⟨⟨_, rfl⟩, Below.refl _ _⟩
    ·obtain ⟨i1, i2⟩ := hc;have f97 : ¬ 97 ≤ (s[j].toNat : Int) := by omega
     have f65 : 65 ≤ (s[j].toNat : Int) := by omega
     have f48 : 48 ≤ (s[j].toNat : Int) := by omega
     have h122 : (s[j].toNat : Int) ≤ 122 := by omega
     have h90 : (s[j].toNat : Int) ≤ 90 := by omega
     have h57 : ¬ (s[j].toNat : Int) ≤ 57 := by omega
     have e43 : ((s[j].toNat : Int) == 43) = false := bqf (by omega);have e45 : ((s[j].toNat : Int) == 45) = false := bqf (by omega);go_wp2;go_round
     case rel => exact ⟨j + 1, by omega, by go_num⟩
     case measure => simp [intOf]; omega
    ·obtain ⟨i1, i2⟩ := hc;have f97 : ¬ 97 ≤ (s[j].toNat : Int) := by omega
     have f65 : 65 ≤ (s[j].toNat : Int) := by omega
     have f48 : 48 ≤ (s[j].toNat : Int) := by omega
     have h122 : (s[j].toNat : Int) ≤ 122 := by omega
     have h90 : ¬ (s[j].toNat : Int) ≤ 90 := by omega
     have h57 : ¬ (s[j].toNat : Int) ≤ 57 := by omega
     have e43 : ((s[j].toNat : Int) == 43) = false := bqf (by omega);have e45 : ((s[j].toNat : Int) == 45) = false := bqf (by omega);go_wp2;go_ret
     exact ⟨⟨_, rfl⟩, Below.refl _ _⟩
    ·obtain ⟨i1, i2⟩ := hc;have f97 : 97 ≤ (s[j].toNat : Int) := by omega
     have f65 : 65 ≤ (s[j].toNat : Int) := by omega
     have f48 : 48 ≤ (s[j].toNat : Int) := by omega
     have h122 : (s[j].toNat : Int) ≤ 122 := by omega
     have h90 : ¬ (s[j].toNat : Int) ≤ 90 := by omega
     have h57 : ¬ (s[j].toNat : Int) ≤ 57 := by omega
     have e43 : ((s[j].toNat : Int) == 43) = false := bqf (by omega);have e45 : ((s[j].toNat : Int) == 45) = false := bqf (by omega);go_wp2;go_round
     case rel => exact ⟨j + 1, by omega, by go_num⟩
     case measure => simp [intOf]; omega
    ·obtain ⟨i1, i2⟩ := hc;have f97 : 97 ≤ (s[j].toNat : Int) := by omega
     have f65 : 65 ≤ (s[j].toNat : Int) := by omega
     have f48 : 48 ≤ (s[j].toNat : Int) := by omega
     have h122 : ¬ (s[j].toNat : Int) ≤ 122 := by omega
     have h90 : ¬ (s[j].toNat : Int) ≤ 90 := by omega
     have h57 : ¬ (s[j].toNat : Int) ≤ 57 := by omega
     have e43 : ((s[j].toNat : Int) == 43) = false := bqf (by omega);have e45 : ((s[j].toNat : Int) == 45) = false := bqf (by omega);go_wp2;go_ret
     exact ⟨⟨_, rfl⟩, Below.refl _ _⟩
  ·obtain rfl : j = s.size := by omega
   go_wp2;go_ret
   exact ⟨⟨_, rfl⟩, Below.refl _ _⟩
theorem refName_some (s : ByteArray) (w : World) (hs : s.size ≤ maxLen) :
  Calls Tryz.prog 159 #[.string s] w (Eg.SomeB w) := by
 unfold maxLen at hs
 by_cases h1 : (s.size : Int) < 1
 ·go_enter Tryz.func159, Tryz.ntmps159
  go_wp2;go_ret
  exact ⟨⟨_, rfl⟩, Below.refl _ _⟩
 by_cases h2 : (64 : Int) < (s.size : Int)
 ·go_enter Tryz.func159, Tryz.ntmps159
  go_wp2;go_ret
  exact ⟨⟨_, rfl⟩, Below.refl _ _⟩
 go_enter Tryz.func159, Tryz.ntmps159
 go_wp2;go_loop [3] (fun i => ∃ j : Nat, j ≤ s.size ∧ i = .int .i64 j) (fun i => s.size - (intOf i).toNat)
 case atStart => exact ⟨0, Nat.zero_le _, rfl⟩
 case round =>
  obtain ⟨j, hj, rfl⟩ := hrel
  by_cases hlj : j < s.size
  ·have p1 : (0 : Int) ≤ (j : Int) := by omega
   have p2 : (j : Int) < (s.size : Int) := by omega
   obtain ⟨b1, b2⟩ := u8_bd s[j];have hcs := Ru.cases_ (s[j].toNat : Int) b1 b2
   ·rcases hcs with hc | hc | hc | hc | hc | hc | hc | hc | hc | hc | hc | hc | hc | hc
    ·obtain ⟨i1, i2⟩ := hc;have f97 : ¬ 97 ≤ (s[j].toNat : Int) := by omega
     have f65 : ¬ 65 ≤ (s[j].toNat : Int) := by omega
     have f48 : ¬ 48 ≤ (s[j].toNat : Int) := by omega
     have h122 : (s[j].toNat : Int) ≤ 122 := by omega
     have h90 : (s[j].toNat : Int) ≤ 90 := by omega
     have h57 : (s[j].toNat : Int) ≤ 57 := by omega
     have e43 : ((s[j].toNat : Int) == 43) = false := bqf (by omega);have e45 : ((s[j].toNat : Int) == 45) = false := bqf (by omega);have e47 : ((s[j].toNat : Int) == 47) = false := bqf (by omega);have e95 : ((s[j].toNat : Int) == 95) = false := bqf (by omega);rcases Nat.eq_zero_or_pos j with rfl | hj0
     ·go_wp2;go_ret
      exact ⟨⟨_, rfl⟩, Below.refl _ _⟩
     ·have ej : ((j : Int) == 0) = false := bqf (by omega);go_wp2;go_ret
      exact ⟨⟨_, rfl⟩, Below.refl _ _⟩
    ·obtain ⟨i1, i2⟩ := hc;have f97 : ¬ 97 ≤ (s[j].toNat : Int) := by omega
     have f65 : ¬ 65 ≤ (s[j].toNat : Int) := by omega
     have f48 : ¬ 48 ≤ (s[j].toNat : Int) := by omega
     have h122 : (s[j].toNat : Int) ≤ 122 := by omega
     have h90 : (s[j].toNat : Int) ≤ 90 := by omega
     have h57 : (s[j].toNat : Int) ≤ 57 := by omega
     have e43 : ((s[j].toNat : Int) == 43) = true := by rw [beq_iff_eq]; omega
     have e45 : ((s[j].toNat : Int) == 45) = false := bqf (by omega);have e47 : ((s[j].toNat : Int) == 47) = false := bqf (by omega);have e95 : ((s[j].toNat : Int) == 95) = false := bqf (by omega);rcases Nat.eq_zero_or_pos j with rfl | hj0
     ·go_wp2;go_ret
      exact ⟨⟨_, rfl⟩, Below.refl _ _⟩
     ·have ej : ((j : Int) == 0) = false := bqf (by omega);go_wp2;go_round
      case rel => exact ⟨j + 1, by omega, by go_num⟩
      case measure => simp [intOf]; omega
    ·obtain ⟨i1, i2⟩ := hc;have f97 : ¬ 97 ≤ (s[j].toNat : Int) := by omega
     have f65 : ¬ 65 ≤ (s[j].toNat : Int) := by omega
     have f48 : ¬ 48 ≤ (s[j].toNat : Int) := by omega
     have h122 : (s[j].toNat : Int) ≤ 122 := by omega
     have h90 : (s[j].toNat : Int) ≤ 90 := by omega
     have h57 : (s[j].toNat : Int) ≤ 57 := by omega
     have e43 : ((s[j].toNat : Int) == 43) = false := bqf (by omega);have e45 : ((s[j].toNat : Int) == 45) = false := bqf (by omega);have e47 : ((s[j].toNat : Int) == 47) = false := bqf (by omega);have e95 : ((s[j].toNat : Int) == 95) = false := bqf (by omega);rcases Nat.eq_zero_or_pos j with rfl | hj0
     ·go_wp2;go_ret
      exact ⟨⟨_, rfl⟩, Below.refl _ _⟩
     ·have ej : ((j : Int) == 0) = false := bqf (by omega);go_wp2;go_ret
      exact ⟨⟨_, rfl⟩, Below.refl _ _⟩
    ·obtain ⟨i1, i2⟩ := hc;have f97 : ¬ 97 ≤ (s[j].toNat : Int) := by omega
     have f65 : ¬ 65 ≤ (s[j].toNat : Int) := by omega
     have f48 : ¬ 48 ≤ (s[j].toNat : Int) := by omega
     have h122 : (s[j].toNat : Int) ≤ 122 := by omega
     have h90 : (s[j].toNat : Int) ≤ 90 := by omega
     have h57 : (s[j].toNat : Int) ≤ 57 := by omega
     have e43 : ((s[j].toNat : Int) == 43) = false := bqf (by omega);have e45 : ((s[j].toNat : Int) == 45) = true := by rw [beq_iff_eq]; omega
     have e47 : ((s[j].toNat : Int) == 47) = false := bqf (by omega);have e95 : ((s[j].toNat : Int) == 95) = false := bqf (by omega);rcases Nat.eq_zero_or_pos j with rfl | hj0
     ·go_wp2;go_ret
      exact ⟨⟨_, rfl⟩, Below.refl _ _⟩
     ·have ej : ((j : Int) == 0) = false := bqf (by omega);go_wp2;go_round
      case rel => exact ⟨j + 1, by omega, by go_num⟩
      case measure => simp [intOf]; omega
    ·obtain ⟨i1, i2⟩ := hc;have f97 : ¬ 97 ≤ (s[j].toNat : Int) := by omega
     have f65 : ¬ 65 ≤ (s[j].toNat : Int) := by omega
     have f48 : ¬ 48 ≤ (s[j].toNat : Int) := by omega
     have h122 : (s[j].toNat : Int) ≤ 122 := by omega
     have h90 : (s[j].toNat : Int) ≤ 90 := by omega
     have h57 : (s[j].toNat : Int) ≤ 57 := by omega
     have e43 : ((s[j].toNat : Int) == 43) = false := bqf (by omega);have e45 : ((s[j].toNat : Int) == 45) = false := bqf (by omega);have e47 : ((s[j].toNat : Int) == 47) = false := bqf (by omega);have e95 : ((s[j].toNat : Int) == 95) = false := bqf (by omega);rcases Nat.eq_zero_or_pos j with rfl | hj0
     ·go_wp2;go_ret
      exact ⟨⟨_, rfl⟩, Below.refl _ _⟩
     ·have ej : ((j : Int) == 0) = false := bqf (by omega);go_wp2;go_ret
      exact ⟨⟨_, rfl⟩, Below.refl _ _⟩
    ·obtain ⟨i1, i2⟩ := hc;have f97 : ¬ 97 ≤ (s[j].toNat : Int) := by omega
     have f65 : ¬ 65 ≤ (s[j].toNat : Int) := by omega
     have f48 : ¬ 48 ≤ (s[j].toNat : Int) := by omega
     have h122 : (s[j].toNat : Int) ≤ 122 := by omega
     have h90 : (s[j].toNat : Int) ≤ 90 := by omega
     have h57 : (s[j].toNat : Int) ≤ 57 := by omega
     have e43 : ((s[j].toNat : Int) == 43) = false := bqf (by omega);have e45 : ((s[j].toNat : Int) == 45) = false := bqf (by omega);have e47 : ((s[j].toNat : Int) == 47) = true := by rw [beq_iff_eq]; omega
     have e95 : ((s[j].toNat : Int) == 95) = false := bqf (by omega);rcases Nat.eq_zero_or_pos j with rfl | hj0
     ·go_wp2;go_ret
      exact ⟨⟨_, rfl⟩, Below.refl _ _⟩
     ·have ej : ((j : Int) == 0) = false := bqf (by omega);go_wp2;go_round
      case rel => exact ⟨j + 1, by omega, by go_num⟩
      case measure => simp [intOf]; omega
    ·obtain ⟨i1, i2⟩ := hc;have f97 : ¬ 97 ≤ (s[j].toNat : Int) := by omega
     have f65 : ¬ 65 ≤ (s[j].toNat : Int) := by omega
     have f48 : 48 ≤ (s[j].toNat : Int) := by omega
     have h122 : (s[j].toNat : Int) ≤ 122 := by omega
     have h90 : (s[j].toNat : Int) ≤ 90 := by omega
     have h57 : (s[j].toNat : Int) ≤ 57 := by omega
     have e43 : ((s[j].toNat : Int) == 43) = false := bqf (by omega);have e45 : ((s[j].toNat : Int) == 45) = false := bqf (by omega);have e47 : ((s[j].toNat : Int) == 47) = false := bqf (by omega);have e95 : ((s[j].toNat : Int) == 95) = false := bqf (by omega);rcases Nat.eq_zero_or_pos j with rfl | hj0
     ·go_wp2;go_ret
      exact ⟨⟨_, rfl⟩, Below.refl _ _⟩
     ·have ej : ((j : Int) == 0) = false := bqf (by omega);go_wp2;go_round
      case rel => exact ⟨j + 1, by omega, by go_num⟩
      case measure => simp [intOf]; omega
    ·obtain ⟨i1, i2⟩ := hc;have f97 : ¬ 97 ≤ (s[j].toNat : Int) := by omega
     have f65 : ¬ 65 ≤ (s[j].toNat : Int) := by omega
     have f48 : 48 ≤ (s[j].toNat : Int) := by omega
     have h122 : (s[j].toNat : Int) ≤ 122 := by omega
     have h90 : (s[j].toNat : Int) ≤ 90 := by omega
     have h57 : ¬ (s[j].toNat : Int) ≤ 57 := by omega
     have e43 : ((s[j].toNat : Int) == 43) = false := bqf (by omega);have e45 : ((s[j].toNat : Int) == 45) = false := bqf (by omega);have e47 : ((s[j].toNat : Int) == 47) = false := bqf (by omega);have e95 : ((s[j].toNat : Int) == 95) = false := bqf (by omega);rcases Nat.eq_zero_or_pos j with rfl | hj0
     ·go_wp2;go_ret
      exact ⟨⟨_, rfl⟩, Below.refl _ _⟩
     ·have ej : ((j : Int) == 0) = false := bqf (by omega);go_wp2;go_ret
      exact ⟨⟨_, rfl⟩, Below.refl _ _⟩
    ·obtain ⟨i1, i2⟩ := hc;have f97 : ¬ 97 ≤ (s[j].toNat : Int) := by omega
     have f65 : 65 ≤ (s[j].toNat : Int) := by omega
     have f48 : 48 ≤ (s[j].toNat : Int) := by omega
     have h122 : (s[j].toNat : Int) ≤ 122 := by omega
     have h90 : (s[j].toNat : Int) ≤ 90 := by omega
     have h57 : ¬ (s[j].toNat : Int) ≤ 57 := by omega
     have e43 : ((s[j].toNat : Int) == 43) = false := bqf (by omega);have e45 : ((s[j].toNat : Int) == 45) = false := bqf (by omega);have e47 : ((s[j].toNat : Int) == 47) = false := bqf (by omega);have e95 : ((s[j].toNat : Int) == 95) = false := bqf (by omega);go_wp2;go_round
     case rel => exact ⟨j + 1, by omega, by go_num⟩
     case measure => simp [intOf]; omega
    ·obtain ⟨i1, i2⟩ := hc;have f97 : ¬ 97 ≤ (s[j].toNat : Int) := by omega
     have f65 : 65 ≤ (s[j].toNat : Int) := by omega
     have f48 : 48 ≤ (s[j].toNat : Int) := by omega
     have h122 : (s[j].toNat : Int) ≤ 122 := by omega
     have h90 : ¬ (s[j].toNat : Int) ≤ 90 := by omega
     have h57 : ¬ (s[j].toNat : Int) ≤ 57 := by omega
     have e43 : ((s[j].toNat : Int) == 43) = false := bqf (by omega);have e45 : ((s[j].toNat : Int) == 45) = false := bqf (by omega);have e47 : ((s[j].toNat : Int) == 47) = false := bqf (by omega);have e95 : ((s[j].toNat : Int) == 95) = false := bqf (by omega);rcases Nat.eq_zero_or_pos j with rfl | hj0
     ·go_wp2;go_ret
      exact ⟨⟨_, rfl⟩, Below.refl _ _⟩
     ·have ej : ((j : Int) == 0) = false := bqf (by omega);go_wp2;go_ret
      exact ⟨⟨_, rfl⟩, Below.refl _ _⟩
    ·obtain ⟨i1, i2⟩ := hc;have f97 : ¬ 97 ≤ (s[j].toNat : Int) := by omega
     have f65 : 65 ≤ (s[j].toNat : Int) := by omega
     have f48 : 48 ≤ (s[j].toNat : Int) := by omega
     have h122 : (s[j].toNat : Int) ≤ 122 := by omega
     have h90 : ¬ (s[j].toNat : Int) ≤ 90 := by omega
     have h57 : ¬ (s[j].toNat : Int) ≤ 57 := by omega
     have e43 : ((s[j].toNat : Int) == 43) = false := bqf (by omega);have e45 : ((s[j].toNat : Int) == 45) = false := bqf (by omega);have e47 : ((s[j].toNat : Int) == 47) = false := bqf (by omega);have e95 : ((s[j].toNat : Int) == 95) = true := by rw [beq_iff_eq]; omega
     go_wp2;go_round
     case rel => exact ⟨j + 1, by omega, by go_num⟩
     case measure => simp [intOf]; omega
    ·obtain ⟨i1, i2⟩ := hc;have f97 : ¬ 97 ≤ (s[j].toNat : Int) := by omega
     have f65 : 65 ≤ (s[j].toNat : Int) := by omega
     have f48 : 48 ≤ (s[j].toNat : Int) := by omega
     have h122 : (s[j].toNat : Int) ≤ 122 := by omega
     have h90 : ¬ (s[j].toNat : Int) ≤ 90 := by omega
     have h57 : ¬ (s[j].toNat : Int) ≤ 57 := by omega
     have e43 : ((s[j].toNat : Int) == 43) = false := bqf (by omega);have e45 : ((s[j].toNat : Int) == 45) = false := bqf (by omega);have e47 : ((s[j].toNat : Int) == 47) = false := bqf (by omega);have e95 : ((s[j].toNat : Int) == 95) = false := bqf (by omega);rcases Nat.eq_zero_or_pos j with rfl | hj0
     ·go_wp2;go_ret
      exact ⟨⟨_, rfl⟩, Below.refl _ _⟩
     ·have ej : ((j : Int) == 0) = false := bqf (by omega);go_wp2;go_ret
      exact ⟨⟨_, rfl⟩, Below.refl _ _⟩
    ·obtain ⟨i1, i2⟩ := hc;have f97 : 97 ≤ (s[j].toNat : Int) := by omega
     have f65 : 65 ≤ (s[j].toNat : Int) := by omega
     have f48 : 48 ≤ (s[j].toNat : Int) := by omega
     have h122 : (s[j].toNat : Int) ≤ 122 := by omega
     have h90 : ¬ (s[j].toNat : Int) ≤ 90 := by omega
     have h57 : ¬ (s[j].toNat : Int) ≤ 57 := by omega
     have e43 : ((s[j].toNat : Int) == 43) = false := bqf (by omega);have e45 : ((s[j].toNat : Int) == 45) = false := bqf (by omega);have e47 : ((s[j].toNat : Int) == 47) = false := bqf (by omega);have e95 : ((s[j].toNat : Int) == 95) = false := bqf (by omega);go_wp2;go_round
     case rel => exact ⟨j + 1, by omega, by go_num⟩
     case measure => simp [intOf]; omega
    ·obtain ⟨i1, i2⟩ := hc;have f97 : 97 ≤ (s[j].toNat : Int) := by omega
     have f65 : 65 ≤ (s[j].toNat : Int) := by omega
     have f48 : 48 ≤ (s[j].toNat : Int) := by omega
     have h122 : ¬ (s[j].toNat : Int) ≤ 122 := by omega
     have h90 : ¬ (s[j].toNat : Int) ≤ 90 := by omega
     have h57 : ¬ (s[j].toNat : Int) ≤ 57 := by omega
     have e43 : ((s[j].toNat : Int) == 43) = false := bqf (by omega);have e45 : ((s[j].toNat : Int) == 45) = false := bqf (by omega);have e47 : ((s[j].toNat : Int) == 47) = false := bqf (by omega);have e95 : ((s[j].toNat : Int) == 95) = false := bqf (by omega);rcases Nat.eq_zero_or_pos j with rfl | hj0
     ·go_wp2;go_ret
      exact ⟨⟨_, rfl⟩, Below.refl _ _⟩
     ·have ej : ((j : Int) == 0) = false := bqf (by omega);go_wp2;go_ret
      exact ⟨⟨_, rfl⟩, Below.refl _ _⟩
  ·obtain rfl : j = s.size := by omega
   go_wp2;go_ret
   exact ⟨⟨_, rfl⟩, Below.refl _ _⟩
theorem refLetter_some (s : ByteArray) (w : World) (hs : s.size ≤ maxLen) :
  Calls Tryz.prog 163 #[.string s] w (Eg.SomeN w) := by
 have HS := Lib.hid fun W => refSigns_some s W hs
 unfold maxLen at hs
 by_cases h1 : (32 : Int) < (s.size : Int)
 ·go_enter Tryz.func163, Tryz.ntmps163
  go_wp2;go_ret
  exact ⟨.inr rfl, Below.refl _ _⟩
 obtain ⟨d, hd⟩ : ∃ d, (s.toList == [45]) = d := ⟨_, rfl⟩
 go_enter Tryz.func163, Tryz.ntmps163
 go_wp2_with fail
 refine (HS.out _).mono ?_;rintro e w1 ⟨⟨b, rfl⟩, hb⟩;have HB := Lib.hid hb;clear hb;cases b with
 | false =>
  go_wp2;go_ret
  exact ⟨.inr rfl, HB.out⟩
 | true =>
  cases d with
  | true =>
   go_wp2;go_ret
   exact ⟨.inr rfl, HB.out⟩
  | false =>
   go_wp2;go_ret
   exact ⟨.inl rfl, HB.out⟩
end Go.Proofs.YtjobhjemnmleaaaGreatDoor
namespace Go.Proofs.YtjobhjemnmleaaaGreatDoor
open Go.RowKit
theorem refDayCheck_neg (k n d : Int) (w : World) (h0 : k < 0) :
  Calls Tryz.prog 160 #[.agg #[.int .u8 k, .int .i64 n, .int .i64 d]] w fun e w' => e = .returned (.int .i64 2) ∧ Below w.heap.size w w' := by
 have e0 : (k == 0) = false := bqf (by omega);have e1 : (k == 1) = false := bqf (by omega);have e2 : (k == 2) = false := bqf (by omega);have e3 : (k == 3) = false := bqf (by omega);have hn : (1 ≤ n ∧ n ≤ 31) ∨ n < 1 ∨ (1 ≤ n ∧ 31 < n) := by omega
 have hd : (0 ≤ d ∧ d ≤ 6) ∨ d < 0 ∨ (0 ≤ d ∧ 6 < d) := by omega
 rcases hn with ⟨n1, n2⟩ | n1 | ⟨n1, n2⟩
 all_goals
  rcases hd with ⟨d1, d2⟩ | d1 | ⟨d1, d2⟩
  all_goals
   go_enter Tryz.func160, Tryz.ntmps160
   go_wp2;go_ret
   exact ⟨rfl, (Below.refl _ _).alloc (Nat.le_refl _) _⟩
theorem refRule_some (nm : ByteArray) (fr tt mo k n d sc cc sv : Int) (lt : ByteArray) (w : World) (h1 : nm.size ≤ maxLen) (h2 : lt.size ≤ maxLen) :
  Calls Tryz.prog 125 #[.agg #[.string nm, .int .i64 fr, .int .i64 tt, .int .i64 mo, .int .u8 k, .int .i64 n, .int .i64 d, .int .i64 sc, .int .u8 cc, .int .i64 sv, .string lt]] w (Eg.SomeC fr tt w) := by
 have HN := Lib.hid fun W => refName_some nm W h1
 have HL := Lib.hid fun W => refLetter_some lt W h2
 have HD : Hid (∀ W, Calls Tryz.prog 160 #[.agg #[.int .u8 k, .int .i64 n, .int .i64 d]] W (Eg.SomeN W)) := fun W => by
  by_cases h : Dy.Ok k n d
  ·exact (refDayCheck_ok k n d W h).mono fun e w' he => ⟨.inl he.1, he.2⟩
  ·by_cases hk : 0 ≤ k
   ·exact (refDayCheck_bad k n d W hk h).mono fun e w' he => ⟨.inr he.1, he.2⟩
   ·exact (refDayCheck_neg k n d W (by omega)).mono fun e w' he => ⟨.inr he.1, he.2⟩
 have HM : Hid (∀ W, Calls Tryz.prog 161 #[.agg #[.int .i64 sc, .int .u8 cc]] W (Eg.SomeN W)) := fun W => by
  by_cases h : Mo.Ok sc cc
  ·exact (refMomCheck_ok sc cc W h).mono fun e w' he => ⟨.inl he.1, he.2⟩
  ·exact (refMomCheck_bad sc cc W h).mono fun e w' he => ⟨.inr he.1, he.2⟩
 have HT := Lib.hid fun W => refText_any sv W
 obtain ⟨X, hX⟩ : ∃ X, mk (Ck.text sv) = X := ⟨_, rfl⟩
 rw [hX] at HT;obtain ⟨xe, hxe⟩ : ∃ b, X.toList.isEmpty = b := ⟨_, rfl⟩
 have hA0 := Lib.hid (At.new w #[.string nm, .int .i64 fr, .int .i64 tt, .int .i64 mo, .int .u8 k, .int .i64 n, .int .i64 d, .int .i64 sc, .int .u8 cc, .int .i64 sv, .string lt] 112);have hB0 := Lib.hid ((Below.refl w.heap.size w).alloc (Nat.le_refl _) (.cells #[.string nm, .int .i64 fr, .int .i64 tt, .int .i64 mo, .int .u8 k, .int .i64 n, .int .i64 d, .int .i64 sc, .int .u8 cc, .int .i64 sv, .string lt] 112));clear h1 h2 hX;go_enter Tryz.func125, Tryz.ntmps125
 go_wp2_with fail
 refine (HN.out _).mono ?_;rintro e w1 ⟨⟨b, rfl⟩, hb⟩;have HA := Lib.hid (hA0.out.call hb);have HB := Lib.hid (below_then hB0.out hb);clear hb hA0 hB0;have a0 := HA.out.cell 0 _ rfl;have a1 := HA.out.cell 1 _ rfl;have a2 := HA.out.cell 2 _ rfl;have a3 := HA.out.cell 3 _ rfl;have a4 := HA.out.cell 4 _ rfl;have a5 := HA.out.cell 5 _ rfl;have a6 := HA.out.cell 6 _ rfl;have a7 := HA.out.cell 7 _ rfl;have a8 := HA.out.cell 8 _ rfl;have a9 := HA.out.cell 9 _ rfl;have a10 := HA.out.cell 10 _ rfl;cases b with
 | false =>
  go_wp2;go_ret
  exact ⟨.inr rfl, HB.out⟩
 | true =>
  by_cases q1 : fr < 1
  ·go_wp2;go_ret
   exact ⟨.inr rfl, HB.out⟩
  by_cases q2 : (9999 : Int) < tt
  ·go_wp2;go_ret
   exact ⟨.inr rfl, HB.out⟩
  by_cases q3 : tt < fr
  ·go_wp2;go_ret
   exact ⟨.inr rfl, HB.out⟩
  by_cases q4 : mo < 1
  ·go_wp2;go_ret
   exact ⟨.inr rfl, HB.out⟩
  by_cases q5 : (12 : Int) < mo
  ·go_wp2;go_ret
   exact ⟨.inr rfl, HB.out⟩
  go_wp2_with fail
  refine (HD.out _).mono ?_;rintro e w2 ⟨he, hb⟩;replace HA := Lib.hid (HA.out.call hb);replace HB := Lib.hid (below_then HB.out hb);clear hb a0 a1 a2 a3 a4 a5 a6 a7 a8 a9 a10;have a0 := HA.out.cell 0 _ rfl;have a1 := HA.out.cell 1 _ rfl;have a2 := HA.out.cell 2 _ rfl;have a3 := HA.out.cell 3 _ rfl;have a4 := HA.out.cell 4 _ rfl;have a5 := HA.out.cell 5 _ rfl;have a6 := HA.out.cell 6 _ rfl;have a7 := HA.out.cell 7 _ rfl;have a8 := HA.out.cell 8 _ rfl;have a9 := HA.out.cell 9 _ rfl;have a10 := HA.out.cell 10 _ rfl;rcases he with rfl | rfl
  rotate_left
  ·go_wp2;go_ret
   exact ⟨.inr rfl, HB.out⟩
  go_wp2_with fail
  refine (HM.out _).mono ?_;rintro e w3 ⟨he, hb⟩;replace HA := Lib.hid (HA.out.call hb);replace HB := Lib.hid (below_then HB.out hb);clear hb a0 a1 a2 a3 a4 a5 a6 a7 a8 a9 a10;have a0 := HA.out.cell 0 _ rfl;have a1 := HA.out.cell 1 _ rfl;have a2 := HA.out.cell 2 _ rfl;have a3 := HA.out.cell 3 _ rfl;have a4 := HA.out.cell 4 _ rfl;have a5 := HA.out.cell 5 _ rfl;have a6 := HA.out.cell 6 _ rfl;have a7 := HA.out.cell 7 _ rfl;have a8 := HA.out.cell 8 _ rfl;have a9 := HA.out.cell 9 _ rfl;have a10 := HA.out.cell 10 _ rfl;rcases he with rfl | rfl
  rotate_left
  ·go_wp2;go_ret
   exact ⟨.inr rfl, HB.out⟩
  go_wp2_with fail
  refine (HT.out _).mono ?_;rintro e w4 ⟨rfl, hb⟩;replace HA := Lib.hid (HA.out.call hb);replace HB := Lib.hid (below_then HB.out hb);clear hb a0 a1 a2 a3 a4 a5 a6 a7 a8 a9 a10;have a0 := HA.out.cell 0 _ rfl;have a1 := HA.out.cell 1 _ rfl;have a2 := HA.out.cell 2 _ rfl;have a3 := HA.out.cell 3 _ rfl;have a4 := HA.out.cell 4 _ rfl;have a5 := HA.out.cell 5 _ rfl;have a6 := HA.out.cell 6 _ rfl;have a7 := HA.out.cell 7 _ rfl;have a8 := HA.out.cell 8 _ rfl;have a9 := HA.out.cell 9 _ rfl;have a10 := HA.out.cell 10 _ rfl;cases xe with
  | true =>
   go_wp2;go_ret
   exact ⟨.inr rfl, HB.out⟩
  | false =>
   go_wp2_with fail
   refine (HL.out _).mono ?_;rintro e w5 ⟨he, hb⟩;replace HB := Lib.hid (below_then HB.out hb);clear hb;rcases he with rfl | rfl
   ·go_wp2;go_ret
    exact ⟨.inl ⟨rfl, by omega, by omega, by omega⟩, HB.out⟩
   ·go_wp2;go_ret
    exact ⟨.inr rfl, HB.out⟩
theorem near15_some (l : List Ru.R) (A : Option Addr) (c : Nat) (hi : Int) (w : World) (hR : Reads w w.heap.size 11 A l.length (l.flatMap Ru.R.cells)) (hs : ∀ r ∈ l, r.nm.size ≤ maxLen ∧ r.lt.size ≤ maxLen) (hhi : 0 ≤ hi ∧ hi ≤ 10000) :
  Calls Tryz.prog 86 #[.slice A l.length c, .int .i64 hi] w (Eg.SomeZ w) := by
 obtain ⟨m, hm⟩ : ∃ m, l.length = m := ⟨_, rfl⟩
 rw [hm] at hR ⊢;have HR := Lib.hid hR;have HM := Lib.hid hm;have HS := Lib.hid hs;have HB0 := Lib.hid (Below.refl w.heap.size w);clear hR hs hm
 by_cases h12 : (12 : Int) < (m : Int)
 ·go_enter Tryz.func86, Tryz.ntmps86
  go_wp2;go_ret
  exact ⟨.inl rfl, HB0.out⟩
 go_enter Tryz.func86, Tryz.ntmps86
 go_wp2;go_loopw [12] (fun i wr => ∃ j : Nat, j ≤ m ∧ i = .int .i64 (j : Int) ∧ Hid (Below w.heap.size w wr)) (fun i _ => m - (intOf i).toNat)
 case atStart => exact ⟨0, Nat.zero_le _, rfl, HB0.out⟩
 case round =>
  obtain ⟨j, hj, rfl, HB⟩ := hrel
  by_cases hlt : j < m
  ·have p1 : (0 : Int) ≤ (j : Int) := by omega
   have p2 : (j : Int) < (m : Int) := by omega
   obtain ⟨ad, x, rfl, hab, Hx, HL⟩ := Ix.reads_cells (enc := Ru.R.cells) (m := 11) (fun _ => rfl) HM.out (HR.out.below HB.out) hlt;have hmem := List.mem_of_getElem? Hx.out;have hs := HS.out x hmem;obtain ⟨nm, fr, tt, mo, k, n, d, sc, cc, sv, lt⟩ := x;simp only at hs;have y0 : wr.cell? (ad.add (j * 11)) = some (.string nm) := HL.out 0 _ rfl;have y1 : wr.cell? ⟨(ad.add (j * 11)).block, (ad.add (j * 11)).off + 1, none⟩ = some (.int .i64 fr) := HL.out 1 _ rfl;have y2 : wr.cell? ⟨(ad.add (j * 11)).block, (ad.add (j * 11)).off + 2, none⟩ = some (.int .i64 tt) := HL.out 2 _ rfl;have y3 : wr.cell? ⟨(ad.add (j * 11)).block, (ad.add (j * 11)).off + 3, none⟩ = some (.int .i64 mo) := HL.out 3 _ rfl;have y4 : wr.cell? ⟨(ad.add (j * 11)).block, (ad.add (j * 11)).off + 4, none⟩ = some (.int .u8 k) := HL.out 4 _ rfl;have y5 : wr.cell? ⟨(ad.add (j * 11)).block, (ad.add (j * 11)).off + 5, none⟩ = some (.int .i64 n) := HL.out 5 _ rfl;have y6 : wr.cell? ⟨(ad.add (j * 11)).block, (ad.add (j * 11)).off + 6, none⟩ = some (.int .i64 d) := HL.out 6 _ rfl;have y7 : wr.cell? ⟨(ad.add (j * 11)).block, (ad.add (j * 11)).off + 7, none⟩ = some (.int .i64 sc) := HL.out 7 _ rfl;have y8 : wr.cell? ⟨(ad.add (j * 11)).block, (ad.add (j * 11)).off + 8, none⟩ = some (.int .u8 cc) := HL.out 8 _ rfl;have y9 : wr.cell? ⟨(ad.add (j * 11)).block, (ad.add (j * 11)).off + 9, none⟩ = some (.int .i64 sv) := HL.out 9 _ rfl;have y10 : wr.cell? ⟨(ad.add (j * 11)).block, (ad.add (j * 11)).off + 10, none⟩ = some (.string lt) := HL.out 10 _ rfl
   have HC := Lib.hid fun W => refRule_some nm fr tt mo k n d sc cc sv lt W hs.1 hs.2
   have hA0 := At.new wr #[.string nm, .int .i64 fr, .int .i64 tt, .int .i64 mo, .int .u8 k, .int .i64 n, .int .i64 d, .int .i64 sc, .int .u8 cc, .int .i64 sv, .string lt] 112;have hB0 := (Below.refl wr.heap.size wr).alloc (Nat.le_refl _) (.cells #[.string nm, .int .i64 fr, .int .i64 tt, .int .i64 mo, .int .u8 k, .int .i64 n, .int .i64 d, .int .i64 sc, .int .u8 cc, .int .i64 sv, .string lt] 112);have HB1 := Lib.hid (HB.out.alloc HB.out.size (.cells #[.string nm, .int .i64 fr, .int .i64 tt, .int .i64 mo, .int .u8 k, .int .i64 n, .int .i64 d, .int .i64 sc, .int .u8 cc, .int .i64 sv, .string lt] 112));have HA0 := Lib.hid hA0;obtain ⟨hs1, hs2⟩ := hs;unfold maxLen at hs1 hs2;clear hA0 hB0 hmem Hx HL
   by_cases l1 : (1000 : Int) < (nm.size : Int)
   ·go_wp2;go_ret
    exact ⟨.inl rfl, HB1.out⟩
   by_cases l2 : (1000 : Int) < (lt.size : Int)
   ·go_wp2;go_ret
    exact ⟨.inl rfl, HB1.out⟩
   go_wp2_with fail
   refine (HC.out _).mono ?_;rintro e w1 ⟨he, hb⟩;have HA := Lib.hid (HA0.out.call hb);replace HB := Lib.hid (below_then HB1.out hb);clear hb HB1 HC y0 y1 y2 y3 y4 y5 y6 y7 y8 y9 y10;have a0 := HA.out.cell 0 _ rfl;have a1 := HA.out.cell 1 _ rfl;have a2 := HA.out.cell 2 _ rfl;have a3 := HA.out.cell 3 _ rfl;have a4 := HA.out.cell 4 _ rfl;have a5 := HA.out.cell 5 _ rfl;have a6 := HA.out.cell 6 _ rfl;have a7 := HA.out.cell 7 _ rfl;have a8 := HA.out.cell 8 _ rfl;have a9 := HA.out.cell 9 _ rfl;have a10 := HA.out.cell 10 _ rfl;rcases he with ⟨rfl, r1, r2, r3⟩ | rfl
   ·by_cases hmin : tt ≤ hi
    ·by_cases hf : fr < tt - 80
     ·go_wp2;go_ret
      exact ⟨.inl rfl, HB.out⟩
     ·go_wp2;go_roundw
      case rel => exact ⟨j + 1, by omega, by go_num, HB.out⟩
      case measure => simp [intOf]; omega
    ·by_cases hf : fr < hi - 80
     ·go_wp2;go_ret
      exact ⟨.inl rfl, HB.out⟩
     ·go_wp2;go_roundw
      case rel => exact ⟨j + 1, by omega, by go_num, HB.out⟩
      case measure => simp [intOf]; omega
   ·go_wp2;go_roundw
    case rel => exact ⟨j + 1, by omega, by go_num, HB.out⟩
    case measure => simp [intOf]; omega
  ·obtain rfl : j = m := by omega
   go_wp2;go_ret
   exact ⟨.inr rfl, HB.out⟩
end Go.Proofs.YtjobhjemnmleaaaGreatDoor
