/- markup's functions of one byte. -/
import Derived.Test.YtjbgmbhifnihaaaDoorMkMath
import Derived.Test.YtjbgmbhifnihaaaDoorShelf
namespace Go.Proofs.YtjbgmbhifnihaaaDoor
open Go.RowKit

namespace Mk
theorem byte_all {P : UInt8 → Prop} (h : ∀ n : Fin 256, P (UInt8.ofNat n.val)) (b : UInt8) : P b := by
  have h2 := h ⟨b.toNat, b.toNat_lt⟩
  rwa [UInt8.ofNat_toNat] at h2

theorem white_cases (b : UInt8) : (0 ≤ b.toNat ∧ b.toNat ≤ 8 ∧ white b = false) ∨ (9 ≤ b.toNat ∧ b.toNat ≤ 9 ∧ white b = true) ∨ (10 ≤ b.toNat ∧ b.toNat ≤ 10 ∧ white b = true) ∨ (11 ≤ b.toNat ∧ b.toNat ≤ 12 ∧ white b = false) ∨ (13 ≤ b.toNat ∧ b.toNat ≤ 13 ∧ white b = true) ∨ (14 ≤ b.toNat ∧ b.toNat ≤ 31 ∧ white b = false) ∨ (32 ≤ b.toNat ∧ b.toNat ≤ 32 ∧ white b = true) ∨ (33 ≤ b.toNat ∧ b.toNat ≤ 255 ∧ white b = false) :=
  byte_all (P := fun b => (0 ≤ b.toNat ∧ b.toNat ≤ 8 ∧ white b = false) ∨ (9 ≤ b.toNat ∧ b.toNat ≤ 9 ∧ white b = true) ∨ (10 ≤ b.toNat ∧ b.toNat ≤ 10 ∧ white b = true) ∨ (11 ≤ b.toNat ∧ b.toNat ≤ 12 ∧ white b = false) ∨ (13 ≤ b.toNat ∧ b.toNat ≤ 13 ∧ white b = true) ∨ (14 ≤ b.toNat ∧ b.toNat ≤ 31 ∧ white b = false) ∨ (32 ≤ b.toNat ∧ b.toNat ≤ 32 ∧ white b = true) ∨ (33 ≤ b.toNat ∧ b.toNat ≤ 255 ∧ white b = false)) (by decide +kernel) b
theorem letter_cases (b : UInt8) : (0 ≤ b.toNat ∧ b.toNat ≤ 64 ∧ letter b = false) ∨ (65 ≤ b.toNat ∧ b.toNat ≤ 90 ∧ letter b = true) ∨ (91 ≤ b.toNat ∧ b.toNat ≤ 94 ∧ letter b = false) ∨ (95 ≤ b.toNat ∧ b.toNat ≤ 95 ∧ letter b = true) ∨ (96 ≤ b.toNat ∧ b.toNat ≤ 96 ∧ letter b = false) ∨ (97 ≤ b.toNat ∧ b.toNat ≤ 122 ∧ letter b = true) ∨ (123 ≤ b.toNat ∧ b.toNat ≤ 255 ∧ letter b = false) :=
  byte_all (P := fun b => (0 ≤ b.toNat ∧ b.toNat ≤ 64 ∧ letter b = false) ∨ (65 ≤ b.toNat ∧ b.toNat ≤ 90 ∧ letter b = true) ∨ (91 ≤ b.toNat ∧ b.toNat ≤ 94 ∧ letter b = false) ∨ (95 ≤ b.toNat ∧ b.toNat ≤ 95 ∧ letter b = true) ∨ (96 ≤ b.toNat ∧ b.toNat ≤ 96 ∧ letter b = false) ∨ (97 ≤ b.toNat ∧ b.toNat ≤ 122 ∧ letter b = true) ∨ (123 ≤ b.toNat ∧ b.toNat ≤ 255 ∧ letter b = false)) (by decide +kernel) b
theorem letter_not (b : UInt8) (h : letter b = true) : sign b = true := by unfold sign; rw [h]; rfl
def sign2 (b : UInt8) : Bool := (decide (48 ≤ b.toNat) && decide (b.toNat ≤ 57)) || b == 45 || b == 46 || b == 58
theorem sign_eq (b : UInt8) : sign b = (letter b || sign2 b) := by unfold sign sign2; rw [Bool.or_assoc, Bool.or_assoc, Bool.or_assoc, ← Bool.or_assoc (_ && _), ← Bool.or_assoc]; simp only [Bool.or_assoc]
theorem sign2_cases (b : UInt8) : (0 ≤ b.toNat ∧ b.toNat ≤ 44 ∧ sign2 b = false) ∨ (45 ≤ b.toNat ∧ b.toNat ≤ 45 ∧ sign2 b = true) ∨ (46 ≤ b.toNat ∧ b.toNat ≤ 46 ∧ sign2 b = true) ∨ (47 ≤ b.toNat ∧ b.toNat ≤ 47 ∧ sign2 b = false) ∨ (48 ≤ b.toNat ∧ b.toNat ≤ 57 ∧ sign2 b = true) ∨ (58 ≤ b.toNat ∧ b.toNat ≤ 58 ∧ sign2 b = true) ∨ (59 ≤ b.toNat ∧ b.toNat ≤ 255 ∧ sign2 b = false) :=
  byte_all (P := fun b => (0 ≤ b.toNat ∧ b.toNat ≤ 44 ∧ sign2 b = false) ∨ (45 ≤ b.toNat ∧ b.toNat ≤ 45 ∧ sign2 b = true) ∨ (46 ≤ b.toNat ∧ b.toNat ≤ 46 ∧ sign2 b = true) ∨ (47 ≤ b.toNat ∧ b.toNat ≤ 47 ∧ sign2 b = false) ∨ (48 ≤ b.toNat ∧ b.toNat ≤ 57 ∧ sign2 b = true) ∨ (58 ≤ b.toNat ∧ b.toNat ≤ 58 ∧ sign2 b = true) ∨ (59 ≤ b.toNat ∧ b.toNat ≤ 255 ∧ sign2 b = false)) (by decide +kernel) b
end Mk
set_option maxHeartbeats 1000000 in
set_option maxRecDepth 100000 in
theorem isWhite_any (b : UInt8) (w : World) :
    Calls Tryd.prog 32 #[.int .u8 (b.toNat : Int)] w fun e w' => e = .returned (.bool (Mk.white b)) ∧ w = w' := by
  rcases Mk.white_cases b with ⟨hr1, hr2, hr3⟩ | ⟨hr1, hr2, hr3⟩ | ⟨hr1, hr2, hr3⟩ | ⟨hr1, hr2, hr3⟩ | ⟨hr1, hr2, hr3⟩ | ⟨hr1, hr2, hr3⟩ | ⟨hr1, hr2, hr3⟩ | ⟨hr1, hr2, hr3⟩
  · rw [hr3]
    clear hr3
    obtain ⟨x, hx⟩ : ∃ x : Int, (b.toNat : Int) = x := ⟨_, rfl⟩
    rw [hx]
    have hxa : 0 ≤ x := by omega
    have hxb : x ≤ 8 := by omega
    clear hx hr1 hr2
    have e0 : (x == 32) = false := by rw [beq_eq_false_iff_ne]; omega
    have f0 : ¬ x = 32 := by omega
    have e1 : (x == 9) = false := by rw [beq_eq_false_iff_ne]; omega
    have f1 : ¬ x = 9 := by omega
    have e2 : (x == 10) = false := by rw [beq_eq_false_iff_ne]; omega
    have f2 : ¬ x = 10 := by omega
    have e3 : (x == 13) = false := by rw [beq_eq_false_iff_ne]; omega
    have f3 : ¬ x = 13 := by omega
    clear hxa hxb
    go_enter Tryd.func32, Tryd.ntmps32
    go_wp2
    go_ret
    exact ⟨rfl, rfl⟩
  · rw [hr3]
    clear hr3
    obtain ⟨x, hx⟩ : ∃ x : Int, (b.toNat : Int) = x := ⟨_, rfl⟩
    rw [hx]
    have hxa : 9 ≤ x := by omega
    have hxb : x ≤ 9 := by omega
    clear hx hr1 hr2
    have hx1 : x = 9 := by omega
    clear hxa hxb
    subst hx1
    go_enter Tryd.func32, Tryd.ntmps32
    go_wp2
    go_ret
    exact ⟨rfl, rfl⟩
  · rw [hr3]
    clear hr3
    obtain ⟨x, hx⟩ : ∃ x : Int, (b.toNat : Int) = x := ⟨_, rfl⟩
    rw [hx]
    have hxa : 10 ≤ x := by omega
    have hxb : x ≤ 10 := by omega
    clear hx hr1 hr2
    have hx1 : x = 10 := by omega
    clear hxa hxb
    subst hx1
    go_enter Tryd.func32, Tryd.ntmps32
    go_wp2
    go_ret
    exact ⟨rfl, rfl⟩
  · rw [hr3]
    clear hr3
    obtain ⟨x, hx⟩ : ∃ x : Int, (b.toNat : Int) = x := ⟨_, rfl⟩
    rw [hx]
    have hxa : 11 ≤ x := by omega
    have hxb : x ≤ 12 := by omega
    clear hx hr1 hr2
    have e0 : (x == 32) = false := by rw [beq_eq_false_iff_ne]; omega
    have f0 : ¬ x = 32 := by omega
    have e1 : (x == 9) = false := by rw [beq_eq_false_iff_ne]; omega
    have f1 : ¬ x = 9 := by omega
    have e2 : (x == 10) = false := by rw [beq_eq_false_iff_ne]; omega
    have f2 : ¬ x = 10 := by omega
    have e3 : (x == 13) = false := by rw [beq_eq_false_iff_ne]; omega
    have f3 : ¬ x = 13 := by omega
    clear hxa hxb
    go_enter Tryd.func32, Tryd.ntmps32
    go_wp2
    go_ret
    exact ⟨rfl, rfl⟩
  · rw [hr3]
    clear hr3
    obtain ⟨x, hx⟩ : ∃ x : Int, (b.toNat : Int) = x := ⟨_, rfl⟩
    rw [hx]
    have hxa : 13 ≤ x := by omega
    have hxb : x ≤ 13 := by omega
    clear hx hr1 hr2
    have hx1 : x = 13 := by omega
    clear hxa hxb
    subst hx1
    go_enter Tryd.func32, Tryd.ntmps32
    go_wp2
    go_ret
    exact ⟨rfl, rfl⟩
  · rw [hr3]
    clear hr3
    obtain ⟨x, hx⟩ : ∃ x : Int, (b.toNat : Int) = x := ⟨_, rfl⟩
    rw [hx]
    have hxa : 14 ≤ x := by omega
    have hxb : x ≤ 31 := by omega
    clear hx hr1 hr2
    have e0 : (x == 32) = false := by rw [beq_eq_false_iff_ne]; omega
    have f0 : ¬ x = 32 := by omega
    have e1 : (x == 9) = false := by rw [beq_eq_false_iff_ne]; omega
    have f1 : ¬ x = 9 := by omega
    have e2 : (x == 10) = false := by rw [beq_eq_false_iff_ne]; omega
    have f2 : ¬ x = 10 := by omega
    have e3 : (x == 13) = false := by rw [beq_eq_false_iff_ne]; omega
    have f3 : ¬ x = 13 := by omega
    clear hxa hxb
    go_enter Tryd.func32, Tryd.ntmps32
    go_wp2
    go_ret
    exact ⟨rfl, rfl⟩
  · rw [hr3]
    clear hr3
    obtain ⟨x, hx⟩ : ∃ x : Int, (b.toNat : Int) = x := ⟨_, rfl⟩
    rw [hx]
    have hxa : 32 ≤ x := by omega
    have hxb : x ≤ 32 := by omega
    clear hx hr1 hr2
    have hx1 : x = 32 := by omega
    clear hxa hxb
    subst hx1
    go_enter Tryd.func32, Tryd.ntmps32
    go_wp2
    go_ret
    exact ⟨rfl, rfl⟩
  · rw [hr3]
    clear hr3
    obtain ⟨x, hx⟩ : ∃ x : Int, (b.toNat : Int) = x := ⟨_, rfl⟩
    rw [hx]
    have hxa : 33 ≤ x := by omega
    have hxb : x ≤ 255 := by omega
    clear hx hr1 hr2
    have e0 : (x == 32) = false := by rw [beq_eq_false_iff_ne]; omega
    have f0 : ¬ x = 32 := by omega
    have e1 : (x == 9) = false := by rw [beq_eq_false_iff_ne]; omega
    have f1 : ¬ x = 9 := by omega
    have e2 : (x == 10) = false := by rw [beq_eq_false_iff_ne]; omega
    have f2 : ¬ x = 10 := by omega
    have e3 : (x == 13) = false := by rw [beq_eq_false_iff_ne]; omega
    have f3 : ¬ x = 13 := by omega
    clear hxa hxb
    go_enter Tryd.func32, Tryd.ntmps32
    go_wp2
    go_ret
    exact ⟨rfl, rfl⟩
set_option maxHeartbeats 1000000 in
set_option maxRecDepth 100000 in
theorem isLetter_any (b : UInt8) (w : World) :
    Calls Tryd.prog 53 #[.int .u8 (b.toNat : Int)] w fun e w' => e = .returned (.bool (Mk.letter b)) ∧ w = w' := by
  rcases Mk.letter_cases b with ⟨hr1, hr2, hr3⟩ | ⟨hr1, hr2, hr3⟩ | ⟨hr1, hr2, hr3⟩ | ⟨hr1, hr2, hr3⟩ | ⟨hr1, hr2, hr3⟩ | ⟨hr1, hr2, hr3⟩ | ⟨hr1, hr2, hr3⟩
  · rw [hr3]
    clear hr3
    obtain ⟨x, hx⟩ : ∃ x : Int, (b.toNat : Int) = x := ⟨_, rfl⟩
    rw [hx]
    have hxa : 0 ≤ x := by omega
    have hxb : x ≤ 64 := by omega
    clear hx hr1 hr2
    have e0 : (x == 95) = false := by rw [beq_eq_false_iff_ne]; omega
    have f0 : ¬ x = 95 := by omega
    have g0 : ¬ 97 ≤ x := by omega
    have g1 : ¬ 65 ≤ x := by omega
    have l0 : x ≤ 122 := by omega
    have l1 : x ≤ 90 := by omega
    clear hxa hxb
    go_enter Tryd.func53, Tryd.ntmps53
    go_wp2
    go_ret
    exact ⟨rfl, rfl⟩
  · rw [hr3]
    clear hr3
    obtain ⟨x, hx⟩ : ∃ x : Int, (b.toNat : Int) = x := ⟨_, rfl⟩
    rw [hx]
    have hxa : 65 ≤ x := by omega
    have hxb : x ≤ 90 := by omega
    clear hx hr1 hr2
    have e0 : (x == 95) = false := by rw [beq_eq_false_iff_ne]; omega
    have f0 : ¬ x = 95 := by omega
    have g0 : ¬ 97 ≤ x := by omega
    have g1 : 65 ≤ x := by omega
    have l0 : x ≤ 122 := by omega
    have l1 : x ≤ 90 := by omega
    clear hxa hxb
    go_enter Tryd.func53, Tryd.ntmps53
    go_wp2
    go_ret
    exact ⟨rfl, rfl⟩
  · rw [hr3]
    clear hr3
    obtain ⟨x, hx⟩ : ∃ x : Int, (b.toNat : Int) = x := ⟨_, rfl⟩
    rw [hx]
    have hxa : 91 ≤ x := by omega
    have hxb : x ≤ 94 := by omega
    clear hx hr1 hr2
    have e0 : (x == 95) = false := by rw [beq_eq_false_iff_ne]; omega
    have f0 : ¬ x = 95 := by omega
    have g0 : ¬ 97 ≤ x := by omega
    have g1 : 65 ≤ x := by omega
    have l0 : x ≤ 122 := by omega
    have l1 : ¬ x ≤ 90 := by omega
    clear hxa hxb
    go_enter Tryd.func53, Tryd.ntmps53
    go_wp2
    go_ret
    exact ⟨rfl, rfl⟩
  · rw [hr3]
    clear hr3
    obtain ⟨x, hx⟩ : ∃ x : Int, (b.toNat : Int) = x := ⟨_, rfl⟩
    rw [hx]
    have hxa : 95 ≤ x := by omega
    have hxb : x ≤ 95 := by omega
    clear hx hr1 hr2
    have hx1 : x = 95 := by omega
    clear hxa hxb
    subst hx1
    go_enter Tryd.func53, Tryd.ntmps53
    go_wp2
    go_ret
    exact ⟨rfl, rfl⟩
  · rw [hr3]
    clear hr3
    obtain ⟨x, hx⟩ : ∃ x : Int, (b.toNat : Int) = x := ⟨_, rfl⟩
    rw [hx]
    have hxa : 96 ≤ x := by omega
    have hxb : x ≤ 96 := by omega
    clear hx hr1 hr2
    have hx1 : x = 96 := by omega
    clear hxa hxb
    subst hx1
    go_enter Tryd.func53, Tryd.ntmps53
    go_wp2
    go_ret
    exact ⟨rfl, rfl⟩
  · rw [hr3]
    clear hr3
    obtain ⟨x, hx⟩ : ∃ x : Int, (b.toNat : Int) = x := ⟨_, rfl⟩
    rw [hx]
    have hxa : 97 ≤ x := by omega
    have hxb : x ≤ 122 := by omega
    clear hx hr1 hr2
    have e0 : (x == 95) = false := by rw [beq_eq_false_iff_ne]; omega
    have f0 : ¬ x = 95 := by omega
    have g0 : 97 ≤ x := by omega
    have g1 : 65 ≤ x := by omega
    have l0 : x ≤ 122 := by omega
    have l1 : ¬ x ≤ 90 := by omega
    clear hxa hxb
    go_enter Tryd.func53, Tryd.ntmps53
    go_wp2
    go_ret
    exact ⟨rfl, rfl⟩
  · rw [hr3]
    clear hr3
    obtain ⟨x, hx⟩ : ∃ x : Int, (b.toNat : Int) = x := ⟨_, rfl⟩
    rw [hx]
    have hxa : 123 ≤ x := by omega
    have hxb : x ≤ 255 := by omega
    clear hx hr1 hr2
    have e0 : (x == 95) = false := by rw [beq_eq_false_iff_ne]; omega
    have f0 : ¬ x = 95 := by omega
    have g0 : 97 ≤ x := by omega
    have g1 : 65 ≤ x := by omega
    have l0 : ¬ x ≤ 122 := by omega
    have l1 : ¬ x ≤ 90 := by omega
    clear hxa hxb
    go_enter Tryd.func53, Tryd.ntmps53
    go_wp2
    go_ret
    exact ⟨rfl, rfl⟩
set_option maxHeartbeats 1000000 in
set_option maxRecDepth 100000 in
theorem isSign_any (b : UInt8) (w : World) :
    Calls Tryd.prog 54 #[.int .u8 (b.toNat : Int)] w fun e w' => e = .returned (.bool (Mk.sign b)) ∧ w = w' := by
  have HL := Lib.hid (fun W => isLetter_any b W)
  rw [Mk.sign_eq]
  obtain ⟨v, hv⟩ : ∃ v, Mk.letter b = v := ⟨_, rfl⟩
  have HL2 : Hid (∀ W, Calls Tryd.prog 53 #[.int .u8 (b.toNat : Int)] W fun e w' => e = .returned (.bool v) ∧ W = w') := fun W => by rw [← hv]; exact HL.out W
  rw [hv]
  clear hv HL
  cases v with
  | true =>
    rw [Bool.true_or]
    obtain ⟨x, hx⟩ : ∃ x : Int, (b.toNat : Int) = x := ⟨_, rfl⟩
    rw [hx] at HL2 ⊢
    clear hx
    go_enter Tryd.func54, Tryd.ntmps54
    go_wp2_with (refine (HL2.out _).mono ?_; rintro e w' ⟨rfl, rfl⟩)
    go_wp2
    go_ret
    exact ⟨rfl, rfl⟩
  | false =>
    rw [Bool.false_or]
    rcases Mk.sign2_cases b with ⟨hr1, hr2, hr3⟩ | ⟨hr1, hr2, hr3⟩ | ⟨hr1, hr2, hr3⟩ | ⟨hr1, hr2, hr3⟩ | ⟨hr1, hr2, hr3⟩ | ⟨hr1, hr2, hr3⟩ | ⟨hr1, hr2, hr3⟩
    · rw [hr3]
      clear hr3
      obtain ⟨x, hx⟩ : ∃ x : Int, (b.toNat : Int) = x := ⟨_, rfl⟩
      rw [hx] at HL2 ⊢
      have hxa : 0 ≤ x := by omega
      have hxb : x ≤ 44 := by omega
      clear hx hr1 hr2
      have e0 : (x == 45) = false := by rw [beq_eq_false_iff_ne]; omega
      have f0 : ¬ x = 45 := by omega
      have e1 : (x == 46) = false := by rw [beq_eq_false_iff_ne]; omega
      have f1 : ¬ x = 46 := by omega
      have e2 : (x == 58) = false := by rw [beq_eq_false_iff_ne]; omega
      have f2 : ¬ x = 58 := by omega
      have g0 : ¬ 48 ≤ x := by omega
      have l0 : x ≤ 57 := by omega
      clear hxa hxb
      go_enter Tryd.func54, Tryd.ntmps54
      go_wp2_with (refine (HL2.out _).mono ?_; rintro e w' ⟨rfl, rfl⟩)
      go_wp2
      go_ret
      first | exact ⟨rfl, rfl⟩ | (rw [decide_eq_false (show ¬ x ≤ 57 by omega)]; exact ⟨rfl, rfl⟩)
    · rw [hr3]
      clear hr3
      obtain ⟨x, hx⟩ : ∃ x : Int, (b.toNat : Int) = x := ⟨_, rfl⟩
      rw [hx] at HL2 ⊢
      have hxa : 45 ≤ x := by omega
      have hxb : x ≤ 45 := by omega
      clear hx hr1 hr2
      have hx1 : x = 45 := by omega
      clear hxa hxb
      subst hx1
      go_enter Tryd.func54, Tryd.ntmps54
      go_wp2_with (refine (HL2.out _).mono ?_; rintro e w' ⟨rfl, rfl⟩)
      go_wp2
      go_ret
      first | exact ⟨rfl, rfl⟩ | (rw [decide_eq_false (show ¬ x ≤ 57 by omega)]; exact ⟨rfl, rfl⟩)
    · rw [hr3]
      clear hr3
      obtain ⟨x, hx⟩ : ∃ x : Int, (b.toNat : Int) = x := ⟨_, rfl⟩
      rw [hx] at HL2 ⊢
      have hxa : 46 ≤ x := by omega
      have hxb : x ≤ 46 := by omega
      clear hx hr1 hr2
      have hx1 : x = 46 := by omega
      clear hxa hxb
      subst hx1
      go_enter Tryd.func54, Tryd.ntmps54
      go_wp2_with (refine (HL2.out _).mono ?_; rintro e w' ⟨rfl, rfl⟩)
      go_wp2
      go_ret
      first | exact ⟨rfl, rfl⟩ | (rw [decide_eq_false (show ¬ x ≤ 57 by omega)]; exact ⟨rfl, rfl⟩)
    · rw [hr3]
      clear hr3
      obtain ⟨x, hx⟩ : ∃ x : Int, (b.toNat : Int) = x := ⟨_, rfl⟩
      rw [hx] at HL2 ⊢
      have hxa : 47 ≤ x := by omega
      have hxb : x ≤ 47 := by omega
      clear hx hr1 hr2
      have hx1 : x = 47 := by omega
      clear hxa hxb
      subst hx1
      go_enter Tryd.func54, Tryd.ntmps54
      go_wp2_with (refine (HL2.out _).mono ?_; rintro e w' ⟨rfl, rfl⟩)
      go_wp2
      go_ret
      first | exact ⟨rfl, rfl⟩ | (rw [decide_eq_false (show ¬ x ≤ 57 by omega)]; exact ⟨rfl, rfl⟩)
    · rw [hr3]
      clear hr3
      obtain ⟨x, hx⟩ : ∃ x : Int, (b.toNat : Int) = x := ⟨_, rfl⟩
      rw [hx] at HL2 ⊢
      have hxa : 48 ≤ x := by omega
      have hxb : x ≤ 57 := by omega
      clear hx hr1 hr2
      have e0 : (x == 45) = false := by rw [beq_eq_false_iff_ne]; omega
      have f0 : ¬ x = 45 := by omega
      have e1 : (x == 46) = false := by rw [beq_eq_false_iff_ne]; omega
      have f1 : ¬ x = 46 := by omega
      have e2 : (x == 58) = false := by rw [beq_eq_false_iff_ne]; omega
      have f2 : ¬ x = 58 := by omega
      have g0 : 48 ≤ x := by omega
      have l0 : x ≤ 57 := by omega
      clear hxa hxb
      go_enter Tryd.func54, Tryd.ntmps54
      go_wp2_with (refine (HL2.out _).mono ?_; rintro e w' ⟨rfl, rfl⟩)
      go_wp2
      go_ret
      first | exact ⟨rfl, rfl⟩ | (rw [decide_eq_false (show ¬ x ≤ 57 by omega)]; exact ⟨rfl, rfl⟩)
    · rw [hr3]
      clear hr3
      obtain ⟨x, hx⟩ : ∃ x : Int, (b.toNat : Int) = x := ⟨_, rfl⟩
      rw [hx] at HL2 ⊢
      have hxa : 58 ≤ x := by omega
      have hxb : x ≤ 58 := by omega
      clear hx hr1 hr2
      have hx1 : x = 58 := by omega
      clear hxa hxb
      subst hx1
      go_enter Tryd.func54, Tryd.ntmps54
      go_wp2_with (refine (HL2.out _).mono ?_; rintro e w' ⟨rfl, rfl⟩)
      go_wp2
      go_ret
      first | exact ⟨rfl, rfl⟩ | (rw [decide_eq_false (show ¬ x ≤ 57 by omega)]; exact ⟨rfl, rfl⟩)
    · rw [hr3]
      clear hr3
      obtain ⟨x, hx⟩ : ∃ x : Int, (b.toNat : Int) = x := ⟨_, rfl⟩
      rw [hx] at HL2 ⊢
      have hxa : 59 ≤ x := by omega
      have hxb : x ≤ 255 := by omega
      clear hx hr1 hr2
      have e0 : (x == 45) = false := by rw [beq_eq_false_iff_ne]; omega
      have f0 : ¬ x = 45 := by omega
      have e1 : (x == 46) = false := by rw [beq_eq_false_iff_ne]; omega
      have f1 : ¬ x = 46 := by omega
      have e2 : (x == 58) = false := by rw [beq_eq_false_iff_ne]; omega
      have f2 : ¬ x = 58 := by omega
      have g0 : 48 ≤ x := by omega
      have l0 : ¬ x ≤ 57 := by omega
      clear hxa hxb
      go_enter Tryd.func54, Tryd.ntmps54
      go_wp2_with (refine (HL2.out _).mono ?_; rintro e w' ⟨rfl, rfl⟩)
      go_wp2
      go_ret
      first | exact ⟨rfl, rfl⟩ | (rw [decide_eq_false (show ¬ x ≤ 57 by omega)]; exact ⟨rfl, rfl⟩)
end Go.Proofs.YtjbgmbhifnihaaaDoor
