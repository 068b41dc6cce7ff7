/- markup's functions of one byte. -/
import Derived.Test.YthmhadgbhakdlaaDoorP01
import Derived.Test.YthmhadgbhakdlaaDoorP02
import Derived.Lib.OthersKept
import Derived.Shelf.Strings.SlTrimAscii

namespace Go.Proofs.YthmhadgbhakdlaaDoor
open Go.RowKit

namespace Mk
theorem byte_all {P : UInt8 → Prop} (h : ∀ n : Fin 256, P (UInt8.ofNat n.val)) (b : UInt8) : P b := by
  have h2 := h ⟨b.toNat, b.toNat_lt⟩
  rwa [UInt8.ofNat_toNat] at h2

theorem white_cases (b : UInt8) : (0 ≤ b.toNat ∧ b.toNat ≤ 8 ∧ white b = false) ∨ (9 ≤ b.toNat ∧ b.toNat ≤ 9 ∧ white b = true) ∨ (10 ≤ b.toNat ∧ b.toNat ≤ 10 ∧ white b = true) ∨ (11 ≤ b.toNat ∧ b.toNat ≤ 12 ∧ white b = false) ∨ (13 ≤ b.toNat ∧ b.toNat ≤ 13 ∧ white b = true) ∨ (14 ≤ b.toNat ∧ b.toNat ≤ 31 ∧ white b = false) ∨ (32 ≤ b.toNat ∧ b.toNat ≤ 32 ∧ white b = true) ∨ (33 ≤ b.toNat ∧ b.toNat ≤ 255 ∧ white b = false) :=
  byte_all (P := fun b => (0 ≤ b.toNat ∧ b.toNat ≤ 8 ∧ white b = false) ∨ (9 ≤ b.toNat ∧ b.toNat ≤ 9 ∧ white b = true) ∨ (10 ≤ b.toNat ∧ b.toNat ≤ 10 ∧ white b = true) ∨ (11 ≤ b.toNat ∧ b.toNat ≤ 12 ∧ white b = false) ∨ (13 ≤ b.toNat ∧ b.toNat ≤ 13 ∧ white b = true) ∨ (14 ≤ b.toNat ∧ b.toNat ≤ 31 ∧ white b = false) ∨ (32 ≤ b.toNat ∧ b.toNat ≤ 32 ∧ white b = true) ∨ (33 ≤ b.toNat ∧ b.toNat ≤ 255 ∧ white b = false)) (by decide +kernel) b
theorem letter_cases (b : UInt8) : (0 ≤ b.toNat ∧ b.toNat ≤ 64 ∧ letter b = false) ∨ (65 ≤ b.toNat ∧ b.toNat ≤ 90 ∧ letter b = true) ∨ (91 ≤ b.toNat ∧ b.toNat ≤ 94 ∧ letter b = false) ∨ (95 ≤ b.toNat ∧ b.toNat ≤ 95 ∧ letter b = true) ∨ (96 ≤ b.toNat ∧ b.toNat ≤ 96 ∧ letter b = false) ∨ (97 ≤ b.toNat ∧ b.toNat ≤ 122 ∧ letter b = true) ∨ (123 ≤ b.toNat ∧ b.toNat ≤ 255 ∧ letter b = false) :=
  byte_all (P := fun b => (0 ≤ b.toNat ∧ b.toNat ≤ 64 ∧ letter b = false) ∨ (65 ≤ b.toNat ∧ b.toNat ≤ 90 ∧ letter b = true) ∨ (91 ≤ b.toNat ∧ b.toNat ≤ 94 ∧ letter b = false) ∨ (95 ≤ b.toNat ∧ b.toNat ≤ 95 ∧ letter b = true) ∨ (96 ≤ b.toNat ∧ b.toNat ≤ 96 ∧ letter b = false) ∨ (97 ≤ b.toNat ∧ b.toNat ≤ 122 ∧ letter b = true) ∨ (123 ≤ b.toNat ∧ b.toNat ≤ 255 ∧ letter b = false)) (by decide +kernel) b
theorem letter_not (b : UInt8) (h : letter b = true) : sign b = true := by unfold sign; rw [h]; rfl
def sign2 (b : UInt8) : Bool := (decide (48 ≤ b.toNat) && decide (b.toNat ≤ 57)) || b == 45 || b == 46 || b == 58
theorem sign_eq (b : UInt8) : sign b = (letter b || sign2 b) := by unfold sign sign2; rw [Bool.or_assoc, Bool.or_assoc, Bool.or_assoc, ← Bool.or_assoc (_ && _), ← Bool.or_assoc]; simp only [Bool.or_assoc]
theorem sign2_cases (b : UInt8) : (0 ≤ b.toNat ∧ b.toNat ≤ 44 ∧ sign2 b = false) ∨ (45 ≤ b.toNat ∧ b.toNat ≤ 45 ∧ sign2 b = true) ∨ (46 ≤ b.toNat ∧ b.toNat ≤ 46 ∧ sign2 b = true) ∨ (47 ≤ b.toNat ∧ b.toNat ≤ 47 ∧ sign2 b = false) ∨ (48 ≤ b.toNat ∧ b.toNat ≤ 57 ∧ sign2 b = true) ∨ (58 ≤ b.toNat ∧ b.toNat ≤ 58 ∧ sign2 b = true) ∨ (59 ≤ b.toNat ∧ b.toNat ≤ 255 ∧ sign2 b = false) :=
  byte_all (P := fun b => (0 ≤ b.toNat ∧ b.toNat ≤ 44 ∧ sign2 b = false) ∨ (45 ≤ b.toNat ∧ b.toNat ≤ 45 ∧ sign2 b = true) ∨ (46 ≤ b.toNat ∧ b.toNat ≤ 46 ∧ sign2 b = true) ∨ (47 ≤ b.toNat ∧ b.toNat ≤ 47 ∧ sign2 b = false) ∨ (48 ≤ b.toNat ∧ b.toNat ≤ 57 ∧ sign2 b = true) ∨ (58 ≤ b.toNat ∧ b.toNat ≤ 58 ∧ sign2 b = true) ∨ (59 ≤ b.toNat ∧ b.toNat ≤ 255 ∧ sign2 b = false)) (by decide +kernel) b
end Mk
set_option maxHeartbeats 1000000 in
set_option maxRecDepth 100000 in
theorem isWhite_any (b : UInt8) (w : World) :
    Calls Tryd.prog 31 #[.int .u8 (b.toNat : Int)] w fun e w' => e = .returned (.bool (Mk.white b)) ∧ w = w' := by
  rcases Mk.white_cases b with ⟨hr1, hr2, hr3⟩ | ⟨hr1, hr2, hr3⟩ | ⟨hr1, hr2, hr3⟩ | ⟨hr1, hr2, hr3⟩ | ⟨hr1, hr2, hr3⟩ | ⟨hr1, hr2, hr3⟩ | ⟨hr1, hr2, hr3⟩ | ⟨hr1, hr2, hr3⟩
  · rw [hr3]
    clear hr3
    obtain ⟨x, hx⟩ : ∃ x : Int, (b.toNat : Int) = x := ⟨_, rfl⟩
    rw [hx]
    have hxa : 0 ≤ x := by omega
    have hxb : x ≤ 8 := by omega
    clear hx hr1 hr2
    have e0 : (x == 32) = false := by rw [beq_eq_false_iff_ne]; omega
    have f0 : ¬ x = 32 := by omega
    have e1 : (x == 9) = false := by rw [beq_eq_false_iff_ne]; omega
    have f1 : ¬ x = 9 := by omega
    have e2 : (x == 10) = false := by rw [beq_eq_false_iff_ne]; omega
    have f2 : ¬ x = 10 := by omega
    have e3 : (x == 13) = false := by rw [beq_eq_false_iff_ne]; omega
    have f3 : ¬ x = 13 := by omega
    clear hxa hxb
    go_enter Tryd.func31, Tryd.ntmps31
    go_wp2
    go_ret
    exact ⟨rfl, rfl⟩
  · rw [hr3]
    clear hr3
    obtain ⟨x, hx⟩ : ∃ x : Int, (b.toNat : Int) = x := ⟨_, rfl⟩
    rw [hx]
    have hxa : 9 ≤ x := by omega
    have hxb : x ≤ 9 := by omega
    clear hx hr1 hr2
    have hx1 : x = 9 := by omega
    clear hxa hxb
    subst hx1
    go_enter Tryd.func31, Tryd.ntmps31
    go_wp2
    go_ret
    exact ⟨rfl, rfl⟩
  · rw [hr3]
    clear hr3
    obtain ⟨x, hx⟩ : ∃ x : Int, (b.toNat : Int) = x := ⟨_, rfl⟩
    rw [hx]
    have hxa : 10 ≤ x := by omega
    have hxb : x ≤ 10 := by omega
    clear hx hr1 hr2
    have hx1 : x = 10 := by omega
    clear hxa hxb
    subst hx1
    go_enter Tryd.func31, Tryd.ntmps31
    go_wp2
    go_ret
    exact ⟨rfl, rfl⟩
  · rw [hr3]
    clear hr3
    obtain ⟨x, hx⟩ : ∃ x : Int, (b.toNat : Int) = x := ⟨_, rfl⟩
    rw [hx]
    have hxa : 11 ≤ x := by omega
    have hxb : x ≤ 12 := by omega
    clear hx hr1 hr2
    have e0 : (x == 32) = false := by rw [beq_eq_false_iff_ne]; omega
    have f0 : ¬ x = 32 := by omega
    have e1 : (x == 9) = false := by rw [beq_eq_false_iff_ne]; omega
    have f1 : ¬ x = 9 := by omega
    have e2 : (x == 10) = false := by rw [beq_eq_false_iff_ne]; omega
    have f2 : ¬ x = 10 := by omega
    have e3 : (x == 13) = false := by rw [beq_eq_false_iff_ne]; omega
    have f3 : ¬ x = 13 := by omega
    clear hxa hxb
    go_enter Tryd.func31, Tryd.ntmps31
    go_wp2
    go_ret
    exact ⟨rfl, rfl⟩
  · rw [hr3]
    clear hr3
    obtain ⟨x, hx⟩ : ∃ x : Int, (b.toNat : Int) = x := ⟨_, rfl⟩
    rw [hx]
    have hxa : 13 ≤ x := by omega
    have hxb : x ≤ 13 := by omega
    clear hx hr1 hr2
    have hx1 : x = 13 := by omega
    clear hxa hxb
    subst hx1
    go_enter Tryd.func31, Tryd.ntmps31
    go_wp2
    go_ret
    exact ⟨rfl, rfl⟩
  · rw [hr3]
    clear hr3
    obtain ⟨x, hx⟩ : ∃ x : Int, (b.toNat : Int) = x := ⟨_, rfl⟩
    rw [hx]
    have hxa : 14 ≤ x := by omega
    have hxb : x ≤ 31 := by omega
    clear hx hr1 hr2
    have e0 : (x == 32) = false := by rw [beq_eq_false_iff_ne]; omega
    have f0 : ¬ x = 32 := by omega
    have e1 : (x == 9) = false := by rw [beq_eq_false_iff_ne]; omega
    have f1 : ¬ x = 9 := by omega
    have e2 : (x == 10) = false := by rw [beq_eq_false_iff_ne]; omega
    have f2 : ¬ x = 10 := by omega
    have e3 : (x == 13) = false := by rw [beq_eq_false_iff_ne]; omega
    have f3 : ¬ x = 13 := by omega
    clear hxa hxb
    go_enter Tryd.func31, Tryd.ntmps31
    go_wp2
    go_ret
    exact ⟨rfl, rfl⟩
  · rw [hr3]
    clear hr3
    obtain ⟨x, hx⟩ : ∃ x : Int, (b.toNat : Int) = x := ⟨_, rfl⟩
    rw [hx]
    have hxa : 32 ≤ x := by omega
    have hxb : x ≤ 32 := by omega
    clear hx hr1 hr2
    have hx1 : x = 32 := by omega
    clear hxa hxb
    subst hx1
    go_enter Tryd.func31, Tryd.ntmps31
    go_wp2
    go_ret
    exact ⟨rfl, rfl⟩
  · rw [hr3]
    clear hr3
    obtain ⟨x, hx⟩ : ∃ x : Int, (b.toNat : Int) = x := ⟨_, rfl⟩
    rw [hx]
    have hxa : 33 ≤ x := by omega
    have hxb : x ≤ 255 := by omega
    clear hx hr1 hr2
    have e0 : (x == 32) = false := by rw [beq_eq_false_iff_ne]; omega
    have f0 : ¬ x = 32 := by omega
    have e1 : (x == 9) = false := by rw [beq_eq_false_iff_ne]; omega
    have f1 : ¬ x = 9 := by omega
    have e2 : (x == 10) = false := by rw [beq_eq_false_iff_ne]; omega
    have f2 : ¬ x = 10 := by omega
    have e3 : (x == 13) = false := by rw [beq_eq_false_iff_ne]; omega
    have f3 : ¬ x = 13 := by omega
    clear hxa hxb
    go_enter Tryd.func31, Tryd.ntmps31
    go_wp2
    go_ret
    exact ⟨rfl, rfl⟩
set_option maxHeartbeats 1000000 in
set_option maxRecDepth 100000 in
theorem isLetter_any (b : UInt8) (w : World) :
    Calls Tryd.prog 79 #[.int .u8 (b.toNat : Int)] w fun e w' => e = .returned (.bool (Mk.letter b)) ∧ w = w' := by
  rcases Mk.letter_cases b with ⟨hr1, hr2, hr3⟩ | ⟨hr1, hr2, hr3⟩ | ⟨hr1, hr2, hr3⟩ | ⟨hr1, hr2, hr3⟩ | ⟨hr1, hr2, hr3⟩ | ⟨hr1, hr2, hr3⟩ | ⟨hr1, hr2, hr3⟩
  · rw [hr3]
    clear hr3
    obtain ⟨x, hx⟩ : ∃ x : Int, (b.toNat : Int) = x := ⟨_, rfl⟩
    rw [hx]
    have hxa : 0 ≤ x := by omega
    have hxb : x ≤ 64 := by omega
    clear hx hr1 hr2
    have e0 : (x == 95) = false := by rw [beq_eq_false_iff_ne]; omega
    have f0 : ¬ x = 95 := by omega
    have g0 : ¬ 97 ≤ x := by omega
    have g1 : ¬ 65 ≤ x := by omega
    have l0 : x ≤ 122 := by omega
    have l1 : x ≤ 90 := by omega
    clear hxa hxb
    go_enter Tryd.func79, Tryd.ntmps79
    go_wp2
    go_ret
    exact ⟨rfl, rfl⟩
  · rw [hr3]
    clear hr3
    obtain ⟨x, hx⟩ : ∃ x : Int, (b.toNat : Int) = x := ⟨_, rfl⟩
    rw [hx]
    have hxa : 65 ≤ x := by omega
    have hxb : x ≤ 90 := by omega
    clear hx hr1 hr2
    have e0 : (x == 95) = false := by rw [beq_eq_false_iff_ne]; omega
    have f0 : ¬ x = 95 := by omega
    have g0 : ¬ 97 ≤ x := by omega
    have g1 : 65 ≤ x := by omega
    have l0 : x ≤ 122 := by omega
    have l1 : x ≤ 90 := by omega
    clear hxa hxb
    go_enter Tryd.func79, Tryd.ntmps79
    go_wp2
    go_ret
    exact ⟨rfl, rfl⟩
  · rw [hr3]
    clear hr3
    obtain ⟨x, hx⟩ : ∃ x : Int, (b.toNat : Int) = x := ⟨_, rfl⟩
    rw [hx]
    have hxa : 91 ≤ x := by omega
    have hxb : x ≤ 94 := by omega
    clear hx hr1 hr2
    have e0 : (x == 95) = false := by rw [beq_eq_false_iff_ne]; omega
    have f0 : ¬ x = 95 := by omega
    have g0 : ¬ 97 ≤ x := by omega
    have g1 : 65 ≤ x := by omega
    have l0 : x ≤ 122 := by omega
    have l1 : ¬ x ≤ 90 := by omega
    clear hxa hxb
    go_enter Tryd.func79, Tryd.ntmps79
    go_wp2
    go_ret
    exact ⟨rfl, rfl⟩
  · rw [hr3]
    clear hr3
    obtain ⟨x, hx⟩ : ∃ x : Int, (b.toNat : Int) = x := ⟨_, rfl⟩
    rw [hx]
    have hxa : 95 ≤ x := by omega
    have hxb : x ≤ 95 := by omega
    clear hx hr1 hr2
    have hx1 : x = 95 := by omega
    clear hxa hxb
    subst hx1
    go_enter Tryd.func79, Tryd.ntmps79
    go_wp2
    go_ret
    exact ⟨rfl, rfl⟩
  · rw [hr3]
    clear hr3
    obtain ⟨x, hx⟩ : ∃ x : Int, (b.toNat : Int) = x := ⟨_, rfl⟩
    rw [hx]
    have hxa : 96 ≤ x := by omega
    have hxb : x ≤ 96 := by omega
    clear hx hr1 hr2
    have hx1 : x = 96 := by omega
    clear hxa hxb
    subst hx1
    go_enter Tryd.func79, Tryd.ntmps79
    go_wp2
    go_ret
    exact ⟨rfl, rfl⟩
  · rw [hr3]
    clear hr3
    obtain ⟨x, hx⟩ : ∃ x : Int, (b.toNat : Int) = x := ⟨_, rfl⟩
    rw [hx]
    have hxa : 97 ≤ x := by omega
    have hxb : x ≤ 122 := by omega
    clear hx hr1 hr2
    have e0 : (x == 95) = false := by rw [beq_eq_false_iff_ne]; omega
    have f0 : ¬ x = 95 := by omega
    have g0 : 97 ≤ x := by omega
    have g1 : 65 ≤ x := by omega
    have l0 : x ≤ 122 := by omega
    have l1 : ¬ x ≤ 90 := by omega
    clear hxa hxb
    go_enter Tryd.func79, Tryd.ntmps79
    go_wp2
    go_ret
    exact ⟨rfl, rfl⟩
  · rw [hr3]
    clear hr3
    obtain ⟨x, hx⟩ : ∃ x : Int, (b.toNat : Int) = x := ⟨_, rfl⟩
    rw [hx]
    have hxa : 123 ≤ x := by omega
    have hxb : x ≤ 255 := by omega
    clear hx hr1 hr2
    have e0 : (x == 95) = false := by rw [beq_eq_false_iff_ne]; omega
    have f0 : ¬ x = 95 := by omega
    have g0 : 97 ≤ x := by omega
    have g1 : 65 ≤ x := by omega
    have l0 : ¬ x ≤ 122 := by omega
    have l1 : ¬ x ≤ 90 := by omega
    clear hxa hxb
    go_enter Tryd.func79, Tryd.ntmps79
    go_wp2
    go_ret
    exact ⟨rfl, rfl⟩
set_option maxHeartbeats 1000000 in
set_option maxRecDepth 100000 in
theorem isSign_any (b : UInt8) (w : World) :
    Calls Tryd.prog 80 #[.int .u8 (b.toNat : Int)] w fun e w' => e = .returned (.bool (Mk.sign b)) ∧ w = w' := by
  have HL := Lib.hid (fun W => isLetter_any b W)
  rw [Mk.sign_eq]
  obtain ⟨v, hv⟩ : ∃ v, Mk.letter b = v := ⟨_, rfl⟩
  have HL2 : Hid (∀ W, Calls Tryd.prog 79 #[.int .u8 (b.toNat : Int)] W fun e w' => e = .returned (.bool v) ∧ W = w') := fun W => by rw [← hv]; exact HL.out W
  rw [hv]
  clear hv HL
  cases v with
  | true =>
    rw [Bool.true_or]
    obtain ⟨x, hx⟩ : ∃ x : Int, (b.toNat : Int) = x := ⟨_, rfl⟩
    rw [hx] at HL2 ⊢
    clear hx
    go_enter Tryd.func80, Tryd.ntmps80
    go_wp2_with (refine (HL2.out _).mono ?_; rintro e w' ⟨rfl, rfl⟩)
    go_wp2
    go_ret
    exact ⟨rfl, rfl⟩
  | false =>
    rw [Bool.false_or]
    rcases Mk.sign2_cases b with ⟨hr1, hr2, hr3⟩ | ⟨hr1, hr2, hr3⟩ | ⟨hr1, hr2, hr3⟩ | ⟨hr1, hr2, hr3⟩ | ⟨hr1, hr2, hr3⟩ | ⟨hr1, hr2, hr3⟩ | ⟨hr1, hr2, hr3⟩
    · rw [hr3]
      clear hr3
      obtain ⟨x, hx⟩ : ∃ x : Int, (b.toNat : Int) = x := ⟨_, rfl⟩
      rw [hx] at HL2 ⊢
      have hxa : 0 ≤ x := by omega
      have hxb : x ≤ 44 := by omega
      clear hx hr1 hr2
      have e0 : (x == 45) = false := by rw [beq_eq_false_iff_ne]; omega
      have f0 : ¬ x = 45 := by omega
      have e1 : (x == 46) = false := by rw [beq_eq_false_iff_ne]; omega
      have f1 : ¬ x = 46 := by omega
      have e2 : (x == 58) = false := by rw [beq_eq_false_iff_ne]; omega
      have f2 : ¬ x = 58 := by omega
      have g0 : ¬ 48 ≤ x := by omega
      have l0 : x ≤ 57 := by omega
      clear hxa hxb
      go_enter Tryd.func80, Tryd.ntmps80
      go_wp2_with (refine (HL2.out _).mono ?_; rintro e w' ⟨rfl, rfl⟩)
      go_wp2
      go_ret
      first | exact ⟨rfl, rfl⟩ | (rw [decide_eq_false (show ¬ x ≤ 57 by omega)]; exact ⟨rfl, rfl⟩)
    · rw [hr3]
      clear hr3
      obtain ⟨x, hx⟩ : ∃ x : Int, (b.toNat : Int) = x := ⟨_, rfl⟩
      rw [hx] at HL2 ⊢
      have hxa : 45 ≤ x := by omega
      have hxb : x ≤ 45 := by omega
      clear hx hr1 hr2
      have hx1 : x = 45 := by omega
      clear hxa hxb
      subst hx1
      go_enter Tryd.func80, Tryd.ntmps80
      go_wp2_with (refine (HL2.out _).mono ?_; rintro e w' ⟨rfl, rfl⟩)
      go_wp2
      go_ret
      first | exact ⟨rfl, rfl⟩ | (rw [decide_eq_false (show ¬ x ≤ 57 by omega)]; exact ⟨rfl, rfl⟩)
    · rw [hr3]
      clear hr3
      obtain ⟨x, hx⟩ : ∃ x : Int, (b.toNat : Int) = x := ⟨_, rfl⟩
      rw [hx] at HL2 ⊢
      have hxa : 46 ≤ x := by omega
      have hxb : x ≤ 46 := by omega
      clear hx hr1 hr2
      have hx1 : x = 46 := by omega
      clear hxa hxb
      subst hx1
      go_enter Tryd.func80, Tryd.ntmps80
      go_wp2_with (refine (HL2.out _).mono ?_; rintro e w' ⟨rfl, rfl⟩)
      go_wp2
      go_ret
      first | exact ⟨rfl, rfl⟩ | (rw [decide_eq_false (show ¬ x ≤ 57 by omega)]; exact ⟨rfl, rfl⟩)
    · rw [hr3]
      clear hr3
      obtain ⟨x, hx⟩ : ∃ x : Int, (b.toNat : Int) = x := ⟨_, rfl⟩
      rw [hx] at HL2 ⊢
      have hxa : 47 ≤ x := by omega
      have hxb : x ≤ 47 := by omega
      clear hx hr1 hr2
      have hx1 : x = 47 := by omega
      clear hxa hxb
      subst hx1
      go_enter Tryd.func80, Tryd.ntmps80
      go_wp2_with (refine (HL2.out _).mono ?_; rintro e w' ⟨rfl, rfl⟩)
      go_wp2
      go_ret
      first | exact ⟨rfl, rfl⟩ | (rw [decide_eq_false (show ¬ x ≤ 57 by omega)]; exact ⟨rfl, rfl⟩)
    · rw [hr3]
      clear hr3
      obtain ⟨x, hx⟩ : ∃ x : Int, (b.toNat : Int) = x := ⟨_, rfl⟩
      rw [hx] at HL2 ⊢
      have hxa : 48 ≤ x := by omega
      have hxb : x ≤ 57 := by omega
      clear hx hr1 hr2
      have e0 : (x == 45) = false := by rw [beq_eq_false_iff_ne]; omega
      have f0 : ¬ x = 45 := by omega
      have e1 : (x == 46) = false := by rw [beq_eq_false_iff_ne]; omega
      have f1 : ¬ x = 46 := by omega
      have e2 : (x == 58) = false := by rw [beq_eq_false_iff_ne]; omega
      have f2 : ¬ x = 58 := by omega
      have g0 : 48 ≤ x := by omega
      have l0 : x ≤ 57 := by omega
      clear hxa hxb
      go_enter Tryd.func80, Tryd.ntmps80
      go_wp2_with (refine (HL2.out _).mono ?_; rintro e w' ⟨rfl, rfl⟩)
      go_wp2
      go_ret
      first | exact ⟨rfl, rfl⟩ | (rw [decide_eq_false (show ¬ x ≤ 57 by omega)]; exact ⟨rfl, rfl⟩)
    · rw [hr3]
      clear hr3
      obtain ⟨x, hx⟩ : ∃ x : Int, (b.toNat : Int) = x := ⟨_, rfl⟩
      rw [hx] at HL2 ⊢
      have hxa : 58 ≤ x := by omega
      have hxb : x ≤ 58 := by omega
      clear hx hr1 hr2
      have hx1 : x = 58 := by omega
      clear hxa hxb
      subst hx1
      go_enter Tryd.func80, Tryd.ntmps80
      go_wp2_with (refine (HL2.out _).mono ?_; rintro e w' ⟨rfl, rfl⟩)
      go_wp2
      go_ret
      first | exact ⟨rfl, rfl⟩ | (rw [decide_eq_false (show ¬ x ≤ 57 by omega)]; exact ⟨rfl, rfl⟩)
    · rw [hr3]
      clear hr3
      obtain ⟨x, hx⟩ : ∃ x : Int, (b.toNat : Int) = x := ⟨_, rfl⟩
      rw [hx] at HL2 ⊢
      have hxa : 59 ≤ x := by omega
      have hxb : x ≤ 255 := by omega
      clear hx hr1 hr2
      have e0 : (x == 45) = false := by rw [beq_eq_false_iff_ne]; omega
      have f0 : ¬ x = 45 := by omega
      have e1 : (x == 46) = false := by rw [beq_eq_false_iff_ne]; omega
      have f1 : ¬ x = 46 := by omega
      have e2 : (x == 58) = false := by rw [beq_eq_false_iff_ne]; omega
      have f2 : ¬ x = 58 := by omega
      have g0 : 48 ≤ x := by omega
      have l0 : ¬ x ≤ 57 := by omega
      clear hxa hxb
      go_enter Tryd.func80, Tryd.ntmps80
      go_wp2_with (refine (HL2.out _).mono ?_; rintro e w' ⟨rfl, rfl⟩)
      go_wp2
      go_ret
      first | exact ⟨rfl, rfl⟩ | (rw [decide_eq_false (show ¬ x ≤ 57 by omega)]; exact ⟨rfl, rfl⟩)
end Go.Proofs.YthmhadgbhakdlaaDoor

/- utf.Check and utf.Plain: whether a text is right, and plain. -/
namespace Go.Proofs.YthmhadgbhakdlaaDoor
open Go.RowKit

theorem iter_below {w : World} (s : ByteArray) (pos : Nat) : Below w.heap.size w (w.iter s pos) := (Below.refl _ _).alloc (Nat.le_refl _) _
set_option maxHeartbeats 2000000 in
set_option maxRecDepth 100000 in
theorem utfCheck_any (s : ByteArray) (hs : s.size ≤ maxLen) (w : World) :
    Calls Tryd.prog 15 #[.string s] w fun e w' => (∃ i : Int, e = .returned (.tuple #[.int .i64 i, .int .i64 (if Te.right s then 0 else 11)])) ∧ Below w.heap.size w w' := by
  unfold maxLen at hs
  have HP := Lib.hid (fun (pos : Nat) W => Tryd.strings_HasPrefix (s.extract pos s.size) ⟨#[239, 191, 189]⟩ W)
  have hmax : IntKind.i64.wrap (s.size : Int) = s.size := by rw [IntKind.wrap_i64]; omega
  obtain ⟨v, hv⟩ : ∃ v : Int, (if Te.right s then (0 : Int) else 11) = v := ⟨_, rfl⟩
  rw [hv]
  have HT : Hid (Te.right s = true → v = 0) := fun h => by rw [← hv, if_pos h]
  have HF : Hid (Te.right s = false → v = 11) := fun h => by rw [← hv, if_neg (by rw [h]; decide)]
  clear hv
  go_enter Tryd.func15, Tryd.ntmps15
  go_wp2
  go_loopw [8] (fun _ wr => ∃ (pos f : Nat), wr = w.iter s pos ∧ s.size ≤ pos + f ∧ Hid (Te.rightFrom s f pos = Te.right s)) (fun _ wr => s.size - wr.iterPos w.heap.size)
  case atStart => exact ⟨0, s.size, rfl, by omega, rfl⟩
  case round =>
    obtain ⟨pos, f, rfl, hf, HR⟩ := hrel
    by_cases hp : pos < s.size
    · have hnx : ∀ ty, (Instr.next (.pointer (some ⟨w.heap.size, 0, none⟩)) true ty).run Tryd.prog (w.iter s pos) = _ := fun ty => run_next_any w s pos ty hp
      have hw := Te.width_pos s pos hp
      obtain ⟨f, rfl⟩ : ∃ g, f = g + 1 := ⟨f - 1, by omega⟩
      have HB : Hid (Te.bad s pos = true → Te.right s = false) := fun hb => by
        rw [← HR.out, Te.rightFrom, if_pos hp, hb]; rfl
      have HG : Hid (Te.bad s pos = false → Te.rightFrom s f (pos + (Utf8.decode s pos).2) = Te.right s) := fun hb => by
        rw [← HR.out, Te.rightFrom, if_pos hp, hb]; rfl
      have HU : Hid (Te.bad s pos = (decide ((Utf8.decode s pos).1 = 65533) && !(Lib.hasPrefix (s.extract pos s.size).data.toList [239, 191, 189]))) := by
        show Te.bad s pos = _
        unfold Te.bad Te.wrongL tl
        rw [Lib.extract_data, List.take_of_length_le (by rw [List.length_drop]; rw [← Lib.size_eq]; exact Nat.le_refl _)]
        rfl
      clear HR
      obtain ⟨c, hc⟩ : ∃ c, (Utf8.decode s pos).1 = c := ⟨_, rfl⟩
      obtain ⟨n, hn⟩ : ∃ n, (Utf8.decode s pos).2 = n := ⟨_, rfl⟩
      rw [hc] at HU hnx
      rw [hn] at HG hnx hw
      clear hc hn
      have c1 : (0 : Int) ≤ (pos : Int) := by omega
      have c2 : (pos : Int) ≤ (s.size : Int) := by omega
      by_cases hce : c = 65533
      · subst hce
        obtain ⟨b, hb⟩ : ∃ b, Lib.hasPrefix (s.extract pos s.size).data.toList [239, 191, 189] = b := ⟨_, rfl⟩
        rw [hb] at HU
        have HP1 : Hid (∀ W, Calls Tryd.prog 30 #[.string (s.extract pos s.size), .string ⟨#[239, 191, 189]⟩] W fun e w' => e = .returned (.bool b) ∧ w' = W) := fun W => by
          have h := HP.out pos W
          rw [hb] at h
          exact h
        clear hb
        cases b with
        | false =>
          have HE := Lib.hid (HF.out (HB.out (by rw [HU.out]; rfl)))
          clear HU HB HG
          go_wp2_with (refine (HP1.out _).mono ?_; rintro e w' ⟨rfl, rfl⟩)
          go_ret2
          exact ⟨⟨_, by rw [HE.out]; rfl⟩, iter_below s _⟩
        | true =>
          have HE := Lib.hid (HG.out (by rw [HU.out]; rfl))
          clear HU HB HG
          go_wp2_with (refine (HP1.out _).mono ?_; rintro e w' ⟨rfl, rfl⟩)
          go_wp2
          go_roundw
          case rel => exact ⟨pos + n, f, rfl, by omega, HE⟩
          case measure => simp only [World.iterPos_iter]; omega
      · have qc : ((c : Int) == 65533) = false := by rw [beq_eq_false_iff_ne]; omega
        have qd : ¬ (c : Int) = 65533 := by omega
        have HE := Lib.hid (HG.out (by rw [HU.out, decide_eq_false hce]; rfl))
        clear HU HB HG
        go_wp2
        go_roundw
        case rel => exact ⟨pos + n, f, rfl, by omega, HE⟩
        case measure => simp only [World.iterPos_iter]; omega
    · have hnx : ∀ ty, (Instr.next (.pointer (some ⟨w.heap.size, 0, none⟩)) true ty).run Tryd.prog (w.iter s pos) = _ := fun ty => run_next_end w s pos ty hp
      have HE : Hid (v = 0) := HT.out (by
        rw [← HR.out]
        exact Te.rightFrom_end s f pos hp)
      go_wp2
      go_ret2
      exact ⟨⟨_, by rw [HE.out]; rfl⟩, iter_below s pos⟩
set_option maxHeartbeats 2000000 in
set_option maxRecDepth 100000 in
theorem utfPlain_any (s : ByteArray) (hs : s.size ≤ maxLen) (w : World) :
    Calls Tryd.prog 46 #[.string s] w fun e w' => e = .returned (.bool (Te.plain s)) ∧ Below w.heap.size w w' := by
  have hC := utfCheck_any s hs w
  obtain ⟨v, hv⟩ : ∃ v, Te.plain s = v := ⟨_, rfl⟩
  rw [hv]
  have HV := Lib.hid hv
  clear hv
  go_enter Tryd.func46, Tryd.ntmps46
  cases hr : Te.right s with
  | false =>
    rw [hr, if_neg (by decide)] at hC
    have HE : Hid (v = false) := by
      show v = false
      rw [← HV.out]; unfold Te.plain; rw [hr]; rfl
    have HC := Lib.hid hC
    clear hC hr
    go_wp2_with (refine HC.out.mono ?_; rintro e w1 ⟨⟨i, rfl⟩, hb⟩)
    go_ret
    exact ⟨by rw [HE.out]; rfl, hb⟩
  | true =>
    rw [hr, if_pos rfl] at hC
    have HE : Hid (v = Te.plainFrom s s.size 0) := by
      show v = _
      rw [← HV.out]; unfold Te.plain; rw [hr]; rfl
    have HC := Lib.hid hC
    clear hC hr HV
    go_wp2_with (refine HC.out.mono ?_; rintro e w1 ⟨⟨i, rfl⟩, hb⟩)
    have HB1 := Lib.hid hb
    clear hb HC
    go_loopw [16] (fun _ wr => ∃ (pos f : Nat), wr = w1.iter s pos ∧ s.size ≤ pos + f ∧ Hid (v = Te.plainFrom s f pos)) (fun _ wr => s.size - wr.iterPos w1.heap.size)
    case atStart => exact ⟨0, s.size, rfl, by omega, HE⟩
    case round =>
      obtain ⟨pos, f, rfl, hf, HR⟩ := hrel
      by_cases hp : pos < s.size
      · have hnx : ∀ ty, (Instr.next (.pointer (some ⟨w1.heap.size, 0, none⟩)) true ty).run Tryd.prog (w1.iter s pos) = _ := fun ty => run_next_any w1 s pos ty hp
        have hw := Te.width_pos s pos hp
        obtain ⟨f, rfl⟩ : ∃ g, f = g + 1 := ⟨f - 1, by omega⟩
        have HG : Hid (v = (!(Te.low (Utf8.decode s pos).1) && Te.plainFrom s f (pos + (Utf8.decode s pos).2))) := by
          show v = _
          rw [HR.out, Te.plainFrom, if_pos hp]
        clear HR
        obtain ⟨c, hc⟩ : ∃ c, (Utf8.decode s pos).1 = c := ⟨_, rfl⟩
        obtain ⟨n, hn⟩ : ∃ n, (Utf8.decode s pos).2 = n := ⟨_, rfl⟩
        rw [hc, hn] at HG hnx
        rw [hn] at hw
        clear hc hn
        by_cases h32 : c < 32
        · have q1 : (c : Int) < 32 := by omega
          have HX : Hid (v = false) := by
            show v = false
            rw [HG.out]; unfold Te.low; rw [decide_eq_true h32]; rfl
          clear HG
          go_wp2
          go_ret
          exact ⟨by rw [HX.out]; rfl, HB1.out.trans ((iter_below s _).mono HB1.out.size)⟩
        · have q1 : ¬ (c : Int) < 32 := by omega
          by_cases h127 : c = 127
          · subst h127
            have HX : Hid (v = false) := by
              show v = false
              rw [HG.out]; rfl
            clear HG
            go_wp2
            go_ret
            exact ⟨by rw [HX.out]; rfl, HB1.out.trans ((iter_below s _).mono HB1.out.size)⟩
          · have q2 : ¬ (c : Int) = 127 := by omega
            have HX : Hid (v = Te.plainFrom s f (pos + n)) := by
              show v = _
              rw [HG.out]; unfold Te.low; rw [decide_eq_false h32, show (c == 127) = false from by rw [beq_eq_false_iff_ne]; exact h127]; rfl
            clear HG
            go_wp2
            go_roundw
            case rel => exact ⟨pos + n, f, rfl, by omega, HX⟩
            case measure => simp only [World.iterPos_iter]; omega
      · have hnx : ∀ ty, (Instr.next (.pointer (some ⟨w1.heap.size, 0, none⟩)) true ty).run Tryd.prog (w1.iter s pos) = _ := fun ty => run_next_end w1 s pos ty hp
        have HX : Hid (v = true) := by
          show v = true
          rw [HR.out]
          exact Te.plainFrom_end s f pos hp
        go_wp2
        go_ret
        exact ⟨by rw [HX.out]; rfl, HB1.out.trans ((iter_below s _).mono HB1.out.size)⟩
end Go.Proofs.YthmhadgbhakdlaaDoor

/- Words for markup's walks: parts of texts, the first that do not fit. -/
namespace Go.Proofs.YthmhadgbhakdlaaDoor
open Go.RowKit

namespace Mk
theorem bts_take (s : ByteArray) (k : Nat) : bts ((tl s).take k) = s.extract 0 k := by
  apply ByteArray.ext
  unfold bts tl
  apply Array.toList_inj.1
  rw [ByteArray.data_extract, Array.toList_extract]
  simp [List.extract]
theorem bts_drop (s : ByteArray) (k : Nat) : bts ((tl s).drop k) = s.extract k s.size := by
  apply ByteArray.ext
  unfold bts tl
  apply Array.toList_inj.1
  rw [ByteArray.data_extract, Array.toList_extract]
  simp only [List.extract]
  rw [List.take_of_length_le]
  rw [List.length_drop]
  exact Nat.le_refl _
theorem bts_mid (s : ByteArray) (a b : Nat) : bts (((tl s).drop a).take (b - a)) = s.extract a b := by
  apply ByteArray.ext
  unfold bts tl
  apply Array.toList_inj.1
  rw [ByteArray.data_extract, Array.toList_extract]
theorem tl_mid (s : ByteArray) (a b : Nat) : tl (s.extract a b) = ((tl s).drop a).take (b - a) := by rw [← bts_mid]; rfl
theorem tl_from (s : ByteArray) (k : Nat) : tl (s.extract k s.size) = (tl s).drop k := by rw [← bts_drop]; rfl
theorem at_tl (s : ByteArray) (k : Nat) (h : k < s.size) : (tl s)[k]? = some s[k] := by
  unfold tl
  rw [Array.getElem?_toList, Array.getElem?_eq_getElem (by exact h)]
  rfl
def upto (p : UInt8 → Bool) (l : Txt) (k : Nat) : Prop := ∀ j, j < k → ∃ b, l[j]? = some b ∧ p b = true
theorem upto_zero (p : UInt8 → Bool) (l : Txt) : upto p l 0 := fun _ h => by omega
theorem upto_succ {p : UInt8 → Bool} {l : Txt} {k : Nat} (h : upto p l k) (b : UInt8) (hb : l[k]? = some b) (hp : p b = true) : upto p l (k + 1) := by
  intro j hj
  by_cases e : j = k
  · subst e; exact ⟨b, hb, hp⟩
  · exact h j (by omega)
theorem upto_cut {p : UInt8 → Bool} : ∀ (l : Txt) (k : Nat), upto p l k → (∀ b, l[k]? = some b → p b = false) → l.takeWhile p = l.take k ∧ l.dropWhile p = l.drop k
  | [], k, _, _ => by simp
  | b :: l, 0, _, h2 => by
    have := h2 b rfl
    rw [List.takeWhile_cons, List.dropWhile_cons, this]
    exact ⟨rfl, rfl⟩
  | b :: l, k + 1, h1, h2 => by
    obtain ⟨c, hc, hp⟩ := h1 0 (by omega)
    cases hc
    have ih := upto_cut l k (fun j hj => h1 (j + 1) (by omega)) h2
    rw [List.takeWhile_cons, List.dropWhile_cons, hp, List.take_succ_cons, List.drop_succ_cons, ← ih.1, ← ih.2]
    exact ⟨rfl, rfl⟩
theorem emp_no {s : ByteArray} (h : 0 < s.size) : s.toList.isEmpty = false := by
  rw [Lib.toList_data]
  cases e : s.data.toList with
  | nil => have := Lib.size_eq s; rw [e, List.length_nil] at this; omega
  | cons _ _ => rfl
theorem emp_yes {s : ByteArray} (h : s.size = 0) : s.toList.isEmpty = true := by
  rw [Lib.toList_data]
  cases e : s.data.toList with
  | nil => rfl
  | cons _ _ => have := Lib.size_eq s; rw [e, List.length_cons] at this; omega
theorem is_list {s : ByteArray} {l : Txt} (h : tl s = l) : (s.toList == l) = true := by
  rw [Lib.toList_data]
  exact beq_iff_eq.2 h
theorem not_list {s : ByteArray} {l : Txt} (h : tl s ≠ l) : (s.toList == l) = false := by
  rw [Lib.toList_data]
  exact beq_eq_false_iff_ne.2 h
end Mk
end Go.Proofs.YthmhadgbhakdlaaDoor

/- markup: the first bad byte, names, white. -/
namespace Go.Proofs.YthmhadgbhakdlaaDoor
open Go.RowKit

namespace Mk
def lowAt (l : Txt) (n : Int) : Prop := (n = -1 ∧ ∀ b ∈ l, low b = false) ∨ ∃ k : Nat, n = (k : Int) ∧ k < l.length ∧ ∃ b ∈ l, low b = true
theorem low_none {l : Txt} {k : Nat} (h : upto (fun b => !low b) l k) (hk : l.length ≤ k) : ∀ b ∈ l, low b = false := by
  intro b hb
  obtain ⟨j, hj, rfl⟩ := List.mem_iff_getElem.1 hb
  obtain ⟨c, hc, hp⟩ := h j (by omega)
  rw [List.getElem?_eq_getElem hj] at hc
  cases hc
  simpa using hp
theorem cut_none {s : ByteArray} (h : begins (tl s) = false) : bts (cutN (tl s)).1 = ByteArray.empty ∧ bts (cutN (tl s)).2 = s := by
  have e : cutN (tl s) = ([], tl s) := by unfold cutN; rw [h]; rfl
  rw [e]
  exact ⟨rfl, rfl⟩
theorem empty_of {s : ByteArray} (h : s.size = 0) : s = ByteArray.empty := ByteArray.ext (Array.eq_empty_of_size_eq_zero h)
theorem cut_some {s : ByteArray} {k : Nat} (h : begins (tl s) = true) (h1 : upto sign (tl s) k) (h2 : ∀ b, (tl s)[k]? = some b → sign b = false) : bts (cutN (tl s)).1 = s.extract 0 k ∧ bts (cutN (tl s)).2 = s.extract k s.size := by
  have e : cutN (tl s) = ((tl s).take k, (tl s).drop k) := by unfold cutN; rw [h, if_pos rfl, (upto_cut _ _ h1 h2).1, (upto_cut _ _ h1 h2).2]
  rw [e]
  exact ⟨bts_take s k, bts_drop s k⟩
theorem begins_at {s : ByteArray} (h : 0 < s.size) : begins (tl s) = letter s[0] := by
  have := at_tl s 0 h
  cases e : tl s with
  | nil => rw [e] at this; cases this
  | cons b r => rw [e] at this; cases this; rfl
theorem begins_none {s : ByteArray} (h : s.size = 0) : begins (tl s) = false := by
  cases e : tl s with
  | nil => rfl
  | cons b r => have := tl_length s; rw [e, List.length_cons] at this; omega
end Mk
set_option maxHeartbeats 2000000 in
set_option maxRecDepth 100000 in
theorem badByte_any (s : ByteArray) (hs : s.size ≤ maxLen) (w : World) :
    Calls Tryd.prog 16 #[.string s] w fun e w' => (∃ n : Int, e = .returned (.int .i64 n) ∧ Mk.lowAt (tl s) n) ∧ w = w' := by
  unfold maxLen at hs
  have HSz := Lib.hid (tl_length s)
  have hmax : IntKind.i64.wrap (s.size : Int) = s.size := by rw [IntKind.wrap_i64]; omega
  go_enter Tryd.func16, Tryd.ntmps16
  go_wp2
  go_loopw [6] (fun i wr => ∃ k : Nat, k ≤ s.size ∧ i = .int .i64 (k : Int) ∧ Hid (Mk.upto (fun b => !Mk.low b) (tl s) k) ∧ wr = w) (fun i _ => s.size - (intOf i).toNat)
  case atStart => exact ⟨0, Nat.zero_le _, rfl, Mk.upto_zero _ _, rfl⟩
  case round =>
    obtain ⟨k, hk, rfl, HU, rfl⟩ := hrel
    by_cases hlt : k < s.size
    · have q1 : (0 : Int) ≤ (k : Int) := by omega
      have q2 : (k : Int) < (s.size : Int) := by omega
      obtain ⟨b, hb⟩ : ∃ b, s[k]'hlt = b := ⟨_, rfl⟩
      have HA : Hid ((tl s)[k]? = some b) := by show _ = _; rw [← hb]; exact Mk.at_tl s k hlt
      have hbk := hb
      obtain ⟨v, hv⟩ : ∃ v, Mk.white b = v := ⟨_, rfl⟩
      have HW : Hid (∀ W, Calls Tryd.prog 31 #[.int .u8 (b.toNat : Int)] W fun e w' => e = .returned (.bool v) ∧ W = w') := fun W => by rw [← hv]; exact isWhite_any b W
      have HV := Lib.hid hv
      clear hv
      by_cases hl : (b.toNat : Int) < 32
      · cases v with
        | true =>
          have HN : Hid (Mk.upto (fun b => !Mk.low b) (tl s) (k + 1)) := Mk.upto_succ HU.out b HA.out (by unfold Mk.low; rw [HV.out]; simp)
          go_wp2_with (refine (HW.out _).mono ?_; rintro e w' ⟨rfl, rfl⟩)
          go_wp2
          go_roundw
          case rel => exact ⟨k + 1, by omega, by go_num, HN, trivial⟩
          case measure => simp [intOf]; omega
        | false =>
          have HN : Hid (Mk.low b = true) := by show _ = _; unfold Mk.low; rw [HV.out]; simp; omega
          go_wp2_with (refine (HW.out _).mono ?_; rintro e w' ⟨rfl, rfl⟩)
          go_wp2
          go_ret
          exact ⟨⟨_, rfl, .inr ⟨k, rfl, by rw [HSz.out]; exact hlt, b, List.mem_of_getElem? HA.out, HN.out⟩⟩, rfl⟩
      · have HN : Hid (Mk.upto (fun b => !Mk.low b) (tl s) (k + 1)) := Mk.upto_succ HU.out b HA.out (by unfold Mk.low; simp; omega)
        go_wp2
        go_roundw
        case rel => exact ⟨k + 1, by omega, by go_num, HN, trivial⟩
        case measure => simp [intOf]; omega
    · have q2 : ¬ (k : Int) < (s.size : Int) := by omega
      go_wp2
      go_ret
      exact ⟨⟨_, rfl, .inl ⟨rfl, Mk.low_none HU.out (by rw [HSz.out]; omega)⟩⟩, rfl⟩
set_option maxHeartbeats 2000000 in
set_option maxRecDepth 100000 in
theorem cutName_any (s : ByteArray) (hs : s.size ≤ maxLen) (w : World) :
    Calls Tryd.prog 65 #[.string s] w fun e w' => e = .returned (.tuple #[.string (Mk.bts (Mk.cutN (tl s)).1), .string (Mk.bts (Mk.cutN (tl s)).2)]) ∧ Drew w w' := by
  unfold maxLen at hs
  have hmax : IntKind.i64.wrap (s.size : Int) = s.size := by rw [IntKind.wrap_i64]; omega
  have c0 : (0 : Int) ≤ 0 := by omega
  have c1 : (0 : Int) ≤ (s.size : Int) := by omega
  have HN := Lib.hid (fun h => Mk.cut_none (s := s) h)
  have HS := Lib.hid (fun k h h1 h2 => Mk.cut_some (s := s) (k := k) h h1 h2)
  obtain ⟨R1, hR1⟩ : ∃ x, Mk.bts (Mk.cutN (tl s)).1 = x := ⟨_, rfl⟩
  obtain ⟨R2, hR2⟩ : ∃ x, Mk.bts (Mk.cutN (tl s)).2 = x := ⟨_, rfl⟩
  rw [hR1, hR2] at HN HS ⊢
  clear hR1 hR2
  by_cases h0 : s.size = 0
  · have he := Mk.emp_yes h0
    obtain ⟨e1, e2⟩ := HN.out (Mk.begins_none h0)
    rw [Mk.empty_of h0] at e2
    subst e1 e2
    clear HN HS
    go_enter Tryd.func65, Tryd.ntmps65
    go_wp2
    go_quiet (fail)
    go_wp2
    go_ret2
    exact ⟨rfl, by first | exact Drew.refl _ | exact ⟨_, rfl⟩⟩
  · have hp : 0 < s.size := by omega
    have he := Mk.emp_no hp
    have HB := Lib.hid (Mk.begins_at hp)
    obtain ⟨b, hb⟩ : ∃ b, s[0]'hp = b := ⟨_, rfl⟩
    rw [hb] at HB
    have q0 : (0 : Int) < (s.size : Int) := by omega
    obtain ⟨v, hv⟩ : ∃ v, Mk.letter b = v := ⟨_, rfl⟩
    have HL : Hid (∀ W, Calls Tryd.prog 79 #[.int .u8 (b.toNat : Int)] W fun e w' => e = .returned (.bool v) ∧ W = w') := fun W => by rw [← hv]; exact isLetter_any b W
    rw [hv] at HB
    clear hv
    cases v with
    | false =>
      obtain ⟨e1, e2⟩ := HN.out HB.out
      subst e1 e2
      clear HN HS
      go_enter Tryd.func65, Tryd.ntmps65
      go_wp2_with (refine (HL.out _).mono ?_; rintro e w' ⟨rfl, rfl⟩)
      go_wp2
      go_quiet (fail)
      go_wp2
      go_ret2
      exact ⟨rfl, by first | exact Drew.refl _ | exact ⟨_, rfl⟩⟩
    | true =>
      go_enter Tryd.func65, Tryd.ntmps65
      go_wp2_with (refine (HL.out _).mono ?_; rintro e w' ⟨rfl, rfl⟩)
      go_loopw [4] (fun i wr => ∃ k : Nat, k ≤ s.size ∧ i = .int .i64 (k : Int) ∧ Hid (Mk.upto Mk.sign (tl s) k) ∧ wr = w) (fun i _ => s.size - (intOf i).toNat)
      case atStart => exact ⟨0, Nat.zero_le _, rfl, Mk.upto_zero _ _, rfl⟩
      case round =>
        obtain ⟨k, hk, rfl, HU, rfl⟩ := hrel
        have p1 : (0 : Int) ≤ (k : Int) := by omega
        have p2 : (k : Int) ≤ (s.size : Int) := by omega
        by_cases hlt : k < s.size
        · have q2 : (k : Int) < (s.size : Int) := by omega
          obtain ⟨c, hc⟩ : ∃ b, s[k]'hlt = b := ⟨_, rfl⟩
          have HA : Hid ((tl s)[k]? = some c) := by show _ = _; rw [← hc]; exact Mk.at_tl s k hlt
          have hck := hc
          obtain ⟨v, hv⟩ : ∃ v, Mk.sign c = v := ⟨_, rfl⟩
          have HW : Hid (∀ W, Calls Tryd.prog 80 #[.int .u8 (c.toNat : Int)] W fun e w' => e = .returned (.bool v) ∧ W = w') := fun W => by rw [← hv]; exact isSign_any c W
          have HV := Lib.hid hv
          clear hv
          cases v with
          | true =>
            have HX : Hid (Mk.upto Mk.sign (tl s) (k + 1)) := Mk.upto_succ HU.out c HA.out HV.out
            go_wp2_with (refine (HW.out _).mono ?_; rintro e w' ⟨rfl, rfl⟩)
            go_wp2
            go_roundw
            case rel => exact ⟨k + 1, by omega, by go_num, HX, trivial⟩
            case measure => simp [intOf]; omega
          | false =>
            obtain ⟨e1, e2⟩ := HS.out k HB.out HU.out (fun b hb => by rw [HA.out] at hb; cases hb; exact HV.out)
            subst e1 e2
            clear HN HS
            go_wp2_with (refine (HW.out _).mono ?_; rintro e w' ⟨rfl, rfl⟩)
            go_wp2
            go_quiet (fail)
            go_wp2
            go_ret2
            exact ⟨rfl, by first | exact Drew.refl _ | exact ⟨_, rfl⟩⟩
        · have q2 : ¬ (k : Int) < (s.size : Int) := by omega
          obtain ⟨e1, e2⟩ := HS.out k HB.out HU.out (fun b hb => by
            have h1 := List.getElem?_eq_some_iff.1 hb
            obtain ⟨h2, _⟩ := h1
            rw [tl_length] at h2
            omega)
          subst e1 e2
          clear HN HS
          go_wp2
          go_quiet (fail)
          go_wp2
          go_ret2
          exact ⟨rfl, by first | exact Drew.refl _ | exact ⟨_, rfl⟩⟩
theorem skip_eq (s : ByteArray) : (⟨(Lib.trimLeftS s.data.toList (⟨#[32, 9, 10, 13]⟩ : ByteArray).data.toList).toArray⟩ : ByteArray) = Mk.bts (Mk.skip (tl s)) := by
  unfold Mk.bts Mk.skip Lib.trimLeftS
  have h : (fun x => (⟨#[32, 9, 10, 13]⟩ : ByteArray).data.toList.contains x) = Mk.white := by
    funext b
    exact Mk.byte_all (P := fun b => List.contains [32, 9, 10, 13] b = Mk.white b) (by decide +kernel) b
  rw [h]
  rfl
theorem trimLeft_any (s : ByteArray) (w : World) :
    Calls Tryd.prog 63 #[.string s, .string ⟨#[32, 9, 10, 13]⟩] w fun e w' => e = .returned (.string (Mk.bts (Mk.skip (tl s)))) ∧ Below w.heap.size w w' := by
  rw [← skip_eq]
  exact Any.strings_TrimLeft_laid Tryd.lays161 (by kernel_rfl) s ⟨#[32, 9, 10, 13]⟩ w (by decide) (ascii_of_all (by decide))
theorem skipWhite_any (s : ByteArray) (w : World) :
    Calls Tryd.prog 50 #[.string s] w fun e w' => e = .returned (.string (Mk.bts (Mk.skip (tl s)))) ∧ Below w.heap.size w w' := by
  have HT := Lib.hid (fun W => trimLeft_any s W)
  go_enter Tryd.func50, Tryd.ntmps50
  go_wp2_with (refine (HT.out _).mono ?_; rintro e w' ⟨rfl, hb⟩)
  go_ret
  exact ⟨rfl, hb⟩
end Go.Proofs.YthmhadgbhakdlaaDoor
