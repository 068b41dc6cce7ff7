/- Plain law of the days of a month: what is read of a text, and how one is written. -/
import Derived.Test.YtokimlfbfbfenaaDoorDays
import Derived.Test.YtokimlfbfbfenaaDoorNumMath
namespace Go.Proofs.YtokimlfbfbfenaaDoor.Dy
open Go.RowKit

/-- Whether a day is right: 0, or 2. -/
def Ok (k n w : Int) : Prop := (k = 0 ∧ 1 ≤ n ∧ n ≤ 31 ∧ w = 0) ∨ (k = 1 ∧ n = 0 ∧ 0 ≤ w ∧ w ≤ 6) ∨ ((k = 2 ∨ k = 3) ∧ 1 ≤ n ∧ n ≤ 31 ∧ 0 ≤ w ∧ w ≤ 6)
instance (k n w : Int) : Decidable (Ok k n w) := by unfold Ok; exact inferInstance

def numD (l : List UInt8) : Int := if l.length < 1 ∨ 2 < l.length then -1 else numLoop l 0

theorem numLoop_bd : ∀ (l : List UInt8) (a : Int), 0 ≤ a → a < 100000 → l.length ≤ 2 → -1 ≤ numLoop l a ∧ numLoop l a < 100000000 := by
  intro l a h0 h1 hl
  match l, hl with
  | [], _ => simp only [numLoop]; omega
  | [c], _ =>
    simp only [numLoop]
    split <;> omega
  | [c, d], _ =>
    simp only [numLoop]
    split
    · omega
    · split <;> omega
theorem numD_bd (l : List UInt8) : -1 ≤ numD l ∧ numD l < 100000000 := by
  unfold numD
  split
  · omega
  · exact numLoop_bd l 0 (by omega) (by omega) (by omega)

def lastL : List UInt8 := [108, 97, 115, 116]
def fromL : List UInt8 := [62, 61]
def uptoL : List UInt8 := [60, 61]
def told (l : List UInt8) : Int × Int × Int :=
  if 0 ≤ numD l then (0, numD l, 0)
  else if 4 ≤ l.length ∧ Wd.same (l.take 4) lastL = true then (1, 0, Wd.pick (l.drop 4) (Days.map tl))
  else if (Lib.cut l fromL).2.2 = true then (2, numD (Lib.cut l fromL).2.1, Wd.pick (Lib.cut l fromL).1 (Days.map tl))
  else if (Lib.cut l uptoL).2.2 = true then (3, numD (Lib.cut l uptoL).2.1, Wd.pick (Lib.cut l uptoL).1 (Days.map tl))
  else (4, 0, 0)
def dec (n : Int) : List UInt8 := if n < 10 then [UInt8.ofNat (48 + n.toNat)] else [UInt8.ofNat (48 + n.toNat / 10), UInt8.ofNat (48 + n.toNat % 10)]
theorem dec_eq (n : Nat) (h : n < 100) : Lib.decDigits n = dec (n : Int) := by
  unfold dec Lib.decDigits
  by_cases h1 : n < 10
  · rw [dif_pos h1, if_pos (by omega), Int.toNat_natCast]
  · rw [dif_neg h1, if_neg (by omega), Int.toNat_natCast]
    unfold Lib.decDigits
    rw [dif_pos (by omega)]; rfl
def text (k n w : Int) : List UInt8 :=
  if k = 1 then lastL ++ tl (textOf Days w) else if k = 2 then tl (textOf Days w) ++ fromL ++ dec n else if k = 3 then tl (textOf Days w) ++ uptoL ++ dec n else dec n

def backOk (k n w : Int) : Bool := decide (told (text k n w) = (k, n, w))
theorem back0 : ∀ n : Nat, n < 31 → backOk 0 ((n : Int) + 1) 0 = true := by decide +kernel
theorem back1 : ∀ w : Nat, w < 7 → backOk 1 0 (w : Int) = true := by decide +kernel
theorem back2 : ∀ n : Nat, n < 31 → ∀ w : Nat, w < 7 → backOk 2 ((n : Int) + 1) (w : Int) = true := by decide +kernel
theorem back3 : ∀ n : Nat, n < 31 → ∀ w : Nat, w < 7 → backOk 3 ((n : Int) + 1) (w : Int) = true := by decide +kernel
/-- A right day is read from its text. -/
theorem told_text (k n w : Int) (h : Ok k n w) : told (text k n w) = (k, n, w) := by
  rcases h with ⟨rfl, h1, h2, rfl⟩ | ⟨rfl, rfl, h1, h2⟩ | ⟨hk, h1, h2, h3, h4⟩
  · have := back0 (n - 1).toNat (by omega)
    rw [show (((n - 1).toNat : Nat) : Int) + 1 = n by omega] at this
    exact of_decide_eq_true this
  · have := back1 w.toNat (by omega)
    rw [show ((w.toNat : Nat) : Int) = w by omega] at this
    exact of_decide_eq_true this
  · rcases hk with rfl | rfl
    · have := back2 (n - 1).toNat (by omega) w.toNat (by omega)
      rw [show (((n - 1).toNat : Nat) : Int) + 1 = n by omega, show ((w.toNat : Nat) : Int) = w by omega] at this
      exact of_decide_eq_true this
    · have := back3 (n - 1).toNat (by omega) w.toNat (by omega)
      rw [show (((n - 1).toNat : Nat) : Int) + 1 = n by omega, show ((w.toNat : Nat) : Int) = w by omega] at this
      exact of_decide_eq_true this
end Go.Proofs.YtokimlfbfbfenaaDoor.Dy
