/- The contracts of package civil. -/
import Derived.Test.YtajcgoinhpengaaDoorK01
import Derived.Test.YtajcgoinhpengaaDoorK03
import Derived.WalkKit
import Derived.Outline
import Derived.Lib.Hide
import Derived.IntWalk
import Derived.WalkSpells
import Derived.WalkLawsBesides
import Derived.Deep.DeepFit
import Derived.Deep.DeepCutAuto

namespace Go.Proofs.YtajcgoinhpengaaDoor
open Go.RowKit

def InCal (y m : Int) : Prop := 1 ≤ y ∧ y ≤ 9999 ∧ 1 ≤ m ∧ m ≤ 12

theorem ret_int2 {k : IntKind} {a b : Int} {v : Value} (h : a = b) : Ending.returned (.tuple #[.int k a, v]) = .returned (.tuple #[.int k b, v]) := by rw [h]

theorem valid_31 {y m d : Int} (h : Cv.Valid y m d) : 1 ≤ d ∧ d ≤ 31 := by
  obtain ⟨h1, h2, h3, h4, h5, h6⟩ := h
  rw [Cv.len_month y m h3 h4] at h6
  refine ⟨h5, ?_⟩
  split at h6
  · split at h6 <;> omega
  · split at h6 <;> omega

def dow (n : Int) : Int := (n % 7 + 4) % 7
theorem tmod_7 (n : Int) : n.tmod 7 = if 0 ≤ n then n % 7 else -((-n) % 7) := by
  by_cases h : 0 ≤ n
  · rw [if_pos h, Int.tmod_eq_emod_of_nonneg h]
  · rw [if_neg h]
    have : n = -(-n) := by omega
    rw [this, Int.neg_tmod, Int.tmod_eq_emod_of_nonneg (by omega)]
    omega
theorem dow_walk (n : Int) : (wrap64 (n.tmod 7 + 11)).tmod 7 = dow n := by
  have h := tmod_7 n
  have hb : 0 ≤ n.tmod 7 + 11 ∧ n.tmod 7 + 11 ≤ 17 := by rw [h]; split <;> omega
  have hw : wrap64 (n.tmod 7 + 11) = n.tmod 7 + 11 := by unfold wrap64; omega
  rw [hw, Int.tmod_eq_emod_of_nonneg hb.1, h]
  unfold dow
  split <;> omega
theorem num_min : Cv.num 1 1 1 = -719162 := by decide
theorem num_max : Cv.num 10000 1 1 = 2932897 := by decide
end Go.Proofs.YtajcgoinhpengaaDoor
