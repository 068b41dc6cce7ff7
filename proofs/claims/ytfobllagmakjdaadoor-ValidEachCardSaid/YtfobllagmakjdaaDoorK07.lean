/- The contracts of package abbr: signs, CheckLetter. -/
import Derived.Test.YtfobllagmakjdaaDoorK02
import Derived.Test.YtfobllagmakjdaaDoorK06
namespace Go.Proofs.YtfobllagmakjdaaDoor
open Go.RowKit

namespace Ab
def sgn (c : Int) : Bool := decide ((97 ≤ c ∧ c ≤ 122) ∨ (65 ≤ c ∧ c ≤ 90) ∨ (48 ≤ c ∧ c ≤ 57) ∨ c = 43 ∨ c = 45)
def signs (l : List UInt8) : Bool := l.all fun c => sgn (c.toNat : Int)
def all (ss : List ByteArray) : Bool := ss.all fun s => signs (tl s)
def letter (s : ByteArray) : Bool := decide (s.size ≤ 32) && !decide (s = ⟨#[45]⟩) && signs (tl s)
theorem cases_ (c : Int) (h0 : 0 ≤ c) (h1 : c ≤ 255) : (0 ≤ c ∧ c ≤ 42) ∨ (43 ≤ c ∧ c ≤ 43) ∨ (44 ≤ c ∧ c ≤ 44) ∨ (45 ≤ c ∧ c ≤ 45) ∨ (46 ≤ c ∧ c ≤ 47) ∨ (48 ≤ c ∧ c ≤ 57) ∨ (58 ≤ c ∧ c ≤ 64) ∨ (65 ≤ c ∧ c ≤ 90) ∨ (91 ≤ c ∧ c ≤ 96) ∨ (97 ≤ c ∧ c ≤ 122) ∨ (123 ≤ c ∧ c ≤ 255) := by omega
theorem signs_step (l : List UInt8) (k : Nat) (c : UInt8) (X Y : Bool) (h : X = (signs (l.drop k) && Y)) (hc : l[k]? = some c) : X = (sgn (c.toNat : Int) && (signs (l.drop (k + 1)) && Y)) := by
  rw [h, drop_of hc]
  unfold signs
  rw [List.all_cons, Bool.and_assoc]
end Ab
set_option maxHeartbeats 2000000 in
set_option maxRecDepth 100000 in
theorem signs_any (A : Option Addr) (n c : Nat) (ss : List ByteArray) (w : World) (hn : n ≤ maxLen) (hr : Reads w w.heap.size 1 A n (ss.map Value.string)) (hs : ∀ t ∈ ss, t.size ≤ 1000000) :
    Calls Tryd.prog 35 #[.slice A n c] w fun e w' => e = .returned (.bool (Ab.all ss)) ∧ w = w' := by
  unfold maxLen at hn
  have hlen : ss.length = n := by have := hr.1; simpa using this
  obtain ⟨X, hX⟩ : ∃ X, Ab.all ss = X := ⟨_, rfl⟩
  have h0 : X = Ab.all (ss.drop 0) := hX.symm
  rw [hX]
  have H0 := Lib.hid h0
  have HR := Lib.hid hr
  have HS := Lib.hid hs
  have HLen := Lib.hid hlen
  clear hX h0 hr hs hlen
  go_enter Tryd.func35, Tryd.ntmps35
  go_wp2
  go_loop [9] (fun i => ∃ k : Nat, k ≤ n ∧ i = .int .i64 k ∧ Hid (X = Ab.all (ss.drop k))) (fun i => n - (intOf i).toNat)
  case atStart => exact ⟨0, Nat.zero_le _, rfl, H0.out⟩
  case round =>
    obtain ⟨k, hk, rfl, HK⟩ := hrel
    by_cases hlt : k < n
    · obtain ⟨ad, s, rfl, hnm, hcell⟩ : ∃ ad nm, A = some ad ∧ Hid (ss[k]? = some nm) ∧ w.cell? (ad.add k) = some (.string nm) := reads_str HR.out hlt
      have q1 : (0 : Int) ≤ (k : Int) := by omega
      have q2 : (k : Int) < (n : Int) := by omega
      have hsz : s.size ≤ 1000000 := HS.out s (List.mem_iff_getElem?.2 ⟨k, hnm.out⟩)
      obtain ⟨Y, hY⟩ : ∃ Y, Ab.all (ss.drop (k + 1)) = Y := ⟨_, rfl⟩
      have hX2 : X = (Ab.signs ((tl s).drop 0) && Y) := by
        rw [HK.out, drop_of hnm.out, ← hY]
        rfl
      have HY := Lib.hid hY
      have HX2 := Lib.hid hX2
      clear hY hX2
      go_wp2
      go_loop [15] (fun i => ∃ j : Nat, j ≤ s.size ∧ i = .int .i64 j ∧ Hid (X = (Ab.signs ((tl s).drop j) && Y))) (fun i => s.size - (intOf i).toNat)
      case atStart => exact ⟨0, Nat.zero_le _, rfl, HX2.out⟩
      case round =>
        obtain ⟨j, hj, rfl, HJ⟩ := hrel
        by_cases hlj : j < s.size
        · have p1 : (0 : Int) ≤ (j : Int) := by omega
          have p2 : (j : Int) < (s.size : Int) := by omega
          obtain ⟨b1, b2⟩ := u8_bd s[j]
          have hst := Ab.signs_step (tl s) j s[j] X Y HJ.out (Dy.tl_get s j hlj)
          have hcs := Ab.cases_ (s[j].toNat : Int) b1 b2
          have HSt := Lib.hid hst
          clear hst
          rcases hcs with hc | hc | hc | hc | hc | hc | hc | hc | hc | hc | hc
          · obtain ⟨i1, i2⟩ := hc
            have f97 : ¬ 97 ≤ (s[j].toNat : Int) := by omega
            have f65 : ¬ 65 ≤ (s[j].toNat : Int) := by omega
            have f48 : ¬ 48 ≤ (s[j].toNat : Int) := by omega
            have e43 : ((s[j].toNat : Int) == 43) = false := by rw [beq_eq_false_iff_ne]; omega
            have e45 : ((s[j].toNat : Int) == 45) = false := by rw [beq_eq_false_iff_ne]; omega
            have HG : Hid (X = false) := by
              show X = false
              rw [HSt.out]
              have : Ab.sgn (s[j].toNat : Int) = false := by unfold Ab.sgn; rw [decide_eq_false_iff_not]; omega
              rw [this, Bool.false_and]
            go_wp2
            go_ret
            exact ⟨ret_bool (by rw [HG.out]), rfl⟩
          · obtain ⟨i1, i2⟩ := hc
            have f97 : ¬ 97 ≤ (s[j].toNat : Int) := by omega
            have f65 : ¬ 65 ≤ (s[j].toNat : Int) := by omega
            have f48 : ¬ 48 ≤ (s[j].toNat : Int) := by omega
            have e43 : ((s[j].toNat : Int) == 43) = true := by rw [beq_iff_eq]; omega
            have e45 : ((s[j].toNat : Int) == 45) = false := by rw [beq_eq_false_iff_ne]; omega
            have HG : Hid (X = (Ab.signs ((tl s).drop (j + 1)) && Y)) := by
              show X = _
              rw [HSt.out]
              have : Ab.sgn (s[j].toNat : Int) = true := by unfold Ab.sgn; rw [decide_eq_true_eq]; omega
              rw [this, Bool.true_and]
            go_wp2
            go_round
            case rel => exact ⟨j + 1, by omega, by go_num, HG⟩
            case measure => simp [intOf]; omega
          · obtain ⟨i1, i2⟩ := hc
            have f97 : ¬ 97 ≤ (s[j].toNat : Int) := by omega
            have f65 : ¬ 65 ≤ (s[j].toNat : Int) := by omega
            have f48 : ¬ 48 ≤ (s[j].toNat : Int) := by omega
            have e43 : ((s[j].toNat : Int) == 43) = false := by rw [beq_eq_false_iff_ne]; omega
            have e45 : ((s[j].toNat : Int) == 45) = false := by rw [beq_eq_false_iff_ne]; omega
            have HG : Hid (X = false) := by
              show X = false
              rw [HSt.out]
              have : Ab.sgn (s[j].toNat : Int) = false := by unfold Ab.sgn; rw [decide_eq_false_iff_not]; omega
              rw [this, Bool.false_and]
            go_wp2
            go_ret
            exact ⟨ret_bool (by rw [HG.out]), rfl⟩
          · obtain ⟨i1, i2⟩ := hc
            have f97 : ¬ 97 ≤ (s[j].toNat : Int) := by omega
            have f65 : ¬ 65 ≤ (s[j].toNat : Int) := by omega
            have f48 : ¬ 48 ≤ (s[j].toNat : Int) := by omega
            have e43 : ((s[j].toNat : Int) == 43) = false := by rw [beq_eq_false_iff_ne]; omega
            have e45 : ((s[j].toNat : Int) == 45) = true := by rw [beq_iff_eq]; omega
            have HG : Hid (X = (Ab.signs ((tl s).drop (j + 1)) && Y)) := by
              show X = _
              rw [HSt.out]
              have : Ab.sgn (s[j].toNat : Int) = true := by unfold Ab.sgn; rw [decide_eq_true_eq]; omega
              rw [this, Bool.true_and]
            go_wp2
            go_round
            case rel => exact ⟨j + 1, by omega, by go_num, HG⟩
            case measure => simp [intOf]; omega
          · obtain ⟨i1, i2⟩ := hc
            have f97 : ¬ 97 ≤ (s[j].toNat : Int) := by omega
            have f65 : ¬ 65 ≤ (s[j].toNat : Int) := by omega
            have f48 : ¬ 48 ≤ (s[j].toNat : Int) := by omega
            have e43 : ((s[j].toNat : Int) == 43) = false := by rw [beq_eq_false_iff_ne]; omega
            have e45 : ((s[j].toNat : Int) == 45) = false := by rw [beq_eq_false_iff_ne]; omega
            have HG : Hid (X = false) := by
              show X = false
              rw [HSt.out]
              have : Ab.sgn (s[j].toNat : Int) = false := by unfold Ab.sgn; rw [decide_eq_false_iff_not]; omega
              rw [this, Bool.false_and]
            go_wp2
            go_ret
            exact ⟨ret_bool (by rw [HG.out]), rfl⟩
          · obtain ⟨i1, i2⟩ := hc
            have f97 : ¬ 97 ≤ (s[j].toNat : Int) := by omega
            have f65 : ¬ 65 ≤ (s[j].toNat : Int) := by omega
            have f48 : 48 ≤ (s[j].toNat : Int) := by omega
            have f57 : (s[j].toNat : Int) ≤ 57 := by omega
            have e43 : ((s[j].toNat : Int) == 43) = false := by rw [beq_eq_false_iff_ne]; omega
            have e45 : ((s[j].toNat : Int) == 45) = false := by rw [beq_eq_false_iff_ne]; omega
            have HG : Hid (X = (Ab.signs ((tl s).drop (j + 1)) && Y)) := by
              show X = _
              rw [HSt.out]
              have : Ab.sgn (s[j].toNat : Int) = true := by unfold Ab.sgn; rw [decide_eq_true_eq]; omega
              rw [this, Bool.true_and]
            go_wp2
            go_round
            case rel => exact ⟨j + 1, by omega, by go_num, HG⟩
            case measure => simp [intOf]; omega
          · obtain ⟨i1, i2⟩ := hc
            have f97 : ¬ 97 ≤ (s[j].toNat : Int) := by omega
            have f65 : ¬ 65 ≤ (s[j].toNat : Int) := by omega
            have f48 : 48 ≤ (s[j].toNat : Int) := by omega
            have f57 : ¬ (s[j].toNat : Int) ≤ 57 := by omega
            have e43 : ((s[j].toNat : Int) == 43) = false := by rw [beq_eq_false_iff_ne]; omega
            have e45 : ((s[j].toNat : Int) == 45) = false := by rw [beq_eq_false_iff_ne]; omega
            have HG : Hid (X = false) := by
              show X = false
              rw [HSt.out]
              have : Ab.sgn (s[j].toNat : Int) = false := by unfold Ab.sgn; rw [decide_eq_false_iff_not]; omega
              rw [this, Bool.false_and]
            go_wp2
            go_ret
            exact ⟨ret_bool (by rw [HG.out]), rfl⟩
          · obtain ⟨i1, i2⟩ := hc
            have f97 : ¬ 97 ≤ (s[j].toNat : Int) := by omega
            have f65 : 65 ≤ (s[j].toNat : Int) := by omega
            have f90 : (s[j].toNat : Int) ≤ 90 := by omega
            have f48 : 48 ≤ (s[j].toNat : Int) := by omega
            have f57 : ¬ (s[j].toNat : Int) ≤ 57 := by omega
            have e43 : ((s[j].toNat : Int) == 43) = false := by rw [beq_eq_false_iff_ne]; omega
            have e45 : ((s[j].toNat : Int) == 45) = false := by rw [beq_eq_false_iff_ne]; omega
            have HG : Hid (X = (Ab.signs ((tl s).drop (j + 1)) && Y)) := by
              show X = _
              rw [HSt.out]
              have : Ab.sgn (s[j].toNat : Int) = true := by unfold Ab.sgn; rw [decide_eq_true_eq]; omega
              rw [this, Bool.true_and]
            go_wp2
            go_round
            case rel => exact ⟨j + 1, by omega, by go_num, HG⟩
            case measure => simp [intOf]; omega
          · obtain ⟨i1, i2⟩ := hc
            have f97 : ¬ 97 ≤ (s[j].toNat : Int) := by omega
            have f65 : 65 ≤ (s[j].toNat : Int) := by omega
            have f90 : ¬ (s[j].toNat : Int) ≤ 90 := by omega
            have f48 : 48 ≤ (s[j].toNat : Int) := by omega
            have f57 : ¬ (s[j].toNat : Int) ≤ 57 := by omega
            have e43 : ((s[j].toNat : Int) == 43) = false := by rw [beq_eq_false_iff_ne]; omega
            have e45 : ((s[j].toNat : Int) == 45) = false := by rw [beq_eq_false_iff_ne]; omega
            have HG : Hid (X = false) := by
              show X = false
              rw [HSt.out]
              have : Ab.sgn (s[j].toNat : Int) = false := by unfold Ab.sgn; rw [decide_eq_false_iff_not]; omega
              rw [this, Bool.false_and]
            go_wp2
            go_ret
            exact ⟨ret_bool (by rw [HG.out]), rfl⟩
          · obtain ⟨i1, i2⟩ := hc
            have f97 : 97 ≤ (s[j].toNat : Int) := by omega
            have f122 : (s[j].toNat : Int) ≤ 122 := by omega
            have f65 : 65 ≤ (s[j].toNat : Int) := by omega
            have f90 : ¬ (s[j].toNat : Int) ≤ 90 := by omega
            have f48 : 48 ≤ (s[j].toNat : Int) := by omega
            have f57 : ¬ (s[j].toNat : Int) ≤ 57 := by omega
            have e43 : ((s[j].toNat : Int) == 43) = false := by rw [beq_eq_false_iff_ne]; omega
            have e45 : ((s[j].toNat : Int) == 45) = false := by rw [beq_eq_false_iff_ne]; omega
            have HG : Hid (X = (Ab.signs ((tl s).drop (j + 1)) && Y)) := by
              show X = _
              rw [HSt.out]
              have : Ab.sgn (s[j].toNat : Int) = true := by unfold Ab.sgn; rw [decide_eq_true_eq]; omega
              rw [this, Bool.true_and]
            go_wp2
            go_round
            case rel => exact ⟨j + 1, by omega, by go_num, HG⟩
            case measure => simp [intOf]; omega
          · obtain ⟨i1, i2⟩ := hc
            have f97 : 97 ≤ (s[j].toNat : Int) := by omega
            have f122 : ¬ (s[j].toNat : Int) ≤ 122 := by omega
            have f65 : 65 ≤ (s[j].toNat : Int) := by omega
            have f90 : ¬ (s[j].toNat : Int) ≤ 90 := by omega
            have f48 : 48 ≤ (s[j].toNat : Int) := by omega
            have f57 : ¬ (s[j].toNat : Int) ≤ 57 := by omega
            have e43 : ((s[j].toNat : Int) == 43) = false := by rw [beq_eq_false_iff_ne]; omega
            have e45 : ((s[j].toNat : Int) == 45) = false := by rw [beq_eq_false_iff_ne]; omega
            have HG : Hid (X = false) := by
              show X = false
              rw [HSt.out]
              have : Ab.sgn (s[j].toNat : Int) = false := by unfold Ab.sgn; rw [decide_eq_false_iff_not]; omega
              rw [this, Bool.false_and]
            go_wp2
            go_ret
            exact ⟨ret_bool (by rw [HG.out]), rfl⟩
        · obtain rfl : j = s.size := by omega
          have HX3 : Hid (X = Ab.all (ss.drop (k + 1))) := by
            show X = _
            rw [HJ.out, List.drop_eq_nil_of_le (by rw [tl_length]; exact Nat.le_refl _), HY.out]
            rfl
          go_wp2
          go_round
          case rel => exact ⟨k + 1, by omega, by go_num, HX3⟩
          case measure => simp [intOf]; omega
    · obtain rfl : k = n := by omega
      have HX3 : Hid (X = true) := by
        show X = true
        rw [HK.out, List.drop_eq_nil_of_le (by have := HLen.out; omega)]
        rfl
      go_wp2
      go_ret
      exact ⟨ret_bool (by rw [HX3.out]), rfl⟩

theorem reads_one (w : World) (s : ByteArray) (t : TypeId) : Reads (w.alloc (.cells #[.string s] t)) (w.alloc (.cells #[.string s] t)).heap.size 1 (some ⟨w.heap.size, 0, none⟩) 1 ([s].map Value.string) := reads_new w [s] t
theorem checkLetter_yes (s : ByteArray) (w : World) (hs : s.size ≤ 1000000) (h : Ab.letter s = true) :
    Calls Tryd.prog 20 #[.string s] w fun e w' => e = .returned (.int .i64 0) ∧ Below w.heap.size w w' := by
  unfold Ab.letter at h
  simp only [Bool.and_eq_true, decide_eq_true_eq, Bool.not_eq_true', decide_eq_false_iff_not] at h
  obtain ⟨⟨h1, h2⟩, h3⟩ := h
  have q1 : ¬ (32 : Int) < (s.size : Int) := by omega
  have q2 : (s.toList == [45]) = false := ba_ne s [45] h2
  have HS := Lib.hid fun W => calls_bool (signs_any _ 1 1 [s] (W.alloc (.cells #[.string s] 9)) (by decide) (reads_one W s _) (by intro t ht; simp at ht; subst ht; exact hs)) (show _ = true by unfold Ab.all; simp [h3])
  clear h1 h2 h3
  go_enter Tryd.func20, Tryd.ntmps20
  go_wp2_with fail
  refine (HS.out _).mono ?_
  rintro e w1 ⟨rfl, rfl⟩
  go_wp2
  go_ret
  exact ⟨rfl, (Below.refl _ _).alloc (Nat.le_refl _) _⟩
theorem checkLetter_no (s : ByteArray) (w : World) (hs : s.size ≤ 1000000) (h : Ab.letter s = false) :
    Calls Tryd.prog 20 #[.string s] w fun e w' => e = .returned (.int .i64 2) ∧ Below w.heap.size w w' := by
  unfold Ab.letter at h
  by_cases h1 : s.size ≤ 32
  · have q1 : ¬ (32 : Int) < (s.size : Int) := by omega
    rw [decide_eq_true h1, Bool.true_and] at h
    by_cases h2 : s = ⟨#[45]⟩
    · have q2 : (s.toList == [45]) = true := by rw [h2, ByteArray.toList_eq]; rfl
      clear h h1 h2
      go_enter Tryd.func20, Tryd.ntmps20
      go_wp2
      go_ret
      exact ⟨rfl, Below.refl _ _⟩
    · rw [decide_eq_false h2] at h
      have h3 : Ab.signs (tl s) = false := by simpa using h
      have q2 : (s.toList == [45]) = false := ba_ne s [45] h2
      have HS := Lib.hid fun W => calls_bool (signs_any _ 1 1 [s] (W.alloc (.cells #[.string s] 9)) (by decide) (reads_one W s _) (by intro t ht; simp at ht; subst ht; exact hs)) (show _ = false by unfold Ab.all; simp [h3])
      clear h h1 h2 h3
      go_enter Tryd.func20, Tryd.ntmps20
      go_wp2_with fail
      refine (HS.out _).mono ?_
      rintro e w1 ⟨rfl, rfl⟩
      go_wp2
      go_ret
      exact ⟨rfl, (Below.refl _ _).alloc (Nat.le_refl _) _⟩
  · have q1 : (32 : Int) < (s.size : Int) := by omega
    clear h h1
    go_enter Tryd.func20, Tryd.ntmps20
    go_wp2
    go_ret
    exact ⟨rfl, Below.refl _ _⟩
end Go.Proofs.YtfobllagmakjdaaDoor
