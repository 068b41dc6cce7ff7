/- The contracts of package moment: Parse, Text. -/
import Derived.Test.YtajcgoinhpengaaDoorP05
import Derived.Deep.DeepCutAuto
import Derived.Test.YtajcgoinhpengaaDoorP02

namespace Go.Proofs.YtajcgoinhpengaaDoor
open Go.RowKit

namespace Mo
/-- By which clock a last letter tells; 3: it is none. -/
def by_ (c : Int) : Int := if c = 119 ∨ c = 87 then 0 else if c = 115 ∨ c = 83 then 1 else if c = 117 ∨ c = 85 ∨ c = 103 ∨ c = 71 ∨ c = 122 ∨ c = 90 then 2 else 3
def cutS (s : ByteArray) : ByteArray × Int :=
  if h : 0 < s.size then (if by_ (s[s.size - 1].toNat : Int) = 3 then (s, 0) else (s.extract 0 (s.size - 1), by_ (s[s.size - 1].toNat : Int))) else (s, 0)
def parse (s : ByteArray) : (Int × Int) × Int :=
  if s = ⟨#[45]⟩ then ((0, 0), 0) else if (Ck.parse (cutS s).1).2 = 0 then (((Ck.parse (cutS s).1).1, (cutS s).2), 0) else ((0, 0), (Ck.parse (cutS s).1).2)
end Mo
/-- A block of two cells, behind what a callee did. -/
theorem new2 {w w1 : World} {a b : Value} {t : TypeId} (hb : Below (w.heap.size + 1) (w.alloc (.cells #[a, b] t)) w1) :
    w1.cell? ⟨w.heap.size, 0, none⟩ = some a ∧ w1.cell? ⟨w.heap.size, 1, none⟩ = some b ∧ w1.frozen? ⟨w.heap.size, 0, none⟩ = false ∧ w1.frozen? ⟨w.heap.size, 1, none⟩ = false := by
  have h : ∀ i, w1.cell? ⟨w.heap.size, i, none⟩ = #[a, b][i]? := fun i => (hb.cell (p := ⟨w.heap.size, i, none⟩) (Nat.lt_succ_self _)).trans (cell_of_row _ w.heap.size i _ _ _ (heap_alloc_new w _))
  have hf : ∀ i, w1.frozen? ⟨w.heap.size, i, none⟩ = false := fun i => (hb.frozen (p := ⟨w.heap.size, i, none⟩) (Nat.lt_succ_self _)).trans (by have e := heap_alloc_new w (.cells #[a, b] t); unfold World.frozen?; simp only [e]; simp)
  exact ⟨h 0, h 1, hf 0, hf 1⟩

/-- A text that is another one, as the walk spells it. -/
theorem ba_ne (s : ByteArray) (l : List UInt8) (h : ¬ s = ⟨l.toArray⟩) : (s.toList == l) = false := by
  rw [beq_eq_false_iff_ne]
  intro e
  apply h
  apply ByteArray.ext
  rw [ByteArray.toList_eq] at e
  simp [← e]
namespace Mo
theorem cutS_zero (s : ByteArray) (h : ¬ 0 < s.size) (R : ByteArray) (V : Int) (hc : cutS s = (R, V)) : R = s ∧ V = 0 := by
  unfold cutS at hc
  rw [dif_neg h] at hc
  exact ⟨(Prod.mk.inj hc).1.symm, (Prod.mk.inj hc).2.symm⟩
theorem cutS_pos (s : ByteArray) (n : Nat) (h : s.size = n + 1) (hlt : n < s.size) (R : ByteArray) (V : Int) (hc : cutS s = (R, V)) :
    (by_ ((s[n]'hlt).toNat : Int) = 3 ∧ R = s ∧ V = 0) ∨ (by_ ((s[n]'hlt).toNat : Int) ≠ 3 ∧ R = s.extract 0 n ∧ V = by_ ((s[n]'hlt).toNat : Int)) := by
  unfold cutS at hc
  rw [dif_pos (by omega)] at hc
  have e : s.size - 1 = n := by omega
  simp only [e] at hc
  by_cases h3 : by_ ((s[n]'hlt).toNat : Int) = 3
  · rw [if_pos h3] at hc
    exact .inl ⟨h3, (Prod.mk.inj hc).1.symm, (Prod.mk.inj hc).2.symm⟩
  · rw [if_neg h3] at hc
    exact .inr ⟨h3, (Prod.mk.inj hc).1.symm, (Prod.mk.inj hc).2.symm⟩
/-- The letter, one by one. -/
theorem by_cases_ (c : Int) : (c = 119 ∨ c = 87 ∨ c = 115 ∨ c = 83 ∨ c = 117 ∨ c = 85 ∨ c = 103 ∨ c = 71 ∨ c = 122 ∨ c = 90) ∨ (by_ c = 3 ∧ (c == 119) = false ∧ (c == 87) = false ∧ (c == 115) = false ∧ (c == 83) = false ∧ (c == 117) = false ∧ (c == 85) = false ∧ (c == 103) = false ∧ (c == 71) = false ∧ (c == 122) = false ∧ (c == 90) = false) := by
  by_cases h : c = 119 ∨ c = 87 ∨ c = 115 ∨ c = 83 ∨ c = 117 ∨ c = 85 ∨ c = 103 ∨ c = 71 ∨ c = 122 ∨ c = 90
  · exact .inl h
  · right
    refine ⟨?_, ?_⟩
    · unfold by_
      rw [if_neg (by omega), if_neg (by omega), if_neg (by omega)]
    · simp only [beq_eq_false_iff_ne]
      omega
end Mo

end Go.Proofs.YtajcgoinhpengaaDoor

/- The contracts of package abbr: signs, CheckLetter. -/
namespace Go.Proofs.YtajcgoinhpengaaDoor
open Go.RowKit

namespace Ab
def sgn (c : Int) : Bool := decide ((97 ≤ c ∧ c ≤ 122) ∨ (65 ≤ c ∧ c ≤ 90) ∨ (48 ≤ c ∧ c ≤ 57) ∨ c = 43 ∨ c = 45)
def signs (l : List UInt8) : Bool := l.all fun c => sgn (c.toNat : Int)
def all (ss : List ByteArray) : Bool := ss.all fun s => signs (tl s)
def letter (s : ByteArray) : Bool := decide (s.size ≤ 32) && !decide (s = ⟨#[45]⟩) && signs (tl s)
theorem cases_ (c : Int) (h0 : 0 ≤ c) (h1 : c ≤ 255) : (0 ≤ c ∧ c ≤ 42) ∨ (43 ≤ c ∧ c ≤ 43) ∨ (44 ≤ c ∧ c ≤ 44) ∨ (45 ≤ c ∧ c ≤ 45) ∨ (46 ≤ c ∧ c ≤ 47) ∨ (48 ≤ c ∧ c ≤ 57) ∨ (58 ≤ c ∧ c ≤ 64) ∨ (65 ≤ c ∧ c ≤ 90) ∨ (91 ≤ c ∧ c ≤ 96) ∨ (97 ≤ c ∧ c ≤ 122) ∨ (123 ≤ c ∧ c ≤ 255) := by omega
theorem signs_step (l : List UInt8) (k : Nat) (c : UInt8) (X Y : Bool) (h : X = (signs (l.drop k) && Y)) (hc : l[k]? = some c) : X = (sgn (c.toNat : Int) && (signs (l.drop (k + 1)) && Y)) := by
  rw [h, drop_of hc]
  unfold signs
  rw [List.all_cons, Bool.and_assoc]
end Ab
set_option maxHeartbeats 2000000 in
set_option maxRecDepth 100000 in
theorem signs_any (A : Option Addr) (n c : Nat) (ss : List ByteArray) (w : World) (hn : n ≤ maxLen) (hr : Reads w w.heap.size 1 A n (ss.map Value.string)) (hs : ∀ t ∈ ss, t.size ≤ 1000000) :
    Calls Tryd.prog 69 #[.slice A n c] w fun e w' => e = .returned (.bool (Ab.all ss)) ∧ w = w' := by
  unfold maxLen at hn
  have hlen : ss.length = n := by have := hr.1; simpa using this
  obtain ⟨X, hX⟩ : ∃ X, Ab.all ss = X := ⟨_, rfl⟩
  have h0 : X = Ab.all (ss.drop 0) := hX.symm
  rw [hX]
  have H0 := Lib.hid h0
  have HR := Lib.hid hr
  have HS := Lib.hid hs
  have HLen := Lib.hid hlen
  clear hX h0 hr hs hlen
  go_enter Tryd.func69, Tryd.ntmps69
  go_wp2
  go_loop [9] (fun i => ∃ k : Nat, k ≤ n ∧ i = .int .i64 k ∧ Hid (X = Ab.all (ss.drop k))) (fun i => n - (intOf i).toNat)
  case atStart => exact ⟨0, Nat.zero_le _, rfl, H0.out⟩
  case round =>
    obtain ⟨k, hk, rfl, HK⟩ := hrel
    by_cases hlt : k < n
    · obtain ⟨ad, s, rfl, hnm, hcell⟩ : ∃ ad nm, A = some ad ∧ Hid (ss[k]? = some nm) ∧ w.cell? (ad.add k) = some (.string nm) := reads_str HR.out hlt
      have q1 : (0 : Int) ≤ (k : Int) := by omega
      have q2 : (k : Int) < (n : Int) := by omega
      have hsz : s.size ≤ 1000000 := HS.out s (List.mem_iff_getElem?.2 ⟨k, hnm.out⟩)
      obtain ⟨Y, hY⟩ : ∃ Y, Ab.all (ss.drop (k + 1)) = Y := ⟨_, rfl⟩
      have hX2 : X = (Ab.signs ((tl s).drop 0) && Y) := by
        rw [HK.out, drop_of hnm.out, ← hY]
        rfl
      have HY := Lib.hid hY
      have HX2 := Lib.hid hX2
      clear hY hX2
      go_wp2
      go_loop [15] (fun i => ∃ j : Nat, j ≤ s.size ∧ i = .int .i64 j ∧ Hid (X = (Ab.signs ((tl s).drop j) && Y))) (fun i => s.size - (intOf i).toNat)
      case atStart => exact ⟨0, Nat.zero_le _, rfl, HX2.out⟩
      case round =>
        obtain ⟨j, hj, rfl, HJ⟩ := hrel
        by_cases hlj : j < s.size
        · have p1 : (0 : Int) ≤ (j : Int) := by omega
          have p2 : (j : Int) < (s.size : Int) := by omega
          obtain ⟨b1, b2⟩ := u8_bd s[j]
          have hst := Ab.signs_step (tl s) j s[j] X Y HJ.out (Dy.tl_get s j hlj)
          have hcs := Ab.cases_ (s[j].toNat : Int) b1 b2
          have HSt := Lib.hid hst
          clear hst
          rcases hcs with hc | hc | hc | hc | hc | hc | hc | hc | hc | hc | hc
          · obtain ⟨i1, i2⟩ := hc
            have f97 : ¬ 97 ≤ (s[j].toNat : Int) := by omega
            have f65 : ¬ 65 ≤ (s[j].toNat : Int) := by omega
            have f48 : ¬ 48 ≤ (s[j].toNat : Int) := by omega
            have e43 : ((s[j].toNat : Int) == 43) = false := by rw [beq_eq_false_iff_ne]; omega
            have e45 : ((s[j].toNat : Int) == 45) = false := by rw [beq_eq_false_iff_ne]; omega
            have HG : Hid (X = false) := by
              show X = false
              rw [HSt.out]
              have : Ab.sgn (s[j].toNat : Int) = false := by unfold Ab.sgn; rw [decide_eq_false_iff_not]; omega
              rw [this, Bool.false_and]
            go_wp2
            go_ret
            exact ⟨ret_bool (by rw [HG.out]), rfl⟩
          · obtain ⟨i1, i2⟩ := hc
            have f97 : ¬ 97 ≤ (s[j].toNat : Int) := by omega
            have f65 : ¬ 65 ≤ (s[j].toNat : Int) := by omega
            have f48 : ¬ 48 ≤ (s[j].toNat : Int) := by omega
            have e43 : ((s[j].toNat : Int) == 43) = true := by rw [beq_iff_eq]; omega
            have e45 : ((s[j].toNat : Int) == 45) = false := by rw [beq_eq_false_iff_ne]; omega
            have HG : Hid (X = (Ab.signs ((tl s).drop (j + 1)) && Y)) := by
              show X = _
              rw [HSt.out]
              have : Ab.sgn (s[j].toNat : Int) = true := by unfold Ab.sgn; rw [decide_eq_true_eq]; omega
              rw [this, Bool.true_and]
            go_wp2
            go_round
            case rel => exact ⟨j + 1, by omega, by go_num, HG⟩
            case measure => simp [intOf]; omega
          · obtain ⟨i1, i2⟩ := hc
            have f97 : ¬ 97 ≤ (s[j].toNat : Int) := by omega
            have f65 : ¬ 65 ≤ (s[j].toNat : Int) := by omega
            have f48 : ¬ 48 ≤ (s[j].toNat : Int) := by omega
            have e43 : ((s[j].toNat : Int) == 43) = false := by rw [beq_eq_false_iff_ne]; omega
            have e45 : ((s[j].toNat : Int) == 45) = false := by rw [beq_eq_false_iff_ne]; omega
            have HG : Hid (X = false) := by
              show X = false
              rw [HSt.out]
              have : Ab.sgn (s[j].toNat : Int) = false := by unfold Ab.sgn; rw [decide_eq_false_iff_not]; omega
              rw [this, Bool.false_and]
            go_wp2
            go_ret
            exact ⟨ret_bool (by rw [HG.out]), rfl⟩
          · obtain ⟨i1, i2⟩ := hc
            have f97 : ¬ 97 ≤ (s[j].toNat : Int) := by omega
            have f65 : ¬ 65 ≤ (s[j].toNat : Int) := by omega
            have f48 : ¬ 48 ≤ (s[j].toNat : Int) := by omega
            have e43 : ((s[j].toNat : Int) == 43) = false := by rw [beq_eq_false_iff_ne]; omega
            have e45 : ((s[j].toNat : Int) == 45) = true := by rw [beq_iff_eq]; omega
            have HG : Hid (X = (Ab.signs ((tl s).drop (j + 1)) && Y)) := by
              show X = _
              rw [HSt.out]
              have : Ab.sgn (s[j].toNat : Int) = true := by unfold Ab.sgn; rw [decide_eq_true_eq]; omega
              rw [this, Bool.true_and]
            go_wp2
            go_round
            case rel => exact ⟨j + 1, by omega, by go_num, HG⟩
            case measure => simp [intOf]; omega
          · obtain ⟨i1, i2⟩ := hc
            have f97 : ¬ 97 ≤ (s[j].toNat : Int) := by omega
            have f65 : ¬ 65 ≤ (s[j].toNat : Int) := by omega
            have f48 : ¬ 48 ≤ (s[j].toNat : Int) := by omega
            have e43 : ((s[j].toNat : Int) == 43) = false := by rw [beq_eq_false_iff_ne]; omega
            have e45 : ((s[j].toNat : Int) == 45) = false := by rw [beq_eq_false_iff_ne]; omega
            have HG : Hid (X = false) := by
              show X = false
              rw [HSt.out]
              have : Ab.sgn (s[j].toNat : Int) = false := by unfold Ab.sgn; rw [decide_eq_false_iff_not]; omega
              rw [this, Bool.false_and]
            go_wp2
            go_ret
            exact ⟨ret_bool (by rw [HG.out]), rfl⟩
          · obtain ⟨i1, i2⟩ := hc
            have f97 : ¬ 97 ≤ (s[j].toNat : Int) := by omega
            have f65 : ¬ 65 ≤ (s[j].toNat : Int) := by omega
            have f48 : 48 ≤ (s[j].toNat : Int) := by omega
            have f57 : (s[j].toNat : Int) ≤ 57 := by omega
            have e43 : ((s[j].toNat : Int) == 43) = false := by rw [beq_eq_false_iff_ne]; omega
            have e45 : ((s[j].toNat : Int) == 45) = false := by rw [beq_eq_false_iff_ne]; omega
            have HG : Hid (X = (Ab.signs ((tl s).drop (j + 1)) && Y)) := by
              show X = _
              rw [HSt.out]
              have : Ab.sgn (s[j].toNat : Int) = true := by unfold Ab.sgn; rw [decide_eq_true_eq]; omega
              rw [this, Bool.true_and]
            go_wp2
            go_round
            case rel => exact ⟨j + 1, by omega, by go_num, HG⟩
            case measure => simp [intOf]; omega
          · obtain ⟨i1, i2⟩ := hc
            have f97 : ¬ 97 ≤ (s[j].toNat : Int) := by omega
            have f65 : ¬ 65 ≤ (s[j].toNat : Int) := by omega
            have f48 : 48 ≤ (s[j].toNat : Int) := by omega
            have f57 : ¬ (s[j].toNat : Int) ≤ 57 := by omega
            have e43 : ((s[j].toNat : Int) == 43) = false := by rw [beq_eq_false_iff_ne]; omega
            have e45 : ((s[j].toNat : Int) == 45) = false := by rw [beq_eq_false_iff_ne]; omega
            have HG : Hid (X = false) := by
              show X = false
              rw [HSt.out]
              have : Ab.sgn (s[j].toNat : Int) = false := by unfold Ab.sgn; rw [decide_eq_false_iff_not]; omega
              rw [this, Bool.false_and]
            go_wp2
            go_ret
            exact ⟨ret_bool (by rw [HG.out]), rfl⟩
          · obtain ⟨i1, i2⟩ := hc
            have f97 : ¬ 97 ≤ (s[j].toNat : Int) := by omega
            have f65 : 65 ≤ (s[j].toNat : Int) := by omega
            have f90 : (s[j].toNat : Int) ≤ 90 := by omega
            have f48 : 48 ≤ (s[j].toNat : Int) := by omega
            have f57 : ¬ (s[j].toNat : Int) ≤ 57 := by omega
            have e43 : ((s[j].toNat : Int) == 43) = false := by rw [beq_eq_false_iff_ne]; omega
            have e45 : ((s[j].toNat : Int) == 45) = false := by rw [beq_eq_false_iff_ne]; omega
            have HG : Hid (X = (Ab.signs ((tl s).drop (j + 1)) && Y)) := by
              show X = _
              rw [HSt.out]
              have : Ab.sgn (s[j].toNat : Int) = true := by unfold Ab.sgn; rw [decide_eq_true_eq]; omega
              rw [this, Bool.true_and]
            go_wp2
            go_round
            case rel => exact ⟨j + 1, by omega, by go_num, HG⟩
            case measure => simp [intOf]; omega
          · obtain ⟨i1, i2⟩ := hc
            have f97 : ¬ 97 ≤ (s[j].toNat : Int) := by omega
            have f65 : 65 ≤ (s[j].toNat : Int) := by omega
            have f90 : ¬ (s[j].toNat : Int) ≤ 90 := by omega
            have f48 : 48 ≤ (s[j].toNat : Int) := by omega
            have f57 : ¬ (s[j].toNat : Int) ≤ 57 := by omega
            have e43 : ((s[j].toNat : Int) == 43) = false := by rw [beq_eq_false_iff_ne]; omega
            have e45 : ((s[j].toNat : Int) == 45) = false := by rw [beq_eq_false_iff_ne]; omega
            have HG : Hid (X = false) := by
              show X = false
              rw [HSt.out]
              have : Ab.sgn (s[j].toNat : Int) = false := by unfold Ab.sgn; rw [decide_eq_false_iff_not]; omega
              rw [this, Bool.false_and]
            go_wp2
            go_ret
            exact ⟨ret_bool (by rw [HG.out]), rfl⟩
          · obtain ⟨i1, i2⟩ := hc
            have f97 : 97 ≤ (s[j].toNat : Int) := by omega
            have f122 : (s[j].toNat : Int) ≤ 122 := by omega
            have f65 : 65 ≤ (s[j].toNat : Int) := by omega
            have f90 : ¬ (s[j].toNat : Int) ≤ 90 := by omega
            have f48 : 48 ≤ (s[j].toNat : Int) := by omega
            have f57 : ¬ (s[j].toNat : Int) ≤ 57 := by omega
            have e43 : ((s[j].toNat : Int) == 43) = false := by rw [beq_eq_false_iff_ne]; omega
            have e45 : ((s[j].toNat : Int) == 45) = false := by rw [beq_eq_false_iff_ne]; omega
            have HG : Hid (X = (Ab.signs ((tl s).drop (j + 1)) && Y)) := by
              show X = _
              rw [HSt.out]
              have : Ab.sgn (s[j].toNat : Int) = true := by unfold Ab.sgn; rw [decide_eq_true_eq]; omega
              rw [this, Bool.true_and]
            go_wp2
            go_round
            case rel => exact ⟨j + 1, by omega, by go_num, HG⟩
            case measure => simp [intOf]; omega
          · obtain ⟨i1, i2⟩ := hc
            have f97 : 97 ≤ (s[j].toNat : Int) := by omega
            have f122 : ¬ (s[j].toNat : Int) ≤ 122 := by omega
            have f65 : 65 ≤ (s[j].toNat : Int) := by omega
            have f90 : ¬ (s[j].toNat : Int) ≤ 90 := by omega
            have f48 : 48 ≤ (s[j].toNat : Int) := by omega
            have f57 : ¬ (s[j].toNat : Int) ≤ 57 := by omega
            have e43 : ((s[j].toNat : Int) == 43) = false := by rw [beq_eq_false_iff_ne]; omega
            have e45 : ((s[j].toNat : Int) == 45) = false := by rw [beq_eq_false_iff_ne]; omega
            have HG : Hid (X = false) := by
              show X = false
              rw [HSt.out]
              have : Ab.sgn (s[j].toNat : Int) = false := by unfold Ab.sgn; rw [decide_eq_false_iff_not]; omega
              rw [this, Bool.false_and]
            go_wp2
            go_ret
            exact ⟨ret_bool (by rw [HG.out]), rfl⟩
        · obtain rfl : j = s.size := by omega
          have HX3 : Hid (X = Ab.all (ss.drop (k + 1))) := by
            show X = _
            rw [HJ.out, List.drop_eq_nil_of_le (by rw [tl_length]; exact Nat.le_refl _), HY.out]
            rfl
          go_wp2
          go_round
          case rel => exact ⟨k + 1, by omega, by go_num, HX3⟩
          case measure => simp [intOf]; omega
    · obtain rfl : k = n := by omega
      have HX3 : Hid (X = true) := by
        show X = true
        rw [HK.out, List.drop_eq_nil_of_le (by have := HLen.out; omega)]
        rfl
      go_wp2
      go_ret
      exact ⟨ret_bool (by rw [HX3.out]), rfl⟩

theorem reads_one (w : World) (s : ByteArray) (t : TypeId) : Reads (w.alloc (.cells #[.string s] t)) (w.alloc (.cells #[.string s] t)).heap.size 1 (some ⟨w.heap.size, 0, none⟩) 1 ([s].map Value.string) := reads_new w [s] t
theorem checkLetter_yes (s : ByteArray) (w : World) (hs : s.size ≤ 1000000) (h : Ab.letter s = true) :
    Calls Tryd.prog 50 #[.string s] w fun e w' => e = .returned (.int .i64 0) ∧ Below w.heap.size w w' := by
  unfold Ab.letter at h
  simp only [Bool.and_eq_true, decide_eq_true_eq, Bool.not_eq_true', decide_eq_false_iff_not] at h
  obtain ⟨⟨h1, h2⟩, h3⟩ := h
  have q1 : ¬ (32 : Int) < (s.size : Int) := by omega
  have q2 : (s.toList == [45]) = false := ba_ne s [45] h2
  have HS := Lib.hid fun W => calls_bool (signs_any _ 1 1 [s] (W.alloc (.cells #[.string s] 9)) (by decide) (reads_one W s _) (by intro t ht; simp at ht; subst ht; exact hs)) (show _ = true by unfold Ab.all; simp [h3])
  clear h1 h2 h3
  go_enter Tryd.func50, Tryd.ntmps50
  go_wp2_with fail
  refine (HS.out _).mono ?_
  rintro e w1 ⟨rfl, rfl⟩
  go_wp2
  go_ret
  exact ⟨rfl, (Below.refl _ _).alloc (Nat.le_refl _) _⟩
theorem checkLetter_no (s : ByteArray) (w : World) (hs : s.size ≤ 1000000) (h : Ab.letter s = false) :
    Calls Tryd.prog 50 #[.string s] w fun e w' => e = .returned (.int .i64 2) ∧ Below w.heap.size w w' := by
  unfold Ab.letter at h
  by_cases h1 : s.size ≤ 32
  · have q1 : ¬ (32 : Int) < (s.size : Int) := by omega
    rw [decide_eq_true h1, Bool.true_and] at h
    by_cases h2 : s = ⟨#[45]⟩
    · have q2 : (s.toList == [45]) = true := by rw [h2, ByteArray.toList_eq]; rfl
      clear h h1 h2
      go_enter Tryd.func50, Tryd.ntmps50
      go_wp2
      go_ret
      exact ⟨rfl, Below.refl _ _⟩
    · rw [decide_eq_false h2] at h
      have h3 : Ab.signs (tl s) = false := by simpa using h
      have q2 : (s.toList == [45]) = false := ba_ne s [45] h2
      have HS := Lib.hid fun W => calls_bool (signs_any _ 1 1 [s] (W.alloc (.cells #[.string s] 9)) (by decide) (reads_one W s _) (by intro t ht; simp at ht; subst ht; exact hs)) (show _ = false by unfold Ab.all; simp [h3])
      clear h h1 h2 h3
      go_enter Tryd.func50, Tryd.ntmps50
      go_wp2_with fail
      refine (HS.out _).mono ?_
      rintro e w1 ⟨rfl, rfl⟩
      go_wp2
      go_ret
      exact ⟨rfl, (Below.refl _ _).alloc (Nat.le_refl _) _⟩
  · have q1 : (32 : Int) < (s.size : Int) := by omega
    clear h h1
    go_enter Tryd.func50, Tryd.ntmps50
    go_wp2
    go_ret
    exact ⟨rfl, Below.refl _ _⟩
end Go.Proofs.YtajcgoinhpengaaDoor
