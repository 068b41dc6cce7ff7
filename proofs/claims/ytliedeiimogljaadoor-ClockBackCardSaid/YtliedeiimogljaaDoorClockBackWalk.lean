/- The walk of the law ClockBack. -/
import Derived.Test.YtliedeiimogljaaDoorClockBackMath
namespace Go.Proofs.YtliedeiimogljaaDoor
open Go.RowKit

theorem clockParse_all (s : ByteArray) (w : World) (hW : Wc w) (hs : s.size ≤ 1000000) (a b : Int) (h : Ck.parse s = (a, b)) :
    Calls Tryd.prog 26 #[.string s] w fun e w' => e = .returned (.tuple #[.int .i64 a, .int .i64 b]) ∧ Below w.heap.size w w' :=
  clockParse_is s w hW hs (fun f hf => Nat.le_trans (Ck.piece_size _ _ f hf) (Nat.le_trans (Ck.rest_size s) hs)) a b h
theorem text_ne (n : Int) (h : IsTime n) : (⟨(Ck.text n).toArray⟩ : ByteArray).toList.isEmpty = false := by
  rw [ByteArray.toList_eq]
  cases e : Ck.text n with
  | nil =>
    have a := Ck.parse_text n h
    rw [e] at a
    have b : Ck.parse ⟨([] : List UInt8).toArray⟩ = (0, 4) := by decide +kernel
    rw [b] at a
    simp at a
  | cons c l => rfl

theorem clockBack_long (sec o t : Int) (s : ByteArray) (w : World) (hW : Wc w) (hs : s.size ≤ maxLen) (h : 200 < s.size) :
    Calls Tryd.prog 6 #[.int .i64 sec, .int .i64 o, .int .i64 t, .string s] w fun e w' => e = .returned (.bool true) ∧ Below w.heap.size w w' := by
  unfold maxLen at hs
  have HL := Lib.hid (lives02 w hW)
  have q : (200 : Int) < (s.size : Int) := by omega
  clear hW
  go_enter Tryd.func6, Tryd.ntmps6
  go_wp2_with fail
  refine HL.out.mono ?_
  rintro e w1 ⟨rfl, hb1⟩
  go_wp2
  go_ret
  exact ⟨rfl, hb1⟩

set_option maxHeartbeats 4000000 in
set_option maxRecDepth 100000 in
theorem clockBack_p1 (sec o t : Int) (s : ByteArray) (w : World) (hW : Wc w) (h200 : s.size ≤ 200) (t1 : -9223372036854775808 ≤ t) (t2 : t ≤ 9223372036854775807) (n y : Int) (hp : Ck.parse s = (n, y)) (hy : y = 0) :
    Calls Tryd.prog 6 #[.int .i64 sec, .int .i64 o, .int .i64 t, .string s] w fun e w' => e = .returned (.bool true) ∧ Below w.heap.size w w' := by
  have HL := Lib.hid fun W hw => lives02 W hw
  have HW := Lib.hid hW
  have HB := Lib.hid (Below.refl w.heap.size w)
  have q : ¬ (200 : Int) < (s.size : Int) := by omega
  have HP := Lib.hid fun W hw => clockParse_all s W hw (by omega) n y hp
  have HS := Lib.hid fun W => split_any t W t1 t2
  have ov : 0 ≤ t % 86400 ∧ t % 86400 < 86400 := by omega
  obtain ⟨d, hd⟩ : ∃ d, t / 86400 = d := ⟨_, rfl⟩
  obtain ⟨v, hv⟩ : ∃ v, t % 86400 = v := ⟨_, rfl⟩
  have hdv : d * 86400 + v = t := by omega
  rw [hd, hv] at HS
  rw [hv] at ov
  obtain ⟨v1, v2⟩ := ov
  subst hy
  have hn := Ck.parse_time s n hp
  obtain ⟨X1, hX1⟩ : ∃ X, (⟨(Ck.text n).toArray⟩ : ByteArray) = X := ⟨_, rfl⟩
  have hT1 := fun W hw => clockText_any n W hw
  have hP1 := fun W hw => clockParse_all ⟨(Ck.text n).toArray⟩ W hw (by have := Ck.text_size n; omega) n 0 (Ck.parse_text n hn)
  simp only [hX1] at hT1 hP1
  have HT1 := Lib.hid hT1
  have HP1 := Lib.hid hP1
  clear hT1 hP1 hX1 hn
  clear hW hp hd hv h200
  obtain ⟨X, hX⟩ : ∃ X, (⟨(Ck.text sec).toArray⟩ : ByteArray) = X := ⟨_, rfl⟩
  have hT2 := fun W hw => clockText_any sec W hw
  simp only [hX] at hT2
  have HT2 := Lib.hid hT2
  clear hT2
  have hrng : (-719162 ≤ d ∧ d < 2932897) ∨ ¬ (-719162 ≤ d ∧ d < 2932897) := by omega
  by_cases hsec : IsTime sec
  · have x1 : X.toList.isEmpty = false := by rw [← hX]; exact text_ne sec hsec
    have hP2 := fun W hw => clockParse_all ⟨(Ck.text sec).toArray⟩ W hw (by have := Ck.text_size sec; omega) sec 0 (Ck.parse_text sec hsec)
    simp only [hX] at hP2
    have HP2 := Lib.hid hP2
    clear hP2
    have hT3 := fun W hw => clockText_any o W hw
    obtain ⟨Z, hZ⟩ : ∃ Z, (⟨(Ck.text o).toArray⟩ : ByteArray) = Z := ⟨_, rfl⟩
    simp only [hZ] at hT3
    have HT3 := Lib.hid hT3
    have z1 : (Z.toList == X.toList) = decide (o = sec) := by
      rw [← hZ, ← hX, ByteArray.toList_eq, ByteArray.toList_eq]
      by_cases e : o = sec
      · subst e; simp
      · rw [decide_eq_false e, beq_eq_false_iff_ne]
        intro e2
        exact e (Ck.text_inj o sec hsec e2)
    clear hT3 hZ hX
    by_cases ho : o = sec
    · have z2 : (o == sec) = true := by simp [ho]
      rw [decide_eq_true ho] at z1
      clear ho hsec
      rcases hrng with hr | hr
      · have HAt := Lib.hid fun W => calls_val (at_ok d v W hr.1 hr.2 (by unfold IsTime; omega)) (show _ = Value.tuple #[.int .i64 t, .int .i64 0] by rw [hdv])
        have HOf := Lib.hid fun W => of_ok d W hr.1 hr.2
        clear hr hdv
        go_enter Tryd.func6, Tryd.ntmps6
        go_wp2_with fail
        refine (HL.out _ (HW.out.below HB.out)).mono ?_
        rintro e w1 ⟨rfl, hb⟩
        replace HB := Lib.hid (below_then HB.out hb)
        clear hb
        go_wp2_with fail
        refine (HP.out _ (HW.out.below HB.out)).mono ?_
        rintro e w2 ⟨rfl, hb⟩
        replace HB := Lib.hid (below_then HB.out hb)
        clear hb
        go_wp2_with fail
        refine (HT1.out _ (HW.out.below HB.out)).mono ?_
        rintro e w3 ⟨rfl, hb⟩
        replace HB := Lib.hid (below_then HB.out hb)
        clear hb
        go_wp2_with fail
        refine (HP1.out _ (HW.out.below HB.out)).mono ?_
        rintro e w4 ⟨rfl, hb⟩
        replace HB := Lib.hid (below_then HB.out hb)
        clear hb
        go_wp2_with fail
        refine (HT2.out _ (HW.out.below HB.out)).mono ?_
        rintro e w5 ⟨rfl, hb⟩
        replace HB := Lib.hid (below_then HB.out hb)
        clear hb
        go_wp2_with fail
        refine (HP2.out _ (HW.out.below HB.out)).mono ?_
        rintro e w6 ⟨rfl, hb⟩
        replace HB := Lib.hid (below_then HB.out hb)
        clear hb
        go_wp2_with fail
        refine (HT3.out _ (HW.out.below HB.out)).mono ?_
        rintro e w7 ⟨rfl, hb⟩
        replace HB := Lib.hid (below_then HB.out hb)
        clear hb
        go_wp2_with fail
        refine (HS.out _).mono ?_
        rintro e w8 ⟨rfl, rfl⟩
        go_wp2_with fail
        refine (HAt.out _).mono ?_
        rintro e w9 ⟨rfl, hb⟩
        replace HB := Lib.hid (below_then HB.out hb)
        clear hb
        go_wp2_with fail
        refine (HOf.out _).mono ?_
        rintro e w10 ⟨rfl, hb⟩
        replace HB := Lib.hid (below_then HB.out hb)
        clear hb
        go_wp2
        go_ret
        exact ⟨rfl, HB.out.alloc HB.out.size _⟩
      · have HAt := Lib.hid fun W => at_bad d v W (fun x => hr x.1)
        have HOf := Lib.hid fun W => of_bad d W (by omega)
        clear hr hdv
        go_enter Tryd.func6, Tryd.ntmps6
        go_wp2_with fail
        refine (HL.out _ (HW.out.below HB.out)).mono ?_
        rintro e w1 ⟨rfl, hb⟩
        replace HB := Lib.hid (below_then HB.out hb)
        clear hb
        go_wp2_with fail
        refine (HP.out _ (HW.out.below HB.out)).mono ?_
        rintro e w2 ⟨rfl, hb⟩
        replace HB := Lib.hid (below_then HB.out hb)
        clear hb
        go_wp2_with fail
        refine (HT1.out _ (HW.out.below HB.out)).mono ?_
        rintro e w3 ⟨rfl, hb⟩
        replace HB := Lib.hid (below_then HB.out hb)
        clear hb
        go_wp2_with fail
        refine (HP1.out _ (HW.out.below HB.out)).mono ?_
        rintro e w4 ⟨rfl, hb⟩
        replace HB := Lib.hid (below_then HB.out hb)
        clear hb
        go_wp2_with fail
        refine (HT2.out _ (HW.out.below HB.out)).mono ?_
        rintro e w5 ⟨rfl, hb⟩
        replace HB := Lib.hid (below_then HB.out hb)
        clear hb
        go_wp2_with fail
        refine (HP2.out _ (HW.out.below HB.out)).mono ?_
        rintro e w6 ⟨rfl, hb⟩
        replace HB := Lib.hid (below_then HB.out hb)
        clear hb
        go_wp2_with fail
        refine (HT3.out _ (HW.out.below HB.out)).mono ?_
        rintro e w7 ⟨rfl, hb⟩
        replace HB := Lib.hid (below_then HB.out hb)
        clear hb
        go_wp2_with fail
        refine (HS.out _).mono ?_
        rintro e w8 ⟨rfl, rfl⟩
        go_wp2_with fail
        refine (HAt.out _).mono ?_
        rintro e w9 ⟨rfl, hb⟩
        replace HB := Lib.hid (below_then HB.out hb)
        clear hb
        go_wp2_with fail
        refine (HOf.out _).mono ?_
        rintro e w10 ⟨rfl, hb⟩
        replace HB := Lib.hid (below_then HB.out hb)
        clear hb
        go_wp2
        go_ret
        exact ⟨rfl, HB.out.alloc HB.out.size _⟩
    · have z2 : (o == sec) = false := by simp [ho]
      rw [decide_eq_false ho] at z1
      clear ho hsec
      rcases hrng with hr | hr
      · have HAt := Lib.hid fun W => calls_val (at_ok d v W hr.1 hr.2 (by unfold IsTime; omega)) (show _ = Value.tuple #[.int .i64 t, .int .i64 0] by rw [hdv])
        have HOf := Lib.hid fun W => of_ok d W hr.1 hr.2
        clear hr hdv
        go_enter Tryd.func6, Tryd.ntmps6
        go_wp2_with fail
        refine (HL.out _ (HW.out.below HB.out)).mono ?_
        rintro e w1 ⟨rfl, hb⟩
        replace HB := Lib.hid (below_then HB.out hb)
        clear hb
        go_wp2_with fail
        refine (HP.out _ (HW.out.below HB.out)).mono ?_
        rintro e w2 ⟨rfl, hb⟩
        replace HB := Lib.hid (below_then HB.out hb)
        clear hb
        go_wp2_with fail
        refine (HT1.out _ (HW.out.below HB.out)).mono ?_
        rintro e w3 ⟨rfl, hb⟩
        replace HB := Lib.hid (below_then HB.out hb)
        clear hb
        go_wp2_with fail
        refine (HP1.out _ (HW.out.below HB.out)).mono ?_
        rintro e w4 ⟨rfl, hb⟩
        replace HB := Lib.hid (below_then HB.out hb)
        clear hb
        go_wp2_with fail
        refine (HT2.out _ (HW.out.below HB.out)).mono ?_
        rintro e w5 ⟨rfl, hb⟩
        replace HB := Lib.hid (below_then HB.out hb)
        clear hb
        go_wp2_with fail
        refine (HP2.out _ (HW.out.below HB.out)).mono ?_
        rintro e w6 ⟨rfl, hb⟩
        replace HB := Lib.hid (below_then HB.out hb)
        clear hb
        go_wp2_with fail
        refine (HT3.out _ (HW.out.below HB.out)).mono ?_
        rintro e w7 ⟨rfl, hb⟩
        replace HB := Lib.hid (below_then HB.out hb)
        clear hb
        go_wp2_with fail
        refine (HS.out _).mono ?_
        rintro e w8 ⟨rfl, rfl⟩
        go_wp2_with fail
        refine (HAt.out _).mono ?_
        rintro e w9 ⟨rfl, hb⟩
        replace HB := Lib.hid (below_then HB.out hb)
        clear hb
        go_wp2_with fail
        refine (HOf.out _).mono ?_
        rintro e w10 ⟨rfl, hb⟩
        replace HB := Lib.hid (below_then HB.out hb)
        clear hb
        go_wp2
        go_ret
        exact ⟨rfl, HB.out.alloc HB.out.size _⟩
      · have HAt := Lib.hid fun W => at_bad d v W (fun x => hr x.1)
        have HOf := Lib.hid fun W => of_bad d W (by omega)
        clear hr hdv
        go_enter Tryd.func6, Tryd.ntmps6
        go_wp2_with fail
        refine (HL.out _ (HW.out.below HB.out)).mono ?_
        rintro e w1 ⟨rfl, hb⟩
        replace HB := Lib.hid (below_then HB.out hb)
        clear hb
        go_wp2_with fail
        refine (HP.out _ (HW.out.below HB.out)).mono ?_
        rintro e w2 ⟨rfl, hb⟩
        replace HB := Lib.hid (below_then HB.out hb)
        clear hb
        go_wp2_with fail
        refine (HT1.out _ (HW.out.below HB.out)).mono ?_
        rintro e w3 ⟨rfl, hb⟩
        replace HB := Lib.hid (below_then HB.out hb)
        clear hb
        go_wp2_with fail
        refine (HP1.out _ (HW.out.below HB.out)).mono ?_
        rintro e w4 ⟨rfl, hb⟩
        replace HB := Lib.hid (below_then HB.out hb)
        clear hb
        go_wp2_with fail
        refine (HT2.out _ (HW.out.below HB.out)).mono ?_
        rintro e w5 ⟨rfl, hb⟩
        replace HB := Lib.hid (below_then HB.out hb)
        clear hb
        go_wp2_with fail
        refine (HP2.out _ (HW.out.below HB.out)).mono ?_
        rintro e w6 ⟨rfl, hb⟩
        replace HB := Lib.hid (below_then HB.out hb)
        clear hb
        go_wp2_with fail
        refine (HT3.out _ (HW.out.below HB.out)).mono ?_
        rintro e w7 ⟨rfl, hb⟩
        replace HB := Lib.hid (below_then HB.out hb)
        clear hb
        go_wp2_with fail
        refine (HS.out _).mono ?_
        rintro e w8 ⟨rfl, rfl⟩
        go_wp2_with fail
        refine (HAt.out _).mono ?_
        rintro e w9 ⟨rfl, hb⟩
        replace HB := Lib.hid (below_then HB.out hb)
        clear hb
        go_wp2_with fail
        refine (HOf.out _).mono ?_
        rintro e w10 ⟨rfl, hb⟩
        replace HB := Lib.hid (below_then HB.out hb)
        clear hb
        go_wp2
        go_ret
        exact ⟨rfl, HB.out.alloc HB.out.size _⟩
  · have x1 : X.toList.isEmpty = true := by
      have e : Ck.text sec = [] := by unfold Ck.text; rw [if_neg hsec]
      rw [← hX, e, ByteArray.toList_eq]; rfl
    clear hX hsec
    rcases hrng with hr | hr
    · have HAt := Lib.hid fun W => calls_val (at_ok d v W hr.1 hr.2 (by unfold IsTime; omega)) (show _ = Value.tuple #[.int .i64 t, .int .i64 0] by rw [hdv])
      have HOf := Lib.hid fun W => of_ok d W hr.1 hr.2
      clear hr hdv
      go_enter Tryd.func6, Tryd.ntmps6
      go_wp2_with fail
      refine (HL.out _ (HW.out.below HB.out)).mono ?_
      rintro e w1 ⟨rfl, hb⟩
      replace HB := Lib.hid (below_then HB.out hb)
      clear hb
      go_wp2_with fail
      refine (HP.out _ (HW.out.below HB.out)).mono ?_
      rintro e w2 ⟨rfl, hb⟩
      replace HB := Lib.hid (below_then HB.out hb)
      clear hb
      go_wp2_with fail
      refine (HT1.out _ (HW.out.below HB.out)).mono ?_
      rintro e w3 ⟨rfl, hb⟩
      replace HB := Lib.hid (below_then HB.out hb)
      clear hb
      go_wp2_with fail
      refine (HP1.out _ (HW.out.below HB.out)).mono ?_
      rintro e w4 ⟨rfl, hb⟩
      replace HB := Lib.hid (below_then HB.out hb)
      clear hb
      go_wp2_with fail
      refine (HT2.out _ (HW.out.below HB.out)).mono ?_
      rintro e w5 ⟨rfl, hb⟩
      replace HB := Lib.hid (below_then HB.out hb)
      clear hb
      go_wp2_with fail
      refine (HS.out _).mono ?_
      rintro e w6 ⟨rfl, rfl⟩
      go_wp2_with fail
      refine (HAt.out _).mono ?_
      rintro e w7 ⟨rfl, hb⟩
      replace HB := Lib.hid (below_then HB.out hb)
      clear hb
      go_wp2_with fail
      refine (HOf.out _).mono ?_
      rintro e w8 ⟨rfl, hb⟩
      replace HB := Lib.hid (below_then HB.out hb)
      clear hb
      go_wp2
      go_ret
      exact ⟨rfl, HB.out.alloc HB.out.size _⟩
    · have HAt := Lib.hid fun W => at_bad d v W (fun x => hr x.1)
      have HOf := Lib.hid fun W => of_bad d W (by omega)
      clear hr hdv
      go_enter Tryd.func6, Tryd.ntmps6
      go_wp2_with fail
      refine (HL.out _ (HW.out.below HB.out)).mono ?_
      rintro e w1 ⟨rfl, hb⟩
      replace HB := Lib.hid (below_then HB.out hb)
      clear hb
      go_wp2_with fail
      refine (HP.out _ (HW.out.below HB.out)).mono ?_
      rintro e w2 ⟨rfl, hb⟩
      replace HB := Lib.hid (below_then HB.out hb)
      clear hb
      go_wp2_with fail
      refine (HT1.out _ (HW.out.below HB.out)).mono ?_
      rintro e w3 ⟨rfl, hb⟩
      replace HB := Lib.hid (below_then HB.out hb)
      clear hb
      go_wp2_with fail
      refine (HP1.out _ (HW.out.below HB.out)).mono ?_
      rintro e w4 ⟨rfl, hb⟩
      replace HB := Lib.hid (below_then HB.out hb)
      clear hb
      go_wp2_with fail
      refine (HT2.out _ (HW.out.below HB.out)).mono ?_
      rintro e w5 ⟨rfl, hb⟩
      replace HB := Lib.hid (below_then HB.out hb)
      clear hb
      go_wp2_with fail
      refine (HS.out _).mono ?_
      rintro e w6 ⟨rfl, rfl⟩
      go_wp2_with fail
      refine (HAt.out _).mono ?_
      rintro e w7 ⟨rfl, hb⟩
      replace HB := Lib.hid (below_then HB.out hb)
      clear hb
      go_wp2_with fail
      refine (HOf.out _).mono ?_
      rintro e w8 ⟨rfl, hb⟩
      replace HB := Lib.hid (below_then HB.out hb)
      clear hb
      go_wp2
      go_ret
      exact ⟨rfl, HB.out.alloc HB.out.size _⟩

set_option maxHeartbeats 4000000 in
set_option maxRecDepth 100000 in
theorem clockBack_p0 (sec o t : Int) (s : ByteArray) (w : World) (hW : Wc w) (h200 : s.size ≤ 200) (t1 : -9223372036854775808 ≤ t) (t2 : t ≤ 9223372036854775807) (n y : Int) (hp : Ck.parse s = (n, y)) (hy : y ≠ 0) :
    Calls Tryd.prog 6 #[.int .i64 sec, .int .i64 o, .int .i64 t, .string s] w fun e w' => e = .returned (.bool true) ∧ Below w.heap.size w w' := by
  have HL := Lib.hid fun W hw => lives02 W hw
  have HW := Lib.hid hW
  have HB := Lib.hid (Below.refl w.heap.size w)
  have q : ¬ (200 : Int) < (s.size : Int) := by omega
  have HP := Lib.hid fun W hw => clockParse_all s W hw (by omega) n y hp
  have HS := Lib.hid fun W => split_any t W t1 t2
  have ov : 0 ≤ t % 86400 ∧ t % 86400 < 86400 := by omega
  obtain ⟨d, hd⟩ : ∃ d, t / 86400 = d := ⟨_, rfl⟩
  obtain ⟨v, hv⟩ : ∃ v, t % 86400 = v := ⟨_, rfl⟩
  have hdv : d * 86400 + v = t := by omega
  rw [hd, hv] at HS
  rw [hv] at ov
  obtain ⟨v1, v2⟩ := ov
  have y1 : (y == 0) = false := by simp [hy]
  clear hy
  clear hW hp hd hv h200
  obtain ⟨X, hX⟩ : ∃ X, (⟨(Ck.text sec).toArray⟩ : ByteArray) = X := ⟨_, rfl⟩
  have hT2 := fun W hw => clockText_any sec W hw
  simp only [hX] at hT2
  have HT2 := Lib.hid hT2
  clear hT2
  have hrng : (-719162 ≤ d ∧ d < 2932897) ∨ ¬ (-719162 ≤ d ∧ d < 2932897) := by omega
  by_cases hsec : IsTime sec
  · have x1 : X.toList.isEmpty = false := by rw [← hX]; exact text_ne sec hsec
    have hP2 := fun W hw => clockParse_all ⟨(Ck.text sec).toArray⟩ W hw (by have := Ck.text_size sec; omega) sec 0 (Ck.parse_text sec hsec)
    simp only [hX] at hP2
    have HP2 := Lib.hid hP2
    clear hP2
    have hT3 := fun W hw => clockText_any o W hw
    obtain ⟨Z, hZ⟩ : ∃ Z, (⟨(Ck.text o).toArray⟩ : ByteArray) = Z := ⟨_, rfl⟩
    simp only [hZ] at hT3
    have HT3 := Lib.hid hT3
    have z1 : (Z.toList == X.toList) = decide (o = sec) := by
      rw [← hZ, ← hX, ByteArray.toList_eq, ByteArray.toList_eq]
      by_cases e : o = sec
      · subst e; simp
      · rw [decide_eq_false e, beq_eq_false_iff_ne]
        intro e2
        exact e (Ck.text_inj o sec hsec e2)
    clear hT3 hZ hX
    by_cases ho : o = sec
    · have z2 : (o == sec) = true := by simp [ho]
      rw [decide_eq_true ho] at z1
      clear ho hsec
      rcases hrng with hr | hr
      · have HAt := Lib.hid fun W => calls_val (at_ok d v W hr.1 hr.2 (by unfold IsTime; omega)) (show _ = Value.tuple #[.int .i64 t, .int .i64 0] by rw [hdv])
        have HOf := Lib.hid fun W => of_ok d W hr.1 hr.2
        clear hr hdv
        go_enter Tryd.func6, Tryd.ntmps6
        go_wp2_with fail
        refine (HL.out _ (HW.out.below HB.out)).mono ?_
        rintro e w1 ⟨rfl, hb⟩
        replace HB := Lib.hid (below_then HB.out hb)
        clear hb
        go_wp2_with fail
        refine (HP.out _ (HW.out.below HB.out)).mono ?_
        rintro e w2 ⟨rfl, hb⟩
        replace HB := Lib.hid (below_then HB.out hb)
        clear hb
        go_wp2_with fail
        refine (HT2.out _ (HW.out.below HB.out)).mono ?_
        rintro e w3 ⟨rfl, hb⟩
        replace HB := Lib.hid (below_then HB.out hb)
        clear hb
        go_wp2_with fail
        refine (HP2.out _ (HW.out.below HB.out)).mono ?_
        rintro e w4 ⟨rfl, hb⟩
        replace HB := Lib.hid (below_then HB.out hb)
        clear hb
        go_wp2_with fail
        refine (HT3.out _ (HW.out.below HB.out)).mono ?_
        rintro e w5 ⟨rfl, hb⟩
        replace HB := Lib.hid (below_then HB.out hb)
        clear hb
        go_wp2_with fail
        refine (HS.out _).mono ?_
        rintro e w6 ⟨rfl, rfl⟩
        go_wp2_with fail
        refine (HAt.out _).mono ?_
        rintro e w7 ⟨rfl, hb⟩
        replace HB := Lib.hid (below_then HB.out hb)
        clear hb
        go_wp2_with fail
        refine (HOf.out _).mono ?_
        rintro e w8 ⟨rfl, hb⟩
        replace HB := Lib.hid (below_then HB.out hb)
        clear hb
        go_wp2
        go_ret
        exact ⟨rfl, HB.out.alloc HB.out.size _⟩
      · have HAt := Lib.hid fun W => at_bad d v W (fun x => hr x.1)
        have HOf := Lib.hid fun W => of_bad d W (by omega)
        clear hr hdv
        go_enter Tryd.func6, Tryd.ntmps6
        go_wp2_with fail
        refine (HL.out _ (HW.out.below HB.out)).mono ?_
        rintro e w1 ⟨rfl, hb⟩
        replace HB := Lib.hid (below_then HB.out hb)
        clear hb
        go_wp2_with fail
        refine (HP.out _ (HW.out.below HB.out)).mono ?_
        rintro e w2 ⟨rfl, hb⟩
        replace HB := Lib.hid (below_then HB.out hb)
        clear hb
        go_wp2_with fail
        refine (HT2.out _ (HW.out.below HB.out)).mono ?_
        rintro e w3 ⟨rfl, hb⟩
        replace HB := Lib.hid (below_then HB.out hb)
        clear hb
        go_wp2_with fail
        refine (HP2.out _ (HW.out.below HB.out)).mono ?_
        rintro e w4 ⟨rfl, hb⟩
        replace HB := Lib.hid (below_then HB.out hb)
        clear hb
        go_wp2_with fail
        refine (HT3.out _ (HW.out.below HB.out)).mono ?_
        rintro e w5 ⟨rfl, hb⟩
        replace HB := Lib.hid (below_then HB.out hb)
        clear hb
        go_wp2_with fail
        refine (HS.out _).mono ?_
        rintro e w6 ⟨rfl, rfl⟩
        go_wp2_with fail
        refine (HAt.out _).mono ?_
        rintro e w7 ⟨rfl, hb⟩
        replace HB := Lib.hid (below_then HB.out hb)
        clear hb
        go_wp2_with fail
        refine (HOf.out _).mono ?_
        rintro e w8 ⟨rfl, hb⟩
        replace HB := Lib.hid (below_then HB.out hb)
        clear hb
        go_wp2
        go_ret
        exact ⟨rfl, HB.out.alloc HB.out.size _⟩
    · have z2 : (o == sec) = false := by simp [ho]
      rw [decide_eq_false ho] at z1
      clear ho hsec
      rcases hrng with hr | hr
      · have HAt := Lib.hid fun W => calls_val (at_ok d v W hr.1 hr.2 (by unfold IsTime; omega)) (show _ = Value.tuple #[.int .i64 t, .int .i64 0] by rw [hdv])
        have HOf := Lib.hid fun W => of_ok d W hr.1 hr.2
        clear hr hdv
        go_enter Tryd.func6, Tryd.ntmps6
        go_wp2_with fail
        refine (HL.out _ (HW.out.below HB.out)).mono ?_
        rintro e w1 ⟨rfl, hb⟩
        replace HB := Lib.hid (below_then HB.out hb)
        clear hb
        go_wp2_with fail
        refine (HP.out _ (HW.out.below HB.out)).mono ?_
        rintro e w2 ⟨rfl, hb⟩
        replace HB := Lib.hid (below_then HB.out hb)
        clear hb
        go_wp2_with fail
        refine (HT2.out _ (HW.out.below HB.out)).mono ?_
        rintro e w3 ⟨rfl, hb⟩
        replace HB := Lib.hid (below_then HB.out hb)
        clear hb
        go_wp2_with fail
        refine (HP2.out _ (HW.out.below HB.out)).mono ?_
        rintro e w4 ⟨rfl, hb⟩
        replace HB := Lib.hid (below_then HB.out hb)
        clear hb
        go_wp2_with fail
        refine (HT3.out _ (HW.out.below HB.out)).mono ?_
        rintro e w5 ⟨rfl, hb⟩
        replace HB := Lib.hid (below_then HB.out hb)
        clear hb
        go_wp2_with fail
        refine (HS.out _).mono ?_
        rintro e w6 ⟨rfl, rfl⟩
        go_wp2_with fail
        refine (HAt.out _).mono ?_
        rintro e w7 ⟨rfl, hb⟩
        replace HB := Lib.hid (below_then HB.out hb)
        clear hb
        go_wp2_with fail
        refine (HOf.out _).mono ?_
        rintro e w8 ⟨rfl, hb⟩
        replace HB := Lib.hid (below_then HB.out hb)
        clear hb
        go_wp2
        go_ret
        exact ⟨rfl, HB.out.alloc HB.out.size _⟩
      · have HAt := Lib.hid fun W => at_bad d v W (fun x => hr x.1)
        have HOf := Lib.hid fun W => of_bad d W (by omega)
        clear hr hdv
        go_enter Tryd.func6, Tryd.ntmps6
        go_wp2_with fail
        refine (HL.out _ (HW.out.below HB.out)).mono ?_
        rintro e w1 ⟨rfl, hb⟩
        replace HB := Lib.hid (below_then HB.out hb)
        clear hb
        go_wp2_with fail
        refine (HP.out _ (HW.out.below HB.out)).mono ?_
        rintro e w2 ⟨rfl, hb⟩
        replace HB := Lib.hid (below_then HB.out hb)
        clear hb
        go_wp2_with fail
        refine (HT2.out _ (HW.out.below HB.out)).mono ?_
        rintro e w3 ⟨rfl, hb⟩
        replace HB := Lib.hid (below_then HB.out hb)
        clear hb
        go_wp2_with fail
        refine (HP2.out _ (HW.out.below HB.out)).mono ?_
        rintro e w4 ⟨rfl, hb⟩
        replace HB := Lib.hid (below_then HB.out hb)
        clear hb
        go_wp2_with fail
        refine (HT3.out _ (HW.out.below HB.out)).mono ?_
        rintro e w5 ⟨rfl, hb⟩
        replace HB := Lib.hid (below_then HB.out hb)
        clear hb
        go_wp2_with fail
        refine (HS.out _).mono ?_
        rintro e w6 ⟨rfl, rfl⟩
        go_wp2_with fail
        refine (HAt.out _).mono ?_
        rintro e w7 ⟨rfl, hb⟩
        replace HB := Lib.hid (below_then HB.out hb)
        clear hb
        go_wp2_with fail
        refine (HOf.out _).mono ?_
        rintro e w8 ⟨rfl, hb⟩
        replace HB := Lib.hid (below_then HB.out hb)
        clear hb
        go_wp2
        go_ret
        exact ⟨rfl, HB.out.alloc HB.out.size _⟩
  · have x1 : X.toList.isEmpty = true := by
      have e : Ck.text sec = [] := by unfold Ck.text; rw [if_neg hsec]
      rw [← hX, e, ByteArray.toList_eq]; rfl
    clear hX hsec
    rcases hrng with hr | hr
    · have HAt := Lib.hid fun W => calls_val (at_ok d v W hr.1 hr.2 (by unfold IsTime; omega)) (show _ = Value.tuple #[.int .i64 t, .int .i64 0] by rw [hdv])
      have HOf := Lib.hid fun W => of_ok d W hr.1 hr.2
      clear hr hdv
      go_enter Tryd.func6, Tryd.ntmps6
      go_wp2_with fail
      refine (HL.out _ (HW.out.below HB.out)).mono ?_
      rintro e w1 ⟨rfl, hb⟩
      replace HB := Lib.hid (below_then HB.out hb)
      clear hb
      go_wp2_with fail
      refine (HP.out _ (HW.out.below HB.out)).mono ?_
      rintro e w2 ⟨rfl, hb⟩
      replace HB := Lib.hid (below_then HB.out hb)
      clear hb
      go_wp2_with fail
      refine (HT2.out _ (HW.out.below HB.out)).mono ?_
      rintro e w3 ⟨rfl, hb⟩
      replace HB := Lib.hid (below_then HB.out hb)
      clear hb
      go_wp2_with fail
      refine (HS.out _).mono ?_
      rintro e w4 ⟨rfl, rfl⟩
      go_wp2_with fail
      refine (HAt.out _).mono ?_
      rintro e w5 ⟨rfl, hb⟩
      replace HB := Lib.hid (below_then HB.out hb)
      clear hb
      go_wp2_with fail
      refine (HOf.out _).mono ?_
      rintro e w6 ⟨rfl, hb⟩
      replace HB := Lib.hid (below_then HB.out hb)
      clear hb
      go_wp2
      go_ret
      exact ⟨rfl, HB.out.alloc HB.out.size _⟩
    · have HAt := Lib.hid fun W => at_bad d v W (fun x => hr x.1)
      have HOf := Lib.hid fun W => of_bad d W (by omega)
      clear hr hdv
      go_enter Tryd.func6, Tryd.ntmps6
      go_wp2_with fail
      refine (HL.out _ (HW.out.below HB.out)).mono ?_
      rintro e w1 ⟨rfl, hb⟩
      replace HB := Lib.hid (below_then HB.out hb)
      clear hb
      go_wp2_with fail
      refine (HP.out _ (HW.out.below HB.out)).mono ?_
      rintro e w2 ⟨rfl, hb⟩
      replace HB := Lib.hid (below_then HB.out hb)
      clear hb
      go_wp2_with fail
      refine (HT2.out _ (HW.out.below HB.out)).mono ?_
      rintro e w3 ⟨rfl, hb⟩
      replace HB := Lib.hid (below_then HB.out hb)
      clear hb
      go_wp2_with fail
      refine (HS.out _).mono ?_
      rintro e w4 ⟨rfl, rfl⟩
      go_wp2_with fail
      refine (HAt.out _).mono ?_
      rintro e w5 ⟨rfl, hb⟩
      replace HB := Lib.hid (below_then HB.out hb)
      clear hb
      go_wp2_with fail
      refine (HOf.out _).mono ?_
      rintro e w6 ⟨rfl, hb⟩
      replace HB := Lib.hid (below_then HB.out hb)
      clear hb
      go_wp2
      go_ret
      exact ⟨rfl, HB.out.alloc HB.out.size _⟩

theorem clockBack_any (sec o t : Int) (s : ByteArray) (w : World) (hW : Wc w) (_h1 : (Lit.int .i64 sec).wf = true) (_h2 : (Lit.int .i64 o).wf = true) (h3 : (Lit.int .i64 t).wf = true) (hs : s.size ≤ maxLen) :
    Calls Tryd.prog 6 #[.int .i64 sec, .int .i64 o, .int .i64 t, .string s] w fun e w' => e = .returned (.bool true) ∧ Below w.heap.size w w' := by
  obtain ⟨t1, t2⟩ := int64_bd h3
  by_cases h : 200 < s.size
  · exact clockBack_long sec o t s w hW hs h
  · obtain ⟨n, y, hp⟩ : ∃ n y, Ck.parse s = (n, y) := ⟨_, _, rfl⟩
    by_cases hy : y = 0
    · exact clockBack_p1 sec o t s w hW (by omega) t1 t2 n y hp hy
    · exact clockBack_p0 sec o t s w hW (by omega) t1 t2 n y hp hy
end Go.Proofs.YtliedeiimogljaaDoor
