/- The contract of the reference's Text of a time. -/
import Derived.Test.YtolgigaolffenaaGreatDoorQ01
import Derived.Test.YtolgigaolffenaaGreatDoorQ02
import Derived.Test.YtolgigaolffenaaGreatDoorQ03
import Derived.Test.YtolgigaolffenaaGreatDoorQ04
import Derived.Test.YtolgigaolffenaaGreatDoorQ05
import Derived.Test.YtolgigaolffenaaGreatDoorQ06
import Derived.Test.YtolgigaolffenaaGreatDoorQ07
import Derived.Test.YtolgigaolffenaaGreatDoorQ08
import Derived.Test.YtolgigaolffenaaGreatDoorQ09
import Derived.Test.YtolgigaolffenaaGreatDoorQ10
import Derived.Test.YtolgigaolffenaaGreatDoorQ11
import Derived.Test.YtolgigaolffenaaGreatDoorQ12
import Derived.Test.YtolgigaolffenaaGreatDoorQ13
import Derived.Test.YtolgigaolffenaaGreatDoorQ14
import Derived.Test.YtolgigaolffenaaGreatDoorQ15
import Derived.Test.YtolgigaolffenaaGreatDoorQ16
import Derived.Test.YtolgigaolffenaaGreatDoorQ17
import Derived.Test.YtolgigaolffenaaGreatDoorQ18
import Derived.Test.YtolgigaolffenaaGreatDoorQ19
import Derived.Test.YtolgigaolffenaaGreatDoorQ20
import Derived.Test.YtolgigaolffenaaGreatDoorQ21
import Derived.Test.YtolgigaolffenaaGreatDoorQ22
import Derived.Test.YtolgigaolffenaaGreatDoorQ23
import Derived.Test.YtolgigaolffenaaGreatDoorQ24
import Derived.Test.YtolgigaolffenaaGreatDoorQ25
import Derived.Test.YtolgigaolffenaaGreatDoorQ26
import Derived.Test.YtolgigaolffenaaGreatDoorQ27
import Derived.Test.YtolgigaolffenaaGreatDoorQ29
import Derived.Test.YtolgigaolffenaaGreatDoorQ32
import Derived.Test.YtolgigaolffenaaGreatDoorQ36
import Derived.Test.YtolgigaolffenaaGreatDoorV06

namespace Go.Proofs.YtolgigaolffenaaGreatDoor
open Go.RowKit

theorem add_mk (a b : List UInt8) (h : a.length + b.length ≤ 1000000) (W : World) : (Op.stringOp .add (mk a) (mk b)).run Tryz.prog W = .ok (.string (mk (a ++ b))) W := by
  rw [← mk_app]
  exact run_string_add_sum W _ _ (by rw [mk_size, mk_size]; omega)
theorem itoa_sz (n : Int) (h0 : 0 ≤ n) (h1 : n < 100000) : (Lib.itoa n).length ≤ 21 := Lib.itoa_length_le n (by omega) (by omega)
set_option maxRecDepth 100000 in
theorem refText_pos (a : Int) (w : World) (h0 : 0 ≤ a) (h1 : a ≤ 604800) :
    Calls Tryz.prog 120 #[.int .i64 a] w fun e w' => e = .returned (.string (mk (Ck.body a))) ∧ Below w.heap.size w w' := by
  have HT := Lib.hid fun W => calls_bool (refTime_any a W) (decide_eq_true (show IsTime a from ⟨by omega, h1⟩))
  have hN := fun W => num_any _ (a / 3600) W rfl (by omega) (by omega)
  have hD := fun W => refTwo_any (a / 60 % 60) W (by omega) (by omega)
  have hE := fun W => refTwo_any (a % 60) W (by omega) (by omega)
  have hl := itoa_sz (a / 3600) (by omega) (by omega)
  have hbody : Ck.body a = Lib.itoa (a / 3600) ++ [58] ++ Ck.dig2 (a / 60 % 60) ++ (if 0 < a % 60 then [58] ++ Ck.dig2 (a % 60) else []) := by
    unfold Ck.body
    rw [Ck.two_dig, Ck.two_dig, show a % 3600 / 60 = a / 60 % 60 by omega, show a % 3600 % 60 = a % 60 by omega]
    simp
  obtain ⟨N, hN'⟩ : ∃ N, Lib.itoa (a / 3600) = N := ⟨_, rfl⟩
  obtain ⟨D, hD'⟩ : ∃ D, Ck.dig2 (a / 60 % 60) = D := ⟨_, rfl⟩
  obtain ⟨E, hE'⟩ : ∃ E, Ck.dig2 (a % 60) = E := ⟨_, rfl⟩
  have lD : D.length = 2 := by rw [← hD']; rfl
  have lE : E.length = 2 := by rw [← hE']; rfl
  rw [hN'] at hl
  rw [hN', hD', hE'] at hbody
  simp only [hN'] at hN
  simp only [hD'] at hD
  simp only [hE'] at hE
  have HN := Lib.hid hN
  have HD := Lib.hid hD
  have HE := Lib.hid hE
  have HB := Lib.hid hbody
  have s1 : ∀ W, (Op.stringOp .add (mk N) { data := #[58] }).run Tryz.prog W = .ok (.string (mk (N ++ [58]))) W := fun W => add_mk N [58] (by simp; omega) W
  have s2 : ∀ W, (Op.stringOp .add (mk (N ++ [58])) (mk D)).run Tryz.prog W = .ok (.string (mk (N ++ [58] ++ D))) W := fun W => add_mk (N ++ [58]) D (by simp; omega) W
  have s3 : ∀ W, (Op.stringOp .add { data := #[58] } (mk E)).run Tryz.prog W = .ok (.string (mk ([58] ++ E))) W := fun W => add_mk [58] E (by simp; omega) W
  have s4 : ∀ W, (Op.stringOp .add (mk (N ++ [58] ++ D)) (mk ([58] ++ E))).run Tryz.prog W = .ok (.string (mk (N ++ [58] ++ D ++ ([58] ++ E)))) W := fun W => add_mk _ _ (by simp; omega) W
  obtain ⟨X1, hX1⟩ : ∃ X, mk (N ++ [58]) = X := ⟨_, rfl⟩
  obtain ⟨X2, hX2⟩ : ∃ X, mk (N ++ [58] ++ D) = X := ⟨_, rfl⟩
  obtain ⟨X3, hX3⟩ : ∃ X, mk ([58] ++ E) = X := ⟨_, rfl⟩
  obtain ⟨X4, hX4⟩ : ∃ X, mk (N ++ [58] ++ D ++ ([58] ++ E)) = X := ⟨_, rfl⟩
  rw [hX1] at s1 s2
  rw [hX2] at s2 s4
  rw [hX3] at s3 s4
  rw [hX4] at s4
  have H2 := Lib.hid hX2
  have H4 := Lib.hid hX4
  clear hN hD hE hbody hN' hD' hE' lD lE hX1 hX2 hX3 hX4
  by_cases hs : 0 < a % 60
  · have HX : Hid (mk (Ck.body a) = X4) := by show mk (Ck.body a) = _; rw [HB.out, if_pos hs, H4.out]
    go_enter Tryz.func120, Tryz.ntmps120
    go_wp2_with fail
    refine (HT.out _).mono ?_
    rintro e w1 ⟨rfl, rfl⟩
    go_wp2_with fail
    refine (HN.out _).mono ?_
    rintro e w2 ⟨rfl, hb2⟩
    go_wp2_with fail
    refine (HD.out _).mono ?_
    rintro e w3 ⟨rfl, hb3⟩
    go_wp2_with fail
    refine (HE.out _).mono ?_
    rintro e w4 ⟨rfl, hb4⟩
    go_wp2
    go_ret
    exact ⟨ret_str (by rw [HX.out]), below_then (below_then hb2 hb3) hb4⟩
  · have HX : Hid (mk (Ck.body a) = X2) := by show mk (Ck.body a) = _; rw [HB.out, if_neg hs, List.append_nil, H2.out]
    go_enter Tryz.func120, Tryz.ntmps120
    go_wp2_with fail
    refine (HT.out _).mono ?_
    rintro e w1 ⟨rfl, rfl⟩
    go_wp2_with fail
    refine (HN.out _).mono ?_
    rintro e w2 ⟨rfl, hb2⟩
    go_wp2_with fail
    refine (HD.out _).mono ?_
    rintro e w3 ⟨rfl, hb3⟩
    go_wp2
    go_ret
    exact ⟨ret_str (by rw [HX.out]), below_then hb2 hb3⟩
set_option maxRecDepth 100000 in
theorem refText_any (s : Int) (w : World) :
    Calls Tryz.prog 120 #[.int .i64 s] w fun e w' => e = .returned (.string (mk (Ck.text s))) ∧ Below w.heap.size w w' := by
  by_cases h : IsTime s
  · by_cases hn : s < 0
    · have HT := Lib.hid fun W => calls_bool (refTime_any s W) (decide_eq_true h)
      have HE : Hid (Ck.text s = [45] ++ Ck.body (-s)) := by show Ck.text s = _; unfold Ck.text Ck.sign; rw [if_pos h, if_pos hn, if_pos hn]
      obtain ⟨h1, h2⟩ := h
      have HP := Lib.hid fun W => refText_pos (-s) W (by omega) (by omega)
      have hl : (Ck.body (-s)).length ≤ 1000 := by
        have := itoa_sz (-s / 3600) (by omega) (by omega)
        unfold Ck.body
        split <;> simp [Ck.two] <;> omega
      obtain ⟨B, hB⟩ : ∃ B, Ck.body (-s) = B := ⟨_, rfl⟩
      rw [hB] at HE hl HP
      have s1 : ∀ W, (Op.stringOp .add { data := #[45] } (mk B)).run Tryz.prog W = .ok (.string (mk ([45] ++ B))) W := fun W => add_mk [45] B (by simp; omega) W
      obtain ⟨X1, hX1⟩ : ∃ X, mk ([45] ++ B) = X := ⟨_, rfl⟩
      rw [hX1] at s1
      have H1 := Lib.hid hX1
      clear hB hl hX1
      go_enter Tryz.func120, Tryz.ntmps120
      go_wp2_with fail
      refine (HT.out _).mono ?_
      rintro e w1 ⟨rfl, rfl⟩
      go_wp2_with fail
      refine (HP.out _).mono ?_
      rintro e w2 ⟨rfl, hb2⟩
      go_wp2
      go_ret
      exact ⟨ret_str (by rw [HE.out, H1.out]), hb2⟩
    · have hE : Ck.text s = Ck.body s := by unfold Ck.text Ck.sign; rw [if_pos h, if_neg hn, if_neg hn]; rfl
      rw [hE]
      exact refText_pos s w (by omega) h.2
  · have HT := Lib.hid fun W => calls_bool (refTime_any s W) (decide_eq_false h)
    have HE : Hid (Ck.text s = []) := by show Ck.text s = []; unfold Ck.text; rw [if_neg h]
    clear h
    go_enter Tryz.func120, Tryz.ntmps120
    go_wp2_with fail
    refine (HT.out _).mono ?_
    rintro e w1 ⟨rfl, rfl⟩
    go_wp2
    go_ret
    exact ⟨ret_str (by rw [HE.out]; rfl), Below.refl _ _⟩
end Go.Proofs.YtolgigaolffenaaGreatDoor

/- The contracts of the reference of package moment: Check, Nominal, Instant. -/
namespace Go.Proofs.YtolgigaolffenaaGreatDoor
open Go.RowKit

theorem refMomCheck_ok (s c : Int) (w : World) (h : Mo.Ok s c) :
    Calls Tryz.prog 119 #[.agg #[.int .i64 s, .int .u8 c]] w fun e w' => e = .returned (.int .i64 0) ∧ Below w.heap.size w w' := by
  have hT := fun W => refText_any s W
  have hne : (mk (Ck.text s)).toList.isEmpty = false := text_ne s h.1
  obtain ⟨X, hX⟩ : ∃ X, mk (Ck.text s) = X := ⟨_, rfl⟩
  simp only [hX] at hT hne
  have HT := Lib.hid hT
  obtain ⟨_, h3⟩ := h
  clear hT hX
  go_enter Tryz.func119, Tryz.ntmps119
  go_wp2_with fail
  refine (HT.out _).mono ?_
  rintro e w1 ⟨rfl, hb1⟩
  obtain ⟨c1, f1⟩ := bcell hb1
  have HB := Lib.hid (below_new (hb1.mono (by simp) : Below (w.heap.size + 1) (w.alloc (.cells #[.int .i64 s, .int .u8 c] 49)) w1))
  clear hb1
  go_wp2
  go_ret
  exact ⟨rfl, HB.out⟩
theorem refMomCheck_bad (s c : Int) (w : World) (h : ¬ Mo.Ok s c) :
    Calls Tryz.prog 119 #[.agg #[.int .i64 s, .int .u8 c]] w fun e w' => e = .returned (.int .i64 2) ∧ Below w.heap.size w w' := by
  by_cases ht : IsTime s
  · have h3 : 3 ≤ c := by unfold Mo.Ok at h; have : ¬ c < 3 := fun x => h ⟨ht, x⟩; omega
    have hT := fun W => refText_any s W
    have hne : (mk (Ck.text s)).toList.isEmpty = false := text_ne s ht
    obtain ⟨X, hX⟩ : ∃ X, mk (Ck.text s) = X := ⟨_, rfl⟩
    simp only [hX] at hT hne
    have HT := Lib.hid hT
    clear hT hX h ht
    go_enter Tryz.func119, Tryz.ntmps119
    go_wp2_with fail
    refine (HT.out _).mono ?_
    rintro e w1 ⟨rfl, hb1⟩
    obtain ⟨c1, f1⟩ := bcell hb1
    have HB := Lib.hid (below_new (hb1.mono (by simp) : Below (w.heap.size + 1) (w.alloc (.cells #[.int .i64 s, .int .u8 c] 49)) w1))
    clear hb1
    go_wp2
    go_ret
    exact ⟨rfl, HB.out⟩
  · have HT := Lib.hid fun W => calls_str (refText_any s W) (show _ = (⟨#[]⟩ : ByteArray) by unfold Ck.text; rw [if_neg ht]; rfl)
    clear h ht
    go_enter Tryz.func119, Tryz.ntmps119
    go_wp2_with fail
    refine (HT.out _).mono ?_
    rintro e w1 ⟨rfl, hb1⟩
    have HB := Lib.hid (below_new (hb1.mono (by simp) : Below (w.heap.size + 1) (w.alloc (.cells #[.int .i64 s, .int .u8 c] 49)) w1))
    clear hb1
    go_wp2
    go_ret
    exact ⟨rfl, HB.out⟩

end Go.Proofs.YtolgigaolffenaaGreatDoor

/- The statements' Near: that it hands back something, and of a small source. -/
namespace Go.Proofs.YtolgigaolffenaaGreatDoor
open Go.RowKit

namespace Eg
def SomeB (w : World) (e : Ending) (w' : World) : Prop := (∃ b, e = .returned (.bool b)) ∧ Below w.heap.size w w'
def SomeN (w : World) (e : Ending) (w' : World) : Prop := (e = .returned (.int .i64 0) ∨ e = .returned (.int .i64 2)) ∧ Below w.heap.size w w'
def SomeZ (w : World) (e : Ending) (w' : World) : Prop := (e = .returned (.int .i64 0) ∨ e = .returned (.int .i64 1)) ∧ Below w.heap.size w w'
def SomeC (fr tt : Int) (w : World) (e : Ending) (w' : World) : Prop := ((e = .returned (.int .i64 0) ∧ 1 ≤ fr ∧ fr ≤ tt ∧ tt ≤ 9999) ∨ e = .returned (.int .i64 2)) ∧ Below w.heap.size w w'
end Eg
set_option maxHeartbeats 4000000 in
set_option maxRecDepth 100000 in
theorem refSigns_some (s : ByteArray) (w : World) (hs : s.size ≤ maxLen) :
    Calls Tryz.prog 157 #[.string s] w (Eg.SomeB w) := by
  unfold maxLen at hs
  go_enter Tryz.func157, Tryz.ntmps157
  go_wp2
  go_loop [3] (fun i => ∃ j : Nat, j ≤ s.size ∧ i = .int .i64 j) (fun i => s.size - (intOf i).toNat)
  case atStart => exact ⟨0, Nat.zero_le _, rfl⟩
  case round =>
    obtain ⟨j, hj, rfl⟩ := hrel
    by_cases hlj : j < s.size
    · have p1 : (0 : Int) ≤ (j : Int) := by omega
      have p2 : (j : Int) < (s.size : Int) := by omega
      obtain ⟨b1, b2⟩ := u8_bd s[j]
      have hcs := Ab.cases_ (s[j].toNat : Int) b1 b2
      · rcases hcs with hc | hc | hc | hc | hc | hc | hc | hc | hc | hc | hc
        · obtain ⟨i1, i2⟩ := hc
          have f97 : ¬ 97 ≤ (s[j].toNat : Int) := by omega
          have f65 : ¬ 65 ≤ (s[j].toNat : Int) := by omega
          have f48 : ¬ 48 ≤ (s[j].toNat : Int) := by omega
          have h122 : (s[j].toNat : Int) ≤ 122 := by omega
          have h90 : (s[j].toNat : Int) ≤ 90 := by omega
          have h57 : (s[j].toNat : Int) ≤ 57 := by omega
          have e43 : ((s[j].toNat : Int) == 43) = false := by rw [beq_eq_false_iff_ne]; omega
          have e45 : ((s[j].toNat : Int) == 45) = false := by rw [beq_eq_false_iff_ne]; omega
          go_wp2
          go_ret
          exact ⟨⟨_, rfl⟩, Below.refl _ _⟩
        · obtain ⟨i1, i2⟩ := hc
          have f97 : ¬ 97 ≤ (s[j].toNat : Int) := by omega
          have f65 : ¬ 65 ≤ (s[j].toNat : Int) := by omega
          have f48 : ¬ 48 ≤ (s[j].toNat : Int) := by omega
          have h122 : (s[j].toNat : Int) ≤ 122 := by omega
          have h90 : (s[j].toNat : Int) ≤ 90 := by omega
          have h57 : (s[j].toNat : Int) ≤ 57 := by omega
          have e43 : ((s[j].toNat : Int) == 43) = true := by rw [beq_iff_eq]; omega
          have e45 : ((s[j].toNat : Int) == 45) = false := by rw [beq_eq_false_iff_ne]; omega
          go_wp2
          go_round
          case rel => exact ⟨j + 1, by omega, by go_num⟩
          case measure => simp [intOf]; omega
        · obtain ⟨i1, i2⟩ := hc
          have f97 : ¬ 97 ≤ (s[j].toNat : Int) := by omega
          have f65 : ¬ 65 ≤ (s[j].toNat : Int) := by omega
          have f48 : ¬ 48 ≤ (s[j].toNat : Int) := by omega
          have h122 : (s[j].toNat : Int) ≤ 122 := by omega
          have h90 : (s[j].toNat : Int) ≤ 90 := by omega
          have h57 : (s[j].toNat : Int) ≤ 57 := by omega
          have e43 : ((s[j].toNat : Int) == 43) = false := by rw [beq_eq_false_iff_ne]; omega
          have e45 : ((s[j].toNat : Int) == 45) = false := by rw [beq_eq_false_iff_ne]; omega
          go_wp2
          go_ret
          exact ⟨⟨_, rfl⟩, Below.refl _ _⟩
        · obtain ⟨i1, i2⟩ := hc
          have f97 : ¬ 97 ≤ (s[j].toNat : Int) := by omega
          have f65 : ¬ 65 ≤ (s[j].toNat : Int) := by omega
          have f48 : ¬ 48 ≤ (s[j].toNat : Int) := by omega
          have h122 : (s[j].toNat : Int) ≤ 122 := by omega
          have h90 : (s[j].toNat : Int) ≤ 90 := by omega
          have h57 : (s[j].toNat : Int) ≤ 57 := by omega
          have e43 : ((s[j].toNat : Int) == 43) = false := by rw [beq_eq_false_iff_ne]; omega
          have e45 : ((s[j].toNat : Int) == 45) = true := by rw [beq_iff_eq]; omega
          go_wp2
          go_round
          case rel => exact ⟨j + 1, by omega, by go_num⟩
          case measure => simp [intOf]; omega
        · obtain ⟨i1, i2⟩ := hc
          have f97 : ¬ 97 ≤ (s[j].toNat : Int) := by omega
          have f65 : ¬ 65 ≤ (s[j].toNat : Int) := by omega
          have f48 : ¬ 48 ≤ (s[j].toNat : Int) := by omega
          have h122 : (s[j].toNat : Int) ≤ 122 := by omega
          have h90 : (s[j].toNat : Int) ≤ 90 := by omega
          have h57 : (s[j].toNat : Int) ≤ 57 := by omega
          have e43 : ((s[j].toNat : Int) == 43) = false := by rw [beq_eq_false_iff_ne]; omega
          have e45 : ((s[j].toNat : Int) == 45) = false := by rw [beq_eq_false_iff_ne]; omega
          go_wp2
          go_ret
          exact ⟨⟨_, rfl⟩, Below.refl _ _⟩
        · obtain ⟨i1, i2⟩ := hc
          have f97 : ¬ 97 ≤ (s[j].toNat : Int) := by omega
          have f65 : ¬ 65 ≤ (s[j].toNat : Int) := by omega
          have f48 : 48 ≤ (s[j].toNat : Int) := by omega
          have h122 : (s[j].toNat : Int) ≤ 122 := by omega
          have h90 : (s[j].toNat : Int) ≤ 90 := by omega
          have h57 : (s[j].toNat : Int) ≤ 57 := by omega
          have e43 : ((s[j].toNat : Int) == 43) = false := by rw [beq_eq_false_iff_ne]; omega
          have e45 : ((s[j].toNat : Int) == 45) = false := by rw [beq_eq_false_iff_ne]; omega
          go_wp2
          go_round
          case rel => exact ⟨j + 1, by omega, by go_num⟩
          case measure => simp [intOf]; omega
        · obtain ⟨i1, i2⟩ := hc
          have f97 : ¬ 97 ≤ (s[j].toNat : Int) := by omega
          have f65 : ¬ 65 ≤ (s[j].toNat : Int) := by omega
          have f48 : 48 ≤ (s[j].toNat : Int) := by omega
          have h122 : (s[j].toNat : Int) ≤ 122 := by omega
          have h90 : (s[j].toNat : Int) ≤ 90 := by omega
          have h57 : ¬ (s[j].toNat : Int) ≤ 57 := by omega
          have e43 : ((s[j].toNat : Int) == 43) = false := by rw [beq_eq_false_iff_ne]; omega
          have e45 : ((s[j].toNat : Int) == 45) = false := by rw [beq_eq_false_iff_ne]; omega
          go_wp2
          go_ret
          exact ⟨⟨_, rfl⟩, Below.refl _ _⟩
        · obtain ⟨i1, i2⟩ := hc
          have f97 : ¬ 97 ≤ (s[j].toNat : Int) := by omega
          have f65 : 65 ≤ (s[j].toNat : Int) := by omega
          have f48 : 48 ≤ (s[j].toNat : Int) := by omega
          have h122 : (s[j].toNat : Int) ≤ 122 := by omega
          have h90 : (s[j].toNat : Int) ≤ 90 := by omega
          have h57 : ¬ (s[j].toNat : Int) ≤ 57 := by omega
          have e43 : ((s[j].toNat : Int) == 43) = false := by rw [beq_eq_false_iff_ne]; omega
          have e45 : ((s[j].toNat : Int) == 45) = false := by rw [beq_eq_false_iff_ne]; omega
          go_wp2
          go_round
          case rel => exact ⟨j + 1, by omega, by go_num⟩
          case measure => simp [intOf]; omega
        · obtain ⟨i1, i2⟩ := hc
          have f97 : ¬ 97 ≤ (s[j].toNat : Int) := by omega
          have f65 : 65 ≤ (s[j].toNat : Int) := by omega
          have f48 : 48 ≤ (s[j].toNat : Int) := by omega
          have h122 : (s[j].toNat : Int) ≤ 122 := by omega
          have h90 : ¬ (s[j].toNat : Int) ≤ 90 := by omega
          have h57 : ¬ (s[j].toNat : Int) ≤ 57 := by omega
          have e43 : ((s[j].toNat : Int) == 43) = false := by rw [beq_eq_false_iff_ne]; omega
          have e45 : ((s[j].toNat : Int) == 45) = false := by rw [beq_eq_false_iff_ne]; omega
          go_wp2
          go_ret
          exact ⟨⟨_, rfl⟩, Below.refl _ _⟩
        · obtain ⟨i1, i2⟩ := hc
          have f97 : 97 ≤ (s[j].toNat : Int) := by omega
          have f65 : 65 ≤ (s[j].toNat : Int) := by omega
          have f48 : 48 ≤ (s[j].toNat : Int) := by omega
          have h122 : (s[j].toNat : Int) ≤ 122 := by omega
          have h90 : ¬ (s[j].toNat : Int) ≤ 90 := by omega
          have h57 : ¬ (s[j].toNat : Int) ≤ 57 := by omega
          have e43 : ((s[j].toNat : Int) == 43) = false := by rw [beq_eq_false_iff_ne]; omega
          have e45 : ((s[j].toNat : Int) == 45) = false := by rw [beq_eq_false_iff_ne]; omega
          go_wp2
          go_round
          case rel => exact ⟨j + 1, by omega, by go_num⟩
          case measure => simp [intOf]; omega
        · obtain ⟨i1, i2⟩ := hc
          have f97 : 97 ≤ (s[j].toNat : Int) := by omega
          have f65 : 65 ≤ (s[j].toNat : Int) := by omega
          have f48 : 48 ≤ (s[j].toNat : Int) := by omega
          have h122 : ¬ (s[j].toNat : Int) ≤ 122 := by omega
          have h90 : ¬ (s[j].toNat : Int) ≤ 90 := by omega
          have h57 : ¬ (s[j].toNat : Int) ≤ 57 := by omega
          have e43 : ((s[j].toNat : Int) == 43) = false := by rw [beq_eq_false_iff_ne]; omega
          have e45 : ((s[j].toNat : Int) == 45) = false := by rw [beq_eq_false_iff_ne]; omega
          go_wp2
          go_ret
          exact ⟨⟨_, rfl⟩, Below.refl _ _⟩
    · obtain rfl : j = s.size := by omega
      go_wp2
      go_ret
      exact ⟨⟨_, rfl⟩, Below.refl _ _⟩
set_option maxHeartbeats 4000000 in
set_option maxRecDepth 100000 in
theorem refName_some (s : ByteArray) (w : World) (hs : s.size ≤ maxLen) :
    Calls Tryz.prog 117 #[.string s] w (Eg.SomeB w) := by
  unfold maxLen at hs
  by_cases h1 : (s.size : Int) < 1
  · go_enter Tryz.func117, Tryz.ntmps117
    go_wp2
    go_ret
    exact ⟨⟨_, rfl⟩, Below.refl _ _⟩
  by_cases h2 : (64 : Int) < (s.size : Int)
  · go_enter Tryz.func117, Tryz.ntmps117
    go_wp2
    go_ret
    exact ⟨⟨_, rfl⟩, Below.refl _ _⟩
  go_enter Tryz.func117, Tryz.ntmps117
  go_wp2
  go_loop [3] (fun i => ∃ j : Nat, j ≤ s.size ∧ i = .int .i64 j) (fun i => s.size - (intOf i).toNat)
  case atStart => exact ⟨0, Nat.zero_le _, rfl⟩
  case round =>
    obtain ⟨j, hj, rfl⟩ := hrel
    by_cases hlj : j < s.size
    · have p1 : (0 : Int) ≤ (j : Int) := by omega
      have p2 : (j : Int) < (s.size : Int) := by omega
      obtain ⟨b1, b2⟩ := u8_bd s[j]
      have hcs := Ru.cases_ (s[j].toNat : Int) b1 b2
      · rcases hcs with hc | hc | hc | hc | hc | hc | hc | hc | hc | hc | hc | hc | hc | hc
        · obtain ⟨i1, i2⟩ := hc
          have f97 : ¬ 97 ≤ (s[j].toNat : Int) := by omega
          have f65 : ¬ 65 ≤ (s[j].toNat : Int) := by omega
          have f48 : ¬ 48 ≤ (s[j].toNat : Int) := by omega
          have h122 : (s[j].toNat : Int) ≤ 122 := by omega
          have h90 : (s[j].toNat : Int) ≤ 90 := by omega
          have h57 : (s[j].toNat : Int) ≤ 57 := by omega
          have e43 : ((s[j].toNat : Int) == 43) = false := by rw [beq_eq_false_iff_ne]; omega
          have e45 : ((s[j].toNat : Int) == 45) = false := by rw [beq_eq_false_iff_ne]; omega
          have e47 : ((s[j].toNat : Int) == 47) = false := by rw [beq_eq_false_iff_ne]; omega
          have e95 : ((s[j].toNat : Int) == 95) = false := by rw [beq_eq_false_iff_ne]; omega
          rcases Nat.eq_zero_or_pos j with rfl | hj0
          · go_wp2
            go_ret
            exact ⟨⟨_, rfl⟩, Below.refl _ _⟩
          · have ej : ((j : Int) == 0) = false := by rw [beq_eq_false_iff_ne]; omega
            go_wp2
            go_ret
            exact ⟨⟨_, rfl⟩, Below.refl _ _⟩
        · obtain ⟨i1, i2⟩ := hc
          have f97 : ¬ 97 ≤ (s[j].toNat : Int) := by omega
          have f65 : ¬ 65 ≤ (s[j].toNat : Int) := by omega
          have f48 : ¬ 48 ≤ (s[j].toNat : Int) := by omega
          have h122 : (s[j].toNat : Int) ≤ 122 := by omega
          have h90 : (s[j].toNat : Int) ≤ 90 := by omega
          have h57 : (s[j].toNat : Int) ≤ 57 := by omega
          have e43 : ((s[j].toNat : Int) == 43) = true := by rw [beq_iff_eq]; omega
          have e45 : ((s[j].toNat : Int) == 45) = false := by rw [beq_eq_false_iff_ne]; omega
          have e47 : ((s[j].toNat : Int) == 47) = false := by rw [beq_eq_false_iff_ne]; omega
          have e95 : ((s[j].toNat : Int) == 95) = false := by rw [beq_eq_false_iff_ne]; omega
          rcases Nat.eq_zero_or_pos j with rfl | hj0
          · go_wp2
            go_ret
            exact ⟨⟨_, rfl⟩, Below.refl _ _⟩
          · have ej : ((j : Int) == 0) = false := by rw [beq_eq_false_iff_ne]; omega
            go_wp2
            go_round
            case rel => exact ⟨j + 1, by omega, by go_num⟩
            case measure => simp [intOf]; omega
        · obtain ⟨i1, i2⟩ := hc
          have f97 : ¬ 97 ≤ (s[j].toNat : Int) := by omega
          have f65 : ¬ 65 ≤ (s[j].toNat : Int) := by omega
          have f48 : ¬ 48 ≤ (s[j].toNat : Int) := by omega
          have h122 : (s[j].toNat : Int) ≤ 122 := by omega
          have h90 : (s[j].toNat : Int) ≤ 90 := by omega
          have h57 : (s[j].toNat : Int) ≤ 57 := by omega
          have e43 : ((s[j].toNat : Int) == 43) = false := by rw [beq_eq_false_iff_ne]; omega
          have e45 : ((s[j].toNat : Int) == 45) = false := by rw [beq_eq_false_iff_ne]; omega
          have e47 : ((s[j].toNat : Int) == 47) = false := by rw [beq_eq_false_iff_ne]; omega
          have e95 : ((s[j].toNat : Int) == 95) = false := by rw [beq_eq_false_iff_ne]; omega
          rcases Nat.eq_zero_or_pos j with rfl | hj0
          · go_wp2
            go_ret
            exact ⟨⟨_, rfl⟩, Below.refl _ _⟩
          · have ej : ((j : Int) == 0) = false := by rw [beq_eq_false_iff_ne]; omega
            go_wp2
            go_ret
            exact ⟨⟨_, rfl⟩, Below.refl _ _⟩
        · obtain ⟨i1, i2⟩ := hc
          have f97 : ¬ 97 ≤ (s[j].toNat : Int) := by omega
          have f65 : ¬ 65 ≤ (s[j].toNat : Int) := by omega
          have f48 : ¬ 48 ≤ (s[j].toNat : Int) := by omega
          have h122 : (s[j].toNat : Int) ≤ 122 := by omega
          have h90 : (s[j].toNat : Int) ≤ 90 := by omega
          have h57 : (s[j].toNat : Int) ≤ 57 := by omega
          have e43 : ((s[j].toNat : Int) == 43) = false := by rw [beq_eq_false_iff_ne]; omega
          have e45 : ((s[j].toNat : Int) == 45) = true := by rw [beq_iff_eq]; omega
          have e47 : ((s[j].toNat : Int) == 47) = false := by rw [beq_eq_false_iff_ne]; omega
          have e95 : ((s[j].toNat : Int) == 95) = false := by rw [beq_eq_false_iff_ne]; omega
          rcases Nat.eq_zero_or_pos j with rfl | hj0
          · go_wp2
            go_ret
            exact ⟨⟨_, rfl⟩, Below.refl _ _⟩
          · have ej : ((j : Int) == 0) = false := by rw [beq_eq_false_iff_ne]; omega
            go_wp2
            go_round
            case rel => exact ⟨j + 1, by omega, by go_num⟩
            case measure => simp [intOf]; omega
        · obtain ⟨i1, i2⟩ := hc
          have f97 : ¬ 97 ≤ (s[j].toNat : Int) := by omega
          have f65 : ¬ 65 ≤ (s[j].toNat : Int) := by omega
          have f48 : ¬ 48 ≤ (s[j].toNat : Int) := by omega
          have h122 : (s[j].toNat : Int) ≤ 122 := by omega
          have h90 : (s[j].toNat : Int) ≤ 90 := by omega
          have h57 : (s[j].toNat : Int) ≤ 57 := by omega
          have e43 : ((s[j].toNat : Int) == 43) = false := by rw [beq_eq_false_iff_ne]; omega
          have e45 : ((s[j].toNat : Int) == 45) = false := by rw [beq_eq_false_iff_ne]; omega
          have e47 : ((s[j].toNat : Int) == 47) = false := by rw [beq_eq_false_iff_ne]; omega
          have e95 : ((s[j].toNat : Int) == 95) = false := by rw [beq_eq_false_iff_ne]; omega
          rcases Nat.eq_zero_or_pos j with rfl | hj0
          · go_wp2
            go_ret
            exact ⟨⟨_, rfl⟩, Below.refl _ _⟩
          · have ej : ((j : Int) == 0) = false := by rw [beq_eq_false_iff_ne]; omega
            go_wp2
            go_ret
            exact ⟨⟨_, rfl⟩, Below.refl _ _⟩
        · obtain ⟨i1, i2⟩ := hc
          have f97 : ¬ 97 ≤ (s[j].toNat : Int) := by omega
          have f65 : ¬ 65 ≤ (s[j].toNat : Int) := by omega
          have f48 : ¬ 48 ≤ (s[j].toNat : Int) := by omega
          have h122 : (s[j].toNat : Int) ≤ 122 := by omega
          have h90 : (s[j].toNat : Int) ≤ 90 := by omega
          have h57 : (s[j].toNat : Int) ≤ 57 := by omega
          have e43 : ((s[j].toNat : Int) == 43) = false := by rw [beq_eq_false_iff_ne]; omega
          have e45 : ((s[j].toNat : Int) == 45) = false := by rw [beq_eq_false_iff_ne]; omega
          have e47 : ((s[j].toNat : Int) == 47) = true := by rw [beq_iff_eq]; omega
          have e95 : ((s[j].toNat : Int) == 95) = false := by rw [beq_eq_false_iff_ne]; omega
          rcases Nat.eq_zero_or_pos j with rfl | hj0
          · go_wp2
            go_ret
            exact ⟨⟨_, rfl⟩, Below.refl _ _⟩
          · have ej : ((j : Int) == 0) = false := by rw [beq_eq_false_iff_ne]; omega
            go_wp2
            go_round
            case rel => exact ⟨j + 1, by omega, by go_num⟩
            case measure => simp [intOf]; omega
        · obtain ⟨i1, i2⟩ := hc
          have f97 : ¬ 97 ≤ (s[j].toNat : Int) := by omega
          have f65 : ¬ 65 ≤ (s[j].toNat : Int) := by omega
          have f48 : 48 ≤ (s[j].toNat : Int) := by omega
          have h122 : (s[j].toNat : Int) ≤ 122 := by omega
          have h90 : (s[j].toNat : Int) ≤ 90 := by omega
          have h57 : (s[j].toNat : Int) ≤ 57 := by omega
          have e43 : ((s[j].toNat : Int) == 43) = false := by rw [beq_eq_false_iff_ne]; omega
          have e45 : ((s[j].toNat : Int) == 45) = false := by rw [beq_eq_false_iff_ne]; omega
          have e47 : ((s[j].toNat : Int) == 47) = false := by rw [beq_eq_false_iff_ne]; omega
          have e95 : ((s[j].toNat : Int) == 95) = false := by rw [beq_eq_false_iff_ne]; omega
          rcases Nat.eq_zero_or_pos j with rfl | hj0
          · go_wp2
            go_ret
            exact ⟨⟨_, rfl⟩, Below.refl _ _⟩
          · have ej : ((j : Int) == 0) = false := by rw [beq_eq_false_iff_ne]; omega
            go_wp2
            go_round
            case rel => exact ⟨j + 1, by omega, by go_num⟩
            case measure => simp [intOf]; omega
        · obtain ⟨i1, i2⟩ := hc
          have f97 : ¬ 97 ≤ (s[j].toNat : Int) := by omega
          have f65 : ¬ 65 ≤ (s[j].toNat : Int) := by omega
          have f48 : 48 ≤ (s[j].toNat : Int) := by omega
          have h122 : (s[j].toNat : Int) ≤ 122 := by omega
          have h90 : (s[j].toNat : Int) ≤ 90 := by omega
          have h57 : ¬ (s[j].toNat : Int) ≤ 57 := by omega
          have e43 : ((s[j].toNat : Int) == 43) = false := by rw [beq_eq_false_iff_ne]; omega
          have e45 : ((s[j].toNat : Int) == 45) = false := by rw [beq_eq_false_iff_ne]; omega
          have e47 : ((s[j].toNat : Int) == 47) = false := by rw [beq_eq_false_iff_ne]; omega
          have e95 : ((s[j].toNat : Int) == 95) = false := by rw [beq_eq_false_iff_ne]; omega
          rcases Nat.eq_zero_or_pos j with rfl | hj0
          · go_wp2
            go_ret
            exact ⟨⟨_, rfl⟩, Below.refl _ _⟩
          · have ej : ((j : Int) == 0) = false := by rw [beq_eq_false_iff_ne]; omega
            go_wp2
            go_ret
            exact ⟨⟨_, rfl⟩, Below.refl _ _⟩
        · obtain ⟨i1, i2⟩ := hc
          have f97 : ¬ 97 ≤ (s[j].toNat : Int) := by omega
          have f65 : 65 ≤ (s[j].toNat : Int) := by omega
          have f48 : 48 ≤ (s[j].toNat : Int) := by omega
          have h122 : (s[j].toNat : Int) ≤ 122 := by omega
          have h90 : (s[j].toNat : Int) ≤ 90 := by omega
          have h57 : ¬ (s[j].toNat : Int) ≤ 57 := by omega
          have e43 : ((s[j].toNat : Int) == 43) = false := by rw [beq_eq_false_iff_ne]; omega
          have e45 : ((s[j].toNat : Int) == 45) = false := by rw [beq_eq_false_iff_ne]; omega
          have e47 : ((s[j].toNat : Int) == 47) = false := by rw [beq_eq_false_iff_ne]; omega
          have e95 : ((s[j].toNat : Int) == 95) = false := by rw [beq_eq_false_iff_ne]; omega
          go_wp2
          go_round
          case rel => exact ⟨j + 1, by omega, by go_num⟩
          case measure => simp [intOf]; omega
        · obtain ⟨i1, i2⟩ := hc
          have f97 : ¬ 97 ≤ (s[j].toNat : Int) := by omega
          have f65 : 65 ≤ (s[j].toNat : Int) := by omega
          have f48 : 48 ≤ (s[j].toNat : Int) := by omega
          have h122 : (s[j].toNat : Int) ≤ 122 := by omega
          have h90 : ¬ (s[j].toNat : Int) ≤ 90 := by omega
          have h57 : ¬ (s[j].toNat : Int) ≤ 57 := by omega
          have e43 : ((s[j].toNat : Int) == 43) = false := by rw [beq_eq_false_iff_ne]; omega
          have e45 : ((s[j].toNat : Int) == 45) = false := by rw [beq_eq_false_iff_ne]; omega
          have e47 : ((s[j].toNat : Int) == 47) = false := by rw [beq_eq_false_iff_ne]; omega
          have e95 : ((s[j].toNat : Int) == 95) = false := by rw [beq_eq_false_iff_ne]; omega
          rcases Nat.eq_zero_or_pos j with rfl | hj0
          · go_wp2
            go_ret
            exact ⟨⟨_, rfl⟩, Below.refl _ _⟩
          · have ej : ((j : Int) == 0) = false := by rw [beq_eq_false_iff_ne]; omega
            go_wp2
            go_ret
            exact ⟨⟨_, rfl⟩, Below.refl _ _⟩
        · obtain ⟨i1, i2⟩ := hc
          have f97 : ¬ 97 ≤ (s[j].toNat : Int) := by omega
          have f65 : 65 ≤ (s[j].toNat : Int) := by omega
          have f48 : 48 ≤ (s[j].toNat : Int) := by omega
          have h122 : (s[j].toNat : Int) ≤ 122 := by omega
          have h90 : ¬ (s[j].toNat : Int) ≤ 90 := by omega
          have h57 : ¬ (s[j].toNat : Int) ≤ 57 := by omega
          have e43 : ((s[j].toNat : Int) == 43) = false := by rw [beq_eq_false_iff_ne]; omega
          have e45 : ((s[j].toNat : Int) == 45) = false := by rw [beq_eq_false_iff_ne]; omega
          have e47 : ((s[j].toNat : Int) == 47) = false := by rw [beq_eq_false_iff_ne]; omega
          have e95 : ((s[j].toNat : Int) == 95) = true := by rw [beq_iff_eq]; omega
          go_wp2
          go_round
          case rel => exact ⟨j + 1, by omega, by go_num⟩
          case measure => simp [intOf]; omega
        · obtain ⟨i1, i2⟩ := hc
          have f97 : ¬ 97 ≤ (s[j].toNat : Int) := by omega
          have f65 : 65 ≤ (s[j].toNat : Int) := by omega
          have f48 : 48 ≤ (s[j].toNat : Int) := by omega
          have h122 : (s[j].toNat : Int) ≤ 122 := by omega
          have h90 : ¬ (s[j].toNat : Int) ≤ 90 := by omega
          have h57 : ¬ (s[j].toNat : Int) ≤ 57 := by omega
          have e43 : ((s[j].toNat : Int) == 43) = false := by rw [beq_eq_false_iff_ne]; omega
          have e45 : ((s[j].toNat : Int) == 45) = false := by rw [beq_eq_false_iff_ne]; omega
          have e47 : ((s[j].toNat : Int) == 47) = false := by rw [beq_eq_false_iff_ne]; omega
          have e95 : ((s[j].toNat : Int) == 95) = false := by rw [beq_eq_false_iff_ne]; omega
          rcases Nat.eq_zero_or_pos j with rfl | hj0
          · go_wp2
            go_ret
            exact ⟨⟨_, rfl⟩, Below.refl _ _⟩
          · have ej : ((j : Int) == 0) = false := by rw [beq_eq_false_iff_ne]; omega
            go_wp2
            go_ret
            exact ⟨⟨_, rfl⟩, Below.refl _ _⟩
        · obtain ⟨i1, i2⟩ := hc
          have f97 : 97 ≤ (s[j].toNat : Int) := by omega
          have f65 : 65 ≤ (s[j].toNat : Int) := by omega
          have f48 : 48 ≤ (s[j].toNat : Int) := by omega
          have h122 : (s[j].toNat : Int) ≤ 122 := by omega
          have h90 : ¬ (s[j].toNat : Int) ≤ 90 := by omega
          have h57 : ¬ (s[j].toNat : Int) ≤ 57 := by omega
          have e43 : ((s[j].toNat : Int) == 43) = false := by rw [beq_eq_false_iff_ne]; omega
          have e45 : ((s[j].toNat : Int) == 45) = false := by rw [beq_eq_false_iff_ne]; omega
          have e47 : ((s[j].toNat : Int) == 47) = false := by rw [beq_eq_false_iff_ne]; omega
          have e95 : ((s[j].toNat : Int) == 95) = false := by rw [beq_eq_false_iff_ne]; omega
          go_wp2
          go_round
          case rel => exact ⟨j + 1, by omega, by go_num⟩
          case measure => simp [intOf]; omega
        · obtain ⟨i1, i2⟩ := hc
          have f97 : 97 ≤ (s[j].toNat : Int) := by omega
          have f65 : 65 ≤ (s[j].toNat : Int) := by omega
          have f48 : 48 ≤ (s[j].toNat : Int) := by omega
          have h122 : ¬ (s[j].toNat : Int) ≤ 122 := by omega
          have h90 : ¬ (s[j].toNat : Int) ≤ 90 := by omega
          have h57 : ¬ (s[j].toNat : Int) ≤ 57 := by omega
          have e43 : ((s[j].toNat : Int) == 43) = false := by rw [beq_eq_false_iff_ne]; omega
          have e45 : ((s[j].toNat : Int) == 45) = false := by rw [beq_eq_false_iff_ne]; omega
          have e47 : ((s[j].toNat : Int) == 47) = false := by rw [beq_eq_false_iff_ne]; omega
          have e95 : ((s[j].toNat : Int) == 95) = false := by rw [beq_eq_false_iff_ne]; omega
          rcases Nat.eq_zero_or_pos j with rfl | hj0
          · go_wp2
            go_ret
            exact ⟨⟨_, rfl⟩, Below.refl _ _⟩
          · have ej : ((j : Int) == 0) = false := by rw [beq_eq_false_iff_ne]; omega
            go_wp2
            go_ret
            exact ⟨⟨_, rfl⟩, Below.refl _ _⟩
    · obtain rfl : j = s.size := by omega
      go_wp2
      go_ret
      exact ⟨⟨_, rfl⟩, Below.refl _ _⟩
set_option maxHeartbeats 4000000 in
set_option maxRecDepth 100000 in
theorem refLetter_some (s : ByteArray) (w : World) (hs : s.size ≤ maxLen) :
    Calls Tryz.prog 121 #[.string s] w (Eg.SomeN w) := by
  have HS := Lib.hid fun W => refSigns_some s W hs
  unfold maxLen at hs
  by_cases h1 : (32 : Int) < (s.size : Int)
  · go_enter Tryz.func121, Tryz.ntmps121
    go_wp2
    go_ret
    exact ⟨.inr rfl, Below.refl _ _⟩
  obtain ⟨d, hd⟩ : ∃ d, (s.toList == [45]) = d := ⟨_, rfl⟩
  go_enter Tryz.func121, Tryz.ntmps121
  go_wp2_with fail
  refine (HS.out _).mono ?_
  rintro e w1 ⟨⟨b, rfl⟩, hb⟩
  have HB := Lib.hid hb
  clear hb
  cases b with
  | false =>
    go_wp2
    go_ret
    exact ⟨.inr rfl, HB.out⟩
  | true =>
    cases d with
    | true =>
      go_wp2
      go_ret
      exact ⟨.inr rfl, HB.out⟩
    | false =>
      go_wp2
      go_ret
      exact ⟨.inl rfl, HB.out⟩
end Go.Proofs.YtolgigaolffenaaGreatDoor
