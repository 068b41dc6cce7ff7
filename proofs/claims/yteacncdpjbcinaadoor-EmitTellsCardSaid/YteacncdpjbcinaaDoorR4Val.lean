/- solsticeref34.Path and CheckValue: whether a path, and a value, is right. -/
import Derived.Test.YteacncdpjbcinaaDoorR4Math
import Derived.Test.YteacncdpjbcinaaDoorR3Plain
import Derived.Test.YteacncdpjbcinaaDoorHvVal
namespace Go.Proofs.YteacncdpjbcinaaDoor
open Go.RowKit

namespace R4
theorem byte_cases (b : UInt8) : (b = 91 ∧ ((b.toNat : Int) == 91) = true) ∨ (b = 93 ∧ ((b.toNat : Int) == 91) = false ∧ ((b.toNat : Int) == 93) = true) ∨ (b = 92 ∧ ((b.toNat : Int) == 91) = false ∧ ((b.toNat : Int) == 93) = false ∧ ((b.toNat : Int) == 92) = true) ∨
    ((b ≠ 91 ∧ b ≠ 93 ∧ b ≠ 92) ∧ ((b.toNat : Int) == 91) = false ∧ ((b.toNat : Int) == 93) = false ∧ ((b.toNat : Int) == 92) = false) := by
  have hh : ∀ c : UInt8, b = c ↔ (b.toNat : Int) = (c.toNat : Int) := fun c => ⟨fun e => by rw [e], fun e => UInt8.toNat_inj.1 (by omega)⟩
  have h1 := hh 91
  have h2 := hh 92
  have h3 := hh 93
  simp only [beq_eq_false_iff_ne, beq_iff_eq, ne_eq, h1, h2, h3]
  have e1 : ((91 : UInt8).toNat : Int) = 91 := rfl
  have e2 : ((92 : UInt8).toNat : Int) = 92 := rfl
  have e3 : ((93 : UInt8).toNat : Int) = 93 := rfl
  rw [e1, e2, e3]
  omega
theorem drop_at (s : ByteArray) (k : Nat) (h : k < s.size) : (tl s).drop k = s[k] :: (tl s).drop (k + 1) := by
  rw [List.drop_eq_getElem_cons (by rw [tl_length]; exact h)]
  rfl
end R4
set_option maxHeartbeats 4000000 in
set_option maxRecDepth 100000 in
theorem path4_any (s : ByteArray) (hs : s.size ≤ 1000000) (w : World) : Calls Tryd.prog 28 #[.string s] w fun e w' => e = .returned (.bool (Hv.path s)) ∧ Below w.heap.size w w' := by
  have HP := Lib.hid (fun W => plain3_any s hs W)
  obtain ⟨X, hX⟩ : ∃ X, Hv.path s = X := ⟨_, rfl⟩
  rw [hX]
  unfold Hv.path at hX
  rw [R4.path_law] at hX
  by_cases h1 : s.size < 1
  · have p1 : (s.size : Int) < 1 := by omega
    have HE : Hid (X = false) := by show X = false; rw [← hX, decide_eq_false (by omega)]; rfl
    clear hX h1
    go_enter Tryd.func28, Tryd.ntmps28
    go_wp2
    go_ret
    exact ⟨by rw [HE.out]; rfl, Below.refl _ _⟩
  have p1 : ¬ (s.size : Int) < 1 := by omega
  rw [decide_eq_true (by omega), Bool.true_and] at hX
  by_cases h2 : 256 < s.size
  · have p2 : (256 : Int) < (s.size : Int) := by omega
    have HE : Hid (X = false) := by show X = false; rw [← hX, decide_eq_false (by omega)]; rfl
    clear hX h1 h2
    go_enter Tryd.func28, Tryd.ntmps28
    go_wp2
    go_ret
    exact ⟨by rw [HE.out]; rfl, Below.refl _ _⟩
  have p2 : ¬ (256 : Int) < (s.size : Int) := by omega
  rw [decide_eq_true (by omega), Bool.true_and] at hX
  obtain ⟨pl, hpl⟩ : ∃ b, Te.plain s = b := ⟨_, rfl⟩
  rw [hpl] at hX HP
  have HX := Lib.hid hX
  clear hX hpl h1
  go_enter Tryd.func28, Tryd.ntmps28
  go_wp2_with fail
  refine (HP.out _).mono ?_
  rintro e w1 ⟨rfl, hb⟩
  have HB := Lib.hid hb
  clear hb
  cases pl with
  | false =>
    have HE : Hid (X = false) := HX.out.symm
    go_wp2
    go_ret
    exact ⟨by rw [HE.out]; rfl, HB.out⟩
  | true =>
    have HX2 : Hid (R4.pgo 0 ((tl s).drop 0) = X) := by show _ = X; rw [← HX.out, List.drop_zero]; rfl
    clear HX
    go_wp2_with fail
    go_loop [3, 4] (fun v i => ∃ p k : Nat, v = .int .i64 (p : Int) ∧ i = .int .i64 (k : Int) ∧ k ≤ s.size ∧ p ≤ k ∧ Hid (R4.pgo p ((tl s).drop k) = X)) (fun _ i => s.size - (intOf i).toNat)
    case atStart => exact ⟨0, 0, rfl, rfl, Nat.zero_le _, Nat.le_refl _, HX2.out⟩
    case round =>
      obtain ⟨p, k, rfl, rfl, hk, hpk, HK⟩ := hrel
      by_cases hlt : k < s.size
      · have q1 : (0 : Int) ≤ (k : Int) := by omega
        have q2 : (k : Int) < (s.size : Int) := by omega
        have hkk := HK.out
        rw [R4.drop_at s k hlt, R4.pgo] at hkk
        obtain ⟨b, hb⟩ : ∃ b, s[k]'hlt = b := ⟨_, rfl⟩
        rw [hb] at hkk
        rcases R4.byte_cases b with ⟨h, t1⟩ | ⟨h, t1, t2⟩ | ⟨h, t1, t2, t3⟩ | ⟨⟨ha, hc, hd⟩, t1, t2, t3⟩
        · have HE : Hid (X = false) := by show X = false; rw [← hkk, if_pos (.inl h)]
          clear hkk h
          go_wp2
          go_ret
          exact ⟨by rw [HE.out]; rfl, HB.out⟩
        · have HE : Hid (X = false) := by show X = false; rw [← hkk, if_pos (.inr h)]
          clear hkk h
          go_wp2
          go_ret
          exact ⟨by rw [HE.out]; rfl, HB.out⟩
        · rw [h, if_neg (by decide), if_pos rfl] at hkk
          by_cases hp0 : p = 0
          · rw [if_pos hp0] at hkk
            have HE : Hid (X = false) := hkk.symm
            subst hp0
            have t4 : (((0 : Nat) : Int) == 0) = true := rfl
            clear hkk h
            go_wp2
            go_ret
            exact ⟨by rw [HE.out]; rfl, HB.out⟩
          · rw [if_neg hp0] at hkk
            have t4 : ((p : Int) == 0) = false := by rw [beq_eq_false_iff_ne]; omega
            have HN := Lib.hid hkk
            clear hkk h hp0
            go_wp2
            go_round
            case rel => exact ⟨0, k + 1, rfl, by go_num, by omega, Nat.zero_le _, HN.out⟩
            case measure => simp [intOf]; omega
        · rw [if_neg (fun q => by rcases q with q | q; exact ha q; exact hc q), if_neg hd] at hkk
          have HN := Lib.hid hkk
          clear hkk ha hc hd
          go_wp2
          go_round
          case rel => exact ⟨p + 1, k + 1, by go_num, by go_num, by omega, by omega, HN.out⟩
          case measure => simp [intOf]; omega
      · have q2 : ¬ (k : Int) < (s.size : Int) := by omega
        have hkk := HK.out
        rw [List.drop_eq_nil_of_le (by rw [tl_length]; omega), R4.pgo] at hkk
        have HE := Lib.hid hkk
        clear hkk
        by_cases hp0 : 0 < p
        · have t : (0 : Int) < (p : Int) := by omega
          have HE2 : Hid (X = true) := by show X = true; rw [← HE.out, decide_eq_true hp0]
          go_wp2
          go_ret
          exact ⟨by rw [HE2.out]; rfl, HB.out⟩
        · have t : ¬ (0 : Int) < (p : Int) := by omega
          have HE2 : Hid (X = false) := by show X = false; rw [← HE.out, decide_eq_false hp0]
          go_wp2
          go_ret
          exact ⟨by rw [HE2.out]; rfl, HB.out⟩
set_option maxHeartbeats 4000000 in
set_option maxRecDepth 100000 in
theorem r4val_other (nm : ByteArray) (kd : Int) (tx : ByteArray) (nu : Int) (bs : ByteArray) (k1 : ¬ kd = 1) (k2 : ¬ kd = 2) (k3 : ¬ kd = 3) (_h1 : nm.size ≤ 1000000) (_h2 : tx.size ≤ 1000000) (_h3 : bs.size ≤ 1000000) (w : World) :
    Calls Tryd.prog 20 #[.agg #[.string nm, .int .u8 kd, .string tx, .int .u32 nu, .string bs]] w fun e w' => e = .returned (.int .i64 (if Hv.valB ⟨nm, kd, tx, nu, bs⟩ = true then 0 else 2)) ∧ Below w.heap.size w w' := by
  obtain ⟨X, hX⟩ : ∃ X : Int, (if Hv.valB ⟨nm, kd, tx, nu, bs⟩ = true then (0 : Int) else 2) = X := ⟨_, rfl⟩
  rw [hX]
  have hX : (if (Hv.kindB ⟨nm, kd, tx, nu, bs⟩ && Hv.nameB ⟨nm, kd, tx, nu, bs⟩) = true then (0 : Int) else 2) = X := by rw [← hX]; unfold Hv.valB; rw [Bool.and_comm]
  unfold Hv.nameB Hv.kindB at hX
  simp only at hX
  obtain ⟨W0, hW0⟩ : ∃ W, w.alloc (.cells #[.string nm, .int .u8 kd, .string tx, .int .u32 nu, .string bs] 28) = W := ⟨_, rfl⟩
  have HB0 : Hid (Below w.heap.size w W0) := by show Below _ _ _; rw [← hW0]; exact Hv.bl1 _ _
  have HW0 := Lib.hid hW0
  clear hW0
  rw [if_neg k1, if_neg k2, if_neg k3, Bool.false_and] at hX
  have e1 : (kd == 1) = false := by rw [beq_eq_false_iff_ne]; exact k1
  have e2 : (kd == 2) = false := by rw [beq_eq_false_iff_ne]; exact k2
  have e3 : (kd == 3) = false := by rw [beq_eq_false_iff_ne]; exact k3
  clear k1 k2 k3
  have HE : Hid (X = 2) := by show X = 2; rw [← hX]; rfl
  clear hX
  go_enter Tryd.func20, Tryd.ntmps20
  go_wp2_with fail
  rw [HW0.out]
  go_ret
  exact ⟨by rw [HE.out]; rfl, HB0.out⟩
set_option maxHeartbeats 4000000 in
set_option maxRecDepth 100000 in
theorem r4val_2 (nm : ByteArray) (tx : ByteArray) (nu : Int) (bs : ByteArray) (h1 : nm.size ≤ 1000000) (_h2 : tx.size ≤ 1000000) (_h3 : bs.size ≤ 1000000) (w : World) :
    Calls Tryd.prog 20 #[.agg #[.string nm, .int .u8 2, .string tx, .int .u32 nu, .string bs]] w fun e w' => e = .returned (.int .i64 (if Hv.valB ⟨nm, 2, tx, nu, bs⟩ = true then 0 else 2)) ∧ Below w.heap.size w w' := by
  have HPn := Lib.hid (fun W => plain3_any nm h1 W)
  obtain ⟨X, hX⟩ : ∃ X : Int, (if Hv.valB ⟨nm, 2, tx, nu, bs⟩ = true then (0 : Int) else 2) = X := ⟨_, rfl⟩
  rw [hX]
  have hX : (if (Hv.kindB ⟨nm, 2, tx, nu, bs⟩ && Hv.nameB ⟨nm, 2, tx, nu, bs⟩) = true then (0 : Int) else 2) = X := by rw [← hX]; unfold Hv.valB; rw [Bool.and_comm]
  unfold Hv.nameB Hv.kindB at hX
  simp only at hX
  obtain ⟨W0, hW0⟩ : ∃ W, w.alloc (.cells #[.string nm, .int .u8 2, .string tx, .int .u32 nu, .string bs] 28) = W := ⟨_, rfl⟩
  have HB0 : Hid (Below w.heap.size w W0) := by show Below _ _ _; rw [← hW0]; exact Hv.bl1 _ _
  have HW0 := Lib.hid hW0
  clear hW0
  rw [if_neg (show ¬ (2 : Int) = 1 by decide), if_pos trivial] at hX
  by_cases g0 : tx.size = 0
  case neg =>
    have tx0 : tx.toList.isEmpty = false := Hv.emp_no g0
    rw [decide_eq_false g0] at hX
    clear g0
    have HE : Hid (X = 2) := by show X = 2; rw [← hX]; rfl
    clear hX
    go_enter Tryd.func20, Tryd.ntmps20
    go_wp2_with fail
    rw [HW0.out]
    go_ret
    exact ⟨by rw [HE.out]; rfl, HB0.out⟩
  have tx0 : tx.toList.isEmpty = true := Hv.emp_yes g0
  rw [decide_eq_true g0, Bool.true_and] at hX
  clear g0
  by_cases g1 : bs.size = 0
  case neg =>
    have bs0 : bs.toList.isEmpty = false := Hv.emp_no g1
    rw [decide_eq_false g1] at hX
    clear g1
    have HE : Hid (X = 2) := by show X = 2; rw [← hX]; rfl
    clear hX
    go_enter Tryd.func20, Tryd.ntmps20
    go_wp2_with fail
    rw [HW0.out]
    go_ret
    exact ⟨by rw [HE.out]; rfl, HB0.out⟩
  have bs0 : bs.toList.isEmpty = true := Hv.emp_yes g1
  rw [decide_eq_true g1, Bool.true_and] at hX
  clear g1
  by_cases q1 : nm.size < 1
  · have p1 : (nm.size : Int) < 1 := by omega
    have HE : Hid (X = 2) := by show X = 2; rw [← hX, decide_eq_false (by omega)]; rfl
    clear hX q1
    go_enter Tryd.func20, Tryd.ntmps20
    go_wp2_with fail
    rw [HW0.out]
    go_ret
    exact ⟨by rw [HE.out]; rfl, HB0.out⟩
  have p1 : ¬ (nm.size : Int) < 1 := by omega
  by_cases q2 : 64 < nm.size
  · have p2 : (64 : Int) < (nm.size : Int) := by omega
    have HE : Hid (X = 2) := by show X = 2; rw [← hX, decide_eq_false (show ¬ nm.size ≤ 64 by omega)]; simp
    clear hX q1 q2
    go_enter Tryd.func20, Tryd.ntmps20
    go_wp2_with fail
    rw [HW0.out]
    go_ret
    exact ⟨by rw [HE.out]; rfl, HB0.out⟩
  have p2 : ¬ (64 : Int) < (nm.size : Int) := by omega
  rw [decide_eq_true (show 1 ≤ nm.size by omega), decide_eq_true (show nm.size ≤ 64 by omega), Bool.true_and, Bool.true_and] at hX
  obtain ⟨pn, hpn⟩ : ∃ b, Te.plain nm = b := ⟨_, rfl⟩
  rw [hpn] at hX HPn
  clear hpn q1
  go_enter Tryd.func20, Tryd.ntmps20
  go_wp2_with fail
  rw [HW0.out]
  refine (HPn.out _).mono ?_
  rintro e w9 ⟨rfl, hb9⟩
  have HB9 := Lib.hid (below_then HB0.out hb9)
  clear hb9 HW0
  cases pn with
  | false =>
    have HE : Hid (X = 2) := hX.symm
    clear hX
    go_wp2
    go_ret
    exact ⟨by rw [HE.out]; rfl, HB9.out⟩
  | true =>
    have HE : Hid (X = 0) := hX.symm
    clear hX
    go_wp2
    go_ret
    exact ⟨by rw [HE.out]; rfl, HB9.out⟩
set_option maxHeartbeats 4000000 in
set_option maxRecDepth 100000 in
theorem r4val_3 (nm : ByteArray) (tx : ByteArray) (nu : Int) (bs : ByteArray) (h1 : nm.size ≤ 1000000) (_h2 : tx.size ≤ 1000000) (_h3 : bs.size ≤ 1000000) (w : World) :
    Calls Tryd.prog 20 #[.agg #[.string nm, .int .u8 3, .string tx, .int .u32 nu, .string bs]] w fun e w' => e = .returned (.int .i64 (if Hv.valB ⟨nm, 3, tx, nu, bs⟩ = true then 0 else 2)) ∧ Below w.heap.size w w' := by
  have HPn := Lib.hid (fun W => plain3_any nm h1 W)
  obtain ⟨X, hX⟩ : ∃ X : Int, (if Hv.valB ⟨nm, 3, tx, nu, bs⟩ = true then (0 : Int) else 2) = X := ⟨_, rfl⟩
  rw [hX]
  have hX : (if (Hv.kindB ⟨nm, 3, tx, nu, bs⟩ && Hv.nameB ⟨nm, 3, tx, nu, bs⟩) = true then (0 : Int) else 2) = X := by rw [← hX]; unfold Hv.valB; rw [Bool.and_comm]
  unfold Hv.nameB Hv.kindB at hX
  simp only at hX
  obtain ⟨W0, hW0⟩ : ∃ W, w.alloc (.cells #[.string nm, .int .u8 3, .string tx, .int .u32 nu, .string bs] 28) = W := ⟨_, rfl⟩
  have HB0 : Hid (Below w.heap.size w W0) := by show Below _ _ _; rw [← hW0]; exact Hv.bl1 _ _
  have HW0 := Lib.hid hW0
  clear hW0
  rw [if_neg (show ¬ (3 : Int) = 1 by decide), if_neg (show ¬ (3 : Int) = 2 by decide), if_pos trivial] at hX
  by_cases g0 : bs.size ≤ 4096
  case neg =>
    have bsl : ¬ (bs.size : Int) ≤ 4096 := by have := g0; omega
    rw [decide_eq_false g0] at hX
    clear g0
    have HE : Hid (X = 2) := by show X = 2; rw [← hX]; rfl
    clear hX
    go_enter Tryd.func20, Tryd.ntmps20
    go_wp2_with fail
    rw [HW0.out]
    go_ret
    exact ⟨by rw [HE.out]; rfl, HB0.out⟩
  have bsl : (bs.size : Int) ≤ 4096 := by have := g0; omega
  rw [decide_eq_true g0, Bool.true_and] at hX
  clear g0
  by_cases g1 : tx.size = 0
  case neg =>
    have tx0 : tx.toList.isEmpty = false := Hv.emp_no g1
    rw [decide_eq_false g1] at hX
    clear g1
    have HE : Hid (X = 2) := by show X = 2; rw [← hX]; rfl
    clear hX
    go_enter Tryd.func20, Tryd.ntmps20
    go_wp2_with fail
    rw [HW0.out]
    go_ret
    exact ⟨by rw [HE.out]; rfl, HB0.out⟩
  have tx0 : tx.toList.isEmpty = true := Hv.emp_yes g1
  rw [decide_eq_true g1, Bool.true_and] at hX
  clear g1
  by_cases g2 : nu = 0
  case neg =>
    have n0 : (nu == 0) = false := by simpa using g2
    rw [decide_eq_false g2] at hX
    clear g2
    have HE : Hid (X = 2) := by show X = 2; rw [← hX]; rfl
    clear hX
    go_enter Tryd.func20, Tryd.ntmps20
    go_wp2_with fail
    rw [HW0.out]
    go_ret
    exact ⟨by rw [HE.out]; rfl, HB0.out⟩
  have n0 : (nu == 0) = true := by simpa using g2
  rw [decide_eq_true g2, Bool.true_and] at hX
  clear g2
  by_cases q1 : nm.size < 1
  · have p1 : (nm.size : Int) < 1 := by omega
    have HE : Hid (X = 2) := by show X = 2; rw [← hX, decide_eq_false (by omega)]; rfl
    clear hX q1
    go_enter Tryd.func20, Tryd.ntmps20
    go_wp2_with fail
    rw [HW0.out]
    go_ret
    exact ⟨by rw [HE.out]; rfl, HB0.out⟩
  have p1 : ¬ (nm.size : Int) < 1 := by omega
  by_cases q2 : 64 < nm.size
  · have p2 : (64 : Int) < (nm.size : Int) := by omega
    have HE : Hid (X = 2) := by show X = 2; rw [← hX, decide_eq_false (show ¬ nm.size ≤ 64 by omega)]; simp
    clear hX q1 q2
    go_enter Tryd.func20, Tryd.ntmps20
    go_wp2_with fail
    rw [HW0.out]
    go_ret
    exact ⟨by rw [HE.out]; rfl, HB0.out⟩
  have p2 : ¬ (64 : Int) < (nm.size : Int) := by omega
  rw [decide_eq_true (show 1 ≤ nm.size by omega), decide_eq_true (show nm.size ≤ 64 by omega), Bool.true_and, Bool.true_and] at hX
  obtain ⟨pn, hpn⟩ : ∃ b, Te.plain nm = b := ⟨_, rfl⟩
  rw [hpn] at hX HPn
  clear hpn q1
  go_enter Tryd.func20, Tryd.ntmps20
  go_wp2_with fail
  rw [HW0.out]
  refine (HPn.out _).mono ?_
  rintro e w9 ⟨rfl, hb9⟩
  have HB9 := Lib.hid (below_then HB0.out hb9)
  clear hb9 HW0
  cases pn with
  | false =>
    have HE : Hid (X = 2) := hX.symm
    clear hX
    go_wp2
    go_ret
    exact ⟨by rw [HE.out]; rfl, HB9.out⟩
  | true =>
    have HE : Hid (X = 0) := hX.symm
    clear hX
    go_wp2
    go_ret
    exact ⟨by rw [HE.out]; rfl, HB9.out⟩
set_option maxHeartbeats 4000000 in
set_option maxRecDepth 100000 in
theorem r4val_1 (nm : ByteArray) (tx : ByteArray) (nu : Int) (bs : ByteArray) (h1 : nm.size ≤ 1000000) (h2 : tx.size ≤ 1000000) (_h3 : bs.size ≤ 1000000) (w : World) :
    Calls Tryd.prog 20 #[.agg #[.string nm, .int .u8 1, .string tx, .int .u32 nu, .string bs]] w fun e w' => e = .returned (.int .i64 (if Hv.valB ⟨nm, 1, tx, nu, bs⟩ = true then 0 else 2)) ∧ Below w.heap.size w w' := by
  have HPn := Lib.hid (fun W => plain3_any nm h1 W)
  have HPt := Lib.hid (fun W => plain3_any tx h2 W)
  obtain ⟨X, hX⟩ : ∃ X : Int, (if Hv.valB ⟨nm, 1, tx, nu, bs⟩ = true then (0 : Int) else 2) = X := ⟨_, rfl⟩
  rw [hX]
  have hX : (if (Hv.kindB ⟨nm, 1, tx, nu, bs⟩ && Hv.nameB ⟨nm, 1, tx, nu, bs⟩) = true then (0 : Int) else 2) = X := by rw [← hX]; unfold Hv.valB; rw [Bool.and_comm]
  unfold Hv.nameB Hv.kindB at hX
  simp only at hX
  obtain ⟨W0, hW0⟩ : ∃ W, w.alloc (.cells #[.string nm, .int .u8 1, .string tx, .int .u32 nu, .string bs] 28) = W := ⟨_, rfl⟩
  have HB0 : Hid (Below w.heap.size w W0) := by show Below _ _ _; rw [← hW0]; exact Hv.bl1 _ _
  have HA0 : Hid (At W0 w.heap.size [.string nm, .int .u8 1, .string tx, .int .u32 nu, .string bs]) := by show At _ _ _; rw [← hW0]; exact At.new _ _ _
  have HW0 := Lib.hid hW0
  clear hW0
  rw [if_pos trivial] at hX
  obtain ⟨pt, hpt⟩ : ∃ b, Te.plain tx = b := ⟨_, rfl⟩
  rw [hpt] at hX HPt
  clear hpt
  go_enter Tryd.func20, Tryd.ntmps20
  go_wp2_with fail
  rw [HW0.out]
  refine (HPt.out _).mono ?_
  rintro e w1 ⟨rfl, hb1⟩
  have HB1 := Lib.hid (below_then HB0.out hb1)
  have HA1 := Lib.hid (HA0.out.call hb1)
  have c0 := HA1.out.cell 0 _ rfl
  have c2 := HA1.out.cell 2 _ rfl
  have c3 := HA1.out.cell 3 _ rfl
  have c4 := HA1.out.cell 4 _ rfl
  have cl := HA1.out.lt
  clear hb1 HPt HW0
  cases pt with
  | false =>
    simp only [Bool.false_and, Bool.and_false] at hX
    have HE : Hid (X = 2) := by show X = 2; rw [← hX]; rfl
    clear hX
    go_wp2_with fail
    go_ret
    exact ⟨by rw [HE.out]; rfl, HB1.out⟩
  | true =>
    simp only [Bool.true_and] at hX
    by_cases g0 : tx.size ≤ 4096
    case neg =>
      have txl : ¬ (tx.size : Int) ≤ 4096 := by have := g0; omega
      rw [decide_eq_false g0] at hX
      clear g0
      have HE : Hid (X = 2) := by show X = 2; rw [← hX]; rfl
      clear hX
      go_wp2_with fail
      go_ret
      exact ⟨by rw [HE.out]; rfl, HB1.out⟩
    have txl : (tx.size : Int) ≤ 4096 := by have := g0; omega
    rw [decide_eq_true g0, Bool.true_and] at hX
    clear g0
    by_cases g1 : nu = 0
    case neg =>
      have n0 : (nu == 0) = false := by simpa using g1
      rw [decide_eq_false g1] at hX
      clear g1
      have HE : Hid (X = 2) := by show X = 2; rw [← hX]; rfl
      clear hX
      go_wp2_with fail
      go_ret
      exact ⟨by rw [HE.out]; rfl, HB1.out⟩
    have n0 : (nu == 0) = true := by simpa using g1
    rw [decide_eq_true g1, Bool.true_and] at hX
    clear g1
    by_cases g2 : bs.size = 0
    case neg =>
      have bs0 : bs.toList.isEmpty = false := Hv.emp_no g2
      rw [decide_eq_false g2] at hX
      clear g2
      have HE : Hid (X = 2) := by show X = 2; rw [← hX]; rfl
      clear hX
      go_wp2_with fail
      go_ret
      exact ⟨by rw [HE.out]; rfl, HB1.out⟩
    have bs0 : bs.toList.isEmpty = true := Hv.emp_yes g2
    rw [decide_eq_true g2, Bool.true_and] at hX
    clear g2
    by_cases q1 : nm.size < 1
    · have p1 : (nm.size : Int) < 1 := by omega
      have HE : Hid (X = 2) := by show X = 2; rw [← hX, decide_eq_false (by omega)]; rfl
      clear hX q1
      go_wp2_with fail
      go_ret
      exact ⟨by rw [HE.out]; rfl, HB1.out⟩
    have p1 : ¬ (nm.size : Int) < 1 := by omega
    by_cases q2 : 64 < nm.size
    · have p2 : (64 : Int) < (nm.size : Int) := by omega
      have HE : Hid (X = 2) := by show X = 2; rw [← hX, decide_eq_false (show ¬ nm.size ≤ 64 by omega)]; simp
      clear hX q1 q2
      go_wp2_with fail
      go_ret
      exact ⟨by rw [HE.out]; rfl, HB1.out⟩
    have p2 : ¬ (64 : Int) < (nm.size : Int) := by omega
    rw [decide_eq_true (show 1 ≤ nm.size by omega), decide_eq_true (show nm.size ≤ 64 by omega), Bool.true_and, Bool.true_and] at hX
    obtain ⟨pn, hpn⟩ : ∃ b, Te.plain nm = b := ⟨_, rfl⟩
    rw [hpn] at hX HPn
    clear hpn q1
    go_wp2_with fail
    refine (HPn.out _).mono ?_
    rintro e w9 ⟨rfl, hb9⟩
    have HB9 := Lib.hid (below_then HB1.out hb9)
    clear hb9 c0 c2 c3 c4 cl
    cases pn with
    | false =>
      have HE : Hid (X = 2) := hX.symm
      clear hX
      go_wp2
      go_ret
      exact ⟨by rw [HE.out]; rfl, HB9.out⟩
    | true =>
      have HE : Hid (X = 0) := hX.symm
      clear hX
      go_wp2
      go_ret
      exact ⟨by rw [HE.out]; rfl, HB9.out⟩
theorem r4val_any (v : Hv.V) (h1 : v.name.size ≤ 1000000) (h2 : v.text.size ≤ 1000000) (h3 : v.bytes.size ≤ 1000000) (w : World) :
    Calls Tryd.prog 20 #[v.v] w fun e w' => e = .returned (.int .i64 (if Hv.valB v = true then 0 else 2)) ∧ Below w.heap.size w w' := by
  obtain ⟨nm, kd, tx, nu, bs⟩ := v
  unfold Hv.V.v
  by_cases k1 : kd = 1
  · subst k1; exact r4val_1 nm tx nu bs h1 h2 h3 w
  · by_cases k2 : kd = 2
    · subst k2; exact r4val_2 nm tx nu bs h1 h2 h3 w
    · by_cases k3 : kd = 3
      · subst k3; exact r4val_3 nm tx nu bs h1 h2 h3 w
      · exact r4val_other nm kd tx nu bs k1 k2 k3 h1 h2 h3 w
end Go.Proofs.YteacncdpjbcinaaDoor
