/- The contracts of package era: isTime, isDigit, Check. -/
import Derived.Test.YtjobhjemnmleaaaGreatDoorQ09
import Derived.OneCell
import Derived.Deep.RegionHeldLaw
set_option maxRecDepth 100000
set_option maxHeartbeats 4000000
namespace Go.Proofs.YtjobhjemnmleaaaGreatDoor
open Go.RowKit
theorem isTime_is (s : Int) (w : World) (b : Bool) (h : decide (IsTime s) = b) :
  Calls Tryz.prog 165 #[.int .i64 s] w fun e w' => e = .returned (.bool b) ∧ w = w' := by
 subst h
 by_cases h1 : -604800 ≤ s
 ·by_cases h2 : s ≤ 604800
  ·rw [decide_eq_true (show IsTime s from ⟨h1, h2⟩)];go_enter Tryz.func165, Tryz.ntmps165
   go_wp2;go_ret
   exact ⟨rfl, rfl⟩
  ·rw [decide_eq_false (show ¬ IsTime s from fun x => h2 x.2)];go_enter Tryz.func165, Tryz.ntmps165
   go_wp2;go_ret
   exact ⟨rfl, rfl⟩
 ·rw [decide_eq_false (show ¬ IsTime s from fun x => h1 x.1)];go_enter Tryz.func165, Tryz.ntmps165
  go_wp2;go_ret
  exact ⟨rfl, rfl⟩
namespace Er
def kindB (k sv : Int) (ru : ByteArray) : Bool := decide ((k = 0 ∧ sv = 0 ∧ ru = ⟨#[]⟩) ∨ (k = 1 ∧ IsTime sv ∧ ru = ⟨#[]⟩) ∨ (k = 2 ∧ sv = 0 ∧ Ru.name (tl ru) = true))
noncomputable instance decUOk (u : Mo.U) : Decidable u.Ok := Classical.propDecidable _
noncomputable def chk (e : E) : Int := if IsTime e.std ∧ Ab.fmt e.fm = true ∧ kindB e.k e.sv e.ru = true then (if e.en = true then (if e.u.Ok then 0 else 2) else (if e.u = Mo.U.zero then 0 else 2)) else 2
theorem chk_ok (e : E) (h : e.Ok) : chk e = 0 := by
 obtain ⟨h1, h2, h3, h4, h5⟩ := h;unfold chk kindB;rw [if_pos ⟨h1, h2, decide_eq_true h3⟩];cases hx : e.en
 ·rw [if_neg (by decide), if_pos (h5 hx)]
 ·rw [if_pos rfl, if_pos (h4 hx)]
theorem chk_bad (e : E) (h : ¬ e.Ok) : chk e = 2 := by
 unfold chk
 by_cases h1 : IsTime e.std ∧ Ab.fmt e.fm = true ∧ kindB e.k e.sv e.ru = true
 ·rw [if_pos h1];unfold kindB at h1;rw [decide_eq_true_eq] at h1;cases hx : e.en
  ·rw [if_neg (by decide), if_neg (fun hu => h ⟨h1.1, h1.2.1, h1.2.2, fun y => (by rw [hx] at y; cases y), fun _ => hu⟩)]
  ·rw [if_pos rfl, if_neg (fun hu => h ⟨h1.1, h1.2.1, h1.2.2, fun _ => hu, fun y => (by rw [hx] at y; cases y)⟩)]
 ·rw [if_neg h1]
end Er
theorem eraCheck_any (e : Er.E) (w : World) (hW : Wa w) (hs1 : e.fm.size ≤ maxLen) (hs2 : e.ru.size ≤ maxLen) :
  Calls Tryz.prog 130 #[e.v] w fun r w' => r = .returned (.int .i64 (Er.chk e)) ∧ Below w.heap.size w w' := by
 obtain ⟨X, hX⟩ : ∃ X, Er.chk e = X := ⟨_, rfl⟩
 rw [hX];obtain ⟨std, k, sv, ru, fm, en, ⟨y, m, dk, dn, dd, s, c⟩⟩ := e;unfold Er.E.v;simp only at hs1 hs2 ⊢;unfold Er.chk at hX;simp only at hX;have HW := Lib.hid hW;have HA := Lib.hid (At.new w #[.int .i64 std, .int .u8 k, .int .i64 sv, .string ru, .string fm, .bool en, .int .i64 y, .int .i64 m, .int .u8 dk, .int .i64 dn, .int .i64 dd, .int .i64 s, .int .u8 c] 191);have HB := Lib.hid ((Below.refl w.heap.size w).alloc (Nat.le_refl _) (.cells #[.int .i64 std, .int .u8 k, .int .i64 sv, .string ru, .string fm, .bool en, .int .i64 y, .int .i64 m, .int .u8 dk, .int .i64 dn, .int .i64 dd, .int .i64 s, .int .u8 c] 191));clear hW;cases hst : decide (IsTime std)
 ·have HI := Lib.hid fun W => isTime_is std W false hst
  have HX : Hid (X = 2) := by show X = 2; rw [← hX, if_neg (fun x => of_decide_eq_false hst x.1)]
  clear hst hX;go_enter Tryz.func130, Tryz.ntmps130
  go_wp2_with fail
  refine (HI.out _).mono ?_;rintro e w1 ⟨rfl, rfl⟩;go_wp2;go_ret
  exact ⟨ret_int (by rw [HX.out]), HB.out⟩
 have HI := Lib.hid fun W => isTime_is std W true hst
 cases hfm : Ab.fmt fm
 ·have HF := Lib.hid fun W hw => abbrCheck_all fm W hw hs1 false hfm
  have HX : Hid (X = 2) := by show X = 2; rw [← hX, if_neg (fun x => by have := x.2.1; rw [hfm] at this; cases this)]
  clear hst hX hfm;go_enter Tryz.func130, Tryz.ntmps130
  go_wp2_with fail
  refine (HI.out _).mono ?_;rintro e w1 ⟨rfl, rfl⟩;go_wp2_with fail
  refine (HF.out _ (HW.out.below HB.out)).mono ?_;rintro e w1 ⟨rfl, hb⟩;go_wp2;go_ret
  exact ⟨ret_int (by rw [HX.out]), below_then HB.out hb⟩
 have HF := Lib.hid fun W hw => abbrCheck_all fm W hw hs1 true hfm
 obtain ⟨K, hK⟩ : ∃ K, Er.kindB k sv ru = K := ⟨_, rfl⟩
 have hX2 : X = if K = true then (if en = true then (if Mo.U.Ok ⟨y, m, dk, dn, dd, s, c⟩ then 0 else 2) else (if (⟨y, m, dk, dn, dd, s, c⟩ : Mo.U) = Mo.U.zero then 0 else 2)) else 2 := by
  rw [← hX, hK];cases K
  ·rw [if_neg (fun x => by cases x.2.2), if_neg (by decide)]
  ·rw [if_pos ⟨of_decide_eq_true hst, hfm, rfl⟩, if_pos rfl]
 have HX := Lib.hid hX2;have HK := Lib.hid hK;clear hst hX hfm hX2 hK;go_enter Tryz.func130, Tryz.ntmps130
 go_wp2_with fail
 refine (HI.out _).mono ?_;rintro e w1 ⟨rfl, rfl⟩;go_wp2_with fail
 refine (HF.out _ (HW.out.below HB.out)).mono ?_;rintro e w1 ⟨rfl, hb⟩;have HA1 := Lib.hid (HA.out.call hb);replace HB := Lib.hid (below_then HB.out hb);clear hb HI HF HA;have q0 := HA1.out.cell 0 _ rfl;have q1 := HA1.out.cell 1 _ rfl;have q2 := HA1.out.cell 2 _ rfl;have q3 := HA1.out.cell 3 _ rfl;have q4 := HA1.out.cell 4 _ rfl;have q5 := HA1.out.cell 5 _ rfl;have q6 := HA1.out.cell 6 _ rfl;have q7 := HA1.out.cell 7 _ rfl;have q8 := HA1.out.cell 8 _ rfl;have q9 := HA1.out.cell 9 _ rfl;have q10 := HA1.out.cell 10 _ rfl;have q11 := HA1.out.cell 11 _ rfl;have q12 := HA1.out.cell 12 _ rfl;go_upto_if 16 with fail
 by_cases k0 : k = 0
 ·have p0 : (k == 0) = true := by rw [beq_iff_eq]; exact k0
  subst k0
  by_cases v0 : sv = 0
  ·have p1 : (sv == 0) = true := by rw [beq_iff_eq]; exact v0
   subst v0
   by_cases u0 : ru = ⟨#[]⟩
   ·have HKx : Hid (K = true) := by show K = true; rw [← HK.out]; exact decide_eq_true (.inl ⟨rfl, rfl, u0⟩)
    have p2 : ru.toList.isEmpty = true := by rw [u0, ByteArray.toList_eq]; rfl
    clear u0;cases en
    ·by_cases hz : (⟨y, m, dk, dn, dd, s, c⟩ : Mo.U) = Mo.U.zero
     ·have HX3 : Hid (X = 0) := by show X = 0; rw [HX.out, if_pos HKx.out, if_neg (by decide), if_pos hz]
      unfold Mo.U.zero at hz
      injection hz with z0 z1 z2 z3 z4 z5 z6
      subst z0 z1 z2 z3 z4 z5 z6;clear HX;go_wp2;go_ret
      exact ⟨ret_int (by rw [HX3.out]), HB.out⟩
     ·have HX3 : Hid (X = 2) := by show X = 2; rw [HX.out, if_pos HKx.out, if_neg (by decide), if_neg hz]
      clear HX
      by_cases d0 : y = 0
      ·subst d0
       by_cases d1 : m = 0
       ·subst d1
        by_cases d2 : dk = 0
        ·subst d2
         by_cases d3 : dn = 0
         ·subst d3
          by_cases d4 : dd = 0
          ·subst d4
           by_cases d5 : s = 0
           ·subst d5
            by_cases d6 : c = 0
            ·subst d6;exact (hz rfl).elim
            ·have b6 : (c == 0) = false := by rw [beq_eq_false_iff_ne]; exact d6
             clear hz
             as_aux_lemma =>
             go_wp2;go_ret
             exact ⟨ret_int (by rw [HX3.out]), HB.out⟩
           ·have b5 : (s == 0) = false := by rw [beq_eq_false_iff_ne]; exact d5
            clear hz
            as_aux_lemma =>
            go_wp2;go_ret
            exact ⟨ret_int (by rw [HX3.out]), HB.out⟩
          ·have b4 : (dd == 0) = false := by rw [beq_eq_false_iff_ne]; exact d4
           clear hz
           as_aux_lemma =>
           go_wp2;go_ret
           exact ⟨ret_int (by rw [HX3.out]), HB.out⟩
         ·have b3 : (dn == 0) = false := by rw [beq_eq_false_iff_ne]; exact d3
          clear hz
          as_aux_lemma =>
          go_wp2;go_ret
          exact ⟨ret_int (by rw [HX3.out]), HB.out⟩
        ·have b2 : (dk == 0) = false := by rw [beq_eq_false_iff_ne]; exact d2
         clear hz
         as_aux_lemma =>
         go_wp2;go_ret
         exact ⟨ret_int (by rw [HX3.out]), HB.out⟩
       ·have b1 : (m == 0) = false := by rw [beq_eq_false_iff_ne]; exact d1
        clear hz
        as_aux_lemma =>
        go_wp2;go_ret
        exact ⟨ret_int (by rw [HX3.out]), HB.out⟩
      ·have b0 : (y == 0) = false := by rw [beq_eq_false_iff_ne]; exact d0
       clear hz
       as_aux_lemma =>
       go_wp2;go_ret
       exact ⟨ret_int (by rw [HX3.out]), HB.out⟩
    ·by_cases hu : Mo.U.Ok ⟨y, m, dk, dn, dd, s, c⟩
     ·have HX3 : Hid (X = 0) := by show X = 0; rw [HX.out, if_pos HKx.out, if_pos rfl, if_pos hu]
      have HU := Lib.hid fun W => checkUntil_ok ⟨y, m, dk, dn, dd, s, c⟩ W hu
      unfold Mo.U.v at HU;clear HX hu;go_wp2_with fail
      refine (HU.out _).mono ?_;rintro e w2 ⟨rfl, hb⟩;go_wp2;go_ret
      exact ⟨ret_int (by rw [HX3.out]), below_then HB.out hb⟩
     ·have HX3 : Hid (X = 2) := by show X = 2; rw [HX.out, if_pos HKx.out, if_pos rfl, if_neg hu]
      have HU := Lib.hid fun W => checkUntil_bad ⟨y, m, dk, dn, dd, s, c⟩ W hu
      unfold Mo.U.v at HU;clear HX hu;go_wp2_with fail
      refine (HU.out _).mono ?_;rintro e w2 ⟨rfl, hb⟩;go_wp2;go_ret
      exact ⟨ret_int (by rw [HX3.out]), below_then HB.out hb⟩
   ·have HKx : Hid (K = false) := by show K = false; rw [← HK.out]; exact decide_eq_false (fun h => h.elim (fun h => u0 h.2.2) fun h => h.elim (fun h => absurd h.1 (by decide)) fun h => absurd h.1 (by decide))
    have p2 : ru.toList.isEmpty = false := empty_no ru u0;clear u0;have HX3 : Hid (X = 2) := by show X = 2; rw [HX.out, if_neg (by rw [HKx.out]; decide)]
    go_wp2;go_ret
    exact ⟨ret_int (by rw [HX3.out]), HB.out⟩
  ·have HKx : Hid (K = false) := by show K = false; rw [← HK.out]; exact decide_eq_false (fun h => h.elim (fun h => v0 h.2.1) fun h => h.elim (fun h => absurd h.1 (by decide)) fun h => absurd h.1 (by decide))
   have p1 : (sv == 0) = false := by rw [beq_eq_false_iff_ne]; exact v0
   clear v0;have HX3 : Hid (X = 2) := by show X = 2; rw [HX.out, if_neg (by rw [HKx.out]; decide)]
   go_wp2;go_ret
   exact ⟨ret_int (by rw [HX3.out]), HB.out⟩
 have p0 : (k == 0) = false := by rw [beq_eq_false_iff_ne]; exact k0
 by_cases k1 : k = 1
 ·have p1 : (k == 1) = true := by rw [beq_iff_eq]; exact k1
  cases ht : decide (IsTime sv)
  ·have HJ := Lib.hid fun W => isTime_is sv W false ht
   have HKx : Hid (K = false) := by show K = false; rw [← HK.out]; exact decide_eq_false (fun h => h.elim (fun h => k0 h.1) fun h => h.elim (fun h => of_decide_eq_false ht h.2.1) fun h => absurd (k1.symm.trans h.1) (by decide))
   clear ht k0 k1;go_wp2_with fail
   refine (HJ.out _).mono ?_;rintro e w2 ⟨rfl, rfl⟩;have HX3 : Hid (X = 2) := by show X = 2; rw [HX.out, if_neg (by rw [HKx.out]; decide)]
   go_wp2;go_ret
   exact ⟨ret_int (by rw [HX3.out]), HB.out⟩
  ·have HJ := Lib.hid fun W => isTime_is sv W true ht
   by_cases u0 : ru = ⟨#[]⟩
   ·have HKx : Hid (K = true) := by show K = true; rw [← HK.out]; exact decide_eq_true (.inr (.inl ⟨k1, of_decide_eq_true ht, u0⟩))
    have p2 : ru.toList.isEmpty = true := by rw [u0, ByteArray.toList_eq]; rfl
    clear u0 ht k0 k1;go_wp2_with fail
    refine (HJ.out _).mono ?_;rintro e w2 ⟨rfl, rfl⟩;cases en
    ·by_cases hz : (⟨y, m, dk, dn, dd, s, c⟩ : Mo.U) = Mo.U.zero
     ·have HX3 : Hid (X = 0) := by show X = 0; rw [HX.out, if_pos HKx.out, if_neg (by decide), if_pos hz]
      unfold Mo.U.zero at hz
      injection hz with z0 z1 z2 z3 z4 z5 z6
      subst z0 z1 z2 z3 z4 z5 z6;clear HX;go_wp2;go_ret
      exact ⟨ret_int (by rw [HX3.out]), HB.out⟩
     ·have HX3 : Hid (X = 2) := by show X = 2; rw [HX.out, if_pos HKx.out, if_neg (by decide), if_neg hz]
      clear HX
      by_cases d0 : y = 0
      ·subst d0
       by_cases d1 : m = 0
       ·subst d1
        by_cases d2 : dk = 0
        ·subst d2
         by_cases d3 : dn = 0
         ·subst d3
          by_cases d4 : dd = 0
          ·subst d4
           by_cases d5 : s = 0
           ·subst d5
            by_cases d6 : c = 0
            ·subst d6;exact (hz rfl).elim
            ·have b6 : (c == 0) = false := by rw [beq_eq_false_iff_ne]; exact d6
             clear hz
             as_aux_lemma =>
             go_wp2;go_ret
             exact ⟨ret_int (by rw [HX3.out]), HB.out⟩
           ·have b5 : (s == 0) = false := by rw [beq_eq_false_iff_ne]; exact d5
            clear hz
            as_aux_lemma =>
            go_wp2;go_ret
            exact ⟨ret_int (by rw [HX3.out]), HB.out⟩
          ·have b4 : (dd == 0) = false := by rw [beq_eq_false_iff_ne]; exact d4
           clear hz
           as_aux_lemma =>
           go_wp2;go_ret
           exact ⟨ret_int (by rw [HX3.out]), HB.out⟩
         ·have b3 : (dn == 0) = false := by rw [beq_eq_false_iff_ne]; exact d3
          clear hz
          as_aux_lemma =>
          go_wp2;go_ret
          exact ⟨ret_int (by rw [HX3.out]), HB.out⟩
        ·have b2 : (dk == 0) = false := by rw [beq_eq_false_iff_ne]; exact d2
         clear hz
         as_aux_lemma =>
         go_wp2;go_ret
         exact ⟨ret_int (by rw [HX3.out]), HB.out⟩
       ·have b1 : (m == 0) = false := by rw [beq_eq_false_iff_ne]; exact d1
        clear hz
        as_aux_lemma =>
        go_wp2;go_ret
        exact ⟨ret_int (by rw [HX3.out]), HB.out⟩
      ·have b0 : (y == 0) = false := by rw [beq_eq_false_iff_ne]; exact d0
       clear hz
       as_aux_lemma =>
       go_wp2;go_ret
       exact ⟨ret_int (by rw [HX3.out]), HB.out⟩
    ·by_cases hu : Mo.U.Ok ⟨y, m, dk, dn, dd, s, c⟩
     ·have HX3 : Hid (X = 0) := by show X = 0; rw [HX.out, if_pos HKx.out, if_pos rfl, if_pos hu]
      have HU := Lib.hid fun W => checkUntil_ok ⟨y, m, dk, dn, dd, s, c⟩ W hu
      unfold Mo.U.v at HU;clear HX hu;go_wp2_with fail
      refine (HU.out _).mono ?_;rintro e w2 ⟨rfl, hb⟩;go_wp2;go_ret
      exact ⟨ret_int (by rw [HX3.out]), below_then HB.out hb⟩
     ·have HX3 : Hid (X = 2) := by show X = 2; rw [HX.out, if_pos HKx.out, if_pos rfl, if_neg hu]
      have HU := Lib.hid fun W => checkUntil_bad ⟨y, m, dk, dn, dd, s, c⟩ W hu
      unfold Mo.U.v at HU;clear HX hu;go_wp2_with fail
      refine (HU.out _).mono ?_;rintro e w2 ⟨rfl, hb⟩;go_wp2;go_ret
      exact ⟨ret_int (by rw [HX3.out]), below_then HB.out hb⟩
   ·have HKx : Hid (K = false) := by show K = false; rw [← HK.out]; exact decide_eq_false (fun h => h.elim (fun h => k0 h.1) fun h => h.elim (fun h => u0 h.2.2) fun h => absurd (k1.symm.trans h.1) (by decide))
    have p2 : ru.toList.isEmpty = false := empty_no ru u0;clear u0 ht k0 k1;go_wp2_with fail
    refine (HJ.out _).mono ?_;rintro e w2 ⟨rfl, rfl⟩;have HX3 : Hid (X = 2) := by show X = 2; rw [HX.out, if_neg (by rw [HKx.out]; decide)]
    go_wp2;go_ret
    exact ⟨ret_int (by rw [HX3.out]), HB.out⟩
 have p1 : (k == 1) = false := by rw [beq_eq_false_iff_ne]; exact k1
 by_cases k2 : k = 2
 ·have p2 : (k == 2) = true := by rw [beq_iff_eq]; exact k2
  by_cases v0 : sv = 0
  ·have p3 : (sv == 0) = true := by rw [beq_iff_eq]; exact v0
   cases hn : Ru.name (tl ru)
   ·have HN := Lib.hid fun W => calls_bool (name_all ru W hs2) hn
    have HKx : Hid (K = false) := by show K = false; rw [← HK.out]; exact decide_eq_false (fun h => h.elim (fun h => k0 h.1) fun h => h.elim (fun h => k1 h.1) fun h => by rw [hn] at h; cases h.2.2)
    clear hn k0 k1 k2 v0;go_wp2_with fail
    refine (HN.out _).mono ?_;rintro e w2 ⟨rfl, hb⟩;have HA3 := Lib.hid (HA1.out.call hb);replace HB := Lib.hid (below_then HB.out hb);clear hb q0 q1 q2 q3 q4 q5 q6 q7 q8 q9 q10 q11 q12;have q0 := HA3.out.cell 0 _ rfl;have q1 := HA3.out.cell 1 _ rfl;have q2 := HA3.out.cell 2 _ rfl;have q3 := HA3.out.cell 3 _ rfl;have q4 := HA3.out.cell 4 _ rfl;have q5 := HA3.out.cell 5 _ rfl;have q6 := HA3.out.cell 6 _ rfl;have q7 := HA3.out.cell 7 _ rfl;have q8 := HA3.out.cell 8 _ rfl;have q9 := HA3.out.cell 9 _ rfl;have q10 := HA3.out.cell 10 _ rfl;have q11 := HA3.out.cell 11 _ rfl;have q12 := HA3.out.cell 12 _ rfl;have HX3 : Hid (X = 2) := by show X = 2; rw [HX.out, if_neg (by rw [HKx.out]; decide)]
    go_wp2;go_ret
    exact ⟨ret_int (by rw [HX3.out]), HB.out⟩
   ·have HN := Lib.hid fun W => calls_bool (name_all ru W hs2) hn
    have HKx : Hid (K = true) := by show K = true; rw [← HK.out]; exact decide_eq_true (.inr (.inr ⟨k2, v0, hn⟩))
    clear hn k0 k1 k2 v0;go_wp2_with fail
    refine (HN.out _).mono ?_;rintro e w2 ⟨rfl, hb⟩;have HA3 := Lib.hid (HA1.out.call hb);replace HB := Lib.hid (below_then HB.out hb);clear hb q0 q1 q2 q3 q4 q5 q6 q7 q8 q9 q10 q11 q12;have q0 := HA3.out.cell 0 _ rfl;have q1 := HA3.out.cell 1 _ rfl;have q2 := HA3.out.cell 2 _ rfl;have q3 := HA3.out.cell 3 _ rfl;have q4 := HA3.out.cell 4 _ rfl;have q5 := HA3.out.cell 5 _ rfl;have q6 := HA3.out.cell 6 _ rfl;have q7 := HA3.out.cell 7 _ rfl;have q8 := HA3.out.cell 8 _ rfl;have q9 := HA3.out.cell 9 _ rfl;have q10 := HA3.out.cell 10 _ rfl;have q11 := HA3.out.cell 11 _ rfl;have q12 := HA3.out.cell 12 _ rfl;cases en
    ·by_cases hz : (⟨y, m, dk, dn, dd, s, c⟩ : Mo.U) = Mo.U.zero
     ·have HX3 : Hid (X = 0) := by show X = 0; rw [HX.out, if_pos HKx.out, if_neg (by decide), if_pos hz]
      unfold Mo.U.zero at hz
      injection hz with z0 z1 z2 z3 z4 z5 z6
      subst z0 z1 z2 z3 z4 z5 z6;clear HX;go_wp2;go_ret
      exact ⟨ret_int (by rw [HX3.out]), HB.out⟩
     ·have HX3 : Hid (X = 2) := by show X = 2; rw [HX.out, if_pos HKx.out, if_neg (by decide), if_neg hz]
      clear HX
      by_cases d0 : y = 0
      ·subst d0
       by_cases d1 : m = 0
       ·subst d1
        by_cases d2 : dk = 0
        ·subst d2
         by_cases d3 : dn = 0
         ·subst d3
          by_cases d4 : dd = 0
          ·subst d4
           by_cases d5 : s = 0
           ·subst d5
            by_cases d6 : c = 0
            ·subst d6;exact (hz rfl).elim
            ·have b6 : (c == 0) = false := by rw [beq_eq_false_iff_ne]; exact d6
             clear hz
             as_aux_lemma =>
             go_wp2;go_ret
             exact ⟨ret_int (by rw [HX3.out]), HB.out⟩
           ·have b5 : (s == 0) = false := by rw [beq_eq_false_iff_ne]; exact d5
            clear hz
            as_aux_lemma =>
            go_wp2;go_ret
            exact ⟨ret_int (by rw [HX3.out]), HB.out⟩
          ·have b4 : (dd == 0) = false := by rw [beq_eq_false_iff_ne]; exact d4
           clear hz
           as_aux_lemma =>
           go_wp2;go_ret
           exact ⟨ret_int (by rw [HX3.out]), HB.out⟩
         ·have b3 : (dn == 0) = false := by rw [beq_eq_false_iff_ne]; exact d3
          clear hz
          as_aux_lemma =>
          go_wp2;go_ret
          exact ⟨ret_int (by rw [HX3.out]), HB.out⟩
        ·have b2 : (dk == 0) = false := by rw [beq_eq_false_iff_ne]; exact d2
         clear hz
         as_aux_lemma =>
         go_wp2;go_ret
         exact ⟨ret_int (by rw [HX3.out]), HB.out⟩
       ·have b1 : (m == 0) = false := by rw [beq_eq_false_iff_ne]; exact d1
        clear hz
        as_aux_lemma =>
        go_wp2;go_ret
        exact ⟨ret_int (by rw [HX3.out]), HB.out⟩
      ·have b0 : (y == 0) = false := by rw [beq_eq_false_iff_ne]; exact d0
       clear hz
       as_aux_lemma =>
       go_wp2;go_ret
       exact ⟨ret_int (by rw [HX3.out]), HB.out⟩
    ·by_cases hu : Mo.U.Ok ⟨y, m, dk, dn, dd, s, c⟩
     ·have HX3 : Hid (X = 0) := by show X = 0; rw [HX.out, if_pos HKx.out, if_pos rfl, if_pos hu]
      have HU := Lib.hid fun W => checkUntil_ok ⟨y, m, dk, dn, dd, s, c⟩ W hu
      unfold Mo.U.v at HU;clear HX hu;go_wp2_with fail
      refine (HU.out _).mono ?_;rintro e w2 ⟨rfl, hb⟩;go_wp2;go_ret
      exact ⟨ret_int (by rw [HX3.out]), below_then HB.out hb⟩
     ·have HX3 : Hid (X = 2) := by show X = 2; rw [HX.out, if_pos HKx.out, if_pos rfl, if_neg hu]
      have HU := Lib.hid fun W => checkUntil_bad ⟨y, m, dk, dn, dd, s, c⟩ W hu
      unfold Mo.U.v at HU;clear HX hu;go_wp2_with fail
      refine (HU.out _).mono ?_;rintro e w2 ⟨rfl, hb⟩;go_wp2;go_ret
      exact ⟨ret_int (by rw [HX3.out]), below_then HB.out hb⟩
  ·have HKx : Hid (K = false) := by show K = false; rw [← HK.out]; exact decide_eq_false (fun h => h.elim (fun h => k0 h.1) fun h => h.elim (fun h => k1 h.1) fun h => v0 h.2.1)
   have p3 : (sv == 0) = false := by rw [beq_eq_false_iff_ne]; exact v0
   clear k0 k1 k2 v0;have HX3 : Hid (X = 2) := by show X = 2; rw [HX.out, if_neg (by rw [HKx.out]; decide)]
   go_wp2;go_ret
   exact ⟨ret_int (by rw [HX3.out]), HB.out⟩
 ·have HKx : Hid (K = false) := by show K = false; rw [← HK.out]; exact decide_eq_false (fun h => h.elim (fun h => k0 h.1) fun h => h.elim (fun h => k1 h.1) fun h => k2 h.1)
  have p2 : (k == 2) = false := by rw [beq_eq_false_iff_ne]; exact k2
  clear k0 k1 k2;have HX3 : Hid (X = 2) := by show X = 2; rw [HX.out, if_neg (by rw [HKx.out]; decide)]
  go_wp2;go_ret
  exact ⟨ret_int (by rw [HX3.out]), HB.out⟩
end Go.Proofs.YtjobhjemnmleaaaGreatDoor
namespace Go.Proofs.YtjobhjemnmleaaaGreatDoor
open Go.RowKit
namespace Ru
section
variable (r : R)
end
end Ru
end Go.Proofs.YtjobhjemnmleaaaGreatDoor
namespace Go.Proofs.YtjobhjemnmleaaaGreatDoor
open Go.RowKit
namespace Er
end Er
namespace Mo
end Mo
namespace Er
end Er
end Go.Proofs.YtjobhjemnmleaaaGreatDoor
namespace Go.Proofs.YtjobhjemnmleaaaGreatDoor
open Go.RowKit Go.Sort
theorem own_below {w w' : World} {base : Nat} {e : TypeId} {size : Nat} {v : Value} {n : Nat} {xs : List Value} (h : w.ownsRow base e size v n xs) (hb : Below w.heap.size w w') : w'.ownsRow base e size v n xs := by
 refine ⟨h.1, ?_⟩;rcases h.2 with hn | ⟨g, cap, cur, hv, hbase, hg, rest⟩
 ·exact .inl hn
 ·have hl : g < w.heap.size := (Array.getElem?_eq_some_iff.1 hg).1;exact .inr ⟨g, cap, cur, hv, hbase, (hb.block g hl).trans hg, rest⟩
theorem own_slice_cap {w : World} {base : Nat} {e : TypeId} {size n : Nat} {v : Value} {xs : List Value} (h : w.ownsRow base e size v n xs) : ∃ A c, v = .slice A n c ∧ n ≤ c ∧ c ≤ maxLen := by
 rcases h.2 with ⟨rfl, rfl⟩ | ⟨g, cap, cur, rfl, _, _, h1, h2, _⟩
 ·exact ⟨none, 0, rfl, Nat.le_refl _, Nat.zero_le _⟩
 ·exact ⟨_, cap, rfl, h1, h2⟩
theorem str_info : (Tryz.prog.info? 9).map (fun i => (i.zero, i.size, i.bytes)) = some (some (.string ⟨#[]⟩), 1, 16) := by kernel_rfl
theorem er_reads (w : World) (g : Nat) (l : List ByteArray) (t : TypeId) (hg : g = w.heap.size) : Reads (w.alloc (.cells (strCells l) t)) (w.alloc (.cells (strCells l) t)).heap.size 1 (some ⟨g, 0, none⟩) l.length (l.map Value.string) := by
 subst hg;exact reads_new w l t
open Go.RowKit
namespace Sc
end Sc
end Go.Proofs.YtjobhjemnmleaaaGreatDoor
namespace Go.Proofs.YtjobhjemnmleaaaGreatDoor
open Go.RowKit
namespace Sc
end Sc
end Go.Proofs.YtjobhjemnmleaaaGreatDoor
namespace Go.Proofs.YtjobhjemnmleaaaGreatDoor
open Go.RowKit
namespace Src
abbrev Txt := List UInt8
structure St (R E : Type) where
 rules : List R
 zones : List (Txt × List E)
 links : List (Txt × Txt)
 op : Bool
variable {R E : Type}
end Src
end Go.Proofs.YtjobhjemnmleaaaGreatDoor
namespace Go.Proofs.YtjobhjemnmleaaaGreatDoor
open Go.RowKit
namespace Src
variable {R E : Type}
end Src
end Go.Proofs.YtjobhjemnmleaaaGreatDoor
namespace Go.Proofs.YtjobhjemnmleaaaGreatDoor
open Go.RowKit
namespace Src
variable {R E : Type}
end Src
end Go.Proofs.YtjobhjemnmleaaaGreatDoor
namespace Go.Proofs.YtjobhjemnmleaaaGreatDoor
open Go.RowKit
namespace Src
variable {R E : Type}
end Src
end Go.Proofs.YtjobhjemnmleaaaGreatDoor
namespace Go.Proofs.YtjobhjemnmleaaaGreatDoor
open Go.RowKit
namespace Src
variable {R E : Type}
end Src
end Go.Proofs.YtjobhjemnmleaaaGreatDoor
namespace Go.Proofs.YtjobhjemnmleaaaGreatDoor
open Go.RowKit
namespace Src
def bts (t : Txt) : ByteArray := ⟨t.toArray⟩
end Src
end Go.Proofs.YtjobhjemnmleaaaGreatDoor
namespace Go.Proofs.YtjobhjemnmleaaaGreatDoor
open Go.RowKit
structure Row where
 e : TypeId
 size : Nat
 v : Value
 n : Nat
 xs : List Value
section
variable {B : Nat} {w w' : World} {rs l1 l2 : List Row} {r : Row}
end
end Go.Proofs.YtjobhjemnmleaaaGreatDoor
namespace Go.Proofs.YtjobhjemnmleaaaGreatDoor
open Go.RowKit
namespace Sc
theorem own_mono {w : World} {base base' : Nat} {e : TypeId} {size : Nat} {v : Value} {n : Nat} {xs : List Value} (h : w.ownsRow base e size v n xs) (hb : base' ≤ base) : w.ownsRow base' e size v n xs := by
 refine ⟨h.1, ?_⟩;rcases h.2 with hn | ⟨g, cap, cur, hv, h1, rest⟩
 ·exact .inl hn
 ·exact .inr ⟨g, cap, cur, hv, Nat.le_trans hb h1, rest⟩
theorem At.grownO {w w' : World} {h : Nat} {row : Option Nat} {xs : List Value} (a : At w h xs) (hg : w.grownBy w' row) (hne : ∀ k, row = some k → h ≠ k) : At w' h xs := by
 cases row with
 | none => exact Go.Proofs.YtjobhjemnmleaaaGreatDoor.At.grown a (g := w.heap.size) ⟨hg.os, hg.tape, hg.output, hg.size, fun k hk _ => hg.block k hk (by simp)⟩ (by have := a.lt; omega)
 | some k => exact Go.Proofs.YtjobhjemnmleaaaGreatDoor.At.grown a hg (hne k rfl)
end Sc
end Go.Proofs.YtjobhjemnmleaaaGreatDoor
namespace Go.Proofs.YtjobhjemnmleaaaGreatDoor
open Go.RowKit
namespace Src
abbrev S := St Ru.R Er.E
end Src
end Go.Proofs.YtjobhjemnmleaaaGreatDoor
namespace Go.Proofs.YtjobhjemnmleaaaGreatDoor
open Go.RowKit
namespace Er
end Er
end Go.Proofs.YtjobhjemnmleaaaGreatDoor
namespace Go.Proofs.YtjobhjemnmleaaaGreatDoor
open Go.RowKit
namespace Src
end Src
end Go.Proofs.YtjobhjemnmleaaaGreatDoor
namespace Go.Proofs.YtjobhjemnmleaaaGreatDoor
open Go.RowKit
section
variable {B : Nat} {w w' : World} {rs : List Row} {r : Row}
end
namespace Src
section
variable {B : Nat} {w w' w2 : World} {g : Nat} {s : S} {rv rv' zv zv' lv lv' : Value} {evs : List Value}
end
end Src
end Go.Proofs.YtjobhjemnmleaaaGreatDoor
namespace Go.Proofs.YtjobhjemnmleaaaGreatDoor
open Go.RowKit
theorem rule_info : (Tryz.prog.info? 112).map (fun i => (i.zero, i.size, i.bytes)) = some (some (.agg #[.string ⟨#[]⟩, .int .i64 0, .int .i64 0, .int .i64 0, .int .u8 0, .int .i64 0, .int .i64 0, .int .i64 0, .int .u8 0, .int .i64 0, .string ⟨#[]⟩]), 11, 104) := by kernel_rfl
theorem cells_new (w : World) (cs : Array Value) (t : TypeId) : ∀ j u, cs.toList[j]? = some u → (w.alloc (.cells cs t)).cell? ((⟨w.heap.size, 0, none⟩ : Addr).add j) = some u := fun j u hu => by
 have hadd : (⟨w.heap.size, 0, none⟩ : Addr).add j = ⟨w.heap.size, j, none⟩ := by unfold Addr.add; split <;> simp_all
 rw [hadd];exact (At.new w cs t).cell j u hu
namespace Src
end Src
end Go.Proofs.YtjobhjemnmleaaaGreatDoor
