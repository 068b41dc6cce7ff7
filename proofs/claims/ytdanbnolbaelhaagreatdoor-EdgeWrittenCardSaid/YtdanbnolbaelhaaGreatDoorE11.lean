/- The contracts of package era: isTime, isDigit, Check. -/
import Derived.Test.YtdanbnolbaelhaaGreatDoorE10
import Derived.Deep.DeepCutAuto
import Derived.Test.YtdanbnolbaelhaaGreatDoorE09
import Derived.Test.YtdanbnolbaelhaaGreatDoorE07
import Derived.OneCell

namespace Go.Proofs.YtdanbnolbaelhaaGreatDoor
open Go.RowKit

theorem isTime_is (s : Int) (w : World) (b : Bool) (h : decide (IsTime s) = b) :
    Calls Tryz.prog 122 #[.int .i64 s] w fun e w' => e = .returned (.bool b) ∧ w = w' := by
  subst h
  by_cases h1 : -604800 ≤ s
  · by_cases h2 : s ≤ 604800
    · rw [decide_eq_true (show IsTime s from ⟨h1, h2⟩)]
      go_enter Tryz.func122, Tryz.ntmps122
      go_wp2
      go_ret
      exact ⟨rfl, rfl⟩
    · rw [decide_eq_false (show ¬ IsTime s from fun x => h2 x.2)]
      go_enter Tryz.func122, Tryz.ntmps122
      go_wp2
      go_ret
      exact ⟨rfl, rfl⟩
  · rw [decide_eq_false (show ¬ IsTime s from fun x => h1 x.1)]
    go_enter Tryz.func122, Tryz.ntmps122
    go_wp2
    go_ret
    exact ⟨rfl, rfl⟩
namespace Er
def kindB (k sv : Int) (ru : ByteArray) : Bool := decide ((k = 0 ∧ sv = 0 ∧ ru = ⟨#[]⟩) ∨ (k = 1 ∧ IsTime sv ∧ ru = ⟨#[]⟩) ∨ (k = 2 ∧ sv = 0 ∧ Ru.name (tl ru) = true))
noncomputable instance decUOk (u : Mo.U) : Decidable u.Ok := Classical.propDecidable _
/-- What a check says of an era. -/
noncomputable def chk (e : E) : Int := if IsTime e.std ∧ Ab.fmt e.fm = true ∧ kindB e.k e.sv e.ru = true then (if e.en = true then (if e.u.Ok then 0 else 2) else (if e.u = Mo.U.zero then 0 else 2)) else 2
theorem chk_ok (e : E) (h : e.Ok) : chk e = 0 := by
  obtain ⟨h1, h2, h3, h4, h5⟩ := h
  unfold chk kindB
  rw [if_pos ⟨h1, h2, decide_eq_true h3⟩]
  cases hx : e.en
  · rw [if_neg (by decide), if_pos (h5 hx)]
  · rw [if_pos rfl, if_pos (h4 hx)]
theorem chk_bad (e : E) (h : ¬ e.Ok) : chk e = 2 := by
  unfold chk
  by_cases h1 : IsTime e.std ∧ Ab.fmt e.fm = true ∧ kindB e.k e.sv e.ru = true
  · rw [if_pos h1]
    unfold kindB at h1
    rw [decide_eq_true_eq] at h1
    cases hx : e.en
    · rw [if_neg (by decide), if_neg (fun hu => h ⟨h1.1, h1.2.1, h1.2.2, fun y => (by rw [hx] at y; cases y), fun _ => hu⟩)]
    · rw [if_pos rfl, if_neg (fun hu => h ⟨h1.1, h1.2.1, h1.2.2, fun _ => hu, fun y => (by rw [hx] at y; cases y)⟩)]
  · rw [if_neg h1]
end Er
set_option maxHeartbeats 4000000 in
set_option maxRecDepth 100000 in
theorem eraCheck_any (e : Er.E) (w : World) (hW : Wa w) (hs1 : e.fm.size ≤ maxLen) (hs2 : e.ru.size ≤ maxLen) :
    Calls Tryz.prog 89 #[e.v] w fun r w' => r = .returned (.int .i64 (Er.chk e)) ∧ Below w.heap.size w w' := by
  obtain ⟨X, hX⟩ : ∃ X, Er.chk e = X := ⟨_, rfl⟩
  rw [hX]
  obtain ⟨std, k, sv, ru, fm, en, ⟨y, m, dk, dn, dd, s, c⟩⟩ := e
  unfold Er.E.v
  simp only at hs1 hs2 ⊢
  unfold Er.chk at hX
  simp only at hX
  have HW := Lib.hid hW
  have HA := Lib.hid (At.new w #[.int .i64 std, .int .u8 k, .int .i64 sv, .string ru, .string fm, .bool en, .int .i64 y, .int .i64 m, .int .u8 dk, .int .i64 dn, .int .i64 dd, .int .i64 s, .int .u8 c] 48)
  have HB := Lib.hid ((Below.refl w.heap.size w).alloc (Nat.le_refl _) (.cells #[.int .i64 std, .int .u8 k, .int .i64 sv, .string ru, .string fm, .bool en, .int .i64 y, .int .i64 m, .int .u8 dk, .int .i64 dn, .int .i64 dd, .int .i64 s, .int .u8 c] 48))
  clear hW
  cases hst : decide (IsTime std)
  · have HI := Lib.hid fun W => isTime_is std W false hst
    have HX : Hid (X = 2) := by show X = 2; rw [← hX, if_neg (fun x => of_decide_eq_false hst x.1)]
    clear hst hX
    go_enter Tryz.func89, Tryz.ntmps89
    go_wp2_with fail
    refine (HI.out _).mono ?_
    rintro e w1 ⟨rfl, rfl⟩
    go_wp2
    go_ret
    exact ⟨ret_int (by rw [HX.out]), HB.out⟩
  have HI := Lib.hid fun W => isTime_is std W true hst
  cases hfm : Ab.fmt fm
  · have HF := Lib.hid fun W hw => abbrCheck_all fm W hw hs1 false hfm
    have HX : Hid (X = 2) := by show X = 2; rw [← hX, if_neg (fun x => by have := x.2.1; rw [hfm] at this; cases this)]
    clear hst hX hfm
    go_enter Tryz.func89, Tryz.ntmps89
    go_wp2_with fail
    refine (HI.out _).mono ?_
    rintro e w1 ⟨rfl, rfl⟩
    go_wp2_with fail
    refine (HF.out _ (HW.out.below HB.out)).mono ?_
    rintro e w1 ⟨rfl, hb⟩
    go_wp2
    go_ret
    exact ⟨ret_int (by rw [HX.out]), below_then HB.out hb⟩
  have HF := Lib.hid fun W hw => abbrCheck_all fm W hw hs1 true hfm
  obtain ⟨K, hK⟩ : ∃ K, Er.kindB k sv ru = K := ⟨_, rfl⟩
  have hX2 : X = if K = true then (if en = true then (if Mo.U.Ok ⟨y, m, dk, dn, dd, s, c⟩ then 0 else 2) else (if (⟨y, m, dk, dn, dd, s, c⟩ : Mo.U) = Mo.U.zero then 0 else 2)) else 2 := by
    rw [← hX, hK]
    cases K
    · rw [if_neg (fun x => by cases x.2.2), if_neg (by decide)]
    · rw [if_pos ⟨of_decide_eq_true hst, hfm, rfl⟩, if_pos rfl]
  have HX := Lib.hid hX2
  have HK := Lib.hid hK
  clear hst hX hfm hX2 hK
  go_enter Tryz.func89, Tryz.ntmps89
  go_wp2_with fail
  refine (HI.out _).mono ?_
  rintro e w1 ⟨rfl, rfl⟩
  go_wp2_with fail
  refine (HF.out _ (HW.out.below HB.out)).mono ?_
  rintro e w1 ⟨rfl, hb⟩
  have HA1 := Lib.hid (HA.out.call hb)
  replace HB := Lib.hid (below_then HB.out hb)
  clear hb HI HF HA
  have q0 := HA1.out.cell 0 _ rfl
  have q1 := HA1.out.cell 1 _ rfl
  have q2 := HA1.out.cell 2 _ rfl
  have q3 := HA1.out.cell 3 _ rfl
  have q4 := HA1.out.cell 4 _ rfl
  have q5 := HA1.out.cell 5 _ rfl
  have q6 := HA1.out.cell 6 _ rfl
  have q7 := HA1.out.cell 7 _ rfl
  have q8 := HA1.out.cell 8 _ rfl
  have q9 := HA1.out.cell 9 _ rfl
  have q10 := HA1.out.cell 10 _ rfl
  have q11 := HA1.out.cell 11 _ rfl
  have q12 := HA1.out.cell 12 _ rfl
  go_upto_if 16 with fail
  by_cases k0 : k = 0
  · have p0 : (k == 0) = true := by rw [beq_iff_eq]; exact k0
    subst k0
    by_cases v0 : sv = 0
    · have p1 : (sv == 0) = true := by rw [beq_iff_eq]; exact v0
      subst v0
      by_cases u0 : ru = ⟨#[]⟩
      · have HKx : Hid (K = true) := by show K = true; rw [← HK.out]; exact decide_eq_true (.inl ⟨rfl, rfl, u0⟩)
        have p2 : ru.toList.isEmpty = true := by rw [u0, ByteArray.toList_eq]; rfl
        clear u0
        cases en
        · by_cases hz : (⟨y, m, dk, dn, dd, s, c⟩ : Mo.U) = Mo.U.zero
          · have HX3 : Hid (X = 0) := by show X = 0; rw [HX.out, if_pos HKx.out, if_neg (by decide), if_pos hz]
            unfold Mo.U.zero at hz
            injection hz with z0 z1 z2 z3 z4 z5 z6
            subst z0 z1 z2 z3 z4 z5 z6
            clear HX
            go_wp2
            go_ret
            exact ⟨ret_int (by rw [HX3.out]), HB.out⟩
          · have HX3 : Hid (X = 2) := by show X = 2; rw [HX.out, if_pos HKx.out, if_neg (by decide), if_neg hz]
            clear HX
            by_cases d0 : y = 0
            · subst d0
              by_cases d1 : m = 0
              · subst d1
                by_cases d2 : dk = 0
                · subst d2
                  by_cases d3 : dn = 0
                  · subst d3
                    by_cases d4 : dd = 0
                    · subst d4
                      by_cases d5 : s = 0
                      · subst d5
                        by_cases d6 : c = 0
                        · subst d6
                          exact (hz rfl).elim
                        · have b6 : (c == 0) = false := by rw [beq_eq_false_iff_ne]; exact d6
                          clear hz
                          as_aux_lemma =>
                          go_wp2
                          go_ret
                          exact ⟨ret_int (by rw [HX3.out]), HB.out⟩
                      · have b5 : (s == 0) = false := by rw [beq_eq_false_iff_ne]; exact d5
                        clear hz
                        as_aux_lemma =>
                        go_wp2
                        go_ret
                        exact ⟨ret_int (by rw [HX3.out]), HB.out⟩
                    · have b4 : (dd == 0) = false := by rw [beq_eq_false_iff_ne]; exact d4
                      clear hz
                      as_aux_lemma =>
                      go_wp2
                      go_ret
                      exact ⟨ret_int (by rw [HX3.out]), HB.out⟩
                  · have b3 : (dn == 0) = false := by rw [beq_eq_false_iff_ne]; exact d3
                    clear hz
                    as_aux_lemma =>
                    go_wp2
                    go_ret
                    exact ⟨ret_int (by rw [HX3.out]), HB.out⟩
                · have b2 : (dk == 0) = false := by rw [beq_eq_false_iff_ne]; exact d2
                  clear hz
                  as_aux_lemma =>
                  go_wp2
                  go_ret
                  exact ⟨ret_int (by rw [HX3.out]), HB.out⟩
              · have b1 : (m == 0) = false := by rw [beq_eq_false_iff_ne]; exact d1
                clear hz
                as_aux_lemma =>
                go_wp2
                go_ret
                exact ⟨ret_int (by rw [HX3.out]), HB.out⟩
            · have b0 : (y == 0) = false := by rw [beq_eq_false_iff_ne]; exact d0
              clear hz
              as_aux_lemma =>
              go_wp2
              go_ret
              exact ⟨ret_int (by rw [HX3.out]), HB.out⟩
        · by_cases hu : Mo.U.Ok ⟨y, m, dk, dn, dd, s, c⟩
          · have HX3 : Hid (X = 0) := by show X = 0; rw [HX.out, if_pos HKx.out, if_pos rfl, if_pos hu]
            have HU := Lib.hid fun W => checkUntil_ok ⟨y, m, dk, dn, dd, s, c⟩ W hu
            unfold Mo.U.v at HU
            clear HX hu
            go_wp2_with fail
            refine (HU.out _).mono ?_
            rintro e w2 ⟨rfl, hb⟩
            go_wp2
            go_ret
            exact ⟨ret_int (by rw [HX3.out]), below_then HB.out hb⟩
          · have HX3 : Hid (X = 2) := by show X = 2; rw [HX.out, if_pos HKx.out, if_pos rfl, if_neg hu]
            have HU := Lib.hid fun W => checkUntil_bad ⟨y, m, dk, dn, dd, s, c⟩ W hu
            unfold Mo.U.v at HU
            clear HX hu
            go_wp2_with fail
            refine (HU.out _).mono ?_
            rintro e w2 ⟨rfl, hb⟩
            go_wp2
            go_ret
            exact ⟨ret_int (by rw [HX3.out]), below_then HB.out hb⟩
      · have HKx : Hid (K = false) := by show K = false; rw [← HK.out]; exact decide_eq_false (fun h => h.elim (fun h => u0 h.2.2) fun h => h.elim (fun h => absurd h.1 (by decide)) fun h => absurd h.1 (by decide))
        have p2 : ru.toList.isEmpty = false := empty_no ru u0
        clear u0
        have HX3 : Hid (X = 2) := by show X = 2; rw [HX.out, if_neg (by rw [HKx.out]; decide)]
        go_wp2
        go_ret
        exact ⟨ret_int (by rw [HX3.out]), HB.out⟩
    · have HKx : Hid (K = false) := by show K = false; rw [← HK.out]; exact decide_eq_false (fun h => h.elim (fun h => v0 h.2.1) fun h => h.elim (fun h => absurd h.1 (by decide)) fun h => absurd h.1 (by decide))
      have p1 : (sv == 0) = false := by rw [beq_eq_false_iff_ne]; exact v0
      clear v0
      have HX3 : Hid (X = 2) := by show X = 2; rw [HX.out, if_neg (by rw [HKx.out]; decide)]
      go_wp2
      go_ret
      exact ⟨ret_int (by rw [HX3.out]), HB.out⟩
  have p0 : (k == 0) = false := by rw [beq_eq_false_iff_ne]; exact k0
  by_cases k1 : k = 1
  · have p1 : (k == 1) = true := by rw [beq_iff_eq]; exact k1
    cases ht : decide (IsTime sv)
    · have HJ := Lib.hid fun W => isTime_is sv W false ht
      have HKx : Hid (K = false) := by show K = false; rw [← HK.out]; exact decide_eq_false (fun h => h.elim (fun h => k0 h.1) fun h => h.elim (fun h => of_decide_eq_false ht h.2.1) fun h => absurd (k1.symm.trans h.1) (by decide))
      clear ht k0 k1
      go_wp2_with fail
      refine (HJ.out _).mono ?_
      rintro e w2 ⟨rfl, rfl⟩
      have HX3 : Hid (X = 2) := by show X = 2; rw [HX.out, if_neg (by rw [HKx.out]; decide)]
      go_wp2
      go_ret
      exact ⟨ret_int (by rw [HX3.out]), HB.out⟩
    · have HJ := Lib.hid fun W => isTime_is sv W true ht
      by_cases u0 : ru = ⟨#[]⟩
      · have HKx : Hid (K = true) := by show K = true; rw [← HK.out]; exact decide_eq_true (.inr (.inl ⟨k1, of_decide_eq_true ht, u0⟩))
        have p2 : ru.toList.isEmpty = true := by rw [u0, ByteArray.toList_eq]; rfl
        clear u0 ht k0 k1
        go_wp2_with fail
        refine (HJ.out _).mono ?_
        rintro e w2 ⟨rfl, rfl⟩
        cases en
        · by_cases hz : (⟨y, m, dk, dn, dd, s, c⟩ : Mo.U) = Mo.U.zero
          · have HX3 : Hid (X = 0) := by show X = 0; rw [HX.out, if_pos HKx.out, if_neg (by decide), if_pos hz]
            unfold Mo.U.zero at hz
            injection hz with z0 z1 z2 z3 z4 z5 z6
            subst z0 z1 z2 z3 z4 z5 z6
            clear HX
            go_wp2
            go_ret
            exact ⟨ret_int (by rw [HX3.out]), HB.out⟩
          · have HX3 : Hid (X = 2) := by show X = 2; rw [HX.out, if_pos HKx.out, if_neg (by decide), if_neg hz]
            clear HX
            by_cases d0 : y = 0
            · subst d0
              by_cases d1 : m = 0
              · subst d1
                by_cases d2 : dk = 0
                · subst d2
                  by_cases d3 : dn = 0
                  · subst d3
                    by_cases d4 : dd = 0
                    · subst d4
                      by_cases d5 : s = 0
                      · subst d5
                        by_cases d6 : c = 0
                        · subst d6
                          exact (hz rfl).elim
                        · have b6 : (c == 0) = false := by rw [beq_eq_false_iff_ne]; exact d6
                          clear hz
                          as_aux_lemma =>
                          go_wp2
                          go_ret
                          exact ⟨ret_int (by rw [HX3.out]), HB.out⟩
                      · have b5 : (s == 0) = false := by rw [beq_eq_false_iff_ne]; exact d5
                        clear hz
                        as_aux_lemma =>
                        go_wp2
                        go_ret
                        exact ⟨ret_int (by rw [HX3.out]), HB.out⟩
                    · have b4 : (dd == 0) = false := by rw [beq_eq_false_iff_ne]; exact d4
                      clear hz
                      as_aux_lemma =>
                      go_wp2
                      go_ret
                      exact ⟨ret_int (by rw [HX3.out]), HB.out⟩
                  · have b3 : (dn == 0) = false := by rw [beq_eq_false_iff_ne]; exact d3
                    clear hz
                    as_aux_lemma =>
                    go_wp2
                    go_ret
                    exact ⟨ret_int (by rw [HX3.out]), HB.out⟩
                · have b2 : (dk == 0) = false := by rw [beq_eq_false_iff_ne]; exact d2
                  clear hz
                  as_aux_lemma =>
                  go_wp2
                  go_ret
                  exact ⟨ret_int (by rw [HX3.out]), HB.out⟩
              · have b1 : (m == 0) = false := by rw [beq_eq_false_iff_ne]; exact d1
                clear hz
                as_aux_lemma =>
                go_wp2
                go_ret
                exact ⟨ret_int (by rw [HX3.out]), HB.out⟩
            · have b0 : (y == 0) = false := by rw [beq_eq_false_iff_ne]; exact d0
              clear hz
              as_aux_lemma =>
              go_wp2
              go_ret
              exact ⟨ret_int (by rw [HX3.out]), HB.out⟩
        · by_cases hu : Mo.U.Ok ⟨y, m, dk, dn, dd, s, c⟩
          · have HX3 : Hid (X = 0) := by show X = 0; rw [HX.out, if_pos HKx.out, if_pos rfl, if_pos hu]
            have HU := Lib.hid fun W => checkUntil_ok ⟨y, m, dk, dn, dd, s, c⟩ W hu
            unfold Mo.U.v at HU
            clear HX hu
            go_wp2_with fail
            refine (HU.out _).mono ?_
            rintro e w2 ⟨rfl, hb⟩
            go_wp2
            go_ret
            exact ⟨ret_int (by rw [HX3.out]), below_then HB.out hb⟩
          · have HX3 : Hid (X = 2) := by show X = 2; rw [HX.out, if_pos HKx.out, if_pos rfl, if_neg hu]
            have HU := Lib.hid fun W => checkUntil_bad ⟨y, m, dk, dn, dd, s, c⟩ W hu
            unfold Mo.U.v at HU
            clear HX hu
            go_wp2_with fail
            refine (HU.out _).mono ?_
            rintro e w2 ⟨rfl, hb⟩
            go_wp2
            go_ret
            exact ⟨ret_int (by rw [HX3.out]), below_then HB.out hb⟩
      · have HKx : Hid (K = false) := by show K = false; rw [← HK.out]; exact decide_eq_false (fun h => h.elim (fun h => k0 h.1) fun h => h.elim (fun h => u0 h.2.2) fun h => absurd (k1.symm.trans h.1) (by decide))
        have p2 : ru.toList.isEmpty = false := empty_no ru u0
        clear u0 ht k0 k1
        go_wp2_with fail
        refine (HJ.out _).mono ?_
        rintro e w2 ⟨rfl, rfl⟩
        have HX3 : Hid (X = 2) := by show X = 2; rw [HX.out, if_neg (by rw [HKx.out]; decide)]
        go_wp2
        go_ret
        exact ⟨ret_int (by rw [HX3.out]), HB.out⟩
  have p1 : (k == 1) = false := by rw [beq_eq_false_iff_ne]; exact k1
  by_cases k2 : k = 2
  · have p2 : (k == 2) = true := by rw [beq_iff_eq]; exact k2
    by_cases v0 : sv = 0
    · have p3 : (sv == 0) = true := by rw [beq_iff_eq]; exact v0
      cases hn : Ru.name (tl ru)
      · have HN := Lib.hid fun W => calls_bool (name_all ru W hs2) hn
        have HKx : Hid (K = false) := by show K = false; rw [← HK.out]; exact decide_eq_false (fun h => h.elim (fun h => k0 h.1) fun h => h.elim (fun h => k1 h.1) fun h => by rw [hn] at h; cases h.2.2)
        clear hn k0 k1 k2 v0
        go_wp2_with fail
        refine (HN.out _).mono ?_
        rintro e w2 ⟨rfl, hb⟩
        have HA3 := Lib.hid (HA1.out.call hb)
        replace HB := Lib.hid (below_then HB.out hb)
        clear hb q0 q1 q2 q3 q4 q5 q6 q7 q8 q9 q10 q11 q12
        have q0 := HA3.out.cell 0 _ rfl
        have q1 := HA3.out.cell 1 _ rfl
        have q2 := HA3.out.cell 2 _ rfl
        have q3 := HA3.out.cell 3 _ rfl
        have q4 := HA3.out.cell 4 _ rfl
        have q5 := HA3.out.cell 5 _ rfl
        have q6 := HA3.out.cell 6 _ rfl
        have q7 := HA3.out.cell 7 _ rfl
        have q8 := HA3.out.cell 8 _ rfl
        have q9 := HA3.out.cell 9 _ rfl
        have q10 := HA3.out.cell 10 _ rfl
        have q11 := HA3.out.cell 11 _ rfl
        have q12 := HA3.out.cell 12 _ rfl
        have HX3 : Hid (X = 2) := by show X = 2; rw [HX.out, if_neg (by rw [HKx.out]; decide)]
        go_wp2
        go_ret
        exact ⟨ret_int (by rw [HX3.out]), HB.out⟩
      · have HN := Lib.hid fun W => calls_bool (name_all ru W hs2) hn
        have HKx : Hid (K = true) := by show K = true; rw [← HK.out]; exact decide_eq_true (.inr (.inr ⟨k2, v0, hn⟩))
        clear hn k0 k1 k2 v0
        go_wp2_with fail
        refine (HN.out _).mono ?_
        rintro e w2 ⟨rfl, hb⟩
        have HA3 := Lib.hid (HA1.out.call hb)
        replace HB := Lib.hid (below_then HB.out hb)
        clear hb q0 q1 q2 q3 q4 q5 q6 q7 q8 q9 q10 q11 q12
        have q0 := HA3.out.cell 0 _ rfl
        have q1 := HA3.out.cell 1 _ rfl
        have q2 := HA3.out.cell 2 _ rfl
        have q3 := HA3.out.cell 3 _ rfl
        have q4 := HA3.out.cell 4 _ rfl
        have q5 := HA3.out.cell 5 _ rfl
        have q6 := HA3.out.cell 6 _ rfl
        have q7 := HA3.out.cell 7 _ rfl
        have q8 := HA3.out.cell 8 _ rfl
        have q9 := HA3.out.cell 9 _ rfl
        have q10 := HA3.out.cell 10 _ rfl
        have q11 := HA3.out.cell 11 _ rfl
        have q12 := HA3.out.cell 12 _ rfl
        cases en
        · by_cases hz : (⟨y, m, dk, dn, dd, s, c⟩ : Mo.U) = Mo.U.zero
          · have HX3 : Hid (X = 0) := by show X = 0; rw [HX.out, if_pos HKx.out, if_neg (by decide), if_pos hz]
            unfold Mo.U.zero at hz
            injection hz with z0 z1 z2 z3 z4 z5 z6
            subst z0 z1 z2 z3 z4 z5 z6
            clear HX
            go_wp2
            go_ret
            exact ⟨ret_int (by rw [HX3.out]), HB.out⟩
          · have HX3 : Hid (X = 2) := by show X = 2; rw [HX.out, if_pos HKx.out, if_neg (by decide), if_neg hz]
            clear HX
            by_cases d0 : y = 0
            · subst d0
              by_cases d1 : m = 0
              · subst d1
                by_cases d2 : dk = 0
                · subst d2
                  by_cases d3 : dn = 0
                  · subst d3
                    by_cases d4 : dd = 0
                    · subst d4
                      by_cases d5 : s = 0
                      · subst d5
                        by_cases d6 : c = 0
                        · subst d6
                          exact (hz rfl).elim
                        · have b6 : (c == 0) = false := by rw [beq_eq_false_iff_ne]; exact d6
                          clear hz
                          as_aux_lemma =>
                          go_wp2
                          go_ret
                          exact ⟨ret_int (by rw [HX3.out]), HB.out⟩
                      · have b5 : (s == 0) = false := by rw [beq_eq_false_iff_ne]; exact d5
                        clear hz
                        as_aux_lemma =>
                        go_wp2
                        go_ret
                        exact ⟨ret_int (by rw [HX3.out]), HB.out⟩
                    · have b4 : (dd == 0) = false := by rw [beq_eq_false_iff_ne]; exact d4
                      clear hz
                      as_aux_lemma =>
                      go_wp2
                      go_ret
                      exact ⟨ret_int (by rw [HX3.out]), HB.out⟩
                  · have b3 : (dn == 0) = false := by rw [beq_eq_false_iff_ne]; exact d3
                    clear hz
                    as_aux_lemma =>
                    go_wp2
                    go_ret
                    exact ⟨ret_int (by rw [HX3.out]), HB.out⟩
                · have b2 : (dk == 0) = false := by rw [beq_eq_false_iff_ne]; exact d2
                  clear hz
                  as_aux_lemma =>
                  go_wp2
                  go_ret
                  exact ⟨ret_int (by rw [HX3.out]), HB.out⟩
              · have b1 : (m == 0) = false := by rw [beq_eq_false_iff_ne]; exact d1
                clear hz
                as_aux_lemma =>
                go_wp2
                go_ret
                exact ⟨ret_int (by rw [HX3.out]), HB.out⟩
            · have b0 : (y == 0) = false := by rw [beq_eq_false_iff_ne]; exact d0
              clear hz
              as_aux_lemma =>
              go_wp2
              go_ret
              exact ⟨ret_int (by rw [HX3.out]), HB.out⟩
        · by_cases hu : Mo.U.Ok ⟨y, m, dk, dn, dd, s, c⟩
          · have HX3 : Hid (X = 0) := by show X = 0; rw [HX.out, if_pos HKx.out, if_pos rfl, if_pos hu]
            have HU := Lib.hid fun W => checkUntil_ok ⟨y, m, dk, dn, dd, s, c⟩ W hu
            unfold Mo.U.v at HU
            clear HX hu
            go_wp2_with fail
            refine (HU.out _).mono ?_
            rintro e w2 ⟨rfl, hb⟩
            go_wp2
            go_ret
            exact ⟨ret_int (by rw [HX3.out]), below_then HB.out hb⟩
          · have HX3 : Hid (X = 2) := by show X = 2; rw [HX.out, if_pos HKx.out, if_pos rfl, if_neg hu]
            have HU := Lib.hid fun W => checkUntil_bad ⟨y, m, dk, dn, dd, s, c⟩ W hu
            unfold Mo.U.v at HU
            clear HX hu
            go_wp2_with fail
            refine (HU.out _).mono ?_
            rintro e w2 ⟨rfl, hb⟩
            go_wp2
            go_ret
            exact ⟨ret_int (by rw [HX3.out]), below_then HB.out hb⟩
    · have HKx : Hid (K = false) := by show K = false; rw [← HK.out]; exact decide_eq_false (fun h => h.elim (fun h => k0 h.1) fun h => h.elim (fun h => k1 h.1) fun h => v0 h.2.1)
      have p3 : (sv == 0) = false := by rw [beq_eq_false_iff_ne]; exact v0
      clear k0 k1 k2 v0
      have HX3 : Hid (X = 2) := by show X = 2; rw [HX.out, if_neg (by rw [HKx.out]; decide)]
      go_wp2
      go_ret
      exact ⟨ret_int (by rw [HX3.out]), HB.out⟩
  · have HKx : Hid (K = false) := by show K = false; rw [← HK.out]; exact decide_eq_false (fun h => h.elim (fun h => k0 h.1) fun h => h.elim (fun h => k1 h.1) fun h => k2 h.1)
    have p2 : (k == 2) = false := by rw [beq_eq_false_iff_ne]; exact k2
    clear k0 k1 k2
    have HX3 : Hid (X = 2) := by show X = 2; rw [HX.out, if_neg (by rw [HKx.out]; decide)]
    go_wp2
    go_ret
    exact ⟨ret_int (by rw [HX3.out]), HB.out⟩
end Go.Proofs.YtdanbnolbaelhaaGreatDoor

/- Plain law of rules: a right rule is read from its texts; what is read is right. -/
namespace Go.Proofs.YtdanbnolbaelhaaGreatDoor
open Go.RowKit

namespace Ru
section
variable (r : R)
end
end Ru
end Go.Proofs.YtdanbnolbaelhaaGreatDoor

/- Plain law of eras: a right era is read from its texts; what is read is right, and has no more texts than it was read from. -/
namespace Go.Proofs.YtdanbnolbaelhaaGreatDoor
open Go.RowKit

namespace Er
theorem dig_mk (c : UInt8) (l : List UInt8) (k : Nat) (h : c = UInt8.ofNat (48 + k)) (hk : k < 10) : digAt ⟨(c :: l).toArray⟩ 0 = true := by
  unfold digAt
  rw [tl_mk]
  have hu := u8_of (48 + k) (by omega)
  simp only [List.getElem?_cons_zero]
  rw [h, hu, decide_eq_true]
  omega
end Er
namespace Mo
end Mo
namespace Er
end Er
end Go.Proofs.YtdanbnolbaelhaaGreatDoor

/- The contract of era.Text. -/
namespace Go.Proofs.YtdanbnolbaelhaaGreatDoor
open Go.RowKit Go.Sort

theorem own_below {w w' : World} {base : Nat} {e : TypeId} {size : Nat} {v : Value} {n : Nat} {xs : List Value} (h : w.ownsRow base e size v n xs) (hb : Below w.heap.size w w') : w'.ownsRow base e size v n xs := by
  refine ⟨h.1, ?_⟩
  rcases h.2 with hn | ⟨g, cap, cur, hv, hbase, hg, rest⟩
  · exact .inl hn
  · have hl : g < w.heap.size := (Array.getElem?_eq_some_iff.1 hg).1
    exact .inr ⟨g, cap, cur, hv, hbase, (hb.block g hl).trans hg, rest⟩
theorem own_slice_cap {w : World} {base : Nat} {e : TypeId} {size n : Nat} {v : Value} {xs : List Value} (h : w.ownsRow base e size v n xs) : ∃ A c, v = .slice A n c ∧ n ≤ c ∧ c ≤ maxLen := by
  rcases h.2 with ⟨rfl, rfl⟩ | ⟨g, cap, cur, rfl, _, _, h1, h2, _⟩
  · exact ⟨none, 0, rfl, Nat.le_refl _, Nat.zero_le _⟩
  · exact ⟨_, cap, rfl, h1, h2⟩
theorem str_info : (Tryz.prog.info? 9).map (fun i => (i.zero, i.size, i.bytes)) = some (some (.string ⟨#[]⟩), 1, 16) := by kernel_rfl
theorem er_reads (w : World) (g : Nat) (l : List ByteArray) (t : TypeId) (hg : g = w.heap.size) : Reads (w.alloc (.cells (strCells l) t)) (w.alloc (.cells (strCells l) t)).heap.size 1 (some ⟨g, 0, none⟩) l.length (l.map Value.string) := by
  subst hg
  exact reads_new w l t
end Go.Proofs.YtdanbnolbaelhaaGreatDoor

/- The contract of scan.Fields. -/
namespace Go.Proofs.YtdanbnolbaelhaaGreatDoor
open Go.RowKit

namespace Sc
theorem frame_of (n : Nat) (a : Act) (hs : a.tmps.size = n) (hd : a.defers = []) : a = { tmps := ((List.range n).map fun i => a.tmps.getD i undef).toArray, defers := [] } := by
  obtain ⟨t, d⟩ := a
  simp only at hs hd
  subst hd
  congr 1
  apply Array.ext
  · simp [hs]
  · intro i h1 h2
    simp [h1]
end Sc
end Go.Proofs.YtdanbnolbaelhaaGreatDoor

/- Lines of a text in plain words. -/
namespace Go.Proofs.YtdanbnolbaelhaaGreatDoor
open Go.RowKit

namespace Sc
def splitNl : List UInt8 → List (List UInt8)
  | [] => [[]]
  | c :: l => if c = 10 then [] :: splitNl l else match splitNl l with
    | [] => [[c]]
    | h :: t => (c :: h) :: t
/-- The lines that have fields, each with its number; or the line, the column, and why. -/
inductive LRes where
  | ok (l : List (Int × List (List UInt8 × Int)))
  | bad (line col why : Int)
def linesGo : List (List UInt8) → Int → List (Int × List (List UInt8 × Int)) → LRes
  | [], _, acc => .ok acc
  | t :: L, no, acc => match fields t with
    | .bad col why => .bad no col why
    | .ok f => linesGo L (no + 1) (if f = [] then acc else acc ++ [(no, f)])
/-- The lines of a text. -/
def lines (s : List UInt8) : LRes := if 1048576 < s.length then .bad 0 0 6 else linesGo (splitNl s) 1 []
end Sc
end Go.Proofs.YtdanbnolbaelhaaGreatDoor

/- A source in plain words: lines read one after the other; two texts one behind the other. -/
namespace Go.Proofs.YtdanbnolbaelhaaGreatDoor
open Go.RowKit

namespace Src
abbrev Txt := List UInt8
abbrev Ln := Int × List (Txt × Int)
/-- What reads rules and eras. -/
structure P (R E : Type) where
  key : Txt → Int
  name : Txt → Bool
  rule : List Txt → R × Int × Int
  era : List Txt → E × Int × Int
  ends : E → Bool
  rule_len : ∀ l, (rule l).2.2 = 0 → 1 ≤ l.length
  era_len : ∀ l, (era l).2.2 = 0 → 3 ≤ l.length
structure St (R E : Type) where
  rules : List R
  zones : List (Txt × List E)
  links : List (Txt × Txt)
  op : Bool
def St.none_ {R E : Type} : St R E := ⟨[], [], [], false⟩
inductive Out (S : Type) where
  | ok (s : S)
  | bad (place why : Int)
def addEra {E : Type} (e : E) : List (Txt × List E) → List (Txt × List E)
  | [] => []
  | [z] => [(z.1, z.2 ++ [e])]
  | z :: y :: l => z :: addEra e (y :: l)
def lastEras {E : Type} : List (Txt × List E) → Nat
  | [] => 0
  | [z] => z.2.length
  | _ :: y :: l => lastEras (y :: l)
def wrong (f : Txt → Bool) : List Txt → Int → Option Int
  | [], _ => none
  | t :: l, i => if f t then wrong f l (i + 1) else some i
variable {R E : Type}
def eraStep (p : P R E) (s : St R E) (t : List Txt) (from_ : Nat) : Out (St R E) :=
  if (p.era (t.drop from_)).2.2 = 0 then .ok { s with zones := addEra (p.era (t.drop from_)).1 s.zones, op := p.ends (p.era (t.drop from_)).1 }
  else .bad (from_ + (p.era (t.drop from_)).2.1) (p.era (t.drop from_)).2.2
def ruleStep (p : P R E) (s : St R E) (t : List Txt) : Out (St R E) :=
  if s.rules.length = 4096 then .bad 0 6
  else if (p.rule (t.drop 1)).2.2 = 0 then .ok { s with rules := s.rules ++ [(p.rule (t.drop 1)).1] }
  else .bad (1 + (p.rule (t.drop 1)).2.1) (p.rule (t.drop 1)).2.2
def zoneStep (p : P R E) (s : St R E) (t : List Txt) : Out (St R E) :=
  if s.zones.length = 1024 then .bad 0 6
  else if t.length < 2 then .bad 1 5
  else if p.name (t.getD 1 []) = false then .bad 1 7
  else eraStep p { s with zones := s.zones ++ [(t.getD 1 [], [])] } t 2
def linkStep (p : P R E) (s : St R E) (t : List Txt) : Out (St R E) :=
  if s.links.length = 4096 then .bad 0 6
  else match wrong p.name ((t.drop 1).take 2) 0 with
  | some i => .bad (1 + i) 7
  | none => if ((t.drop 1).take 2).length < 2 then .bad (1 + ((t.drop 1).take 2).length) 5
    else if 3 < t.length then .bad 3 6
    else .ok { s with links := s.links ++ [(t.getD 1 [], t.getD 2 [])] }
def step (p : P R E) (s : St R E) (t : List Txt) : Out (St R E) :=
  if s.op then (if lastEras s.zones = 64 then .bad 0 6 else eraStep p s t 0)
  else if p.key (t.getD 0 []) = 1 then ruleStep p s t
  else if p.key (t.getD 0 []) = 2 then zoneStep p s t
  else if p.key (t.getD 0 []) = 3 then linkStep p s t
  else .bad 0 7
inductive Par (S : Type) where
  | ok (s : S)
  | bad (line col why : Int)
def colAt (f : List (Txt × Int)) (place : Int) : Int := (f.getD (min place.toNat (f.length - 1)) ([], 0)).2
def readGo (p : P R E) : List Ln → St R E → Par (St R E)
  | [], s => .ok s
  | l :: L, s => match step p s (l.2.map (·.1)) with
    | .bad place why => .bad l.1 (colAt l.2 place) why
    | .ok s' => readGo p L s'
def finish (L : List Ln) (s : St R E) : Par (St R E) :=
  if s.op then .bad (L.getLastD (0, [])).1 (colAt (L.getLastD (0, [])).2 0) 5 else .ok s
def readAll (p : P R E) (L : List Ln) : Par (St R E) := match readGo p L St.none_ with
  | .bad l c w => .bad l c w
  | .ok s => finish L s
/-- What a text is read as. -/
def parse (p : P R E) (s : Txt) : Par (St R E) := match Sc.lines s with
  | .bad l c w => .bad l c w
  | .ok L => readAll p L
def Out.map {S T : Type} (f : S → T) : Out S → Out T
  | .ok s => .ok (f s)
  | .bad p w => .bad p w
def Par.map {S T : Type} (f : S → T) (d : Int) : Par S → Par T
  | .ok s => .ok (f s)
  | .bad l c w => .bad (l + d) c w

def Good (s : St R E) : Prop := s.op = true → s.zones ≠ []
/-- What the lists weigh: less than this many bytes cannot hold them. -/
def weigh (s : St R E) : Nat := 4 * s.rules.length + 10 * s.zones.length + 6 * s.links.length
end Src
end Go.Proofs.YtdanbnolbaelhaaGreatDoor

/- Two texts one behind the other are read together as both. -/
namespace Go.Proofs.YtdanbnolbaelhaaGreatDoor
open Go.RowKit

namespace Src
variable {R E : Type}
/-- What lines weigh. -/
def weight : List Ln → Nat
  | [] => 0
  | l :: L => 2 * l.2.length + weight L
/-- The weight of texts: each byte, and one for each text. -/
def bytes : List Txt → Nat
  | [] => 0
  | t :: L => t.length + 1 + bytes L
end Src
end Go.Proofs.YtdanbnolbaelhaaGreatDoor

/- Two texts one behind the other: what is read. -/
namespace Go.Proofs.YtdanbnolbaelhaaGreatDoor
open Go.RowKit

namespace Src
variable {R E : Type}
end Src
end Go.Proofs.YtdanbnolbaelhaaGreatDoor

/- What a fault of reading says: a line, a column, and why. -/
namespace Go.Proofs.YtdanbnolbaelhaaGreatDoor
open Go.RowKit

namespace Src
variable {R E : Type}
def Cols (f : List (Txt × Int)) : Prop := ∀ t ∈ f, 1 ≤ t.2
theorem Cols.push {f : List (Txt × Int)} {t : Txt} {b : Int} (h : Cols f) (hb : 1 ≤ b) : Cols (f ++ [(t, b)]) := by
  intro x hx
  rw [List.mem_append] at hx
  rcases hx with hx | hx
  · exact h x hx
  · rw [List.mem_singleton] at hx
    subst hx
    exact hb
end Src
end Go.Proofs.YtdanbnolbaelhaaGreatDoor

/- What is read is right. -/
namespace Go.Proofs.YtdanbnolbaelhaaGreatDoor
open Go.RowKit

namespace Src
variable {R E : Type}
end Src
end Go.Proofs.YtdanbnolbaelhaaGreatDoor

/- The program's own readers of rules and eras, as the plain law wants them. -/
namespace Go.Proofs.YtdanbnolbaelhaaGreatDoor
open Go.RowKit

namespace Src
def bts (t : Txt) : ByteArray := ⟨t.toArray⟩
theorem rule_len (l : List ByteArray) (h : (Ru.parse l).2.2 = 0) : 9 = l.length := by
  unfold Ru.parse at h
  split at h
  · split at h
    · exact absurd (show (5 : Int) = 0 from h) (by decide)
    · split at h
      · exact absurd (show (6 : Int) = 0 from h) (by decide)
      · omega
  · rename_i h0
    exact absurd h h0
theorem era_len (l : List ByteArray) (h : (Er.parse l).2.2 = 0) : 3 ≤ l.length := by
  unfold Er.parse at h
  split at h
  · split at h
    · exact absurd (show (5 : Int) = 0 from h) (by decide)
    · omega
  · rename_i h0
    exact absurd h h0
def words : List Txt := [[82, 117, 108, 101], [90, 111, 110, 101], [76, 105, 110, 107]]
/-- What reads. -/
def own : P Ru.R Er.E where
  key t := Wd.pick t words + 1
  name t := Ru.name t
  rule l := Ru.parse (l.map bts)
  era l := Er.parse (l.map bts)
  ends e := e.en
  rule_len l h := by
    have := rule_len _ h
    simp only [List.length_map] at this
    omega
  era_len l h := by
    have := era_len _ h
    simp only [List.length_map] at this
    omega
end Src
end Go.Proofs.YtdanbnolbaelhaaGreatDoor

/- word.Keyword at a door's seat. -/
namespace Go.Proofs.YtdanbnolbaelhaaGreatDoor
open Go.RowKit

end Go.Proofs.YtdanbnolbaelhaaGreatDoor

/- Many rows of a call's own, no two in one block. -/
namespace Go.Proofs.YtdanbnolbaelhaaGreatDoor
open Go.RowKit

/-- A row: what it has of each element, its value, how many, its cells. -/
structure Row where
  e : TypeId
  size : Nat
  v : Value
  n : Nat
  xs : List Value
def apartV (a b : Value) : Prop := a.ownBlock = none ∨ a.ownBlock ≠ b.ownBlock
theorem apartV.symm {a b : Value} (h : apartV a b) : apartV b a := by
  unfold apartV at h ⊢
  rcases h with h | h
  · cases e : b.ownBlock with
    | none => exact .inl rfl
    | some k => right; rw [h]; simp
  · exact .inr fun x => h x.symm
structure Many (B : Nat) (w : World) (rs : List Row) : Prop where
  own : ∀ r ∈ rs, w.ownsRow B r.e r.size r.v r.n r.xs
  apart : rs.Pairwise fun a b => apartV a.v b.v
section
variable {B : Nat} {w w' : World} {rs l1 l2 : List Row} {r : Row}
theorem Many.call (h : Many B w rs) (hb : Below w.heap.size w w') : Many B w' rs := ⟨fun r hr => own_below (h.own r hr) hb, h.apart⟩
theorem Many.alloc (h : Many B w rs) (o : Obj) : Many B (w.alloc o) rs := ⟨fun r hr => (h.own r hr).alloc o, h.apart⟩
theorem Many.setBelow (h : Many B w rs) {p : Addr} (hp : p.block < B) (u : Value) : Many B (w.setCell p u) rs := ⟨fun r hr => ownsRow_setCell_below (h.own r hr) hp u, h.apart⟩
/-- The row at the head is written, or has grown into a new block. -/
theorem Many.grow {v' : Value} {n' : Nat} {xs' : List Value} (h : Many B w (r :: rs)) (o : Obj) (hown : w'.ownsRow B r.e r.size v' n' xs') (hg : (w.alloc o).grownBy w' r.v.ownBlock) (hat : v'.ownBlock = r.v.ownBlock ∨ v'.ownBlock = some (w.alloc o).heap.size) :
    Many B w' (⟨r.e, r.size, v', n', xs'⟩ :: rs) := by
  have ha := List.pairwise_cons.1 h.apart
  have hk : ∀ x ∈ rs, w'.ownsRow B x.e x.size x.v x.n x.xs := fun x hx => ((h.own x (List.mem_cons_of_mem _ hx)).alloc o).kept hg (ha.1 x hx).symm
  refine ⟨fun x hx => ?_, List.pairwise_cons.2 ⟨fun x hx => ?_, ha.2⟩⟩
  · rcases List.mem_cons.1 hx with rfl | hx
    · exact hown
    · exact hk x hx
  · show apartV v' x.v
    rcases hat with e | e
    · unfold apartV; rw [e]; exact ha.1 x hx
    · refine apartV.symm ?_
      unfold apartV
      rw [e]
      cases ex : x.v.ownBlock with
      | none => exact .inl rfl
      | some k =>
        right
        have := ((h.own x (List.mem_cons_of_mem _ hx)).lt k ex).2
        intro z
        have hk : k = (w.alloc o).heap.size := Option.some.inj z
        rw [World.size_alloc] at hk
        omega
/-- A store into the head row's own cells. -/
theorem Many.store {g n cap : Nat} {e : TypeId} {size : Nat} {xs : List Value} (h : Many B w (⟨e, size, .slice (some ⟨g, 0, none⟩) n cap, n, xs⟩ :: rs)) (j : Nat) (u : Value) :
    Many B (w.setCell ⟨g, j, none⟩ u) (⟨e, size, .slice (some ⟨g, 0, none⟩) n cap, n, xs.set j u⟩ :: rs) := by
  have ha := List.pairwise_cons.1 h.apart
  refine ⟨fun x hx => ?_, List.pairwise_cons.2 ⟨fun x hx => ha.1 x hx, ha.2⟩⟩
  rcases List.mem_cons.1 hx with rfl | hx
  · exact ((h.own _ List.mem_cons_self).stored j u).1
  · exact ownsRow_setCell_other (h.own x (List.mem_cons_of_mem _ hx)) (by
      rcases (ha.1 x hx).symm with e | e
      · rw [e]; simp
      · exact e) u
end
end Go.Proofs.YtdanbnolbaelhaaGreatDoor

/- The contract of scan.Lines. -/
namespace Go.Proofs.YtdanbnolbaelhaaGreatDoor
open Go.RowKit

namespace Sc
theorem own_mono {w : World} {base base' : Nat} {e : TypeId} {size : Nat} {v : Value} {n : Nat} {xs : List Value} (h : w.ownsRow base e size v n xs) (hb : base' ≤ base) : w.ownsRow base' e size v n xs := by
  refine ⟨h.1, ?_⟩
  rcases h.2 with hn | ⟨g, cap, cur, hv, h1, rest⟩
  · exact .inl hn
  · exact .inr ⟨g, cap, cur, hv, Nat.le_trans hb h1, rest⟩
theorem At.grownO {w w' : World} {h : Nat} {row : Option Nat} {xs : List Value} (a : At w h xs) (hg : w.grownBy w' row) (hne : ∀ k, row = some k → h ≠ k) : At w' h xs := by
  cases row with
  | none => exact Go.Proofs.YtdanbnolbaelhaaGreatDoor.At.grown a (g := w.heap.size) ⟨hg.os, hg.tape, hg.output, hg.size, fun k hk _ => hg.block k hk (by simp)⟩ (by have := a.lt; omega)
  | some k => exact Go.Proofs.YtdanbnolbaelhaaGreatDoor.At.grown a hg (hne k rfl)
end Sc
end Go.Proofs.YtdanbnolbaelhaaGreatDoor
