/- The contracts of package era: isTime, isDigit, Check. -/
import Derived.Test.YtajcgoinhpengaaDoorP11
import Derived.Deep.DeepCutAuto
import Derived.Test.YtajcgoinhpengaaDoorP10

namespace Go.Proofs.YtajcgoinhpengaaDoor
open Go.RowKit

theorem isTime_is (s : Int) (w : World) (b : Bool) (h : decide (IsTime s) = b) :
    Calls Tryd.prog 70 #[.int .i64 s] w fun e w' => e = .returned (.bool b) ∧ w = w' := by
  subst h
  by_cases h1 : -604800 ≤ s
  · by_cases h2 : s ≤ 604800
    · rw [decide_eq_true (show IsTime s from ⟨h1, h2⟩)]
      go_enter Tryd.func70, Tryd.ntmps70
      go_wp2
      go_ret
      exact ⟨rfl, rfl⟩
    · rw [decide_eq_false (show ¬ IsTime s from fun x => h2 x.2)]
      go_enter Tryd.func70, Tryd.ntmps70
      go_wp2
      go_ret
      exact ⟨rfl, rfl⟩
  · rw [decide_eq_false (show ¬ IsTime s from fun x => h1 x.1)]
    go_enter Tryd.func70, Tryd.ntmps70
    go_wp2
    go_ret
    exact ⟨rfl, rfl⟩
namespace Er
def kindB (k sv : Int) (ru : ByteArray) : Bool := decide ((k = 0 ∧ sv = 0 ∧ ru = ⟨#[]⟩) ∨ (k = 1 ∧ IsTime sv ∧ ru = ⟨#[]⟩) ∨ (k = 2 ∧ sv = 0 ∧ Ru.name (tl ru) = true))
noncomputable instance decUOk (u : Mo.U) : Decidable u.Ok := Classical.propDecidable _
/-- What a check says of an era. -/
noncomputable def chk (e : E) : Int := if IsTime e.std ∧ Ab.fmt e.fm = true ∧ kindB e.k e.sv e.ru = true then (if e.en = true then (if e.u.Ok then 0 else 2) else (if e.u = Mo.U.zero then 0 else 2)) else 2
theorem chk_ok (e : E) (h : e.Ok) : chk e = 0 := by
  obtain ⟨h1, h2, h3, h4, h5⟩ := h
  unfold chk kindB
  rw [if_pos ⟨h1, h2, decide_eq_true h3⟩]
  cases hx : e.en
  · rw [if_neg (by decide), if_pos (h5 hx)]
  · rw [if_pos rfl, if_pos (h4 hx)]
theorem chk_bad (e : E) (h : ¬ e.Ok) : chk e = 2 := by
  unfold chk
  by_cases h1 : IsTime e.std ∧ Ab.fmt e.fm = true ∧ kindB e.k e.sv e.ru = true
  · rw [if_pos h1]
    unfold kindB at h1
    rw [decide_eq_true_eq] at h1
    cases hx : e.en
    · rw [if_neg (by decide), if_neg (fun hu => h ⟨h1.1, h1.2.1, h1.2.2, fun y => (by rw [hx] at y; cases y), fun _ => hu⟩)]
    · rw [if_pos rfl, if_neg (fun hu => h ⟨h1.1, h1.2.1, h1.2.2, fun _ => hu, fun y => (by rw [hx] at y; cases y)⟩)]
  · rw [if_neg h1]
end Er
def Er.At13 (w : World) (cs : List Value) (t : Value) (b : Bool) (wx : World) : Prop := t = .bool b ∧ Hid (At wx w.heap.size cs) ∧ Hid (Below w.heap.size w wx)
set_option maxHeartbeats 4000000 in
set_option maxRecDepth 100000 in
theorem eraCheck_any (e : Er.E) (w : World) (hW : Wa w) (hs1 : e.fm.size ≤ maxLen) (hs2 : e.ru.size ≤ maxLen) :
    Calls Tryd.prog 51 #[e.v] w fun r w' => r = .returned (.int .i64 (Er.chk e)) ∧ Below w.heap.size w w' := by
  obtain ⟨X, hX⟩ : ∃ X, Er.chk e = X := ⟨_, rfl⟩
  rw [hX]
  obtain ⟨std, k, sv, ru, fm, en, ⟨y, m, dk, dn, dd, s, c⟩⟩ := e
  unfold Er.E.v
  simp only at hs1 hs2 ⊢
  unfold Er.chk at hX
  simp only at hX
  have HW := Lib.hid hW
  have HA := Lib.hid (At.new w #[.int .i64 std, .int .u8 k, .int .i64 sv, .string ru, .string fm, .bool en, .int .i64 y, .int .i64 m, .int .u8 dk, .int .i64 dn, .int .i64 dd, .int .i64 s, .int .u8 c] 65)
  have HB := Lib.hid ((Below.refl w.heap.size w).alloc (Nat.le_refl _) (.cells #[.int .i64 std, .int .u8 k, .int .i64 sv, .string ru, .string fm, .bool en, .int .i64 y, .int .i64 m, .int .u8 dk, .int .i64 dn, .int .i64 dd, .int .i64 s, .int .u8 c] 65))
  clear hW
  cases hst : decide (IsTime std)
  · have HI := Lib.hid fun W => isTime_is std W false hst
    have HX : Hid (X = 2) := by show X = 2; rw [← hX, if_neg (fun x => of_decide_eq_false hst x.1)]
    clear hst hX
    go_enter Tryd.func51, Tryd.ntmps51
    go_wp2_with fail
    refine (HI.out _).mono ?_
    rintro e w1 ⟨rfl, rfl⟩
    go_wp2
    go_ret
    exact ⟨ret_int (by rw [HX.out]), HB.out⟩
  have HI := Lib.hid fun W => isTime_is std W true hst
  cases hfm : Ab.fmt fm
  · have HF := Lib.hid fun W hw => abbrCheck_all fm W hw hs1 false hfm
    have HX : Hid (X = 2) := by show X = 2; rw [← hX, if_neg (fun x => by have := x.2.1; rw [hfm] at this; cases this)]
    clear hst hX hfm
    go_enter Tryd.func51, Tryd.ntmps51
    go_wp2_with fail
    refine (HI.out _).mono ?_
    rintro e w1 ⟨rfl, rfl⟩
    go_wp2_with fail
    refine (HF.out _ (HW.out.below HB.out)).mono ?_
    rintro e w1 ⟨rfl, hb⟩
    go_wp2
    go_ret
    exact ⟨ret_int (by rw [HX.out]), below_then HB.out hb⟩
  have HF := Lib.hid fun W hw => abbrCheck_all fm W hw hs1 true hfm
  obtain ⟨K, hK⟩ : ∃ K, Er.kindB k sv ru = K := ⟨_, rfl⟩
  have hX2 : X = if K = true then (if en = true then (if Mo.U.Ok ⟨y, m, dk, dn, dd, s, c⟩ then 0 else 2) else (if (⟨y, m, dk, dn, dd, s, c⟩ : Mo.U) = Mo.U.zero then 0 else 2)) else 2 := by
    rw [← hX, hK]
    cases K
    · rw [if_neg (fun x => by cases x.2.2), if_neg (by decide)]
    · rw [if_pos ⟨of_decide_eq_true hst, hfm, rfl⟩, if_pos rfl]
  have HX := Lib.hid hX2
  have HK := Lib.hid hK
  clear hst hX hfm hX2 hK
  go_enter Tryd.func51, Tryd.ntmps51
  go_wp2_with fail
  refine (HI.out _).mono ?_
  rintro e w1 ⟨rfl, rfl⟩
  go_wp2_with fail
  refine (HF.out _ (HW.out.below HB.out)).mono ?_
  rintro e w1 ⟨rfl, hb⟩
  have HA1 := Lib.hid (HA.out.call hb)
  replace HB := Lib.hid (below_then HB.out hb)
  clear hb HI HF HA
  have q0 := HA1.out.cell 0 _ rfl
  have q1 := HA1.out.cell 1 _ rfl
  have q2 := HA1.out.cell 2 _ rfl
  have q3 := HA1.out.cell 3 _ rfl
  have q4 := HA1.out.cell 4 _ rfl
  have q5 := HA1.out.cell 5 _ rfl
  have q6 := HA1.out.cell 6 _ rfl
  have q7 := HA1.out.cell 7 _ rfl
  have q8 := HA1.out.cell 8 _ rfl
  have q9 := HA1.out.cell 9 _ rfl
  have q10 := HA1.out.cell 10 _ rfl
  have q11 := HA1.out.cell 11 _ rfl
  have q12 := HA1.out.cell 12 _ rfl
  go_upto_if 16 with fail
  by_cases k0 : k = 0
  · have p0 : (k == 0) = true := by rw [beq_iff_eq]; exact k0
    subst k0
    by_cases v0 : sv = 0
    · have p1 : (sv == 0) = true := by rw [beq_iff_eq]; exact v0
      subst v0
      by_cases u0 : ru = ⟨#[]⟩
      · have HKx : Hid (K = true) := by show K = true; rw [← HK.out]; exact decide_eq_true (.inl ⟨rfl, rfl, u0⟩)
        have p2 : ru.toList.isEmpty = true := by rw [u0, ByteArray.toList_eq]; rfl
        clear u0
        cases en
        · by_cases hz : (⟨y, m, dk, dn, dd, s, c⟩ : Mo.U) = Mo.U.zero
          · have HX3 : Hid (X = 0) := by show X = 0; rw [HX.out, if_pos HKx.out, if_neg (by decide), if_pos hz]
            unfold Mo.U.zero at hz
            injection hz with z0 z1 z2 z3 z4 z5 z6
            subst z0 z1 z2 z3 z4 z5 z6
            clear HX
            go_wp2
            go_ret
            exact ⟨ret_int (by rw [HX3.out]), HB.out⟩
          · have HX3 : Hid (X = 2) := by show X = 2; rw [HX.out, if_pos HKx.out, if_neg (by decide), if_neg hz]
            clear HX
            by_cases d0 : y = 0
            · subst d0
              by_cases d1 : m = 0
              · subst d1
                by_cases d2 : dk = 0
                · subst d2
                  by_cases d3 : dn = 0
                  · subst d3
                    by_cases d4 : dd = 0
                    · subst d4
                      by_cases d5 : s = 0
                      · subst d5
                        by_cases d6 : c = 0
                        · subst d6
                          exact (hz rfl).elim
                        · have b6 : (c == 0) = false := by rw [beq_eq_false_iff_ne]; exact d6
                          clear hz
                          as_aux_lemma =>
                          go_wp2
                          go_ret
                          exact ⟨ret_int (by rw [HX3.out]), HB.out⟩
                      · have b5 : (s == 0) = false := by rw [beq_eq_false_iff_ne]; exact d5
                        clear hz
                        as_aux_lemma =>
                        go_wp2
                        go_ret
                        exact ⟨ret_int (by rw [HX3.out]), HB.out⟩
                    · have b4 : (dd == 0) = false := by rw [beq_eq_false_iff_ne]; exact d4
                      clear hz
                      as_aux_lemma =>
                      go_wp2
                      go_ret
                      exact ⟨ret_int (by rw [HX3.out]), HB.out⟩
                  · have b3 : (dn == 0) = false := by rw [beq_eq_false_iff_ne]; exact d3
                    clear hz
                    as_aux_lemma =>
                    go_wp2
                    go_ret
                    exact ⟨ret_int (by rw [HX3.out]), HB.out⟩
                · have b2 : (dk == 0) = false := by rw [beq_eq_false_iff_ne]; exact d2
                  clear hz
                  as_aux_lemma =>
                  go_wp2
                  go_ret
                  exact ⟨ret_int (by rw [HX3.out]), HB.out⟩
              · have b1 : (m == 0) = false := by rw [beq_eq_false_iff_ne]; exact d1
                clear hz
                as_aux_lemma =>
                go_wp2
                go_ret
                exact ⟨ret_int (by rw [HX3.out]), HB.out⟩
            · have b0 : (y == 0) = false := by rw [beq_eq_false_iff_ne]; exact d0
              clear hz
              as_aux_lemma =>
              go_wp2
              go_ret
              exact ⟨ret_int (by rw [HX3.out]), HB.out⟩
        · by_cases hu : Mo.U.Ok ⟨y, m, dk, dn, dd, s, c⟩
          · have HX3 : Hid (X = 0) := by show X = 0; rw [HX.out, if_pos HKx.out, if_pos rfl, if_pos hu]
            have HU := Lib.hid fun W => checkUntil_ok ⟨y, m, dk, dn, dd, s, c⟩ W hu
            unfold Mo.U.v at HU
            clear HX hu
            go_wp2_with fail
            refine (HU.out _).mono ?_
            rintro e w2 ⟨rfl, hb⟩
            go_wp2
            go_ret
            exact ⟨ret_int (by rw [HX3.out]), below_then HB.out hb⟩
          · have HX3 : Hid (X = 2) := by show X = 2; rw [HX.out, if_pos HKx.out, if_pos rfl, if_neg hu]
            have HU := Lib.hid fun W => checkUntil_bad ⟨y, m, dk, dn, dd, s, c⟩ W hu
            unfold Mo.U.v at HU
            clear HX hu
            go_wp2_with fail
            refine (HU.out _).mono ?_
            rintro e w2 ⟨rfl, hb⟩
            go_wp2
            go_ret
            exact ⟨ret_int (by rw [HX3.out]), below_then HB.out hb⟩
      · have HKx : Hid (K = false) := by show K = false; rw [← HK.out]; exact decide_eq_false (fun h => h.elim (fun h => u0 h.2.2) fun h => h.elim (fun h => absurd h.1 (by decide)) fun h => absurd h.1 (by decide))
        have p2 : ru.toList.isEmpty = false := empty_no ru u0
        clear u0
        have HX3 : Hid (X = 2) := by show X = 2; rw [HX.out, if_neg (by rw [HKx.out]; decide)]
        go_wp2
        go_ret
        exact ⟨ret_int (by rw [HX3.out]), HB.out⟩
    · have HKx : Hid (K = false) := by show K = false; rw [← HK.out]; exact decide_eq_false (fun h => h.elim (fun h => v0 h.2.1) fun h => h.elim (fun h => absurd h.1 (by decide)) fun h => absurd h.1 (by decide))
      have p1 : (sv == 0) = false := by rw [beq_eq_false_iff_ne]; exact v0
      clear v0
      have HX3 : Hid (X = 2) := by show X = 2; rw [HX.out, if_neg (by rw [HKx.out]; decide)]
      go_wp2
      go_ret
      exact ⟨ret_int (by rw [HX3.out]), HB.out⟩
  have p0 : (k == 0) = false := by rw [beq_eq_false_iff_ne]; exact k0
  by_cases k1 : k = 1
  · have p1 : (k == 1) = true := by rw [beq_iff_eq]; exact k1
    cases ht : decide (IsTime sv)
    · have HJ := Lib.hid fun W => isTime_is sv W false ht
      have HKx : Hid (K = false) := by show K = false; rw [← HK.out]; exact decide_eq_false (fun h => h.elim (fun h => k0 h.1) fun h => h.elim (fun h => of_decide_eq_false ht h.2.1) fun h => absurd (k1.symm.trans h.1) (by decide))
      clear ht k0 k1
      go_wp2_with fail
      refine (HJ.out _).mono ?_
      rintro e w2 ⟨rfl, rfl⟩
      have HX3 : Hid (X = 2) := by show X = 2; rw [HX.out, if_neg (by rw [HKx.out]; decide)]
      go_wp2
      go_ret
      exact ⟨ret_int (by rw [HX3.out]), HB.out⟩
    · have HJ := Lib.hid fun W => isTime_is sv W true ht
      by_cases u0 : ru = ⟨#[]⟩
      · have HKx : Hid (K = true) := by show K = true; rw [← HK.out]; exact decide_eq_true (.inr (.inl ⟨k1, of_decide_eq_true ht, u0⟩))
        have p2 : ru.toList.isEmpty = true := by rw [u0, ByteArray.toList_eq]; rfl
        clear u0 ht k0 k1
        go_wp2_with fail
        refine (HJ.out _).mono ?_
        rintro e w2 ⟨rfl, rfl⟩
        cases en
        · by_cases hz : (⟨y, m, dk, dn, dd, s, c⟩ : Mo.U) = Mo.U.zero
          · have HX3 : Hid (X = 0) := by show X = 0; rw [HX.out, if_pos HKx.out, if_neg (by decide), if_pos hz]
            unfold Mo.U.zero at hz
            injection hz with z0 z1 z2 z3 z4 z5 z6
            subst z0 z1 z2 z3 z4 z5 z6
            clear HX
            go_wp2
            go_ret
            exact ⟨ret_int (by rw [HX3.out]), HB.out⟩
          · have HX3 : Hid (X = 2) := by show X = 2; rw [HX.out, if_pos HKx.out, if_neg (by decide), if_neg hz]
            clear HX
            by_cases d0 : y = 0
            · subst d0
              by_cases d1 : m = 0
              · subst d1
                by_cases d2 : dk = 0
                · subst d2
                  by_cases d3 : dn = 0
                  · subst d3
                    by_cases d4 : dd = 0
                    · subst d4
                      by_cases d5 : s = 0
                      · subst d5
                        by_cases d6 : c = 0
                        · subst d6
                          exact (hz rfl).elim
                        · have b6 : (c == 0) = false := by rw [beq_eq_false_iff_ne]; exact d6
                          clear hz
                          as_aux_lemma =>
                          go_wp2
                          go_ret
                          exact ⟨ret_int (by rw [HX3.out]), HB.out⟩
                      · have b5 : (s == 0) = false := by rw [beq_eq_false_iff_ne]; exact d5
                        clear hz
                        as_aux_lemma =>
                        go_wp2
                        go_ret
                        exact ⟨ret_int (by rw [HX3.out]), HB.out⟩
                    · have b4 : (dd == 0) = false := by rw [beq_eq_false_iff_ne]; exact d4
                      clear hz
                      as_aux_lemma =>
                      go_wp2
                      go_ret
                      exact ⟨ret_int (by rw [HX3.out]), HB.out⟩
                  · have b3 : (dn == 0) = false := by rw [beq_eq_false_iff_ne]; exact d3
                    clear hz
                    as_aux_lemma =>
                    go_wp2
                    go_ret
                    exact ⟨ret_int (by rw [HX3.out]), HB.out⟩
                · have b2 : (dk == 0) = false := by rw [beq_eq_false_iff_ne]; exact d2
                  clear hz
                  as_aux_lemma =>
                  go_wp2
                  go_ret
                  exact ⟨ret_int (by rw [HX3.out]), HB.out⟩
              · have b1 : (m == 0) = false := by rw [beq_eq_false_iff_ne]; exact d1
                clear hz
                as_aux_lemma =>
                go_wp2
                go_ret
                exact ⟨ret_int (by rw [HX3.out]), HB.out⟩
            · have b0 : (y == 0) = false := by rw [beq_eq_false_iff_ne]; exact d0
              clear hz
              as_aux_lemma =>
              go_wp2
              go_ret
              exact ⟨ret_int (by rw [HX3.out]), HB.out⟩
        · by_cases hu : Mo.U.Ok ⟨y, m, dk, dn, dd, s, c⟩
          · have HX3 : Hid (X = 0) := by show X = 0; rw [HX.out, if_pos HKx.out, if_pos rfl, if_pos hu]
            have HU := Lib.hid fun W => checkUntil_ok ⟨y, m, dk, dn, dd, s, c⟩ W hu
            unfold Mo.U.v at HU
            clear HX hu
            go_wp2_with fail
            refine (HU.out _).mono ?_
            rintro e w2 ⟨rfl, hb⟩
            go_wp2
            go_ret
            exact ⟨ret_int (by rw [HX3.out]), below_then HB.out hb⟩
          · have HX3 : Hid (X = 2) := by show X = 2; rw [HX.out, if_pos HKx.out, if_pos rfl, if_neg hu]
            have HU := Lib.hid fun W => checkUntil_bad ⟨y, m, dk, dn, dd, s, c⟩ W hu
            unfold Mo.U.v at HU
            clear HX hu
            go_wp2_with fail
            refine (HU.out _).mono ?_
            rintro e w2 ⟨rfl, hb⟩
            go_wp2
            go_ret
            exact ⟨ret_int (by rw [HX3.out]), below_then HB.out hb⟩
      · have HKx : Hid (K = false) := by show K = false; rw [← HK.out]; exact decide_eq_false (fun h => h.elim (fun h => k0 h.1) fun h => h.elim (fun h => u0 h.2.2) fun h => absurd (k1.symm.trans h.1) (by decide))
        have p2 : ru.toList.isEmpty = false := empty_no ru u0
        clear u0 ht k0 k1
        go_wp2_with fail
        refine (HJ.out _).mono ?_
        rintro e w2 ⟨rfl, rfl⟩
        have HX3 : Hid (X = 2) := by show X = 2; rw [HX.out, if_neg (by rw [HKx.out]; decide)]
        go_wp2
        go_ret
        exact ⟨ret_int (by rw [HX3.out]), HB.out⟩
  have p1 : (k == 1) = false := by rw [beq_eq_false_iff_ne]; exact k1
  by_cases k2 : k = 2
  · have p2 : (k == 2) = true := by rw [beq_iff_eq]; exact k2
    by_cases v0 : sv = 0
    · have p3 : (sv == 0) = true := by rw [beq_iff_eq]; exact v0
      cases hn : Ru.name (tl ru)
      · have HN := Lib.hid fun W => calls_bool (name_all ru W hs2) hn
        have HKx : Hid (K = false) := by show K = false; rw [← HK.out]; exact decide_eq_false (fun h => h.elim (fun h => k0 h.1) fun h => h.elim (fun h => k1 h.1) fun h => by rw [hn] at h; cases h.2.2)
        clear hn k0 k1 k2 v0
        go_wp2_with fail
        refine (HN.out _).mono ?_
        rintro e w2 ⟨rfl, hb⟩
        have HA3 := Lib.hid (HA1.out.call hb)
        replace HB := Lib.hid (below_then HB.out hb)
        clear hb q0 q1 q2 q3 q4 q5 q6 q7 q8 q9 q10 q11 q12
        have q0 := HA3.out.cell 0 _ rfl
        have q1 := HA3.out.cell 1 _ rfl
        have q2 := HA3.out.cell 2 _ rfl
        have q3 := HA3.out.cell 3 _ rfl
        have q4 := HA3.out.cell 4 _ rfl
        have q5 := HA3.out.cell 5 _ rfl
        have q6 := HA3.out.cell 6 _ rfl
        have q7 := HA3.out.cell 7 _ rfl
        have q8 := HA3.out.cell 8 _ rfl
        have q9 := HA3.out.cell 9 _ rfl
        have q10 := HA3.out.cell 10 _ rfl
        have q11 := HA3.out.cell 11 _ rfl
        have q12 := HA3.out.cell 12 _ rfl
        have HX3 : Hid (X = 2) := by show X = 2; rw [HX.out, if_neg (by rw [HKx.out]; decide)]
        go_wp2
        go_ret
        exact ⟨ret_int (by rw [HX3.out]), HB.out⟩
      · have HN := Lib.hid fun W => calls_bool (name_all ru W hs2) hn
        have HKx : Hid (K = true) := by show K = true; rw [← HK.out]; exact decide_eq_true (.inr (.inr ⟨k2, v0, hn⟩))
        clear hn k0 k1 k2 v0
        go_wp2_with fail
        refine (HN.out _).mono ?_
        rintro e w2 ⟨rfl, hb⟩
        have HA3 := Lib.hid (HA1.out.call hb)
        replace HB := Lib.hid (below_then HB.out hb)
        clear hb q0 q1 q2 q3 q4 q5 q6 q7 q8 q9 q10 q11 q12
        have q0 := HA3.out.cell 0 _ rfl
        have q1 := HA3.out.cell 1 _ rfl
        have q2 := HA3.out.cell 2 _ rfl
        have q3 := HA3.out.cell 3 _ rfl
        have q4 := HA3.out.cell 4 _ rfl
        have q5 := HA3.out.cell 5 _ rfl
        have q6 := HA3.out.cell 6 _ rfl
        have q7 := HA3.out.cell 7 _ rfl
        have q8 := HA3.out.cell 8 _ rfl
        have q9 := HA3.out.cell 9 _ rfl
        have q10 := HA3.out.cell 10 _ rfl
        have q11 := HA3.out.cell 11 _ rfl
        have q12 := HA3.out.cell 12 _ rfl
        cases en
        · by_cases hz : (⟨y, m, dk, dn, dd, s, c⟩ : Mo.U) = Mo.U.zero
          · have HX3 : Hid (X = 0) := by show X = 0; rw [HX.out, if_pos HKx.out, if_neg (by decide), if_pos hz]
            unfold Mo.U.zero at hz
            injection hz with z0 z1 z2 z3 z4 z5 z6
            subst z0 z1 z2 z3 z4 z5 z6
            clear HX
            go_wp2
            go_ret
            exact ⟨ret_int (by rw [HX3.out]), HB.out⟩
          · have HX3 : Hid (X = 2) := by show X = 2; rw [HX.out, if_pos HKx.out, if_neg (by decide), if_neg hz]
            clear HX
            by_cases d0 : y = 0
            · subst d0
              by_cases d1 : m = 0
              · subst d1
                by_cases d2 : dk = 0
                · subst d2
                  by_cases d3 : dn = 0
                  · subst d3
                    by_cases d4 : dd = 0
                    · subst d4
                      by_cases d5 : s = 0
                      · subst d5
                        by_cases d6 : c = 0
                        · subst d6
                          exact (hz rfl).elim
                        · have b6 : (c == 0) = false := by rw [beq_eq_false_iff_ne]; exact d6
                          clear hz
                          as_aux_lemma =>
                          go_wp2
                          go_ret
                          exact ⟨ret_int (by rw [HX3.out]), HB.out⟩
                      · have b5 : (s == 0) = false := by rw [beq_eq_false_iff_ne]; exact d5
                        clear hz
                        as_aux_lemma =>
                        go_wp2
                        go_ret
                        exact ⟨ret_int (by rw [HX3.out]), HB.out⟩
                    · have b4 : (dd == 0) = false := by rw [beq_eq_false_iff_ne]; exact d4
                      clear hz
                      as_aux_lemma =>
                      go_wp2
                      go_ret
                      exact ⟨ret_int (by rw [HX3.out]), HB.out⟩
                  · have b3 : (dn == 0) = false := by rw [beq_eq_false_iff_ne]; exact d3
                    clear hz
                    as_aux_lemma =>
                    go_wp2
                    go_ret
                    exact ⟨ret_int (by rw [HX3.out]), HB.out⟩
                · have b2 : (dk == 0) = false := by rw [beq_eq_false_iff_ne]; exact d2
                  clear hz
                  as_aux_lemma =>
                  go_wp2
                  go_ret
                  exact ⟨ret_int (by rw [HX3.out]), HB.out⟩
              · have b1 : (m == 0) = false := by rw [beq_eq_false_iff_ne]; exact d1
                clear hz
                as_aux_lemma =>
                go_wp2
                go_ret
                exact ⟨ret_int (by rw [HX3.out]), HB.out⟩
            · have b0 : (y == 0) = false := by rw [beq_eq_false_iff_ne]; exact d0
              clear hz
              as_aux_lemma =>
              go_wp2
              go_ret
              exact ⟨ret_int (by rw [HX3.out]), HB.out⟩
        · by_cases hu : Mo.U.Ok ⟨y, m, dk, dn, dd, s, c⟩
          · have HX3 : Hid (X = 0) := by show X = 0; rw [HX.out, if_pos HKx.out, if_pos rfl, if_pos hu]
            have HU := Lib.hid fun W => checkUntil_ok ⟨y, m, dk, dn, dd, s, c⟩ W hu
            unfold Mo.U.v at HU
            clear HX hu
            go_wp2_with fail
            refine (HU.out _).mono ?_
            rintro e w2 ⟨rfl, hb⟩
            go_wp2
            go_ret
            exact ⟨ret_int (by rw [HX3.out]), below_then HB.out hb⟩
          · have HX3 : Hid (X = 2) := by show X = 2; rw [HX.out, if_pos HKx.out, if_pos rfl, if_neg hu]
            have HU := Lib.hid fun W => checkUntil_bad ⟨y, m, dk, dn, dd, s, c⟩ W hu
            unfold Mo.U.v at HU
            clear HX hu
            go_wp2_with fail
            refine (HU.out _).mono ?_
            rintro e w2 ⟨rfl, hb⟩
            go_wp2
            go_ret
            exact ⟨ret_int (by rw [HX3.out]), below_then HB.out hb⟩
    · have HKx : Hid (K = false) := by show K = false; rw [← HK.out]; exact decide_eq_false (fun h => h.elim (fun h => k0 h.1) fun h => h.elim (fun h => k1 h.1) fun h => v0 h.2.1)
      have p3 : (sv == 0) = false := by rw [beq_eq_false_iff_ne]; exact v0
      clear k0 k1 k2 v0
      have HX3 : Hid (X = 2) := by show X = 2; rw [HX.out, if_neg (by rw [HKx.out]; decide)]
      go_wp2
      go_ret
      exact ⟨ret_int (by rw [HX3.out]), HB.out⟩
  · have HKx : Hid (K = false) := by show K = false; rw [← HK.out]; exact decide_eq_false (fun h => h.elim (fun h => k0 h.1) fun h => h.elim (fun h => k1 h.1) fun h => k2 h.1)
    have p2 : (k == 2) = false := by rw [beq_eq_false_iff_ne]; exact k2
    clear k0 k1 k2
    have HX3 : Hid (X = 2) := by show X = 2; rw [HX.out, if_neg (by rw [HKx.out]; decide)]
    go_wp2
    go_ret
    exact ⟨ret_int (by rw [HX3.out]), HB.out⟩
theorem eraCheck_ok (e : Er.E) (w : World) (hW : Wa w) (h : e.Ok) (hs1 : e.fm.size ≤ 1000000) (hs2 : e.ru.size ≤ 1000000) :
    Calls Tryd.prog 51 #[e.v] w fun r w' => r = .returned (.int .i64 0) ∧ Below w.heap.size w w' := calls_int (eraCheck_any e w hW (by unfold maxLen; omega) (by unfold maxLen; omega)) (Er.chk_ok e h)
theorem eraCheck_bad (e : Er.E) (w : World) (hW : Wa w) (h : ¬ e.Ok) (hs1 : e.fm.size ≤ maxLen) (hs2 : e.ru.size ≤ maxLen) :
    Calls Tryd.prog 51 #[e.v] w fun r w' => r = .returned (.int .i64 2) ∧ Below w.heap.size w w' := calls_int (eraCheck_any e w hW hs1 hs2) (Er.chk_bad e h)
end Go.Proofs.YtajcgoinhpengaaDoor

/- Plain law of rules: a right rule is read from its texts; what is read is right. -/
namespace Go.Proofs.YtajcgoinhpengaaDoor
open Go.RowKit

namespace Ru
theorem pick_digit (c : UInt8) (l : List UInt8) (h1 : 48 ≤ c.toNat) (h2 : c.toNat ≤ 57) : Wd.pick (c :: l) [tl only, tl maximum] = -1 := by
  have hlow : Wd.low c = c := by
    unfold Wd.low
    rw [if_neg]
    intro x
    have := x.1
    rw [UInt8.le_iff_toNat_le] at this
    have e : (65 : UInt8).toNat = 65 := rfl
    omega
  have hb : ∀ (d : UInt8) (m : List UInt8), 97 ≤ d.toNat → d.toNat ≤ 122 → Wd.begins (d :: m) (c :: l) = false := by
    intro d m d1 d2
    unfold Wd.begins Wd.same Wd.lows
    rw [Bool.and_eq_false_iff]
    right
    rw [decide_eq_false_iff_not]
    simp only [List.length_cons, List.take_succ_cons, List.map_cons]
    intro e
    have e1 := (List.cons.inj e).1
    rw [hlow] at e1
    have hd : Wd.low d = d := by
      unfold Wd.low
      rw [if_neg]
      intro x
      have := x.2
      rw [UInt8.le_iff_toNat_le] at this
      have e : (90 : UInt8).toNat = 90 := rfl
      omega
    rw [hd] at e1
    rw [e1] at d1
    omega
  unfold Wd.pick
  rw [if_neg (by simp)]
  have e1 : tl only = 111 :: [110, 108, 121] := rfl
  have e2 : tl maximum = 109 :: [97, 120, 105, 109, 117, 109] := rfl
  rw [e1, e2]
  simp only [Wd.pickLoop, hb 111 _ (by decide) (by decide), hb 109 _ (by decide) (by decide)]
  simp
theorem dec_head (n : Nat) : ∃ (k : Nat) (l : List UInt8), Lib.decDigits n = UInt8.ofNat (48 + k) :: l ∧ k < 10 := by
  induction n using Nat.strongRecOn with
  | _ n ih =>
    rw [Lib.decDigits]
    by_cases h : n < 10
    · rw [dif_pos h]; exact ⟨n, [], rfl, h⟩
    · rw [dif_neg h]
      obtain ⟨k, l, e, hk⟩ := ih (n / 10) (by omega)
      rw [e]
      exact ⟨k, l ++ [UInt8.ofNat (48 + n % 10)], rfl, hk⟩
theorem pick_itoa (y : Int) (h : 0 ≤ y) : Wd.pick (Lib.itoa y) [tl only, tl maximum] = -1 := by
  unfold Lib.itoa
  rw [if_neg (by omega)]
  obtain ⟨k, l, e, hk⟩ := dec_head y.toNat
  rw [e]
  have hu := u8_of (48 + k) (by omega)
  exact pick_digit _ l (by rw [hu]; omega) (by rw [hu]; omega)
theorem to_last (r : R) (h1 : 1 ≤ r.fr) (h2 : r.fr ≤ r.tt) (h3 : r.tt ≤ 9999) : toS r.last r.fr = (r.tt, 0) := by
  unfold R.last
  by_cases ha : r.tt = r.fr
  · rw [if_pos ha]
    unfold toS
    rw [if_pos (by decide +kernel), ha]
  · rw [if_neg ha]
    by_cases hb : r.tt = 9999
    · rw [if_pos hb]
      unfold toS
      rw [if_neg (by decide +kernel), if_pos (by decide +kernel), hb]
    · rw [if_neg hb]
      unfold toS
      rw [tl_mk, pick_itoa r.tt (by omega), if_neg (by decide), if_neg (by decide), Mo.year_itoa r.tt (by omega) h3, if_pos (Mo.yearB_of r.tt (by omega) h3), Mo.yearV_of r.tt (by omega), if_pos h2]
theorem text_dash (s : Int) (h : IsTime s) : ¬ (⟨(Ck.text s).toArray⟩ : ByteArray) = ⟨#[45]⟩ := by
  obtain ⟨X, k, hX, _, hl⟩ := Mo.text_last s h
  exact Mo.ne_dash _ (by rw [hX]; simp; omega)
theorem lett_step (r : R) (v : R) (h : Ab.letter r.lt = true) (hv : v.lt = ⟨#[]⟩) : rstep 8 v r.lett = (⟨v.nm, v.fr, v.tt, v.mo, v.k, v.n, v.d, v.s, v.c, v.sv, r.lt⟩, 0) := by
  unfold rstep R.lett
  rw [if_neg (by omega), if_neg (by omega), if_neg (by omega), if_neg (by omega), if_neg (by omega), if_neg (by omega), if_neg (by omega), if_neg (by omega)]
  by_cases he : r.lt = ⟨#[]⟩
  · rw [if_pos he, if_pos rfl, he, ← hv]
  · rw [if_neg he]
    have hd : ¬ r.lt = ⟨#[45]⟩ := by
      intro x
      unfold Ab.letter at h
      rw [x] at h
      simp at h
    rw [if_neg hd, if_pos h]
section
variable (r : R)
theorem run_texts (h : r.Ok) (hc : 0 ≤ r.c) : ∀ j, j ≤ 9 → run (r.texts.take j) 0 R.zero =
    (⟨if 1 ≤ j then r.nm else R.zero.nm, if 2 ≤ j then r.fr else 0, if 3 ≤ j then r.tt else 0, if 5 ≤ j then r.mo else 0, if 6 ≤ j then r.k else 0, if 6 ≤ j then r.n else 0, if 6 ≤ j then r.d else 0, if 7 ≤ j then r.s else 0, if 7 ≤ j then r.c else 0, if 8 ≤ j then r.sv else 0, if 9 ≤ j then r.lt else R.zero.lt⟩, 0, 0) := by
  obtain ⟨h1, ⟨h2, h3, h4⟩, ⟨h5, h6⟩, hd, hm, hv, hl⟩ := h
  have s0 : ∀ v : R, rstep 0 v r.nm = (⟨r.nm, v.fr, v.tt, v.mo, v.k, v.n, v.d, v.s, v.c, v.sv, v.lt⟩, 0) := fun v => by unfold rstep; rw [if_pos rfl, if_pos h1]
  have s1 : ∀ v : R, rstep 1 v ⟨(Lib.itoa r.fr).toArray⟩ = (⟨v.nm, r.fr, v.tt, v.mo, v.k, v.n, v.d, v.s, v.c, v.sv, v.lt⟩, 0) := fun v => by
    unfold rstep; rw [if_neg (by omega), if_pos rfl, tl_mk, Mo.year_itoa r.fr h2 (by omega), Mo.yearV_of r.fr h2, if_pos (Mo.yearB_of r.fr h2 (by omega))]
  have s2 : ∀ v : R, v.fr = r.fr → rstep 2 v r.last = (⟨v.nm, v.fr, r.tt, v.mo, v.k, v.n, v.d, v.s, v.c, v.sv, v.lt⟩, 0) := fun v e => by
    unfold rstep; rw [if_neg (by omega), if_neg (by omega), if_pos rfl, e, to_last r h2 h3 h4]
  have s3 : ∀ v : R, rstep 3 v ⟨#[45]⟩ = (v, 0) := fun v => by
    unfold rstep; rw [if_neg (by omega), if_neg (by omega), if_neg (by omega), if_pos rfl, if_pos rfl]
  have s4 : ∀ v : R, rstep 4 v (textOf Months (r.mo - 1)) = (⟨v.nm, v.fr, v.tt, r.mo, v.k, v.n, v.d, v.s, v.c, v.sv, v.lt⟩, 0) := fun v => by
    unfold rstep; rw [if_neg (by omega), if_neg (by omega), if_neg (by omega), if_neg (by omega), if_pos rfl, Mo.pick_month r.mo h5 h6, if_neg (by omega)]
  have s5 : ∀ v : R, rstep 5 v ⟨(Dy.text r.k r.n r.d).toArray⟩ = (⟨v.nm, v.fr, v.tt, v.mo, r.k, r.n, r.d, v.s, v.c, v.sv, v.lt⟩, 0) := fun v => by
    unfold rstep; rw [if_neg (by omega), if_neg (by omega), if_neg (by omega), if_neg (by omega), if_neg (by omega), if_pos rfl, tl_mk, Dy.told_text r.k r.n r.d hd]
    simp only
    rw [if_pos hd]
  have s6 : ∀ v : R, rstep 6 v ⟨(Mo.text r.s r.c).toArray⟩ = (⟨v.nm, v.fr, v.tt, v.mo, v.k, v.n, v.d, r.s, r.c, v.sv, v.lt⟩, 0) := fun v => by
    unfold rstep; rw [if_neg (by omega), if_neg (by omega), if_neg (by omega), if_neg (by omega), if_neg (by omega), if_neg (by omega), if_pos rfl, Mo.parse_text r.s r.c hm hc]
  have s7 : ∀ v : R, rstep 7 v ⟨(Ck.text r.sv).toArray⟩ = (⟨v.nm, v.fr, v.tt, v.mo, v.k, v.n, v.d, v.s, v.c, r.sv, v.lt⟩, 0) := fun v => by
    unfold rstep; rw [if_neg (by omega), if_neg (by omega), if_neg (by omega), if_neg (by omega), if_neg (by omega), if_neg (by omega), if_neg (by omega), if_pos rfl, if_neg (text_dash r.sv hv), Ck.parse_text r.sv hv]
  have s8 := fun v hv => lett_step r v hl hv
  intro j hj
  have hjj : j = 0 ∨ j = 1 ∨ j = 2 ∨ j = 3 ∨ j = 4 ∨ j = 5 ∨ j = 6 ∨ j = 7 ∨ j = 8 ∨ j = 9 := by omega
  unfold R.texts
  rcases hjj with rfl | rfl | rfl | rfl | rfl | rfl | rfl | rfl | rfl | rfl
  all_goals
    simp only [List.take_zero, List.take_succ_cons, run, s0, s1, s2, s3, s4, s5, s6, s7, if_true, Nat.zero_add, Nat.reduceAdd]
    first
    | rfl
    | (rw [s8 _ rfl]; rfl)
theorem parse_texts (h : r.Ok) (hc : 0 ≤ r.c) : parse r.texts = (r, 0, 0) := by
  have e : r.texts.take 9 = r.texts := rfl
  have hr := run_texts r h hc 9 (by omega)
  rw [e] at hr
  unfold parse
  rw [e, hr, if_pos rfl, if_neg (show ¬ r.texts.length < 9 from by show ¬ 9 < 9; omega), if_neg (show ¬ 9 < r.texts.length from by show ¬ 9 < 9; omega)]
  rfl
theorem parse_eight (h : r.Ok) (hc : 0 ≤ r.c) : parse (r.texts.take 8) = (R.zero, 8, 5) := by
  have e : (r.texts.take 8).take 9 = r.texts.take 8 := rfl
  have hr := run_texts r h hc 8 (by omega)
  unfold parse
  rw [e, hr, if_pos rfl, if_pos (show (r.texts.take 8).length < 9 from by show 8 < 9; omega)]
  rfl
end
/-- What holds behind k texts. -/
def Inv (k : Nat) (r : R) : Prop :=
  (1 ≤ k → name (tl r.nm) = true) ∧ (2 ≤ k → 1 ≤ r.fr ∧ r.fr ≤ 9999) ∧ (3 ≤ k → r.fr ≤ r.tt ∧ r.tt ≤ 9999) ∧ (5 ≤ k → 1 ≤ r.mo ∧ r.mo ≤ 12) ∧ (6 ≤ k → Dy.Ok r.k r.n r.d) ∧ Mo.Ok r.s r.c ∧ 0 ≤ r.c ∧ IsTime r.sv ∧ Ab.letter r.lt = true
theorem inv_zero : Inv 0 R.zero := ⟨fun h => absurd h (by omega), fun h => absurd h (by omega), fun h => absurd h (by omega), fun h => absurd h (by omega), fun h => absurd h (by omega), by decide, by decide, by decide, by decide +kernel⟩
theorem to_ok (x : ByteArray) (f v : Int) (h : toS x f = (v, 0)) (h1 : 1 ≤ f) (h2 : f ≤ 9999) : f ≤ v ∧ v ≤ 9999 := by
  unfold toS at h
  split at h
  · have := (Prod.mk.inj h).1; omega
  · split at h
    · have := (Prod.mk.inj h).1; omega
    · split at h
      · split at h
        · rename_i hb hf
          have := (Prod.mk.inj h).1
          unfold Mo.yearB at hb
          rw [decide_eq_true_eq] at hb
          have e : Mo.yearV (Mo.yearN (tl x)) = Mo.yearN (tl x) := by unfold Mo.yearV; rw [if_neg (by omega)]
          omega
        · simp at h
      · simp at h
theorem inv_step (k : Nat) (hk : k < 9) (r r' : R) (x : ByteArray) (h : rstep k r x = (r', 0)) (hi : Inv k r) : Inv (k + 1) r' := by
  obtain ⟨i1, i2, i3, i4, i5, i6, i7, i8, i9⟩ := hi
  have hkk : k = 0 ∨ k = 1 ∨ k = 2 ∨ k = 3 ∨ k = 4 ∨ k = 5 ∨ k = 6 ∨ k = 7 ∨ k = 8 := by omega
  unfold rstep at h
  rcases hkk with rfl | rfl | rfl | rfl | rfl | rfl | rfl | rfl | rfl
  · rw [if_pos rfl] at h
    have e := Prod.mk.inj h
    have hn : name (tl x) = true := by
      cases hx : name (tl x)
      · rw [hx] at e; simp at e
      · rfl
    rw [← e.1]
    exact ⟨fun _ => hn, fun h => absurd h (by omega), fun h => absurd h (by omega), fun h => absurd h (by omega), fun h => absurd h (by omega), i6, i7, i8, i9⟩
  · rw [if_neg (by omega), if_pos rfl] at h
    have e := Prod.mk.inj h
    have hb : Mo.yearB (Mo.yearN (tl x)) = true := by
      cases hx : Mo.yearB (Mo.yearN (tl x))
      · rw [hx] at e; simp at e
      · rfl
    unfold Mo.yearB at hb
    rw [decide_eq_true_eq] at hb
    have ev : Mo.yearV (Mo.yearN (tl x)) = Mo.yearN (tl x) := by unfold Mo.yearV; rw [if_neg (by omega)]
    rw [← e.1]
    exact ⟨fun _ => i1 (by omega), fun _ => by show 1 ≤ Mo.yearV _ ∧ Mo.yearV _ ≤ 9999; rw [ev]; exact hb, fun h => absurd h (by omega), fun h => absurd h (by omega), fun h => absurd h (by omega), i6, i7, i8, i9⟩
  · rw [if_neg (by omega), if_neg (by omega), if_pos rfl] at h
    have e := Prod.mk.inj h
    have hf := i2 (by omega)
    have ht := to_ok x r.fr (toS x r.fr).1 (by rw [← e.2]) hf.1 hf.2
    rw [← e.1]
    exact ⟨fun _ => i1 (by omega), fun _ => hf, fun _ => ht, fun h => absurd h (by omega), fun h => absurd h (by omega), i6, i7, i8, i9⟩
  · rw [if_neg (by omega), if_neg (by omega), if_neg (by omega), if_pos rfl] at h
    have e := Prod.mk.inj h
    rw [← e.1]
    exact ⟨fun _ => i1 (by omega), fun _ => i2 (by omega), fun _ => i3 (by omega), fun h => absurd h (by omega), fun h => absurd h (by omega), i6, i7, i8, i9⟩
  · rw [if_neg (by omega), if_neg (by omega), if_neg (by omega), if_neg (by omega), if_pos rfl] at h
    have e := Prod.mk.inj h
    have hb := Mo.pick_months_bd (tl x)
    have hz : ¬ Wd.pick (tl x) (Months.map tl) + 1 = 0 := by intro y; rw [if_pos y] at e; simp at e
    rw [← e.1]
    exact ⟨fun _ => i1 (by omega), fun _ => i2 (by omega), fun _ => i3 (by omega), fun _ => ⟨by show 1 ≤ _ + 1; omega, by show _ + 1 ≤ 12; omega⟩, fun h => absurd h (by omega), i6, i7, i8, i9⟩
  · rw [if_neg (by omega), if_neg (by omega), if_neg (by omega), if_neg (by omega), if_neg (by omega), if_pos rfl] at h
    by_cases hd : Dy.Ok (Dy.told (tl x)).1 (Dy.told (tl x)).2.1 (Dy.told (tl x)).2.2
    · rw [if_pos hd] at h
      rw [← (Prod.mk.inj h).1]
      exact ⟨fun _ => i1 (by omega), fun _ => i2 (by omega), fun _ => i3 (by omega), fun _ => i4 (by omega), fun _ => hd, i6, i7, i8, i9⟩
    · rw [if_neg hd] at h
      have := (Prod.mk.inj h).2
      simp at this
  · rw [if_neg (by omega), if_neg (by omega), if_neg (by omega), if_neg (by omega), if_neg (by omega), if_neg (by omega), if_pos rfl] at h
    have e := Prod.mk.inj h
    have hp := Mo.parse_ok x (Mo.parse x).1.1 (Mo.parse x).1.2 (by rw [← e.2])
    rw [← e.1]
    exact ⟨fun _ => i1 (by omega), fun _ => i2 (by omega), fun _ => i3 (by omega), fun _ => i4 (by omega), fun _ => i5 (by omega), hp.1, hp.2, i8, i9⟩
  · rw [if_neg (by omega), if_neg (by omega), if_neg (by omega), if_neg (by omega), if_neg (by omega), if_neg (by omega), if_neg (by omega), if_pos rfl] at h
    by_cases hx : x = ⟨#[45]⟩
    · rw [if_pos hx] at h
      rw [← (Prod.mk.inj h).1]
      exact ⟨fun _ => i1 (by omega), fun _ => i2 (by omega), fun _ => i3 (by omega), fun _ => i4 (by omega), fun _ => i5 (by omega), i6, i7, i8, i9⟩
    · rw [if_neg hx] at h
      have e := Prod.mk.inj h
      have ht := Ck.parse_time x (Ck.parse x).1 (by rw [← e.2])
      rw [← e.1]
      exact ⟨fun _ => i1 (by omega), fun _ => i2 (by omega), fun _ => i3 (by omega), fun _ => i4 (by omega), fun _ => i5 (by omega), i6, i7, ht, i9⟩
  · rw [if_neg (by omega), if_neg (by omega), if_neg (by omega), if_neg (by omega), if_neg (by omega), if_neg (by omega), if_neg (by omega), if_neg (by omega)] at h
    by_cases hx : x = ⟨#[45]⟩
    · rw [if_pos hx] at h
      rw [← (Prod.mk.inj h).1]
      exact ⟨fun _ => i1 (by omega), fun _ => i2 (by omega), fun _ => i3 (by omega), fun _ => i4 (by omega), fun _ => i5 (by omega), i6, i7, i8, i9⟩
    · rw [if_neg hx] at h
      have e := Prod.mk.inj h
      have hl : Ab.letter x = true := by
        cases hy : Ab.letter x
        · rw [hy] at e; simp at e
        · rfl
      rw [← e.1]
      exact ⟨fun _ => i1 (by omega), fun _ => i2 (by omega), fun _ => i3 (by omega), fun _ => i4 (by omega), fun _ => i5 (by omega), i6, i7, i8, hl⟩
theorem run_ok : ∀ (l : List ByteArray) (k : Nat) (r : R), k + l.length ≤ 9 → Inv k r →
    ((run l k r).2.2 = 0 ∧ Inv (k + l.length) (run l k r).1) ∨ ((run l k r).2.2 ≠ 0 ∧ (run l k r).1 = R.zero ∧ (k : Int) ≤ (run l k r).2.1 ∧ (run l k r).2.1 < k + l.length)
  | [], k, r, _, hi => .inl ⟨rfl, hi⟩
  | t :: l, k, r, hk, hi => by
    simp only [List.length_cons] at hk
    unfold run
    by_cases h : (rstep k r t).2 = 0
    · rw [if_pos h]
      have := run_ok l (k + 1) (rstep k r t).1 (by omega) (inv_step k (by omega) r _ t (by rw [← h]) hi)
      rcases this with ⟨a, b⟩ | ⟨a, b, c, d⟩
      · left
        refine ⟨a, ?_⟩
        rw [List.length_cons, show k + (l.length + 1) = k + 1 + l.length by omega]
        exact b
      · exact .inr ⟨a, b, by omega, by rw [List.length_cons]; omega⟩
    · rw [if_neg h]
      exact .inr ⟨h, rfl, by simp, by simp; omega⟩
/-- What is read of any texts. -/
theorem parse_ok (l : List ByteArray) : ((parse l).2.2 = 0 ∧ (parse l).2.1 = 0 ∧ l.length = 9 ∧ (parse l).1.Ok ∧ 0 ≤ (parse l).1.c) ∨
    ((parse l).2.2 ≠ 0 ∧ (parse l).1 = R.zero ∧ 0 ≤ (parse l).2.1 ∧ (parse l).2.1 ≤ l.length ∧ (parse l).2.1 ≤ 9) := by
  have hl : (l.take 9).length = min 9 l.length := List.length_take
  unfold parse
  rcases run_ok (l.take 9) 0 R.zero (by omega) inv_zero with ⟨a, b⟩ | ⟨a, b, c, d⟩
  · rw [if_pos a]
    by_cases h1 : l.length < 9
    · rw [if_pos h1]; right; exact ⟨by show (5 : Int) ≠ 0; decide, rfl, by simp, by simp, by show (l.length : Int) ≤ 9; omega⟩
    · rw [if_neg h1]
      by_cases h2 : 9 < l.length
      · rw [if_pos h2]; right; exact ⟨by decide, rfl, by decide, by show (9 : Int) ≤ _; omega, by decide⟩
      · rw [if_neg h2]
        left
        have e9 : 0 + (l.take 9).length = 9 := by omega
        rw [e9] at b
        obtain ⟨i1, i2, i3, i4, i5, i6, i7, i8, i9⟩ := b
        exact ⟨rfl, rfl, by omega, ⟨i1 (by omega), ⟨(i2 (by omega)).1, (i3 (by omega)).1, (i3 (by omega)).2⟩, i4 (by omega), i5 (by omega), i6, i8, i9⟩, i7⟩
  · rw [if_neg a]
    exact .inr ⟨a, b, by omega, by omega, by omega⟩
end Ru
end Go.Proofs.YtajcgoinhpengaaDoor
