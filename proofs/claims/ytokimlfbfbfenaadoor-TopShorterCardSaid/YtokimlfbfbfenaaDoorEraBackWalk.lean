/- The walk of the law EraBack. -/
import Derived.Test.YtokimlfbfbfenaaDoorLives10
import Derived.Test.YtokimlfbfbfenaaDoorBackKit
import Derived.Deep.DeepCutAuto
namespace Go.Proofs.YtokimlfbfbfenaaDoor
open Go.RowKit

/-- An era's texts, or none. -/
def ETexts (e : Er.E) (w : World) (r : Ending) (w' : World) : Prop :=
  ∃ (A : Option Addr) (n c : Nat) (y : Int), r = .returned (.tuple #[.slice A n c, .int .i64 y]) ∧ Below w.heap.size w w' ∧ n ≤ c ∧ c ≤ maxLen ∧ ((e.Ok ∧ y = 0 ∧ n = e.texts.length ∧ Reads w' w'.heap.size 1 A n (e.texts.map Value.string)) ∨ (¬ e.Ok ∧ y = 2))
theorem er_small (e : Er.E) (h : e.Ok) : e.fm.size ≤ 32 ∧ e.ru.size ≤ 64 := by
  obtain ⟨_, h2, h3, _⟩ := h
  refine ⟨(Ab.fmt_size e.fm h2).2, ?_⟩
  rcases h3 with ⟨_, _, a⟩ | ⟨_, _, a⟩ | ⟨_, _, a⟩
  · rw [a]; decide
  · rw [a]; decide
  · unfold Ru.name at a
    simp only [Bool.and_eq_true, decide_eq_true_eq] at a
    have := a.1.2
    rw [tl_length] at this
    exact this
theorem erText_both (e : Er.E) (w : World) (hW : Wc w) (hWa : Wa w) (hc : 0 ≤ e.u.c) (hs1 : e.fm.size ≤ maxLen) (hs2 : e.ru.size ≤ maxLen) : Calls Tryd.prog 32 #[e.v] w (ETexts e w) := by
  by_cases h : e.Ok
  · have hz := er_small e h
    exact (erText_ok e w hW hWa h hc (by omega) (by omega)).mono fun r w' ⟨A, c, hcap, he, hr, hb⟩ => ⟨A, _, c, 0, he, hb, hcap.1, hcap.2, .inl ⟨h, rfl, rfl, hr⟩⟩
  · exact (erText_bad e w hWa h hs1 hs2).mono fun r w' ⟨he, hb⟩ => ⟨none, 0, 0, 2, he, hb, Nat.le_refl _, by decide, .inr ⟨h, rfl⟩⟩
theorem er_texts_small (e : Er.E) (h : e.Ok) : ∀ t ∈ e.texts, t.size ≤ 1000000 := by
  have hs := er_small e h
  have hf : ∀ t ∈ e.front, t.size ≤ 1000000 := by
    intro t ht
    unfold Er.E.front at ht
    simp only [List.mem_cons, List.not_mem_nil, or_false] at ht
    rcases ht with rfl | rfl | rfl
    · have := Ck.text_size e.std; omega
    · unfold Er.E.mid
      split
      · have := Ck.text_size e.sv; omega
      · split
        · omega
        · decide
    · omega
  intro t ht
  unfold Er.E.texts at ht
  split at ht
  · rename_i he
    rcases List.mem_append.1 ht with h1 | h1
    · exact hf t h1
    · exact texts_small e.u (h.2.2.2.1 he) t h1
  · exact hf t ht
def EB (w : World) (cs : List Value) (wx : World) : Prop := Hid (At wx w.heap.size cs) ∧ Hid (Below w.heap.size w wx)

set_option maxHeartbeats 4000000 in
set_option maxRecDepth 100000 in
theorem eraBack_any (e : Er.E) (A : Option Addr) (ln lc : Nat) (ss : List ByteArray) (w : World) (hWe : We w) (hc : 0 ≤ e.u.c) (hs2 : e.ru.size ≤ maxLen) (hs1 : e.fm.size ≤ maxLen) (hln : ln ≤ lc) (hlc : lc ≤ maxLen) (hr : Reads w w.heap.size 1 A ln (ss.map Value.string)) (hs : ∀ t ∈ ss, t.size ≤ maxLen) :
    Calls Tryd.prog 6 #[e.v, .slice A ln lc] w fun r w' => r = .returned (.bool true) ∧ Below w.heap.size w w' := by
  have hlen : ss.length = ln := by have := hr.1; simpa using this
  have hT := fun W hw hwa h1 h2 => erText_both e W hw hwa hc h1 h2
  have hPt : e.Ok → Er.parse e.texts = (e, 0, 0) := fun h => Er.parse_texts e h hc
  have hTs := fun h => er_texts_small e h
  have hLn := Er.texts_len e
  have hCnt := Mo.count_bd e.u
  have hck := fun W hwa (h : e.Ok) h1 h2 => eraCheck_ok e W hwa h h1 h2
  obtain ⟨P1, p2, p3, hP⟩ : ∃ a b c, Er.parse ss = (a, b, c) := ⟨_, _, _, rfl⟩
  have hpo := Er.parse_ok ss
  rw [hP] at hpo
  simp only at hpo
  have hPU := fun W hw hwa (hr : Reads W W.heap.size 1 A ln (ss.map Value.string)) (h1 : ∀ t ∈ ss, t.size ≤ 1000000) => erParse_is A ln lc ss W hw hwa hln hlc hr h1 P1 p2 p3 hP
  have hsm := fun W (hr : Reads W W.heap.size 1 A ln (ss.map Value.string)) => small10_any A ln lc ss W (Nat.le_trans hln hlc) hr hs
  obtain ⟨std, k, sv, ru, fm, en, ⟨y, m, dk, dn, dd, s, c⟩⟩ := e
  simp only at hT hPt hTs hck hs1 hs2 hc hLn hCnt
  have HL := Lib.hid fun W hw hwa => lives10 W hw hwa
  have HT := Lib.hid hT
  have HPt := Lib.hid hPt
  have HTs := Lib.hid hTs
  have HLn := Lib.hid hLn
  have HCnt := Lib.hid hCnt
  have HCk := Lib.hid hck
  have HPU := Lib.hid hPU
  have HPo := Lib.hid hpo
  have HSm := Lib.hid hsm
  have HR := Lib.hid hr
  have HLen := Lib.hid hlen
  have HW := Lib.hid hWe.c
  have HWa := Lib.hid hWe.a
  have HLc := Lib.hid hlc
  unfold maxLen at hlc hs1 hs2
  have HB := Lib.hid ((Below.refl w.heap.size w).alloc (Nat.le_refl _) (.cells #[.int .i64 std, .int .u8 k, .int .i64 sv, .string ru, .string fm, .bool en, .int .i64 y, .int .i64 m, .int .u8 dk, .int .i64 dn, .int .i64 dd, .int .i64 s, .int .u8 c] 50))
  have HA := Lib.hid (At.new w #[.int .i64 std, .int .u8 k, .int .i64 sv, .string ru, .string fm, .bool en, .int .i64 y, .int .i64 m, .int .u8 dk, .int .i64 dn, .int .i64 dd, .int .i64 s, .int .u8 c] 50)
  unfold Er.E.v
  simp only
  clear hT hPt hTs hck hP hpo hPU hsm hr hlen hWe hs hLn hCnt
  cases hsb : smallB 30 ss
  · have HSb := Lib.hid hsb
    clear hsb
    go_enter Tryd.func6, Tryd.ntmps6
    go_wp2_with fail
    refine (HL.out _ (HW.out.below HB.out) (HWa.out.below HB.out)).mono ?_
    rintro e w1 ⟨rfl, hb⟩
    replace HB := Lib.hid (below_then HB.out hb)
    clear hb
    go_wp2_with fail
    refine (calls_bool (HSm.out _ ((HR.out.below HB.out).more HB.out.size)) HSb.out).mono ?_
    rintro e w2 ⟨rfl, rfl⟩
    go_wp2
    go_ret
    exact ⟨rfl, HB.out⟩
  have HSb := Lib.hid hsb
  have hsl := small_of hsb
  have HSl := Lib.hid hsl
  clear hsb hsl
  go_enter Tryd.func6, Tryd.ntmps6
  go_wp2_with fail
  refine (HL.out _ (HW.out.below HB.out) (HWa.out.below HB.out)).mono ?_
  rintro e w1 ⟨rfl, hb⟩
  have HA1 := Lib.hid (HA.out.call hb)
  replace HB := Lib.hid (below_then HB.out hb)
  clear hb HA
  go_wp2_with fail
  refine (calls_bool (HSm.out _ ((HR.out.below HB.out).more HB.out.size)) HSb.out).mono ?_
  rintro e w2 ⟨rfl, rfl⟩
  obtain ⟨⟨a0, a1, a2, a3, a4, a5, a6, a7, a8, a9, a10, a11, a12⟩, _⟩ := At.thirteen (e := ⟨std, k, sv, ru, fm, en, ⟨y, m, dk, dn, dd, s, c⟩⟩) HA1.out
  simp only at a0 a1 a2 a3 a4 a5 a6 a7 a8 a9 a10 a11 a12
  by_cases h1000 : 1000 < ru.size
  · have q1 : (1000 : Int) < (ru.size : Int) := by omega
    go_wp2
    go_ret
    exact ⟨rfl, HB.out⟩
  have q1 : ¬ (1000 : Int) < (ru.size : Int) := by omega
  by_cases h1001 : 1000 < fm.size
  · have q2 : (1000 : Int) < (fm.size : Int) := by omega
    go_wp2
    go_ret
    exact ⟨rfl, HB.out⟩
  have q2 : ¬ (1000 : Int) < (fm.size : Int) := by omega
  go_wp2_with fail
  refine (HT.out _ (HW.out.below HB.out) (HWa.out.below HB.out) (by unfold maxLen; omega) (by unfold maxLen; omega)).mono ?_
  rintro e w2 ⟨AT, nT, cT, yT, rfl, hb, hcT1, hcT2, hcase⟩
  have HA2 := Lib.hid (HA1.out.call hb)
  have HCase := Lib.hid hcase
  replace HB := Lib.hid (below_then HB.out hb)
  clear hb HA1 hcase a0 a1 a2 a3 a4 a5 a6 a7 a8 a9 a10 a11 a12
  go_upto_if 41 with fail
  go_cut [] (fun wx => EB w [.int .i64 std, .int .u8 k, .int .i64 sv, .string ru, .string fm, .bool en, .int .i64 y, .int .i64 m, .int .u8 dk, .int .i64 dn, .int .i64 dd, .int .i64 s, .int .u8 c] wx)
  case first =>
    rcases HCase.out with ⟨hok, e1, e2, e3⟩ | ⟨_, e1⟩
    · have HPx := Lib.hid (erParse_is AT nT cT _ _ (HW.out.below HB.out).p (HWa.out.below HB.out) hcT1 hcT2 e3 (HTs.out hok) _ 0 0 (HPt.out hok))
      have HCk' := Lib.hid fun W hwa => HCk.out W hwa hok (by omega) (by omega)
      have hEn : Hid (en = decide ((3 : Int) < (nT : Int))) := by
        show en = _
        rw [e2, HLn.out]
        have := HCnt.out
        cases en
        · rw [if_neg (by decide), decide_eq_false (by omega)]
        · rw [if_pos rfl, decide_eq_true (by omega)]
      unfold Er.E.v at HPx HCk'
      simp only at HPx HCk'
      subst e1
      clear hok e2 e3
      go_wp2_with fail
      refine HPx.out.mono ?_
      rintro e w3 ⟨rfl, hb⟩
      have HA3 := Lib.hid (HA2.out.call hb)
      have HX3 := Lib.hid (At.new w3 #[.int .i64 std, .int .u8 k, .int .i64 sv, .string ru, .string fm, .bool en, .int .i64 y, .int .i64 m, .int .u8 dk, .int .i64 dn, .int .i64 dd, .int .i64 s, .int .u8 c] 50)
      have HA4 := Lib.hid (HA3.out.alloc #[.int .i64 std, .int .u8 k, .int .i64 sv, .string ru, .string fm, .bool en, .int .i64 y, .int .i64 m, .int .u8 dk, .int .i64 dn, .int .i64 dd, .int .i64 s, .int .u8 c] 50)
      replace HB := Lib.hid ((below_then HB.out hb).alloc (below_then HB.out hb).size (.cells #[.int .i64 std, .int .u8 k, .int .i64 sv, .string ru, .string fm, .bool en, .int .i64 y, .int .i64 m, .int .u8 dk, .int .i64 dn, .int .i64 dd, .int .i64 s, .int .u8 c] 50))
      have z3 := HA3.out.lt
      clear hb HPx HA2
      obtain ⟨⟨a0, a1, a2, a3, a4, a5, a6, a7, a8, a9, a10, a11, a12⟩, _⟩ := At.thirteen (e := ⟨std, k, sv, ru, fm, en, ⟨y, m, dk, dn, dd, s, c⟩⟩) HA4.out
      simp only at a0 a1 a2 a3 a4 a5 a6 a7 a8 a9 a10 a11 a12
      go_wp2_with fail
      refine (HCk'.out _ (HWa.out.below HB.out)).mono ?_
      rintro e w4 ⟨rfl, hb⟩
      have HA5 := Lib.hid (HA4.out.call hb)
      replace HB := Lib.hid (below_then HB.out hb)
      clear hb HA3 HA4 HX3 z3 a0 a1 a2 a3 a4 a5 a6 a7 a8 a9 a10 a11 a12
      obtain ⟨⟨a0, a1, a2, a3, a4, a5, a6, a7, a8, a9, a10, a11, a12⟩, _⟩ := At.thirteen (e := ⟨std, k, sv, ru, fm, en, ⟨y, m, dk, dn, dd, s, c⟩⟩) HA5.out
      simp only at a0 a1 a2 a3 a4 a5 a6 a7 a8 a9 a10 a11 a12
      have hEn2 := hEn.out
      clear hEn
      cases en
      · have q8 : ¬ (3 : Int) < (nT : Int) := of_decide_eq_false hEn2.symm
        clear hEn2
        go_wp2
        go_meet
        exact ⟨HA5.out, HB.out⟩
      · have q8 : (3 : Int) < (nT : Int) := of_decide_eq_true hEn2.symm
        clear hEn2
        go_wp2
        go_meet
        exact ⟨HA5.out, HB.out⟩
    · subst e1
      go_wp2
      go_meet
      exact ⟨HA2.out, HB.out⟩
  case rest =>
  as_aux_lemma =>
  obtain ⟨HA, HB⟩ := hcut
  clear HA2 HCase HPt HTs HCk HT HLn HCnt
  go_wp2_with fail
  refine (HPU.out _ (HW.out.below HB.out).p (HWa.out.below HB.out) ((HR.out.below HB.out).more HB.out.size) (fun t ht => Nat.le_trans (HSl.out.2 t ht) (by omega))).mono ?_
  rintro e w3 ⟨rfl, hb⟩
  have R0 := Lib.hid (HB.out.trans (hb.mono HB.out.size))
  replace HB := R0
  clear hb HA R0
  have hpo := HPo.out
  rcases hpo with ⟨e1, e2, e4, e5, e6, e7⟩ | ⟨e1, e2, e3, e4⟩
  · have hz := er_small P1 e4
    have hT2 := fun W hw hwa => erText_ok P1 W hw hwa e4 e5 (by omega) (by omega)
    have hP2 := Er.parse_texts P1 e4 e5
    have hS2 := er_texts_small P1 e4
    obtain ⟨tn, htn⟩ : ∃ n, P1.texts.length = n := ⟨_, rfl⟩
    have HP2 := Lib.hid fun (AU : Option Addr) (cU : Nat) W hw hwa (h1 : tn ≤ cU) (h2 : cU ≤ maxLen) (hr : Reads W W.heap.size 1 AU tn (P1.texts.map Value.string)) => erParse_is AU tn cU _ W hw hwa h1 h2 hr hS2 P1 0 0 hP2
    have HC2 := Lib.hid fun W hwa => eraCheck_ok P1 W hwa e4 (by omega) (by omega)
    unfold StrsRet at hT2
    rw [htn] at e7
    simp only [htn] at hT2
    have HT2 := Lib.hid hT2
    have q9 : (tn : Int) ≤ (ln : Int) := by have := HLen.out; omega
    have hEn : Hid (P1.en = decide ((3 : Int) < (ln : Int))) := by
      show P1.en = _
      rw [e6, HLen.out]
      by_cases h3 : 3 < ln
      · rw [decide_eq_true h3, decide_eq_true (by omega)]
      · rw [decide_eq_false h3, decide_eq_false (by omega)]
    subst e1
    subst e2
    clear hz hT2 hP2 hS2 e4 e5 e6 e7
    obtain ⟨xstd, xk, xsv, xru, xfm, xen, ⟨xy, xm, xdk, xdn, xdd, xs, xc⟩⟩ := P1
    unfold Er.E.v at HT2 HP2 HC2 ⊢
    simp only at HT2 HP2 HC2 hEn ⊢
    have HX := Lib.hid (At.new w3 #[.int .i64 xstd, .int .u8 xk, .int .i64 xsv, .string xru, .string xfm, .bool xen, .int .i64 xy, .int .i64 xm, .int .u8 xdk, .int .i64 xdn, .int .i64 xdd, .int .i64 xs, .int .u8 xc] 50)
    replace HB := Lib.hid (HB.out.alloc HB.out.size (.cells #[.int .i64 xstd, .int .u8 xk, .int .i64 xsv, .string xru, .string xfm, .bool xen, .int .i64 xy, .int .i64 xm, .int .u8 xdk, .int .i64 xdn, .int .i64 xdd, .int .i64 xs, .int .u8 xc] 50))
    obtain ⟨⟨u0, u1, u2, u3, u4, u5, u6, u7, u8, u9, u10, u11, u12⟩, _⟩ := At.thirteen (e := ⟨xstd, xk, xsv, xru, xfm, xen, ⟨xy, xm, xdk, xdn, xdd, xs, xc⟩⟩) HX.out
    simp only at u0 u1 u2 u3 u4 u5 u6 u7 u8 u9 u10 u11 u12
    go_wp2_with fail
    refine (HT2.out _ (HW.out.below HB.out) (HWa.out.below HB.out)).mono ?_
    rintro e w4 ⟨AU, cU, hcU, rfl, hrU, hb⟩
    have hcU1 := hcU.1
    have hcU2 := hcU.2
    have HX1 := Lib.hid (HX.out.call hb)
    replace HB := Lib.hid (below_then HB.out hb)
    have HRU := Lib.hid hrU
    clear hb HX hrU hcU u0 u1 u2 u3 u4 u5 u6 u7 u8 u9 u10 u11 u12
    go_wp2_with fail
    refine (HP2.out AU cU _ (HW.out.below HB.out).p (HWa.out.below HB.out) hcU1 hcU2 HRU.out).mono ?_
    rintro e w5 ⟨rfl, hb⟩
    have HX2 := Lib.hid (HX1.out.call hb)
    have HX3 := Lib.hid (HX2.out.alloc #[.int .i64 xstd, .int .u8 xk, .int .i64 xsv, .string xru, .string xfm, .bool xen, .int .i64 xy, .int .i64 xm, .int .u8 xdk, .int .i64 xdn, .int .i64 xdd, .int .i64 xs, .int .u8 xc] 50)
    have HY := Lib.hid (At.new w5 #[.int .i64 xstd, .int .u8 xk, .int .i64 xsv, .string xru, .string xfm, .bool xen, .int .i64 xy, .int .i64 xm, .int .u8 xdk, .int .i64 xdn, .int .i64 xdd, .int .i64 xs, .int .u8 xc] 50)
    have z5 := HX2.out.lt
    replace HB := Lib.hid ((below_then HB.out hb).alloc (below_then HB.out hb).size (.cells #[.int .i64 xstd, .int .u8 xk, .int .i64 xsv, .string xru, .string xfm, .bool xen, .int .i64 xy, .int .i64 xm, .int .u8 xdk, .int .i64 xdn, .int .i64 xdd, .int .i64 xs, .int .u8 xc] 50))
    clear hb HX1
    obtain ⟨⟨u0, u1, u2, u3, u4, u5, u6, u7, u8, u9, u10, u11, u12⟩, _⟩ := At.thirteen (e := ⟨xstd, xk, xsv, xru, xfm, xen, ⟨xy, xm, xdk, xdn, xdd, xs, xc⟩⟩) HX3.out
    simp only at u0 u1 u2 u3 u4 u5 u6 u7 u8 u9 u10 u11 u12
    go_wp2_with fail
    refine (HC2.out _ (HWa.out.below HB.out)).mono ?_
    rintro e w6 ⟨rfl, hb⟩
    have HX4 := Lib.hid (HX3.out.call hb)
    have HY4 := Lib.hid (HY.out.call hb)
    replace HB := Lib.hid (below_then HB.out hb)
    clear hb HX3 HX2 z5 u0 u1 u2 u3 u4 u5 u6 u7 u8 u9 u10 u11 u12
    obtain ⟨⟨u0, u1, u2, u3, u4, u5, u6, u7, u8, u9, u10, u11, u12⟩, _⟩ := At.thirteen (e := ⟨xstd, xk, xsv, xru, xfm, xen, ⟨xy, xm, xdk, xdn, xdd, xs, xc⟩⟩) HX4.out
    simp only at u0 u1 u2 u3 u4 u5 u6 u7 u8 u9 u10 u11 u12
    obtain ⟨⟨v0, v1, v2, v3, v4, v5, v6, v7, v8, v9, v10, v11, v12⟩, _⟩ := At.thirteen (e := ⟨xstd, xk, xsv, xru, xfm, xen, ⟨xy, xm, xdk, xdn, xdd, xs, xc⟩⟩) HY4.out
    simp only at v0 v1 v2 v3 v4 v5 v6 v7 v8 v9 v10 v11 v12
    have hEn2 := hEn.out
    clear hEn
    cases xen
    · have q8 : ¬ (3 : Int) < (ln : Int) := of_decide_eq_false hEn2.symm
      clear hEn2
      go_wp2
      go_ret
      exact ⟨ret_bool (by rw [decide_eq_false (show ¬ (3 : Int) < (ln : Int) by omega)]; rfl), HB.out⟩
    · have q8 : (3 : Int) < (ln : Int) := of_decide_eq_true hEn2.symm
      clear hEn2
      go_wp2
      go_ret
      exact ⟨rfl, HB.out⟩
  · subst e2
    unfold Er.E.v Er.E.zero Mo.U.zero
    simp only
    have q2 : (p3 != 0) = true := by simpa using e1
    have q2' : (p3 == 0) = false := by simpa using e1
    have q3 : p2 ≤ (ln : Int) := by rw [HLen.out] at e4; exact e4
    clear e1 e4
    go_wp2
    go_ret
    exact ⟨rfl, HB.out.alloc HB.out.size _⟩
end Go.Proofs.YtokimlfbfbfenaaDoor
