/- The walk of the law RuleBack. -/
import Derived.Test.YtokimlfbfbfenaaDoorLives09
import Derived.Test.YtokimlfbfbfenaaDoorBackKit
import Derived.Deep.DeepCutAuto
namespace Go.Proofs.YtokimlfbfbfenaaDoor
open Go.RowKit

/-- A rule's texts, or none. -/
def RTexts (r : Ru.R) (w : World) (e : Ending) (w' : World) : Prop :=
  ∃ (A : Option Addr) (n c : Nat) (y : Int), e = .returned (.tuple #[.slice A n c, .int .i64 y]) ∧ Below w.heap.size w w' ∧ n ≤ c ∧ c ≤ maxLen ∧ ((r.Ok ∧ y = 0 ∧ n = 9 ∧ Reads w' w'.heap.size 1 A n (r.texts.map Value.string)) ∨ (¬ r.Ok ∧ y = 2))
theorem ruText_both (r : Ru.R) (w : World) (hW : Wc w) (hc : 0 ≤ r.c) (hs1 : r.nm.size ≤ 1000000) (hs2 : r.lt.size ≤ 1000000) : Calls Tryd.prog 18 #[r.v] w (RTexts r w) := by
  by_cases h : r.Ok
  · exact (ruText_ok r w hW h hc hs1 hs2).mono fun e w' ⟨A, c, hcap, he, hr, hb⟩ => ⟨A, _, c, 0, he, hb, hcap.1, hcap.2, .inl ⟨h, rfl, rfl, hr⟩⟩
  · exact (ruText_bad r w h hs1 hs2).mono fun e w' ⟨he, hb⟩ => ⟨none, 0, 0, 2, he, hb, Nat.le_refl _, by decide, .inr ⟨h, rfl⟩⟩
theorem itoa_year_size (y : Int) (h1 : 1 ≤ y) (h2 : y ≤ 9999) : (⟨(Lib.itoa y).toArray⟩ : ByteArray).size ≤ 4 := by
  rw [size_mk]
  have := Dy.dec_len y.toNat (by omega)
  unfold Lib.itoa
  rw [if_neg (by omega)]
  omega
theorem momText_size (s c : Int) : (⟨(Mo.text s c).toArray⟩ : ByteArray).size ≤ 1001 := by
  have := Ck.text_size s
  rw [size_mk] at this ⊢
  unfold Mo.text Mo.tail
  split <;> (try split) <;> simp <;> omega
theorem ru_texts_small (r : Ru.R) (h : r.Ok) (h1 : r.nm.size ≤ 1000000) (h2 : r.lt.size ≤ 1000000) : ∀ t ∈ r.texts, t.size ≤ 1000000 := by
  obtain ⟨_, ⟨y1, y2, y3⟩, _⟩ := h
  intro t ht
  unfold Ru.R.texts at ht
  simp only [List.mem_cons, List.not_mem_nil, or_false] at ht
  rcases ht with rfl | rfl | rfl | rfl | rfl | rfl | rfl | rfl | rfl
  · exact h1
  · have := itoa_year_size r.fr y1 (by omega); omega
  · unfold Ru.R.last
    split
    · decide
    · split
      · decide
      · have := itoa_year_size r.tt (by omega) y3; omega
  · decide
  · have := monthText_len (r.mo - 1); omega
  · have := dayText_len r.k r.n r.d; rw [size_mk]; omega
  · have := momText_size r.s r.c; omega
  · have := Ck.text_size r.sv; omega
  · unfold Ru.R.lett
    split
    · decide
    · exact h2
theorem ru_small (r : Ru.R) (h : r.Ok) : r.nm.size ≤ 64 ∧ r.lt.size ≤ 32 := by
  obtain ⟨h1, _, _, _, _, _, h7⟩ := h
  unfold Ru.name at h1
  unfold Ab.letter at h7
  simp only [Bool.and_eq_true, decide_eq_true_eq] at h1 h7
  exact ⟨by have := h1.1.2; rw [tl_length] at this; exact this, h7.1.1⟩
def RB (w : World) (cs : List Value) (wx : World) : Prop := Hid (At wx w.heap.size cs) ∧ Hid (Below w.heap.size w wx)

set_option maxHeartbeats 4000000 in
set_option maxRecDepth 100000 in
theorem ruleBack_any (r : Ru.R) (A : Option Addr) (ln lc : Nat) (ss : List ByteArray) (w : World) (hW : Wc w) (hc : 0 ≤ r.c) (hs1 : r.nm.size ≤ maxLen) (hs2 : r.lt.size ≤ maxLen) (hln : ln ≤ lc) (hlc : lc ≤ maxLen) (hr : Reads w w.heap.size 1 A ln (ss.map Value.string)) (hs : ∀ t ∈ ss, t.size ≤ maxLen) :
    Calls Tryd.prog 4 #[r.v, .slice A ln lc] w fun e w' => e = .returned (.bool true) ∧ Below w.heap.size w w' := by
  have hlen : ss.length = ln := by have := hr.1; simpa using this
  have hT := fun W hw h1 h2 => ruText_both r W hw hc h1 h2
  have hP9 : r.Ok → Ru.parse r.texts = (r, 0, 0) := fun h => Ru.parse_texts r h hc
  have hP8 : r.Ok → Ru.parse (r.texts.take 8) = (Ru.R.zero, 8, 5) := fun h => Ru.parse_eight r h hc
  have hTs := fun h h1 h2 => ru_texts_small r h h1 h2
  have hck := fun W (h : r.Ok) h1 h2 => ruleCheck_ok r W h h1 h2
  obtain ⟨P1, p2, p3, hP⟩ : ∃ a b c, Ru.parse ss = (a, b, c) := ⟨_, _, _, rfl⟩
  have hpo := Ru.parse_ok ss
  rw [hP] at hpo
  simp only at hpo
  have hPU := fun W hw (hr : Reads W W.heap.size 1 A ln (ss.map Value.string)) (h1 : ∀ t ∈ ss, t.size ≤ 1000000) => ruParse_is A ln lc ss W hw hln hlc hr h1 P1 p2 p3 hP
  have hsm := fun W (hr : Reads W W.heap.size 1 A ln (ss.map Value.string)) => small09_any A ln lc ss W (Nat.le_trans hln hlc) hr hs
  obtain ⟨nm, fr, tt, mo, k, n, d, s, c, sv, lt⟩ := r
  simp only at hT hP9 hP8 hTs hck hs1 hs2 hc
  have HL := Lib.hid fun W hw => lives09 W hw
  have HT := Lib.hid hT
  have HP9 := Lib.hid hP9
  have HP8 := Lib.hid hP8
  have HTs := Lib.hid hTs
  have HCk := Lib.hid hck
  have HPU := Lib.hid hPU
  have HPo := Lib.hid hpo
  have HSm := Lib.hid hsm
  have HR := Lib.hid hr
  have HLen := Lib.hid hlen
  have HW := Lib.hid hW
  unfold maxLen at hlc hs1 hs2
  have HB := Lib.hid ((Below.refl w.heap.size w).alloc (Nat.le_refl _) (.cells #[.string nm, .int .i64 fr, .int .i64 tt, .int .i64 mo, .int .u8 k, .int .i64 n, .int .i64 d, .int .i64 s, .int .u8 c, .int .i64 sv, .string lt] 34))
  have HA := Lib.hid (At.new w #[.string nm, .int .i64 fr, .int .i64 tt, .int .i64 mo, .int .u8 k, .int .i64 n, .int .i64 d, .int .i64 s, .int .u8 c, .int .i64 sv, .string lt] 34)
  unfold Ru.R.v
  simp only
  clear hT hP9 hP8 hTs hck hP hpo hPU hsm hr hlen hW hs
  cases hsb : smallB 30 ss
  · have HSb := Lib.hid hsb
    clear hsb
    go_enter Tryd.func4, Tryd.ntmps4
    go_wp2_with fail
    refine (HL.out _ (HW.out.below HB.out)).mono ?_
    rintro e w1 ⟨rfl, hb⟩
    replace HB := Lib.hid (below_then HB.out hb)
    clear hb
    go_wp2_with fail
    refine (calls_bool (HSm.out _ ((HR.out.below HB.out).more HB.out.size)) HSb.out).mono ?_
    rintro e w2 ⟨rfl, rfl⟩
    go_wp2
    go_ret
    exact ⟨rfl, HB.out⟩
  have HSb := Lib.hid hsb
  have hsl := small_of hsb
  have HSl := Lib.hid hsl
  clear hsb hsl
  go_enter Tryd.func4, Tryd.ntmps4
  go_wp2_with fail
  refine (HL.out _ (HW.out.below HB.out)).mono ?_
  rintro e w1 ⟨rfl, hb⟩
  have HA1 := Lib.hid (HA.out.call hb)
  replace HB := Lib.hid (below_then HB.out hb)
  clear hb HA
  go_wp2_with fail
  refine (calls_bool (HSm.out _ ((HR.out.below HB.out).more HB.out.size)) HSb.out).mono ?_
  rintro e w2 ⟨rfl, rfl⟩
  obtain ⟨⟨a0, a1, a2, a3, a4, a5, a6, a7, a8, a9, a10⟩, _⟩ := At.eleven (r := ⟨nm, fr, tt, mo, k, n, d, s, c, sv, lt⟩) HA1.out
  simp only at a0 a1 a2 a3 a4 a5 a6 a7 a8 a9 a10
  by_cases h1000 : 1000 < nm.size
  · have q1 : (1000 : Int) < (nm.size : Int) := by omega
    go_wp2
    go_ret
    exact ⟨rfl, HB.out⟩
  have q1 : ¬ (1000 : Int) < (nm.size : Int) := by omega
  by_cases h1001 : 1000 < lt.size
  · have q2 : (1000 : Int) < (lt.size : Int) := by omega
    go_wp2
    go_ret
    exact ⟨rfl, HB.out⟩
  have q2 : ¬ (1000 : Int) < (lt.size : Int) := by omega
  go_wp2_with fail
  refine (HT.out _ (HW.out.below HB.out) (by omega) (by omega)).mono ?_
  rintro e w2 ⟨AT, nT, cT, yT, rfl, hb, hcT1, hcT2, hcase⟩
  have HA2 := Lib.hid (HA1.out.call hb)
  have HCase := Lib.hid hcase
  replace HB := Lib.hid (below_then HB.out hb)
  clear hb HA1 hcase a0 a1 a2 a3 a4 a5 a6 a7 a8 a9 a10
  go_upto_if 44 with fail
  go_cut [] (fun wx => RB w [.string nm, .int .i64 fr, .int .i64 tt, .int .i64 mo, .int .u8 k, .int .i64 n, .int .i64 d, .int .i64 s, .int .u8 c, .int .i64 sv, .string lt] wx)
  case first =>
    rcases HCase.out with ⟨hok, e1, e2, e3⟩ | ⟨_, e1⟩
    · have HPt := Lib.hid (ruParse_is AT 9 cT _ _ (HW.out.below HB.out).p (by omega) hcT2 (by rw [← e2]; exact e3) (HTs.out hok (by omega) (by omega)) _ 0 0 (HP9.out hok))
      have h8 : Reads w2 w2.heap.size 1 AT 8 (((Ru.R.texts ⟨nm, fr, tt, mo, k, n, d, s, c, sv, lt⟩).take 8).map Value.string) := reads_less e3 8 (by omega)
      have HR8 := Lib.hid h8
      have hp8 := fun W hw (hr : Reads W W.heap.size 1 AT 8 (((Ru.R.texts ⟨nm, fr, tt, mo, k, n, d, s, c, sv, lt⟩).take 8).map Value.string)) => ruParse_is AT 8 cT _ W hw (by omega) hcT2 hr (fun t ht => HTs.out hok (by omega) (by omega) t (List.mem_of_mem_take ht)) _ 8 5 (HP8.out hok)
      have HP8' := Lib.hid hp8
      have HCk' := Lib.hid fun W => HCk.out W hok (by omega) (by omega)
      unfold Ru.R.v at HPt HP8' HCk'
      unfold Ru.R.zero at HP8'
      simp only at HPt HP8' HCk'
      have q8 : (8 : Int) ≤ (cT : Int) := by omega
      subst e1
      subst e2
      unfold maxLen at hcT2
      clear hok e3 h8 hp8
      go_wp2_with fail
      refine HPt.out.mono ?_
      rintro e w3 ⟨rfl, hb⟩
      have HA3 := Lib.hid (HA2.out.call hb)
      have HX3 := Lib.hid (At.new w3 #[.string nm, .int .i64 fr, .int .i64 tt, .int .i64 mo, .int .u8 k, .int .i64 n, .int .i64 d, .int .i64 s, .int .u8 c, .int .i64 sv, .string lt] 34)
      have HA4 := Lib.hid (HA3.out.alloc #[.string nm, .int .i64 fr, .int .i64 tt, .int .i64 mo, .int .u8 k, .int .i64 n, .int .i64 d, .int .i64 s, .int .u8 c, .int .i64 sv, .string lt] 34)
      replace HB := Lib.hid ((below_then HB.out hb).alloc (below_then HB.out hb).size (.cells #[.string nm, .int .i64 fr, .int .i64 tt, .int .i64 mo, .int .u8 k, .int .i64 n, .int .i64 d, .int .i64 s, .int .u8 c, .int .i64 sv, .string lt] 34))
      have HBL := Lib.hid (hb.alloc hb.size (.cells #[.string nm, .int .i64 fr, .int .i64 tt, .int .i64 mo, .int .u8 k, .int .i64 n, .int .i64 d, .int .i64 s, .int .u8 c, .int .i64 sv, .string lt] 34))
      have z3 := HA3.out.lt
      clear hb HPt HA2
      obtain ⟨⟨a0, a1, a2, a3, a4, a5, a6, a7, a8, a9, a10⟩, _⟩ := At.eleven (r := ⟨nm, fr, tt, mo, k, n, d, s, c, sv, lt⟩) HA4.out
      simp only at a0 a1 a2 a3 a4 a5 a6 a7 a8 a9 a10
      go_wp2_with fail
      refine (HCk'.out _).mono ?_
      rintro e w4 ⟨rfl, hb⟩
      have HA5 := Lib.hid (HA4.out.call hb)
      replace HB := Lib.hid (below_then HB.out hb)
      replace HBL := Lib.hid (below_then HBL.out hb)
      clear hb HA3 HA4 HX3 z3 a0 a1 a2 a3 a4 a5 a6 a7 a8 a9 a10
      go_wp2_with fail
      refine (HP8'.out _ (HW.out.below HB.out).p ((HR8.out.below HBL.out).more HBL.out.size)).mono ?_
      rintro e w5 ⟨rfl, hb⟩
      have HA6 := Lib.hid (HA5.out.call hb)
      replace HB := Lib.hid (below_then HB.out hb)
      clear hb
      go_wp2
      go_meet
      exact ⟨HA6.out.alloc _ _, HB.out.alloc HB.out.size _⟩
    · subst e1
      go_wp2
      go_meet
      exact ⟨HA2.out, HB.out⟩
  case rest =>
  as_aux_lemma =>
  obtain ⟨HA, HB⟩ := hcut
  clear HA2 HCase HP9 HP8 HTs HCk HT
  go_wp2_with fail
  refine (HPU.out _ (HW.out.below HB.out).p ((HR.out.below HB.out).more HB.out.size) (fun t ht => Nat.le_trans (HSl.out.2 t ht) (by omega))).mono ?_
  rintro e w3 ⟨rfl, hb⟩
  have R0 := Lib.hid (HB.out.trans (hb.mono HB.out.size))
  replace HB := R0
  clear hb HA R0
  have hpo := HPo.out
  rcases hpo with ⟨e1, e2, e3, e4, e5⟩ | ⟨e1, e2, e3, e4, e5⟩
  · have hz := ru_small P1 e4
    have hT2 := fun W hw => ruText_ok P1 W hw e4 e5 (by omega) (by omega)
    have hP2 := Ru.parse_texts P1 e4 e5
    have hS2 := ru_texts_small P1 e4 (by omega) (by omega)
    have HP2 := Lib.hid fun (AU : Option Addr) (cU : Nat) W hw (h1 : 9 ≤ cU) (h2 : cU ≤ maxLen) (hr : Reads W W.heap.size 1 AU 9 (P1.texts.map Value.string)) => ruParse_is AU 9 cU _ W hw h1 h2 hr hS2 P1 0 0 hP2
    have HC2 := Lib.hid fun W => ruleCheck_ok P1 W e4 (by omega) (by omega)
    have HT2 := Lib.hid hT2
    have q9 : (ln : Int) = 9 := by have := HLen.out; omega
    obtain rfl : ln = 9 := by omega
    subst e1
    subst e2
    clear q9 hz hT2 hP2 hS2 e3 e4 e5
    obtain ⟨xnm, xfr, xtt, xmo, xk, xn, xd, xs, xc, xsv, xlt⟩ := P1
    unfold Ru.R.v at HT2 HP2 HC2 ⊢
    simp only at HT2 HP2 HC2 ⊢
    have HX := Lib.hid (At.new w3 #[.string xnm, .int .i64 xfr, .int .i64 xtt, .int .i64 xmo, .int .u8 xk, .int .i64 xn, .int .i64 xd, .int .i64 xs, .int .u8 xc, .int .i64 xsv, .string xlt] 34)
    replace HB := Lib.hid (HB.out.alloc HB.out.size (.cells #[.string xnm, .int .i64 xfr, .int .i64 xtt, .int .i64 xmo, .int .u8 xk, .int .i64 xn, .int .i64 xd, .int .i64 xs, .int .u8 xc, .int .i64 xsv, .string xlt] 34))
    obtain ⟨⟨u0, u1, u2, u3, u4, u5, u6, u7, u8, u9, u10⟩, _⟩ := At.eleven (r := ⟨xnm, xfr, xtt, xmo, xk, xn, xd, xs, xc, xsv, xlt⟩) HX.out
    simp only at u0 u1 u2 u3 u4 u5 u6 u7 u8 u9 u10
    go_wp2_with fail
    refine (HT2.out _ (HW.out.below HB.out)).mono ?_
    rintro e w4 ⟨AU, cU, hcU, rfl, hrU, hb⟩
    have hcU1 : 9 ≤ cU := hcU.1
    have hcU2 := hcU.2
    have HX1 := Lib.hid (HX.out.call hb)
    replace HB := Lib.hid (below_then HB.out hb)
    have HRU := Lib.hid hrU
    clear hb HX hrU hcU u0 u1 u2 u3 u4 u5 u6 u7 u8 u9 u10
    go_wp2_with fail
    refine (HP2.out AU cU _ (HW.out.below HB.out).p hcU1 hcU2 HRU.out).mono ?_
    rintro e w5 ⟨rfl, hb⟩
    have HX2 := Lib.hid (HX1.out.call hb)
    have HX3 := Lib.hid (HX2.out.alloc #[.string xnm, .int .i64 xfr, .int .i64 xtt, .int .i64 xmo, .int .u8 xk, .int .i64 xn, .int .i64 xd, .int .i64 xs, .int .u8 xc, .int .i64 xsv, .string xlt] 34)
    have HY := Lib.hid (At.new w5 #[.string xnm, .int .i64 xfr, .int .i64 xtt, .int .i64 xmo, .int .u8 xk, .int .i64 xn, .int .i64 xd, .int .i64 xs, .int .u8 xc, .int .i64 xsv, .string xlt] 34)
    have z5 := HX2.out.lt
    replace HB := Lib.hid ((below_then HB.out hb).alloc (below_then HB.out hb).size (.cells #[.string xnm, .int .i64 xfr, .int .i64 xtt, .int .i64 xmo, .int .u8 xk, .int .i64 xn, .int .i64 xd, .int .i64 xs, .int .u8 xc, .int .i64 xsv, .string xlt] 34))
    clear hb HX1
    obtain ⟨⟨u0, u1, u2, u3, u4, u5, u6, u7, u8, u9, u10⟩, _⟩ := At.eleven (r := ⟨xnm, xfr, xtt, xmo, xk, xn, xd, xs, xc, xsv, xlt⟩) HX3.out
    simp only at u0 u1 u2 u3 u4 u5 u6 u7 u8 u9 u10
    go_wp2_with fail
    refine (HC2.out _).mono ?_
    rintro e w6 ⟨rfl, hb⟩
    have HX4 := Lib.hid (HX3.out.call hb)
    have HY4 := Lib.hid (HY.out.call hb)
    replace HB := Lib.hid (below_then HB.out hb)
    clear hb HX3 HX2 z5 u0 u1 u2 u3 u4 u5 u6 u7 u8 u9 u10
    obtain ⟨⟨u0, u1, u2, u3, u4, u5, u6, u7, u8, u9, u10⟩, _⟩ := At.eleven (r := ⟨xnm, xfr, xtt, xmo, xk, xn, xd, xs, xc, xsv, xlt⟩) HX4.out
    simp only at u0 u1 u2 u3 u4 u5 u6 u7 u8 u9 u10
    obtain ⟨⟨v0, v1, v2, v3, v4, v5, v6, v7, v8, v9, v10⟩, _⟩ := At.eleven (r := ⟨xnm, xfr, xtt, xmo, xk, xn, xd, xs, xc, xsv, xlt⟩) HY4.out
    simp only at v0 v1 v2 v3 v4 v5 v6 v7 v8 v9 v10
    go_wp2
    go_ret
    exact ⟨rfl, HB.out⟩
  · subst e2
    unfold Ru.R.v Ru.R.zero
    simp only
    have q2 : (p3 != 0) = true := by simpa using e1
    have q2' : (p3 == 0) = false := by simpa using e1
    have q3 : p2 ≤ (ln : Int) := by rw [HLen.out] at e4; exact e4
    have q4 : p2 ≤ min (ln : Int) 9 := by omega
    clear e1 e4
    go_wp2
    go_ret
    exact ⟨rfl, HB.out.alloc HB.out.size _⟩
end Go.Proofs.YtokimlfbfbfenaaDoor
