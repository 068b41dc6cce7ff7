/- The walk of the law TopShorter. -/
import Derived.Test.YtokimlfbfbfenaaDoorEraBackWalk
namespace Go.Proofs.YtokimlfbfbfenaaDoor
open Go.RowKit

def Er.five : Er.E := ⟨3600, 0, 0, ⟨#[]⟩, ⟨#[120]⟩, false, ⟨0, 0, 0, 0, 0, 0, 0⟩⟩
theorem five_ok : Er.five.Ok := by
  refine ⟨by decide +kernel, by decide +kernel, .inl ⟨rfl, rfl, rfl⟩, ?_, ?_⟩
  · intro h
    exact absurd h (by decide)
  · intro _
    rfl
theorem five_texts : Er.five.texts = [⟨#[49, 58, 48, 48]⟩, ⟨#[45]⟩, ⟨#[120]⟩] := by
  have e1 : (⟨(Ck.text 3600).toArray⟩ : ByteArray) = ⟨#[49, 58, 48, 48]⟩ := by rw [text_eq]; decide +kernel
  unfold Er.E.texts Er.E.front Er.E.mid Er.five
  simp only [e1]
  decide +kernel
set_option maxHeartbeats 2000000 in
theorem begins5_any (w : World) (hWe : We w) : Calls Tryd.prog 35 #[] w fun e w' => e = .returned (.bool true) ∧ Below w.heap.size w w' := by
  have hT := erText_ok Er.five w hWe.c hWe.a five_ok (by decide) (by decide) (by decide)
  rw [five_texts] at hT
  have HT := Lib.hid hT
  have HN := Lib.hid fun W => calls_bool (name_any ⟨#[97]⟩ W (by decide)) (show _ = true by decide +kernel)
  clear hT hWe
  go_enter Tryd.func35, Tryd.ntmps35
  go_wp2_with fail
  refine HT.out.mono ?_
  rintro e w1 ⟨AL, cL, hcap, rfl, hrL, hb⟩
  have HRL := Lib.hid hrL
  have HB := Lib.hid hb
  clear hrL hb hcap
  go_wp2_with fail
  refine (texts_yes _ _ 3 3 cL 3 [⟨#[49, 58, 48, 48]⟩, ⟨#[45]⟩, ⟨#[120]⟩] [⟨#[49, 58, 48, 48]⟩, ⟨#[45]⟩, ⟨#[120]⟩] _ (by decide) (by decide) ((HRL.out.alloc (Nat.le_refl _) _).more (by simp)) (reads_at w1 w1.heap.size [⟨#[49, 58, 48, 48]⟩, ⟨#[45]⟩, ⟨#[120]⟩] 9 rfl) rfl).mono ?_
  rintro e w2 ⟨rfl, hb⟩
  replace HB := Lib.hid (below_then (HB.out.alloc HB.out.size _) hb)
  clear hb
  go_wp2_with fail
  refine (HN.out _).mono ?_
  rintro e w3 ⟨rfl, hb⟩
  replace HB := Lib.hid (below_then HB.out hb)
  clear hb
  go_wp2
  go_ret
  exact ⟨rfl, HB.out⟩
set_option maxHeartbeats 4000000 in
set_option maxRecDepth 100000 in
theorem topShorter_any (e : Er.E) (n : Int) (w : World) (hWe : We w) (hc : 0 ≤ e.u.c) (hs2 : e.ru.size ≤ maxLen) (hs1 : e.fm.size ≤ maxLen) (hn : (Lit.int .u8 n).wf = true) :
    Calls Tryd.prog 7 #[e.v, .int .u8 n] w fun r w' => r = .returned (.bool true) ∧ Below w.heap.size w w' := by
  have hT := fun W hw hwa h1 h2 => erText_both e W hw hwa hc h1 h2
  have hTs := fun h => er_texts_small e h
  have hNo := Er.texts_no_rule e
  have hSome := fun h => Er.parse_some e h hc
  have hLn := Er.texts_len e
  have hCnt := Mo.count_bd e.u
  obtain ⟨TX, hTX⟩ : ∃ l, e.texts = l := ⟨_, rfl⟩
  unfold ETexts at hT
  rw [hTX] at hTs hNo hLn
  simp only [hTX] at hT hSome
  have hbd : 0 ≤ n ∧ n ≤ 255 := by simpa [Lit.wf, IntKind.min, IntKind.max, IntKind.signed, IntKind.bits] using hn
  obtain ⟨n0, n1⟩ := hbd
  obtain ⟨kn, hkn⟩ : ∃ k : Nat, n.toNat % 5 = k := ⟨_, rfl⟩
  have hk4 : kn ≤ 4 := by omega
  have HMod : Hid (n.tmod 5 = (kn : Int)) := by
    show _ = _
    rw [Int.tmod_eq_emod_of_nonneg n0]
    omega
  have hMd := HMod.out
  obtain ⟨std, k, sv, ru, fm, en, ⟨y, m, dk, dn, dd, s, c⟩⟩ := e
  simp only at hT hTs hs1 hs2 hc hSome hLn hCnt
  have HL := Lib.hid fun W hwe => begins5_any W hwe
  have HT := Lib.hid hT
  have HTs := Lib.hid hTs
  have HNo := Lib.hid hNo
  have HSome := Lib.hid hSome
  have HLn := Lib.hid hLn
  have HCnt := Lib.hid hCnt
  have HWe := Lib.hid hWe
  unfold maxLen at hs1 hs2
  have HB := Lib.hid ((Below.refl w.heap.size w).alloc (Nat.le_refl _) (.cells #[.int .i64 std, .int .u8 k, .int .i64 sv, .string ru, .string fm, .bool en, .int .i64 y, .int .i64 m, .int .u8 dk, .int .i64 dn, .int .i64 dd, .int .i64 s, .int .u8 c] 50))
  have HA := Lib.hid (At.new w #[.int .i64 std, .int .u8 k, .int .i64 sv, .string ru, .string fm, .bool en, .int .i64 y, .int .i64 m, .int .u8 dk, .int .i64 dn, .int .i64 dd, .int .i64 s, .int .u8 c] 50)
  unfold Er.E.v
  simp only
  clear hT hTs hNo hSome hWe hLn hCnt hTX hkn hn
  obtain ⟨S, wr0⟩ : ∃ S, IntKind.i64.wrap ((ru.size : Int) + (fm.size : Int)) = S := ⟨_, rfl⟩
  have wr1 : IntKind.i64.wrap (3 + (kn : Int)) = 3 + (kn : Int) := by simp [IntKind.wrap, IntKind.signed, IntKind.bits]; omega
  go_enter Tryd.func7, Tryd.ntmps7
  go_wp2_with fail
  refine (HL.out _ (HWe.out.below HB.out)).mono ?_
  rintro e w1 ⟨rfl, hb⟩
  have HA1 := Lib.hid (HA.out.call hb)
  replace HB := Lib.hid (below_then HB.out hb)
  clear hb HA
  obtain ⟨⟨a0, a1, a2, a3, a4, a5, a6, a7, a8, a9, a10, a11, a12⟩, _⟩ := At.thirteen (e := ⟨std, k, sv, ru, fm, en, ⟨y, m, dk, dn, dd, s, c⟩⟩) HA1.out
  simp only at a0 a1 a2 a3 a4 a5 a6 a7 a8 a9 a10 a11 a12
  by_cases q1 : (1000 : Int) < S
  · go_wp2
    go_ret
    exact ⟨rfl, HB.out⟩
  go_wp2_with fail
  refine (HT.out _ (HWe.out.below HB.out).c (HWe.out.below HB.out).a (by unfold maxLen; omega) (by unfold maxLen; omega)).mono ?_
  rintro e w2 ⟨AT, nT, cT, yT, rfl, hb, hcT1, hcT2, hcase⟩
  have HA2 := Lib.hid (HA1.out.call hb)
  replace HB := Lib.hid (below_then HB.out hb)
  clear hb HA1 a0 a1 a2 a3 a4 a5 a6 a7 a8 a9 a10 a11 a12
  rcases hcase with ⟨hok, e1, e2, e3⟩ | ⟨_, e1⟩
  · subst e1
    by_cases hkl : nT < 3 + kn
    · have q2 : (nT : Int) < 3 + (kn : Int) := by omega
      clear hok e2 e3
      go_wp2
      go_ret
      exact ⟨rfl, HB.out⟩
    have q2 : ¬ (nT : Int) < 3 + (kn : Int) := by omega
    have q3 : (0 : Int) ≤ 3 + (kn : Int) := by omega
    have q4 : 3 + (kn : Int) ≤ (cT : Int) := by omega
    obtain ⟨x, hx1, hx2, hx3, hx4, hx5⟩ := HSome.out hok (3 + kn) (by omega) (by omega)
    have h8 : Reads w2 w2.heap.size 1 AT (3 + kn) ((TX.take (3 + kn)).map Value.string) := reads_less e3 (3 + kn) (by omega)
    have HP := Lib.hid (erParse_is AT (3 + kn) cT _ _ (HWe.out.below HB.out).c.p (HWe.out.below HB.out).a (by omega) hcT2 h8 (fun t ht => HTs.out hok t (List.mem_of_mem_take ht)) x 0 0 hx1)
    obtain ⟨r1, r2, r3, hR⟩ : ∃ a b c, Ru.parse TX = (a, b, c) := ⟨_, _, _, rfl⟩
    have hRn := HNo.out
    rw [hR] at hRn
    have hRp := fun W hw (hr : Reads W W.heap.size 1 AT nT (TX.map Value.string)) => ruParse_is AT nT cT TX W hw hcT1 hcT2 hr (HTs.out hok) r1 r2 r3 hR
    have HRp := Lib.hid hRp
    have HR3 := Lib.hid e3
    obtain ⟨xstd, xk, xsv, xru, xfm, xen, ⟨xy, xm, xdk, xdn, xdd, xs, xc⟩⟩ := x
    simp only at hx2 hx3 hx4 hx5 hRn
    have g2 := hx2.symm
    have g3 := hx3.symm
    subst g2 g3
    clear hx2 hx3
    unfold Er.E.v at HP
    simp only at HP
    have HX4 : Hid (xen = decide ((3 : Int) < 3 + (kn : Int))) := by
      show xen = _
      rw [hx4]
      by_cases h0 : 3 < 3 + kn
      · rw [decide_eq_true h0, decide_eq_true (by omega)]
      · rw [decide_eq_false h0, decide_eq_false (by omega)]
    have HX5 : Hid ((3 : Int) < 3 + (kn : Int) → xy = y) := fun h0 => hx5 (by omega)
    have q5 : (r3 != 0) = true := by simpa using hRn
    have q6 : (r3 == 0) = false := by simpa using hRn
    clear hok e2 e3 hx1 hx4 hx5 h8 hR hRn hRp
    go_wp2_with fail
    refine HP.out.mono ?_
    rintro e w3 ⟨rfl, hb⟩
    have HA3 := Lib.hid (HA2.out.call hb)
    have HX3 := Lib.hid (At.new w3 #[.int .i64 std, .int .u8 xk, .int .i64 xsv, .string xru, .string fm, .bool xen, .int .i64 xy, .int .i64 xm, .int .u8 xdk, .int .i64 xdn, .int .i64 xdd, .int .i64 xs, .int .u8 xc] 50)
    have HA4 := Lib.hid (HA3.out.alloc #[.int .i64 std, .int .u8 xk, .int .i64 xsv, .string xru, .string fm, .bool xen, .int .i64 xy, .int .i64 xm, .int .u8 xdk, .int .i64 xdn, .int .i64 xdd, .int .i64 xs, .int .u8 xc] 50)
    replace HB := Lib.hid ((below_then HB.out hb).alloc (below_then HB.out hb).size (.cells #[.int .i64 std, .int .u8 xk, .int .i64 xsv, .string xru, .string fm, .bool xen, .int .i64 xy, .int .i64 xm, .int .u8 xdk, .int .i64 xdn, .int .i64 xdd, .int .i64 xs, .int .u8 xc] 50))
    have HBL := Lib.hid (hb.alloc hb.size (.cells #[.int .i64 std, .int .u8 xk, .int .i64 xsv, .string xru, .string fm, .bool xen, .int .i64 xy, .int .i64 xm, .int .u8 xdk, .int .i64 xdn, .int .i64 xdd, .int .i64 xs, .int .u8 xc] 50))
    have z3 := HA3.out.lt
    clear hb HA2 HP
    obtain ⟨⟨a0, a1, a2, a3, a4, a5, a6, a7, a8, a9, a10, a11, a12⟩, _⟩ := At.thirteen (e := ⟨std, k, sv, ru, fm, en, ⟨y, m, dk, dn, dd, s, c⟩⟩) HA4.out
    simp only at a0 a1 a2 a3 a4 a5 a6 a7 a8 a9 a10 a11 a12
    cases xen
    · have q8 : ¬ (3 : Int) < 3 + (kn : Int) := of_decide_eq_false HX4.out.symm
      clear HX4 HX5
      go_wp2_with fail
      refine (HRp.out _ (HWe.out.below HB.out).c.p ((HR3.out.below HBL.out).more HBL.out.size)).mono ?_
      rintro e w4 ⟨rfl, hb⟩
      have HA5 := Lib.hid (HA4.out.call hb)
      have HX5 := Lib.hid (HX3.out.call hb)
      have z5 := HX5.out.lt
      have z5a := HA5.out.lt
      replace HB := Lib.hid (below_then HB.out hb)
      unfold Ru.R.v
      clear hb HA3 HA4 HX3 z3 a0 a1 a2 a3 a4 a5 a6 a7 a8 a9 a10 a11 a12
      obtain ⟨⟨a0, a1, a2, a3, a4, a5, a6, a7, a8, a9, a10, a11, a12⟩, _⟩ := At.thirteen (e := ⟨std, k, sv, ru, fm, en, ⟨y, m, dk, dn, dd, s, c⟩⟩) HA5.out
      simp only at a0 a1 a2 a3 a4 a5 a6 a7 a8 a9 a10 a11 a12
      obtain ⟨⟨u0, u1, u2, u3, u4, u5, u6, u7, u8, u9, u10, u11, u12⟩, _⟩ := At.thirteen (e := ⟨std, xk, xsv, xru, fm, false, ⟨xy, xm, xdk, xdn, xdd, xs, xc⟩⟩) HX5.out
      simp only at u0 u1 u2 u3 u4 u5 u6 u7 u8 u9 u10 u11 u12
      go_wp2
      go_ret
      exact ⟨rfl, HB.out.alloc HB.out.size _⟩
    · have q8 : (3 : Int) < 3 + (kn : Int) := of_decide_eq_true HX4.out.symm
      have hy := (HX5.out q8).symm
      subst hy
      clear HX4 HX5
      go_wp2_with fail
      refine (HRp.out _ (HWe.out.below HB.out).c.p ((HR3.out.below HBL.out).more HBL.out.size)).mono ?_
      rintro e w4 ⟨rfl, hb⟩
      have HA5 := Lib.hid (HA4.out.call hb)
      have HX5 := Lib.hid (HX3.out.call hb)
      have z5 := HX5.out.lt
      have z5a := HA5.out.lt
      replace HB := Lib.hid (below_then HB.out hb)
      unfold Ru.R.v
      clear hb HA3 HA4 HX3 z3 a0 a1 a2 a3 a4 a5 a6 a7 a8 a9 a10 a11 a12
      obtain ⟨⟨a0, a1, a2, a3, a4, a5, a6, a7, a8, a9, a10, a11, a12⟩, _⟩ := At.thirteen (e := ⟨std, k, sv, ru, fm, en, ⟨y, m, dk, dn, dd, s, c⟩⟩) HA5.out
      simp only at a0 a1 a2 a3 a4 a5 a6 a7 a8 a9 a10 a11 a12
      obtain ⟨⟨u0, u1, u2, u3, u4, u5, u6, u7, u8, u9, u10, u11, u12⟩, _⟩ := At.thirteen (e := ⟨std, xk, xsv, xru, fm, true, ⟨y, xm, xdk, xdn, xdd, xs, xc⟩⟩) HX5.out
      simp only at u0 u1 u2 u3 u4 u5 u6 u7 u8 u9 u10 u11 u12
      go_wp2
      go_ret
      exact ⟨rfl, HB.out.alloc HB.out.size _⟩
  · subst e1
    go_wp2
    go_ret
    exact ⟨rfl, HB.out⟩
end Go.Proofs.YtokimlfbfbfenaaDoor
