/- The walk of the law TopLines. -/
import Derived.Test.YtlhoggalhjadgaaDoorK27
import Derived.Test.YtlhoggalhjadgaaDoorK33
import Derived.Test.YtlhoggalhjadgaaDoorK13
import Derived.ProofKit
import Derived.OpenShut
import Derived.Lib.SmallJoins
import Derived.SliceStrings
import Derived.Deep.RegionHeld
import Derived.Deep.Strs
import Derived.Test.YtlhoggalhjadgaaDoorK20
import Derived.Lib.LaidTab
namespace Go.Proofs.YtlhoggalhjadgaaDoor
open Go.RowKit

def LB (w : World) (rc ec : List Value) (wx : World) : Prop := Hid (At wx w.heap.size rc) ∧ Hid (At wx (w.heap.size + 1) ec) ∧ Hid (Below w.heap.size w wx)
theorem rule_len9 (r : Ru.R) : r.texts.length = 9 := rfl
theorem era_len7 (e : Er.E) : e.texts.length ≤ 9 ∧ e.texts ≠ [] := by
  have h1 := Er.texts_len e
  have h2 := Mo.count_bd e.u
  refine ⟨by rw [h1]; split <;> omega, fun h => ?_⟩
  rw [h] at h1
  simp only [List.length_nil] at h1
  split at h1 <;> omega
set_option maxHeartbeats 4000000 in
set_option maxRecDepth 100000 in
theorem topLines_any (r : Ru.R) (e : Er.E) (w : World) (hWe : We w) (hrc : 0 ≤ r.c) (hec : 0 ≤ e.u.c) (z1 : r.nm.size ≤ 140737488355328) (z2 : r.lt.size ≤ 140737488355328) (z3 : e.ru.size ≤ 140737488355328) (z4 : e.fm.size ≤ 140737488355328) :
    Calls Tryd.prog 3 #[r.v, e.v] w fun x w' => x = .returned (.bool true) ∧ Below w.heap.size w w' := by
  have hT := fun W hw h1 h2 => ruText_both r W hw hrc h1 h2
  have hE := fun W hw hwa h1 h2 => erText_both e W hw hwa hec h1 h2
  have hK := fun W hwa (h : ¬ e.Ok) h1 h2 => eraCheck_bad e W hwa h h1 h2
  have hrp : r.Ok → Ru.parse r.texts = (r, 0, 0) := fun h => Ru.parse_texts r h hrc
  have hep : e.Ok → Er.parse e.texts = (e, 0, 0) := fun h => Er.parse_texts e h hec
  have hrf := fun h => Sc.rule_fit r h
  have hef := fun h => Sc.era_fit e h
  have hel := era_len7 e
  obtain ⟨TX, hTX⟩ : ∃ l, r.texts = l := ⟨_, rfl⟩
  obtain ⟨EX, hEX⟩ : ∃ l, e.texts = l := ⟨_, rfl⟩
  have hl9 : TX.length = 9 := by rw [← hTX]; rfl
  unfold RTexts at hT
  unfold ETexts at hE
  simp only [hTX] at hT hrp hrf
  simp only [hEX] at hE hep hef hel
  obtain ⟨nm, fr, tt, mo, k, n, d, s, c, sv, lt⟩ := r
  obtain ⟨std, ek, esv, ru, fm, en, ⟨y, m, dk, dn, dd, es, ec⟩⟩ := e
  simp only at hT hE hK z1 z2 z3 z4 hrc hec
  have HL := Lib.hid fun W hwe => begins5_any W hwe
  have HT := Lib.hid hT
  have HE := Lib.hid hE
  have HK := Lib.hid hK
  have HRp := Lib.hid hrp
  have HEp := Lib.hid hep
  have HRf := Lib.hid hrf
  have HEf := Lib.hid hef
  have HEl := Lib.hid hel
  have HL9 := Lib.hid hl9
  have HWe := Lib.hid hWe
  have HB := Lib.hid (((Below.refl w.heap.size w).alloc (Nat.le_refl _) (.cells #[.string nm, .int .i64 fr, .int .i64 tt, .int .i64 mo, .int .u8 k, .int .i64 n, .int .i64 d, .int .i64 s, .int .u8 c, .int .i64 sv, .string lt] 29)).alloc (by simp) (.cells #[.int .i64 std, .int .u8 ek, .int .i64 esv, .string ru, .string fm, .bool en, .int .i64 y, .int .i64 m, .int .u8 dk, .int .i64 dn, .int .i64 dd, .int .i64 es, .int .u8 ec] 34))
  have HA := Lib.hid ((At.new w #[.string nm, .int .i64 fr, .int .i64 tt, .int .i64 mo, .int .u8 k, .int .i64 n, .int .i64 d, .int .i64 s, .int .u8 c, .int .i64 sv, .string lt] 29).alloc #[.int .i64 std, .int .u8 ek, .int .i64 esv, .string ru, .string fm, .bool en, .int .i64 y, .int .i64 m, .int .u8 dk, .int .i64 dn, .int .i64 dd, .int .i64 es, .int .u8 ec] 34)
  have HD := Lib.hid (show At ((w.alloc (.cells #[.string nm, .int .i64 fr, .int .i64 tt, .int .i64 mo, .int .u8 k, .int .i64 n, .int .i64 d, .int .i64 s, .int .u8 c, .int .i64 sv, .string lt] 29)).alloc (.cells #[.int .i64 std, .int .u8 ek, .int .i64 esv, .string ru, .string fm, .bool en, .int .i64 y, .int .i64 m, .int .u8 dk, .int .i64 dn, .int .i64 dd, .int .i64 es, .int .u8 ec] 34)) (w.heap.size + 1) [.int .i64 std, .int .u8 ek, .int .i64 esv, .string ru, .string fm, .bool en, .int .i64 y, .int .i64 m, .int .u8 dk, .int .i64 dn, .int .i64 dd, .int .i64 es, .int .u8 ec] by have := At.new (w.alloc (.cells #[.string nm, .int .i64 fr, .int .i64 tt, .int .i64 mo, .int .u8 k, .int .i64 n, .int .i64 d, .int .i64 s, .int .u8 c, .int .i64 sv, .string lt] 29)) #[.int .i64 std, .int .u8 ek, .int .i64 esv, .string ru, .string fm, .bool en, .int .i64 y, .int .i64 m, .int .u8 dk, .int .i64 dn, .int .i64 dd, .int .i64 es, .int .u8 ec] 34; simpa using this)
  have wr1 : IntKind.i64.wrap ((nm.size : Int) + (lt.size : Int)) = (nm.size : Int) + (lt.size : Int) := IntWalk.i64_in _ (by omega)
  have wr2 : IntKind.i64.wrap ((nm.size : Int) + (lt.size : Int) + (ru.size : Int)) = (nm.size : Int) + (lt.size : Int) + (ru.size : Int) := IntWalk.i64_in _ (by omega)
  have wr3 : IntKind.i64.wrap ((nm.size : Int) + (lt.size : Int) + (ru.size : Int) + (fm.size : Int)) = (nm.size : Int) + (lt.size : Int) + (ru.size : Int) + (fm.size : Int) := IntWalk.i64_in _ (by omega)
  unfold Ru.R.v Er.E.v
  simp only
  clear hT hE hK hrp hep hrf hef hel hl9 hWe hTX hEX
  go_enter Tryd.func3, Tryd.ntmps3
  go_wp2_with fail
  refine (HL.out _ (HWe.out.below HB.out)).mono ?_
  rintro x w1 ⟨rfl, hb⟩
  have HA1 := Lib.hid (HA.out.call hb)
  have HD1 := Lib.hid (HD.out.call hb)
  replace HB := Lib.hid (below_then HB.out hb)
  clear hb HA HD
  obtain ⟨⟨a0, a1, a2, a3, a4, a5, a6, a7, a8, a9, a10⟩, _⟩ := At.eleven (r := ⟨nm, fr, tt, mo, k, n, d, s, c, sv, lt⟩) HA1.out
  obtain ⟨⟨b0, b1, b2, b3, b4, b5, b6, b7, b8, b9, b10, b11, b12⟩, _⟩ := At.thirteen (e := ⟨std, ek, esv, ru, fm, en, ⟨y, m, dk, dn, dd, es, ec⟩⟩) HD1.out
  simp only at a0 a1 a2 a3 a4 a5 a6 a7 a8 a9 a10 b0 b1 b2 b3 b4 b5 b6 b7 b8 b9 b10 b11 b12
  by_cases q1 : (1000 : Int) < (nm.size : Int) + (lt.size : Int) + (ru.size : Int) + (fm.size : Int)
  · go_wp2
    go_ret
    exact ⟨rfl, HB.out⟩
  go_wp2_with fail
  refine (HT.out _ (HWe.out.below HB.out).c (by omega) (by omega)).mono ?_
  rintro x w2 ⟨AT, nT, cT, yT, rfl, hb, hcT1, hcT2, hcase⟩
  have HA2 := Lib.hid (HA1.out.call hb)
  have HD2 := Lib.hid (HD1.out.call hb)
  have HCase := Lib.hid hcase
  replace HB := Lib.hid (below_then HB.out hb)
  clear hb HA1 HD1 hcase a0 a1 a2 a3 a4 a5 a6 a7 a8 a9 a10 b0 b1 b2 b3 b4 b5 b6 b7 b8 b9 b10 b11 b12
  go_upto_if 43 with fail
  go_cut [] (fun wx => LB w [.string nm, .int .i64 fr, .int .i64 tt, .int .i64 mo, .int .u8 k, .int .i64 n, .int .i64 d, .int .i64 s, .int .u8 c, .int .i64 sv, .string lt] [.int .i64 std, .int .u8 ek, .int .i64 esv, .string ru, .string fm, .bool en, .int .i64 y, .int .i64 m, .int .u8 dk, .int .i64 dn, .int .i64 dd, .int .i64 es, .int .u8 ec] wx)
  case first =>
    rcases HCase.out with ⟨hok, e1, e2, e3⟩ | ⟨_, e1⟩
    · have hfit := HRf.out hok
      have hF := fields5_ok AT nT cT TX w2 hcT1 hcT2 e3 (by intro h; have := HL9.out; rw [h] at this; cases this) (fun t ht => (hfit t ht).1) (by have := HL9.out; omega) (Sc.line_fit TX hfit (by have := HL9.out; omega)) (fun t ht => by have := (hfit t ht).2; omega)
      have hP := fun (A : Option Addr) (c' : Nat) W hw (h1 : nT ≤ c') (h2 : c' ≤ maxLen) (hr : Reads W W.heap.size 1 A nT (TX.map Value.string)) => ruParse_is A nT c' TX W hw h1 h2 hr (fun t ht => by have := (hfit t ht).2; omega) ⟨nm, fr, tt, mo, k, n, d, s, c, sv, lt⟩ 0 0 (HRp.out hok)
      have HF := Lib.hid hF
      have HP := Lib.hid hP
      subst e1
      clear hok e2 e3 hfit hF hP
      go_wp2_with fail
      refine HF.out.mono ?_
      rintro x w3 ⟨A5, c5, rfl, hb, hc5, hc5m, hr5⟩
      have HA3 := Lib.hid (HA2.out.call hb)
      have HD3 := Lib.hid (HD2.out.call hb)
      have HR5 := Lib.hid hr5
      have hp := HP.out A5 c5 w3
      unfold Ru.R.v at hp
      simp only at hp
      have HP3 := Lib.hid hp
      replace HB := Lib.hid (below_then HB.out hb)
      clear hb hr5 hp HP HA2 HD2
      go_wp2_with fail
      refine (HP3.out (HWe.out.below HB.out).c.p hc5 hc5m HR5.out).mono ?_
      rintro x w4 ⟨rfl, hb⟩
      have HA4 := Lib.hid ((HA3.out.call hb).alloc #[.string nm, .int .i64 fr, .int .i64 tt, .int .i64 mo, .int .u8 k, .int .i64 n, .int .i64 d, .int .i64 s, .int .u8 c, .int .i64 sv, .string lt] 29)
      have HD4 := Lib.hid ((HD3.out.call hb).alloc #[.string nm, .int .i64 fr, .int .i64 tt, .int .i64 mo, .int .u8 k, .int .i64 n, .int .i64 d, .int .i64 s, .int .u8 c, .int .i64 sv, .string lt] 29)
      have HX4 := Lib.hid (At.new w4 #[.string nm, .int .i64 fr, .int .i64 tt, .int .i64 mo, .int .u8 k, .int .i64 n, .int .i64 d, .int .i64 s, .int .u8 c, .int .i64 sv, .string lt] 29)
      replace HB := Lib.hid ((below_then HB.out hb).alloc (below_then HB.out hb).size (.cells #[.string nm, .int .i64 fr, .int .i64 tt, .int .i64 mo, .int .u8 k, .int .i64 n, .int .i64 d, .int .i64 s, .int .u8 c, .int .i64 sv, .string lt] 29))
      have z3' := (HA3.out.call hb).lt
      clear hb
      obtain ⟨⟨a0, a1, a2, a3, a4, a5, a6, a7, a8, a9, a10⟩, _⟩ := At.eleven (r := ⟨nm, fr, tt, mo, k, n, d, s, c, sv, lt⟩) HA4.out
      obtain ⟨⟨x0, x1, x2, x3, x4, x5, x6, x7, x8, x9, x10⟩, _⟩ := At.eleven (r := ⟨nm, fr, tt, mo, k, n, d, s, c, sv, lt⟩) HX4.out
      simp only at a0 a1 a2 a3 a4 a5 a6 a7 a8 a9 a10 x0 x1 x2 x3 x4 x5 x6 x7 x8 x9 x10
      go_wp2
      go_meet
      exact ⟨HA4.out, HD4.out, HB.out⟩
    · subst e1
      go_wp2
      go_meet
      exact ⟨HA2.out, HD2.out, HB.out⟩
  case rest =>
  as_aux_lemma =>
  obtain ⟨HA, HD, HB⟩ := hcut
  clear HA2 HD2 HCase HRp HRf HT
  obtain ⟨⟨a0, a1, a2, a3, a4, a5, a6, a7, a8, a9, a10⟩, _⟩ := At.eleven (r := ⟨nm, fr, tt, mo, k, n, d, s, c, sv, lt⟩) HA.out
  obtain ⟨⟨b0, b1, b2, b3, b4, b5, b6, b7, b8, b9, b10, b11, b12⟩, _⟩ := At.thirteen (e := ⟨std, ek, esv, ru, fm, en, ⟨y, m, dk, dn, dd, es, ec⟩⟩) HD.out
  simp only at a0 a1 a2 a3 a4 a5 a6 a7 a8 a9 a10 b0 b1 b2 b3 b4 b5 b6 b7 b8 b9 b10 b11 b12
  go_wp2_with fail
  refine (HE.out _ (HWe.out.below HB.out).c (HWe.out.below HB.out).a (by unfold maxLen; omega) (by unfold maxLen; omega)).mono ?_
  rintro x w5 ⟨AT5, nE, cE, yE, rfl, hb, hcE1, hcE2, hcase⟩
  have HD5 := Lib.hid (HD.out.call hb)
  replace HB := Lib.hid (below_then HB.out hb)
  clear hb a0 a1 a2 a3 a4 a5 a6 a7 a8 a9 a10 b0 b1 b2 b3 b4 b5 b6 b7 b8 b9 b10 b11 b12
  rcases hcase with ⟨hok, e1, e2, e3⟩ | ⟨hno, e1⟩
  · have hfit := HEf.out hok
    have hF := fields5_ok AT5 nE cE EX w5 hcE1 hcE2 e3 HEl.out.2 (fun t ht => (hfit t ht).1) (by have := HEl.out.1; omega) (Sc.line_fit EX hfit HEl.out.1) (fun t ht => by have := (hfit t ht).2; omega)
    have hP := fun (A : Option Addr) (c' : Nat) W hw hwa (h1 : nE ≤ c') (h2 : c' ≤ maxLen) (hr : Reads W W.heap.size 1 A nE (EX.map Value.string)) => erParse_is A nE c' EX W hw hwa h1 h2 hr (fun t ht => by have := (hfit t ht).2; omega) ⟨std, ek, esv, ru, fm, en, ⟨y, m, dk, dn, dd, es, ec⟩⟩ 0 0 (HEp.out hok)
    have HF := Lib.hid hF
    have HP := Lib.hid hP
    subst e1
    clear hok e2 e3 hfit hF hP
    go_wp2_with fail
    refine HF.out.mono ?_
    rintro x w6 ⟨A6, c6, rfl, hb, hc6, hc6m, hr6⟩
    have HD6 := Lib.hid (HD5.out.call hb)
    have HR6 := Lib.hid hr6
    have hp := HP.out A6 c6 w6
    unfold Er.E.v at hp
    simp only at hp
    have HP6 := Lib.hid hp
    replace HB := Lib.hid (below_then HB.out hb)
    clear hb hr6 hp HP
    go_wp2_with fail
    refine (HP6.out (HWe.out.below HB.out).c.p (HWe.out.below HB.out).a hc6 hc6m HR6.out).mono ?_
    rintro x w7 ⟨rfl, hb⟩
    have HD7 := Lib.hid ((HD6.out.call hb).alloc #[.int .i64 std, .int .u8 ek, .int .i64 esv, .string ru, .string fm, .bool en, .int .i64 y, .int .i64 m, .int .u8 dk, .int .i64 dn, .int .i64 dd, .int .i64 es, .int .u8 ec] 34)
    have HX7 := Lib.hid (At.new w7 #[.int .i64 std, .int .u8 ek, .int .i64 esv, .string ru, .string fm, .bool en, .int .i64 y, .int .i64 m, .int .u8 dk, .int .i64 dn, .int .i64 dd, .int .i64 es, .int .u8 ec] 34)
    replace HB := Lib.hid ((below_then HB.out hb).alloc (below_then HB.out hb).size (.cells #[.int .i64 std, .int .u8 ek, .int .i64 esv, .string ru, .string fm, .bool en, .int .i64 y, .int .i64 m, .int .u8 dk, .int .i64 dn, .int .i64 dd, .int .i64 es, .int .u8 ec] 34))
    have z7 := (HD6.out.call hb).lt
    clear hb
    obtain ⟨⟨b0, b1, b2, b3, b4, b5, b6, b7, b8, b9, b10, b11, b12⟩, _⟩ := At.thirteen (e := ⟨std, ek, esv, ru, fm, en, ⟨y, m, dk, dn, dd, es, ec⟩⟩) HD7.out
    obtain ⟨⟨y0, y1, y2, y3, y4, y5, y6, y7, y8, y9, y10, y11, y12⟩, _⟩ := At.thirteen (e := ⟨std, ek, esv, ru, fm, en, ⟨y, m, dk, dn, dd, es, ec⟩⟩) HX7.out
    simp only at b0 b1 b2 b3 b4 b5 b6 b7 b8 b9 b10 b11 b12 y0 y1 y2 y3 y4 y5 y6 y7 y8 y9 y10 y11 y12
    go_wp2
    go_ret
    exact ⟨rfl, HB.out⟩
  · subst e1
    obtain ⟨⟨b0, b1, b2, b3, b4, b5, b6, b7, b8, b9, b10, b11, b12⟩, _⟩ := At.thirteen (e := ⟨std, ek, esv, ru, fm, en, ⟨y, m, dk, dn, dd, es, ec⟩⟩) HD5.out
    simp only at b0 b1 b2 b3 b4 b5 b6 b7 b8 b9 b10 b11 b12
    have hk := HK.out w5 (HWe.out.below HB.out).a hno (by unfold maxLen; omega) (by unfold maxLen; omega)
    unfold Er.E.v at hk
    simp only at hk
    have HK5 := Lib.hid hk
    clear hk hno
    go_wp2_with fail
    refine HK5.out.mono ?_
    rintro x w8 ⟨rfl, hb⟩
    replace HB := Lib.hid (below_then HB.out hb)
    clear hb
    go_wp2
    go_ret
    exact ⟨rfl, HB.out⟩
end Go.Proofs.YtlhoggalhjadgaaDoor
/- An Until among a row's arguments, opened: its seven cells. -/
namespace Go.Proofs.YtlhoggalhjadgaaDoor
open Go.Deep
open Go.ChangeShapes Go.WideShapes Go.ChangeAt Go.RowKit Go.Joins
theorem byte_nonneg {c : Int} (h : (Lit.int .u8 c).wf = true) : 0 ≤ c := by
  have : 0 ≤ c ∧ c ≤ 255 := by simpa [Lit.wf, IntKind.min, IntKind.max, IntKind.signed, IntKind.bits] using h
  exact this.1
theorem array7 {α : Type} {cs : Array α} (h : cs.size = 7) : ∃ c0 c1 c2 c3 c4 c5 c6, cs = #[c0, c1, c2, c3, c4, c5, c6] := by
  obtain ⟨l⟩ := cs
  match l, h with
  | [c0, c1, c2, c3, c4, c5, c6], _ => exact ⟨c0, c1, c2, c3, c4, c5, c6, rfl⟩
set_option maxRecDepth 100000 in
theorem open_until {H : Type} {enc : TypeId × Value → H} {w : World} {base : Nat} {spare : Nat → Bool} {held : Bool} {r : Reach} {b0 : Nat} {v : Value} {d : DataW H} {p : List MemPlace}
    (hv : Value.okWide Tryd.prog w r b0 32 v) (h : DataW.Trod enc Tryd.prog w base spare held 32 v d p) : ∃ u : Mo.U, v = u.v ∧ 0 ≤ u.c := by
  have q7 : Tryd.prog.cellsOf 32 = 7 := by kernel_rfl
  have q0 : Tryd.prog.cellsOf 3 = 1 := by kernel_rfl
  have q1 : Tryd.prog.cellsOf 24 = 3 := by kernel_rfl
  have q2 : Tryd.prog.cellsOf 27 = 2 := by kernel_rfl
  have q3 : Tryd.prog.cellsOf 22 = 1 := by kernel_rfl
  have q4 : Tryd.prog.cellsOf 2 = 1 := by kernel_rfl
  have q5 : Tryd.prog.cellsOf 25 = 1 := by kernel_rfl
  obtain ⟨cs, rfl, hsz⟩ := okWide_struct Tryd.underlying32 hv
  obtain ⟨c0, c1, c2, c3, c4, c5, c6, rfl⟩ := array7 (hsz.trans q7)
  obtain ⟨fuel, hf⟩ := h
  obtain ⟨y0, y1, y2, y3, n, hx, _, h0, h1, h2, h3⟩ := trod_struct4 Tryd.underlying32 hf
  simp only [q0, q1, q2, Value.cells, List.drop, List.take] at h0 h1 h2 h3
  obtain ⟨a0, a1, a2, n2, _, _, g0, g1, g2⟩ := trod_struct3 Tryd.underlying24 h2
  obtain ⟨b0', b1', n3, _, _, f0, f1⟩ := trod_struct2 Tryd.underlying27 h3
  simp only [q0, q3, q4, q5, List.drop, List.take] at g0 g1 g2 f0 f1
  obtain ⟨y, e0, _, _⟩ := DataW.trod_int Tryd.underlying3 h0
  obtain ⟨m, e1, _, _⟩ := DataW.trod_int Tryd.underlying3 h1
  obtain ⟨k, e2, _, _⟩ := DataW.trod_int Tryd.underlying22 g0
  obtain ⟨nn, e3, _, _⟩ := DataW.trod_int Tryd.underlying3 g1
  obtain ⟨dd, e4, _, _⟩ := DataW.trod_int Tryd.underlying3 g2
  obtain ⟨s, e5, _, _⟩ := DataW.trod_int Tryd.underlying2 f0
  obtain ⟨c, e6, _, wc⟩ := DataW.trod_int Tryd.underlying25 f1
  simp only [List.cons.injEq, and_true] at e0 e1 e2 e3 e4 e5 e6
  subst e0 e1 e2 e3 e4 e5 e6
  exact ⟨⟨y, m, k, nn, dd, s, c⟩, rfl, byte_nonneg wc⟩
set_option maxRecDepth 100000 in
theorem open_strs {H : Type} {enc : TypeId × Value → H} {w : World} {base : Nat} {spare : Nat → Bool} {held : Bool} {r : Reach} {b0 : Nat} {v : Value} {d : DataW H} {p : List MemPlace}
    (hv : Value.okWide Tryd.prog w r b0 36 v) (h : DataW.Trod enc Tryd.prog w base spare held 36 v d p) :
    ∃ (A : Option Addr) (ln lc : Nat) (ss : List ByteArray), v = .slice A ln lc ∧ ln ≤ lc ∧ lc ≤ maxLen ∧ Reads w w.heap.size 1 A ln (ss.map Value.string) ∧ ∀ t ∈ ss, t.size ≤ maxLen := by
  have q0 : Tryd.prog.cellsOf 9 = 1 := by kernel_rfl
  obtain ⟨a0, ln, lc, rfl⟩ := okWide_slice Tryd.underlying36 hv
  obtain ⟨fuel, hf⟩ := h
  rcases open_strings Tryd.underlying36 Tryd.underlying9 q0 hf with ⟨hcs, _⟩ | ⟨a, ln', lc', ss, hcs, _, hl, hm, hz, _, hcell, hsz⟩
  · simp only [Value.cells, List.cons.injEq, Value.slice.injEq, and_true] at hcs
    obtain ⟨rfl, rfl, rfl⟩ := hcs
    exact ⟨none, 0, 0, [], rfl, Nat.le_refl _, Nat.zero_le _, Reads.none_, fun t ht => by cases ht⟩
  · simp only [Value.cells, List.cons.injEq, Value.slice.injEq, and_true] at hcs
    obtain ⟨rfl, rfl, rfl⟩ := hcs
    have hle : ln ≤ ss.length := by rw [hz]; split <;> omega
    refine ⟨some a, ln, lc, ss.take ln, rfl, hl, hm, ⟨by simp; omega, fun hn => ⟨a, rfl, World.block_lt_of_cell? w (a.add 0) (hcell 0 (by omega)), fun j u hj => ?_⟩⟩, fun t ht => hsz t (List.mem_of_mem_take ht)⟩
    have hj' : j < ln := by
      have := (List.getElem?_eq_some_iff.1 hj).1
      simp at this
      omega
    rw [List.getElem?_map, List.getElem?_take_of_lt hj', List.getElem?_eq_getElem (by omega)] at hj
    obtain rfl : Value.string ss[j] = u := by simpa using hj
    rw [hcell j (by omega)]
    simp [List.getD, List.getElem?_eq_getElem (show j < ss.length by omega)]
end Go.Proofs.YtlhoggalhjadgaaDoor
/- A Rule, and an Era, among a row's arguments, opened; a listed table of strings. -/
namespace Go.Proofs.YtlhoggalhjadgaaDoor
open Go.Deep
open Go.ChangeShapes Go.WideShapes Go.ChangeAt Go.RowKit Go.Joins
section
variable {H : Type} {enc : TypeId × Value → H} {P : Program} {w : World} {base : Nat} {spare : Nat → Bool} {held : Bool}
theorem trod_struct8 {t : TypeId} {f0 f1 f2 f3 f4 f5 f6 f7 : Field} {fuel : Nat} {cs : List Value} {x : DataW H × List MemPlace} (ht : P.underlying t = some (.struct #[f0, f1, f2, f3, f4, f5, f6, f7])) (h : DataW.trod enc P w base spare held fuel t cs = some x) :
    ∃ y0 y1 y2 y3 y4 y5 y6 y7 n, DataW.trod enc P w base spare held n f0.type ((cs.drop f0.offset).take (P.cellsOf f0.type)) = some y0 ∧
      DataW.trod enc P w base spare held n f1.type ((cs.drop f1.offset).take (P.cellsOf f1.type)) = some y1 ∧ DataW.trod enc P w base spare held n f2.type ((cs.drop f2.offset).take (P.cellsOf f2.type)) = some y2 ∧
      DataW.trod enc P w base spare held n f3.type ((cs.drop f3.offset).take (P.cellsOf f3.type)) = some y3 ∧ DataW.trod enc P w base spare held n f4.type ((cs.drop f4.offset).take (P.cellsOf f4.type)) = some y4 ∧
      DataW.trod enc P w base spare held n f5.type ((cs.drop f5.offset).take (P.cellsOf f5.type)) = some y5 ∧ DataW.trod enc P w base spare held n f6.type ((cs.drop f6.offset).take (P.cellsOf f6.type)) = some y6 ∧
      DataW.trod enc P w base spare held n f7.type ((cs.drop f7.offset).take (P.cellsOf f7.type)) = some y7 := by
  obtain ⟨xs, n, _, rfl, hl, hlen, hf⟩ := DataW.trod_struct ht h
  match xs, hlen with
  | [y0, y1, y2, y3, y4, y5, y6, y7], _ => exact ⟨y0, y1, y2, y3, y4, y5, y6, y7, n, by simpa using hf 0 f0 rfl, by simpa using hf 1 f1 rfl, by simpa using hf 2 f2 rfl, by simpa using hf 3 f3 rfl, by simpa using hf 4 f4 rfl, by simpa using hf 5 f5 rfl, by simpa using hf 6 f6 rfl, by simpa using hf 7 f7 rfl⟩
theorem trod_struct7 {t : TypeId} {f0 f1 f2 f3 f4 f5 f6 : Field} {fuel : Nat} {cs : List Value} {x : DataW H × List MemPlace} (ht : P.underlying t = some (.struct #[f0, f1, f2, f3, f4, f5, f6])) (h : DataW.trod enc P w base spare held fuel t cs = some x) :
    ∃ y0 y1 y2 y3 y4 y5 y6 n, DataW.trod enc P w base spare held n f0.type ((cs.drop f0.offset).take (P.cellsOf f0.type)) = some y0 ∧
      DataW.trod enc P w base spare held n f1.type ((cs.drop f1.offset).take (P.cellsOf f1.type)) = some y1 ∧ DataW.trod enc P w base spare held n f2.type ((cs.drop f2.offset).take (P.cellsOf f2.type)) = some y2 ∧
      DataW.trod enc P w base spare held n f3.type ((cs.drop f3.offset).take (P.cellsOf f3.type)) = some y3 ∧ DataW.trod enc P w base spare held n f4.type ((cs.drop f4.offset).take (P.cellsOf f4.type)) = some y4 ∧
      DataW.trod enc P w base spare held n f5.type ((cs.drop f5.offset).take (P.cellsOf f5.type)) = some y5 ∧ DataW.trod enc P w base spare held n f6.type ((cs.drop f6.offset).take (P.cellsOf f6.type)) = some y6 := by
  obtain ⟨xs, n, _, rfl, hl, hlen, hf⟩ := DataW.trod_struct ht h
  match xs, hlen with
  | [y0, y1, y2, y3, y4, y5, y6], _ => exact ⟨y0, y1, y2, y3, y4, y5, y6, n, by simpa using hf 0 f0 rfl, by simpa using hf 1 f1 rfl, by simpa using hf 2 f2 rfl, by simpa using hf 3 f3 rfl, by simpa using hf 4 f4 rfl, by simpa using hf 5 f5 rfl, by simpa using hf 6 f6 rfl⟩
end
theorem array11 {α : Type} {cs : Array α} (h : cs.size = 11) : ∃ c0 c1 c2 c3 c4 c5 c6 c7 c8 c9 c10, cs = #[c0, c1, c2, c3, c4, c5, c6, c7, c8, c9, c10] := by
  obtain ⟨l⟩ := cs
  match l, h with
  | [c0, c1, c2, c3, c4, c5, c6, c7, c8, c9, c10], _ => exact ⟨c0, c1, c2, c3, c4, c5, c6, c7, c8, c9, c10, rfl⟩
theorem array13 {α : Type} {cs : Array α} (h : cs.size = 13) : ∃ c0 c1 c2 c3 c4 c5 c6 c7 c8 c9 c10 c11 c12, cs = #[c0, c1, c2, c3, c4, c5, c6, c7, c8, c9, c10, c11, c12] := by
  obtain ⟨l⟩ := cs
  match l, h with
  | [c0, c1, c2, c3, c4, c5, c6, c7, c8, c9, c10, c11, c12], _ => exact ⟨c0, c1, c2, c3, c4, c5, c6, c7, c8, c9, c10, c11, c12, rfl⟩
set_option maxRecDepth 100000 in
theorem open_rule {H : Type} {enc : TypeId × Value → H} {w : World} {base : Nat} {spare : Nat → Bool} {held : Bool} {r : Reach} {b0 : Nat} {v : Value} {d : DataW H} {p : List MemPlace}
    (hv : Value.okWide Tryd.prog w r b0 29 v) (h : DataW.Trod enc Tryd.prog w base spare held 29 v d p) : ∃ r : Ru.R, v = r.v ∧ 0 ≤ r.c ∧ r.nm.size ≤ maxLen ∧ r.lt.size ≤ maxLen := by
  have q11 : Tryd.prog.cellsOf 29 = 11 := by kernel_rfl
  have q0 : Tryd.prog.cellsOf 3 = 1 := by kernel_rfl
  have q1 : Tryd.prog.cellsOf 24 = 3 := by kernel_rfl
  have q2 : Tryd.prog.cellsOf 27 = 2 := by kernel_rfl
  have q3 : Tryd.prog.cellsOf 22 = 1 := by kernel_rfl
  have q4 : Tryd.prog.cellsOf 2 = 1 := by kernel_rfl
  have q5 : Tryd.prog.cellsOf 25 = 1 := by kernel_rfl
  have q6 : Tryd.prog.cellsOf 9 = 1 := by kernel_rfl
  obtain ⟨cs, rfl, hsz⟩ := okWide_struct Tryd.underlying29 hv
  obtain ⟨c0, c1, c2, c3, c4, c5, c6, c7, c8, c9, c10, rfl⟩ := array11 (hsz.trans q11)
  obtain ⟨fuel, hf⟩ := h
  obtain ⟨y0, y1, y2, y3, y4, y5, y6, y7, n, h0, h1, h2, h3, h4, h5, h6, h7⟩ := trod_struct8 Tryd.underlying29 hf
  simp only [q0, q1, q2, q4, q6, Value.cells, List.drop, List.take] at h0 h1 h2 h3 h4 h5 h6 h7
  obtain ⟨a0, a1, a2, n2, _, _, g0, g1, g2⟩ := trod_struct3 Tryd.underlying24 h4
  obtain ⟨b0', b1', n3, _, _, f0, f1⟩ := trod_struct2 Tryd.underlying27 h5
  simp only [q0, q3, q4, q5, List.drop, List.take] at g0 g1 g2 f0 f1
  obtain ⟨nm, e0, _, wn⟩ := DataW.trod_string Tryd.underlying9 h0
  obtain ⟨fr, e1, _, _⟩ := DataW.trod_int Tryd.underlying3 h1
  obtain ⟨tt, e2, _, _⟩ := DataW.trod_int Tryd.underlying3 h2
  obtain ⟨mo, e3, _, _⟩ := DataW.trod_int Tryd.underlying3 h3
  obtain ⟨k, e4, _, _⟩ := DataW.trod_int Tryd.underlying22 g0
  obtain ⟨nn, e5, _, _⟩ := DataW.trod_int Tryd.underlying3 g1
  obtain ⟨dd, e6, _, _⟩ := DataW.trod_int Tryd.underlying3 g2
  obtain ⟨s, e7, _, _⟩ := DataW.trod_int Tryd.underlying2 f0
  obtain ⟨c, e8, _, wc⟩ := DataW.trod_int Tryd.underlying25 f1
  obtain ⟨sv, e9, _, _⟩ := DataW.trod_int Tryd.underlying2 h6
  obtain ⟨lt, e10, _, wl⟩ := DataW.trod_string Tryd.underlying9 h7
  simp only [List.cons.injEq, and_true] at e0 e1 e2 e3 e4 e5 e6 e7 e8 e9 e10
  subst e0 e1 e2 e3 e4 e5 e6 e7 e8 e9 e10
  exact ⟨⟨nm, fr, tt, mo, k, nn, dd, s, c, sv, lt⟩, rfl, byte_nonneg wc, wn, wl⟩
set_option maxRecDepth 100000 in
theorem open_era {H : Type} {enc : TypeId × Value → H} {w : World} {base : Nat} {spare : Nat → Bool} {held : Bool} {r : Reach} {b0 : Nat} {v : Value} {d : DataW H} {p : List MemPlace}
    (hv : Value.okWide Tryd.prog w r b0 34 v) (h : DataW.Trod enc Tryd.prog w base spare held 34 v d p) : ∃ e : Er.E, v = e.v ∧ 0 ≤ e.u.c ∧ e.ru.size ≤ maxLen ∧ e.fm.size ≤ maxLen := by
  have q13 : Tryd.prog.cellsOf 34 = 13 := by kernel_rfl
  have q7 : Tryd.prog.cellsOf 32 = 7 := by kernel_rfl
  have q0 : Tryd.prog.cellsOf 3 = 1 := by kernel_rfl
  have q1 : Tryd.prog.cellsOf 24 = 3 := by kernel_rfl
  have q2 : Tryd.prog.cellsOf 27 = 2 := by kernel_rfl
  have q3 : Tryd.prog.cellsOf 22 = 1 := by kernel_rfl
  have q4 : Tryd.prog.cellsOf 2 = 1 := by kernel_rfl
  have q5 : Tryd.prog.cellsOf 25 = 1 := by kernel_rfl
  have q6 : Tryd.prog.cellsOf 9 = 1 := by kernel_rfl
  have q8 : Tryd.prog.cellsOf 4 = 1 := by kernel_rfl
  have q9 : Tryd.prog.cellsOf 30 = 1 := by kernel_rfl
  obtain ⟨cs, rfl, hsz⟩ := okWide_struct Tryd.underlying34 hv
  obtain ⟨c0, c1, c2, c3, c4, c5, c6, c7, c8, c9, c10, c11, c12, rfl⟩ := array13 (hsz.trans q13)
  obtain ⟨fuel, hf⟩ := h
  obtain ⟨y0, y1, y2, y3, y4, y5, y6, n, h0, h1, h2, h3, h4, h5, h6⟩ := trod_struct7 Tryd.underlying34 hf
  simp only [q4, q6, q7, q8, q9, Value.cells, List.drop, List.take] at h0 h1 h2 h3 h4 h5 h6
  obtain ⟨z0, z1, z2, z3, n1, _, _, i0, i1, i2, i3⟩ := trod_struct4 Tryd.underlying32 h6
  simp only [q0, q1, q2, List.drop, List.take] at i0 i1 i2 i3
  obtain ⟨a0, a1, a2, n2, _, _, g0, g1, g2⟩ := trod_struct3 Tryd.underlying24 i2
  obtain ⟨b0', b1', n3, _, _, f0, f1⟩ := trod_struct2 Tryd.underlying27 i3
  simp only [q0, q3, q4, q5, List.drop, List.take] at g0 g1 g2 f0 f1
  obtain ⟨std, e0, _, _⟩ := DataW.trod_int Tryd.underlying2 h0
  obtain ⟨k, e1, _, _⟩ := DataW.trod_int Tryd.underlying30 h1
  obtain ⟨sv, e2, _, _⟩ := DataW.trod_int Tryd.underlying2 h2
  obtain ⟨ru, e3, _, wr⟩ := DataW.trod_string Tryd.underlying9 h3
  obtain ⟨fm, e4, _, wf⟩ := DataW.trod_string Tryd.underlying9 h4
  obtain ⟨en, e5, _⟩ := DataW.trod_bool Tryd.underlying4 h5
  obtain ⟨y, e6, _, _⟩ := DataW.trod_int Tryd.underlying3 i0
  obtain ⟨m, e7, _, _⟩ := DataW.trod_int Tryd.underlying3 i1
  obtain ⟨dk, e8, _, _⟩ := DataW.trod_int Tryd.underlying22 g0
  obtain ⟨dn, e9, _, _⟩ := DataW.trod_int Tryd.underlying3 g1
  obtain ⟨dd, e10, _, _⟩ := DataW.trod_int Tryd.underlying3 g2
  obtain ⟨s, e11, _, _⟩ := DataW.trod_int Tryd.underlying2 f0
  obtain ⟨c, e12, _, wc⟩ := DataW.trod_int Tryd.underlying25 f1
  simp only [List.cons.injEq, and_true] at e0 e1 e2 e3 e4 e5 e6 e7 e8 e9 e10 e11 e12
  subst e0 e1 e2 e3 e4 e5 e6 e7 e8 e9 e10 e11 e12
  exact ⟨⟨std, k, sv, ru, fm, en, ⟨y, m, dk, dn, dd, s, c⟩⟩, rfl, byte_nonneg wc, wr, wf⟩
/-- A listed table of strings: what its cells hold. -/
theorem strs_of_head {P : Program} {W : World} {name : String} {ls : List (List UInt8)} {rest : List (String × DataW Unit)} {g : Nat} {t e : TypeId} {n : Nat}
    (hg : P.globalNamed name = some g) (hty : (P.globals[g]?).map (·.type) = some t) (ht : P.underlying t = some (.array n e)) (he : P.underlying e = some .string) (hce : P.cellsOf e = 1) (hct : P.cellsOf t = n)
    (h : laidMet P ((name, .agg (ls.map fun l => .lit (.string l))) :: rest) W) : ∀ i l, ls[i]? = some l → W.cell? ⟨g, i, none⟩ = some (.string ⟨l.toArray⟩) := by
  obtain ⟨ps, ⟨g', t', cs, fuel, p, q, hg', ht', hvar, hd, _, _⟩, _⟩ := h
  obtain rfl := Option.some.inj (hg.symm.trans hg')
  obtain rfl := Option.some.inj (hty.symm.trans ht')
  obtain ⟨xs, m, rfl, hx, hl, hxl, hel⟩ := DataW.trod_array ht hd
  intro i l hi
  have hmap : xs.map (·.1) = ls.map fun l => (DataW.lit (.string l)) := by
    have := congrArg Prod.fst hx
    simpa using this.symm
  have hn : i < n := by
    have h1 := congrArg List.length hmap
    have h2 := (List.getElem?_eq_some_iff.1 hi).1
    simp only [List.length_map] at h1
    omega
  have hE := hel i hn
  rw [hce, Nat.mul_one, List.getElem?_eq_getElem (by omega)] at hE
  obtain ⟨s, hc, hd', _⟩ := DataW.trod_string he hE
  have h2 : (xs.map (·.1))[i]? = some xs[i].1 := by simp [List.getElem?_eq_getElem (show i < xs.length by omega)]
  rw [hmap, List.getElem?_map, hi, Option.map_some, hd'] at h2
  simp only [Option.some.injEq, DataW.lit.injEq, Lit.string.injEq] at h2
  have h3 : cs[i]? = some (.string s) := by
    have := congrArg (·[0]?) hc
    simpa [List.getElem?_take, List.getElem?_drop] using this
  have := World.var?_cell hg hvar i
  rw [this]
  rw [h2]
  exact h3
end Go.Proofs.YtlhoggalhjadgaaDoor
