/- LineJust: the walk. -/
import Derived.Test.YtolgigaolffenaaGreatDoorQ39
import Derived.Test.YtolgigaolffenaaGreatDoorQb01
import Derived.Test.YtolgigaolffenaaGreatDoorQ34
import Derived.Test.YtolgigaolffenaaGreatDoorQ38
import Derived.Test.YtolgigaolffenaaGreatDoorCards
import Derived.Test.YtolgigaolffenaaGreatDoorTie
import Derived.ProofKit
import Derived.OpenShut
import Derived.ShutString
import Derived.ChangeOld
import Derived.LaidMore
import Derived.Stop.LaidErr
import Derived.Deep.DeepHandedRow
import Derived.Lib.LaidTab
import Derived.Lib.SmallJoins
import Derived.Test.YtolgigaolffenaaGreatDoorQ24
import Derived.Test.YtolgigaolffenaaGreatDoorQ23

namespace Go.Proofs.YtolgigaolffenaaGreatDoor
open Go.RowKit Go.Shelf

set_option maxHeartbeats 16000000 in
set_option maxRecDepth 200000 in
theorem lineJust_any (s : Src.S) (z lo hi t : Int) (rv zv lv : Value) (evs : List Value) (w : World) (hR : Src.SrcR w w.heap.size s rv zv lv evs) (hw : Src.Wide s) (hW : Wo w) (hA : Wa w) (hz : -9223372036854775808 ≤ z ∧ z < 9223372036854775808)
    (hlo : -9223372036854775808 ≤ lo ∧ lo < 9223372036854775808) (hhi : -9223372036854775808 ≤ hi ∧ hi < 9223372036854775808) :
    Calls Tryz.prog 4 #[.agg #[rv, zv, lv], .int .i64 z, .int .i64 lo, .int .i64 hi, .int .i64 t] w fun e w' => e = .returned (.bool true) ∧ Below w.heap.size w w' := by
  have hcc : ∀ x ∈ s.zones, ∀ e ∈ x.2, 0 ≤ e.u.c := fun x hx e he => ((hw.zones x hx).2 e he).1
  have hsz : Src.Few s → Vd.Sz s := fun hf => ⟨⟨by have := hf.nr; omega, by have := hf.nz; omega, by have := hf.nl; omega⟩, fun x hx => by have := (hf.zones x hx).1; omega, hw.smw⟩
  have hwc : ∀ r ∈ s.rules, 0 ≤ r.c := fun r hr => (hw.rules r hr).1
  have HNe0 := Lib.hid fun W (hb : Below w.heap.size w W) => near16_some s rv zv lv evs 2100 W (hR.call hb) hw (by omega)
  have HLn := Lib.hid fun (hf : Src.Few s) W (hb : Below w.heap.size w W) => lnOf_any s z lo hi rv zv lv evs W (hR.call hb) (hsz hf) (hW.below hb) (hA.below hb) hz hlo hhi hcc hwc
  have HAt0 := Lib.hid fun (hf : Src.Few s) t' (h1 : -9223372036854775808 ≤ t' ∧ t' < 9223372036854775808) W (hb : Below w.heap.size w W) => idAt_any s z t' rv zv lv evs W (hR.call hb) (hsz hf) (hW.below hb) (hA.below hb) hz h1 hcc hwc
  have HRu := Lib.hid fun (hf : Src.Few s) (h : Vd.well s = true) => Eg.rules_ok2 h (hsz hf).lims.rules
  obtain ⟨rA, rc, rfl, _⟩ := hR.rules
  obtain ⟨zA, zc, rfl, _⟩ := hR.zones
  obtain ⟨lA, lc, rfl, _⟩ := hR.links
  obtain ⟨n1, hn1⟩ : ∃ n, s.rules.length = n := ⟨_, rfl⟩
  obtain ⟨n2, hn2⟩ : ∃ n, s.zones.length = n := ⟨_, rfl⟩
  obtain ⟨n3, hn3⟩ : ∃ n, s.links.length = n := ⟨_, rfl⟩
  rw [hn1, hn2, hn3] at HNe0 HLn HAt0
  rw [hn1, hn2, hn3]
  obtain ⟨W1, hW1⟩ : ∃ W, w.alloc (.cells #[.slice rA n1 rc, .slice zA n2 zc, .slice lA n3 lc] 26) = W := ⟨_, rfl⟩
  have hb1 : Below w.heap.size w W1 := by rw [← hW1]; exact (Below.refl _ _).alloc (Nat.le_refl _) _
  have hA1 : At W1 w.heap.size [.slice rA n1 rc, .slice zA n2 zc, .slice lA n3 lc] := by rw [← hW1]; exact At.new _ _ _
  have HBg := Lib.hid (lives18 W1 (hW.below hb1) (hA.below hb1))
  have HA1 := Lib.hid hA1
  have HB1 := Lib.hid hb1
  have HW1 := Lib.hid hW1
  obtain ⟨X, hX⟩ : ∃ x, IntKind.i64.wrap (hi - lo) = x := ⟨_, rfl⟩
  clear hn1 hn2 hn3 hb1 hA1 hW1 hR hw hW hA hcc hsz hwc
  go_enter Tryz.func4, Tryz.ntmps4
  go_wp2_with fail
  rw [HW1.out]
  refine HBg.out.mono ?_
  rintro e w2 ⟨rfl, hb2⟩
  have HA2 := Lib.hid (HA1.out.call hb2)
  have HB2 := Lib.hid (HB1.out.trans (hb2.mono HB1.out.size))
  obtain ⟨b0, b1, b2, _⟩ := HA2.out.three
  have zz := HA2.out.lt
  clear hb2
  have HNe := Lib.hid (HNe0.out w2 HB2.out)
  go_wp2_with fail
  refine HNe.out.mono ?_
  rintro e w3 ⟨he, hb3⟩
  have HA3 := Lib.hid (HA2.out.call hb3)
  have HB3 := Lib.hid (HB2.out.trans (hb3.mono HB2.out.size))
  clear hb3 b0 b1 b2 zz HNe
  obtain ⟨b0, b1, b2, _⟩ := HA3.out.three
  have zz := HA3.out.lt
  rcases he with rfl | ⟨rfl, hfew⟩
  · clear hX
    go_wp2
    go_ret
    exact ⟨rfl, HB3.out⟩
  have hc : 2098 < hi ∨ (¬ 2098 < hi ∧ lo < 1600) ∨ (¬ 2098 < hi ∧ ¬ lo < 1600 ∧ 30 < X) ∨ (¬ 2098 < hi ∧ ¬ lo < 1600 ∧ ¬ 30 < X) := by omega
  rcases hc with k1 | ⟨k1, k2⟩ | ⟨k1, k2, k3⟩ | ⟨k1, k2, k3⟩
  · go_wp2
    go_ret
    exact ⟨rfl, HB3.out⟩
  · go_wp2
    go_ret
    exact ⟨rfl, HB3.out⟩
  · go_wp2
    go_ret
    exact ⟨rfl, HB3.out⟩
  have HC1 := Lib.hid (HLn.out hfew w3 HB3.out)
  go_wp2_with fail
  refine HC1.out.mono ?_
  rintro e w4 ⟨hb4, h4⟩
  have HA4 := Lib.hid (HA3.out.call hb4)
  have HB4 := Lib.hid (HB3.out.trans (hb4.mono HB3.out.size))
  clear hb4 b0 b1 b2 zz HC1
  rcases h4 with ⟨hno, rfl⟩ | ⟨hwe, hno, rfl⟩ | ⟨_, _, _, hx, rfl⟩ | ⟨x, v, hwe, hx, hin, rfl, ho4⟩
  · clear hno
    go_wp2
    go_ret
    exact ⟨rfl, HB4.out⟩
  · clear hno
    go_wp2
    go_ret
    exact ⟨rfl, HB4.out⟩
  · clear hx
    go_wp2
    go_ret
    exact ⟨rfl, HB4.out⟩
  obtain ⟨vA, vc, rfl, hv1, hv2⟩ := own_slice_cap ho4
  have hzo := Eg.zone_ok hwe (show x ∈ s.zones by
    unfold Eg.zoneAt at hx
    split at hx
    · exact List.mem_of_getElem? hx
    · cases hx)
  have hRu := HRu.out hfew hwe
  have hcov := Ln.lineOf_cov hRu hzo hin
  have hlen := Tp.len_le hRu hzo hin
  have hne := Ln.lineOf_ne hRu hzo hin
  have hys := Ln.years_in hin.1 hin.2.1 hin.2.2.1
  obtain ⟨fr, hfr⟩ : ∃ q, Oc.D lo * 86400 = q := ⟨_, rfl⟩
  obtain ⟨te, hte⟩ : ∃ q, Oc.D (hi + 1) * 86400 = q := ⟨_, rfl⟩
  have hinT : ∀ t', fr ≤ t' → t' < te → Ln.InT t' := fun t' h1 h2 => Ln.inT_of hin (by rw [hfr]; exact h1) (by rw [hte]; exact h2)
  obtain ⟨f, hf⟩ : ∃ f, Ln.st s.rules x.2 (Eg.ends s.rules x.2) = f := ⟨_, rfl⟩
  have HAt : Hid (∀ W t' o d, Below w.heap.size w W → fr ≤ t' → t' < te → f t' = (o, d) → Calls Tryz.prog 23 #[.agg #[.slice rA n1 rc, .slice zA n2 zc, .slice lA n3 lc], .int .i64 z, .int .i64 t'] W fun e w' => (∃ ab, e = .returned (.tuple #[.agg #[.int .i64 o, .bool d, .string ab], .int .i64 0])) ∧ Below W.heap.size W w') := fun W t' o d hb h1 h2 h3 => by
    have hT := hinT t' h1 h2
    have hTd := hT.1
    refine (HAt0.out hfew t' (by unfold Ln.InDays at hTd; omega) W hb).mono ?_
    rintro e w' ⟨rfl, hb'⟩
    rw [Ln.atT_of hwe hx hT]
    have h4 := Ln.stAt_st s.rules x.2 t'
    rw [hf, h3] at h4
    injection h4 with h5 h6
    exact ⟨⟨_, by unfold Ln.St.v; simp only; rw [h5, h6]⟩, hb'⟩
  rw [hfr, hte, hf] at hcov
  obtain ⟨L, hL⟩ : ∃ L, Ln.lineOf s x.2 lo hi = L := ⟨_, rfl⟩
  rw [hL] at hcov hlen hne ho4 hv1
  rw [hL]
  obtain ⟨n, hn⟩ : ∃ n, L.length = n := ⟨_, rfl⟩
  rw [hn] at hlen hv1 ho4
  rw [hn]
  have hn0 : 0 < n := by
    cases L with
    | nil => exact absurd rfl hne
    | cons a L => rw [← hn]; exact Nat.succ_pos _
  have e1 : Ln.begin_ lo = (fr, 0) := by unfold Ln.begin_; rw [if_pos (by have := hin.1; have := hin.2.1; have := hin.2.2.1; omega), hfr]
  have e2 : Ln.begin_ (hi + 1) = (te, 0) := by unfold Ln.begin_; rw [if_pos (by have := hin.1; have := hin.2.1; have := hin.2.2.1; omega), hte]
  have HBf := Lib.hid fun W => e1 ▸ lnBegin_any lo W
  have HBt := Lib.hid fun W => e2 ▸ lnBegin_any (hi + 1) W
  have wt : IntKind.i64.wrap (hi + 1) = hi + 1 := by rw [IntKind.wrap_i64]; omega
  have HCv := Lib.hid hcov
  have HN := Lib.hid hn
  have HR4 := Lib.hid (Reads.of_own ho4)
  obtain ⟨ad, p0, rfl, hab, Hp0, HL0⟩ := Ix.reads_cells (enc := Ln.Sp.cells) (m := 3) (fun _ => rfl) hn HR4.out hn0
  have hp0 := (Ln.Cov.in_ hcov 0 p0 Hp0.out).1
  have hpf : p0.fr = fr := by
    cases L with
    | nil => exact absurd rfl hne
    | cons a L =>
      have := Hp0.out
      obtain rfl : a = p0 := by simpa using this
      exact hcov.1
  have y0 : w4.cell? ad = some (.int .i64 p0.fr) := by have h := HL0.out 0 _ rfl; rw [Nat.zero_mul] at h; exact h
  have y1 : w4.cell? ⟨ad.block, ad.off + 1, none⟩ = some (.int .i64 p0.off) := by have h := HL0.out 1 _ rfl; rw [Nat.zero_mul] at h; exact h
  have y2 : w4.cell? ⟨ad.block, ad.off + 2, none⟩ = some (.bool p0.dst) := by have h := HL0.out 2 _ rfl; rw [Nat.zero_mul] at h; exact h
  have HPf := Lib.hid hpf
  have HFt := Lib.hid (show -62135596800 ≤ fr ∧ te ≤ 253402300800 by
    have h1 := hys.2.1
    have h2 := hys.2.2.1
    rw [hfr] at h1
    rw [hte] at h2
    unfold Ln.InDays at h1 h2
    omega)
  have q1 : ¬ (n : Int) < 1 := by omega
  have q2 : (0 : Int) < (n : Int) := by omega
  have hh1 := hab
  rw [hpf] at y0
  clear hcov hn hL hf hfr hte hys hinT e1 e2 hne hwe hx hzo hRu hin hfew hX ho4 HL0 hp0 hpf k1 k2 k3 hab
  go_wp2_with fail
  refine (HBf.out _).mono ?_
  rintro e w5 ⟨rfl, rfl⟩
  go_wp2_with fail
  refine (HBt.out _).mono ?_
  rintro e w5 ⟨rfl, rfl⟩
  obtain ⟨g, hg⟩ : ∃ g, w4.heap.size = g := ⟨_, rfl⟩
  obtain ⟨W5, hW5⟩ : ∃ W, w4.alloc (.cells #[.int .i64 fr, .int .i64 p0.off, .bool p0.dst] 71) = W := ⟨_, rfl⟩
  have hb5 : Below w4.heap.size w4 W5 := by rw [← hW5]; exact (Below.refl _ _).alloc (Nat.le_refl _) _
  have hA5 : At W5 g [.int .i64 fr, .int .i64 p0.off, .bool p0.dst] := by rw [← hW5, ← hg]; exact At.new _ _ _
  have HW5 := Lib.hid hW5
  have HB5 := Lib.hid hb5
  have HA5 := Lib.hid hA5
  have HG := Lib.hid hg
  have HAs := Lib.hid (HA4.out.call hb5)
  have hgw : w.heap.size ≤ g := by rw [← hg]; exact HB4.out.size
  clear hW5 hb5 hA5
  go_wp2_with fail
  rw [HW5.out]
  try rw [HG.out]
  clear y0 y1 y2 hh1 hg
  go_loopw [93] (fun i wr => ∃ k : Nat, k ≤ n ∧ i = .int .i64 (k : Int) ∧ Hid (Below g W5 wr) ∧ Hid (At wr g (Ln.atGo t p0 (L.take k)).cells)) (fun i _ => n - (intOf i).toNat)
  case atStart => exact ⟨0, Nat.zero_le _, rfl, Below.refl _ _, by show At W5 g p0.cells; unfold Ln.Sp.cells; rw [HPf.out]; exact HA5.out⟩
  case round =>
    obtain ⟨k, hk, rfl, HB, HA⟩ := hrel
    by_cases hlt : k < n
    · obtain ⟨ad', x, e0, hab, Hx, HLx⟩ := Ix.reads_cells (enc := Ln.Sp.cells) (m := 3) (fun _ => rfl) HN.out ((HR4.out.below HB5.out).below (show Below w4.heap.size W5 wr by rw [HG.out]; exact HB.out)) hlt
      obtain rfl := Option.some.inj e0
      have hgr : g < wr.heap.size := HA.out.lt
      have hz4 : w4.heap.size = g := HG.out
      have x0 : wr.cell? (ad.add (k * 3)) = some (.int .i64 x.fr) := HLx.out 0 _ rfl
      have x1 : wr.cell? ⟨(ad.add (k * 3)).block, (ad.add (k * 3)).off + 1, none⟩ = some (.int .i64 x.off) := HLx.out 1 _ rfl
      have x2 : wr.cell? ⟨(ad.add (k * 3)).block, (ad.add (k * 3)).off + 2, none⟩ = some (.bool x.dst) := HLx.out 2 _ rfl
      obtain ⟨i1, i2, i3⟩ := Ln.Cov.in_ HCv.out k x Hx.out
      have hFt1 := HFt.out.1
      have hFt2 := HFt.out.2
      have HNx := Lib.hid (Ln.atGo_next (t := t) (q := p0) Hx.out)
      have q3 : (0 : Int) ≤ (k : Int) := by omega
      have q4 : (k : Int) < (n : Int) := by omega
      have hbw : Below w.heap.size w wr := HB4.out.trans ((HB5.out.trans (by rw [hz4]; exact HB.out)).mono HB4.out.size)
      obtain ⟨b9, hb9⟩ : ∃ b, wr.heap.size = b := ⟨_, rfl⟩
      obtain ⟨V1, hV1⟩ : ∃ W, wr.alloc (.cells #[.int .i64 x.fr, .int .i64 x.off, .bool x.dst] 71) = W := ⟨_, rfl⟩
      have hv1b : Below wr.heap.size wr V1 := by rw [← hV1]; exact (Below.refl _ _).alloc (Nat.le_refl _) _
      have hAx : At V1 b9 [.int .i64 x.fr, .int .i64 x.off, .bool x.dst] := by rw [← hV1, ← hb9]; exact At.new _ _ _
      have HV1 := Lib.hid hV1
      have HVb := Lib.hid hv1b
      have HAx := Lib.hid hAx
      have HI3 := Lib.hid i3
      have HBw := Lib.hid hbw
      have HB9 := Lib.hid hb9
      have hgb : g < b9 := by rw [← hb9]; exact hgr
      obtain ⟨v0, v1, v2, _⟩ := hAx.three
      have zv := hAx.lt
      have xi : x.fr - 1 = x.fr - 1 := rfl
      have wx : IntKind.i64.wrap (x.fr - 1) = x.fr - 1 := by rw [IntKind.wrap_i64]; omega
      clear hV1 hv1b hAx hbw HLx i3 hb9 hz4
      obtain ⟨q, hq⟩ : ∃ q, Ln.atGo t p0 (L.take k) = q := ⟨_, rfl⟩
      rw [hq] at HA HNx
      have HF1 := Lib.hid fun V (hb : Below V1.heap.size V1 V) => (HAs.out.below (show Below g W5 wr from HB.out) (by have := HAs.out.lt; have := HA4.out.lt; rw [HG.out] at this; exact this)).call (HVb.out.trans (hb.mono HVb.out.size))
      have HF2 := Lib.hid fun V (hb : Below V1.heap.size V1 V) => HAx.out.call hb
      have HF3 := Lib.hid fun V (hb : Below V1.heap.size V1 V) => HA.out.call (HVb.out.trans (hb.mono HVb.out.size))
      have HF4 := Lib.hid fun V (hb : Below V1.heap.size V1 V) => HBw.out.trans ((HVb.out.trans (hb.mono HVb.out.size)).mono HBw.out.size)
      have HF5 := Lib.hid fun V (hb : Below V1.heap.size V1 V) => HB.out.trans ((HVb.out.trans (hb.mono HVb.out.size)).mono (show g ≤ wr.heap.size by omega))
      have hxf : x.fr < te := i2
      clear HA hq hgr
      unfold Ln.Sp.cells at HF3
      rcases Nat.eq_zero_or_pos k with h0 | h0
      · skip
        have q5 : ¬ (k : Int) > 0 := by omega
        have q6 : ¬ 0 < (k : Int) := by omega
        have g1 : decide ((0 : Int) < (k : Int)) = false := by rw [decide_eq_false_iff_not]; exact q6
        have g2 : decide (0 < k) = false := by rw [decide_eq_false_iff_not]; omega
        clear h0
        go_wp2_with fail
        rw [HV1.out]
        try rw [HB9.out]
        go_quiet (fail)
        obtain ⟨V2, hV⟩ : ∃ X, V1.drewN nq = X := ⟨_, rfl⟩
        rw [hV]
        have hbd : Below V1.heap.size V1 V2 := by rw [← hV]; exact (show Drew V1 (V1.drewN nq) from ⟨nq, rfl⟩).below _
        have HK2 := Lib.hid hbd
        clear hV hbd v0 v1 v2 zv x0 x1 x2
        have HCt := Lib.hid (HAt.out V2 (x.fr) x.off x.dst (HF4.out V2 HK2.out) (by omega) (by omega) HI3.out)
        obtain ⟨b0, b1, b2, _⟩ := (HF1.out V2 HK2.out).three
        have zz := (HF1.out V2 HK2.out).lt
        obtain ⟨c0, c1, c2, _⟩ := (HF2.out V2 HK2.out).three
        have zc := (HF2.out V2 HK2.out).lt
        go_wp2_with fail
        refine HCt.out.mono ?_
        rintro e v3 ⟨⟨ab3, rfl⟩, hb⟩
        obtain ⟨V3, hV⟩ : ∃ W, v3.alloc (.cells #[.int .i64 x.off, .bool x.dst, .string ab3] 31) = W := ⟨_, rfl⟩
        have hbn : Below v3.heap.size v3 V3 := by rw [← hV]; exact (Below.refl _ _).alloc (Nat.le_refl _) _
        obtain ⟨g3, hgm⟩ : ∃ g, v3.heap.size = g := ⟨_, rfl⟩
        have hAm : At V3 g3 [.int .i64 x.off, .bool x.dst, .string ab3] := by rw [← hV, ← hgm]; exact At.new _ _ _
        have HK3 := Lib.hid (HK2.out.trans ((hb.trans (hbn.mono hb.size)).mono HK2.out.size))
        have HS3 := Lib.hid hAm
        have HW3 := Lib.hid hV
        have HG3 := Lib.hid hgm
        clear b0 b1 b2 zz c0 c1 c2 zc hb hbn hAm hV hgm HCt
        go_upto_region 19 with fail
        rw [HW3.out]
        try rw [HG3.out]
        obtain ⟨c0, c1, c2, _⟩ := (HF2.out V3 HK3.out).three
        have zc := (HF2.out V3 HK3.out).lt
        obtain ⟨d0, d1, d2, _⟩ := HS3.out.three
        have zd := HS3.out.lt
        have q7 : (x.off != x.off) = false := by simp
        have q8 : (x.dst != x.dst) = false := by simp
        by_cases ht' : x.fr ≤ t
        · obtain ⟨y0, y1, y2, g0, g1, g2⟩ := (HF3.out V3 HK3.out).three
          have zg := (HF3.out V3 HK3.out).lt
          have HFin := Lib.hid (((HF3.out V3 HK3.out).set 0 (.int .i64 x.fr)).set 1 (.int .i64 x.off) |>.set 2 (.bool x.dst))
          have HBin := Lib.hid ((((HF5.out V3 HK3.out).setCell (p := ⟨g, 0, none⟩) (Nat.le_refl _) (.int .i64 x.fr)).setCell (p := ⟨g, 1, none⟩) (Nat.le_refl _) (.int .i64 x.off)).setCell (p := ⟨g, 2, none⟩) (Nat.le_refl _) (.bool x.dst))
          go_wp2
          go_roundw
          case rel => exact ⟨k + 1, by omega, by go_num, HBin.out, by rw [HNx.out, if_pos ht']; exact HFin.out⟩
          case measure => simp [intOf]; omega
        · have HFin := Lib.hid (HF3.out V3 HK3.out)
          have HBin := Lib.hid (HF5.out V3 HK3.out)
          go_wp2
          go_roundw
          case rel => exact ⟨k + 1, by omega, by go_num, HBin.out, by rw [HNx.out, if_neg ht']; exact HFin.out⟩
          case measure => simp [intOf]; omega
      · skip
        obtain ⟨j, hj⟩ : ∃ j, k = j + 1 := ⟨k - 1, by omega⟩
        obtain ⟨ad', y, e0, haj, Hy, HLy⟩ := Ix.reads_cells (enc := Ln.Sp.cells) (m := 3) (fun _ => rfl) HN.out ((HR4.out.below HB5.out).below (show Below w4.heap.size W5 wr by rw [HG.out]; exact HB.out)) (show j < n by omega)
        obtain rfl := Option.some.inj e0
        obtain ⟨t1, t2, t3⟩ := Ln.Cov.two HCv.out j y x Hy.out (by rw [← hj]; exact Hx.out)
        have haj2 : (ad.add (j * 3)).block < wr.heap.size := by
          rw [block_of_add]
          have h7 := HB.out.size
          have h8 := HA5.out.lt
          have h9 : w4.heap.size ≤ wr.heap.size := by rw [HG.out]; omega
          exact Nat.lt_of_lt_of_le haj h9
        have HY := Lib.hid fun V (hb : Below V1.heap.size V1 V) => (show V.cell? (ad.add (j * 3)) = some (.int .i64 y.fr) ∧ V.cell? ⟨(ad.add (j * 3)).block, (ad.add (j * 3)).off + 1, none⟩ = some (.int .i64 y.off) ∧ V.cell? ⟨(ad.add (j * 3)).block, (ad.add (j * 3)).off + 2, none⟩ = some (.bool y.dst) from
          have hbw := HVb.out.trans (hb.mono HVb.out.size)
          ⟨(hbw.cell (p := ad.add (j * 3)) haj2).trans (HLy.out 0 _ rfl), (hbw.cell (p := ⟨(ad.add (j * 3)).block, (ad.add (j * 3)).off + 1, none⟩) haj2).trans (HLy.out 1 _ rfl), (hbw.cell (p := ⟨(ad.add (j * 3)).block, (ad.add (j * 3)).off + 2, none⟩) haj2).trans (HLy.out 2 _ rfl)⟩)
        have HT3 := Lib.hid t3
        have wj : IntKind.i64.wrap ((k : Int) - 1) = (j : Int) := by rw [IntKind.wrap_i64]; omega
        have q5 : (0 : Int) < (k : Int) := by omega
        have q6 : (0 : Int) ≤ (j : Int) := by omega
        have q7 : (j : Int) < (n : Int) := by omega
        have p1 : decide (x.fr ≤ y.fr) = false := by rw [decide_eq_false_iff_not]; omega
        have p2 : decide (te ≤ x.fr) = false := by rw [decide_eq_false_iff_not]; omega
        have HP : Hid (x.off = y.off → (x.dst == y.dst) = false) := fun e => by
          rw [beq_eq_false_iff_ne]
          intro e2
          rw [Ln.alike_iff.2 ⟨e.symm, e2.symm⟩] at t2
          cases t2
        have hyt : fr ≤ x.fr - 1 := by have := (Ln.Cov.in_ HCv.out j y Hy.out).1; omega
        obtain ⟨y0, y1, y2⟩ := HY.out V1 (Below.refl _ _)
        clear t2 t3 hj Hy HLy haj haj2
        go_wp2_with fail
        rw [HV1.out]
        try rw [HB9.out]
        by_cases ho : x.off = y.off
        · have p3 : (x.off == y.off) = true := by rw [beq_iff_eq]; exact ho
          have p4 := HP.out ho
          clear ho
          go_quiet (fail)
          obtain ⟨V2, hV⟩ : ∃ X, V1.drewN nq = X := ⟨_, rfl⟩
          rw [hV]
          have hbd : Below V1.heap.size V1 V2 := by rw [← hV]; exact (show Drew V1 (V1.drewN nq) from ⟨nq, rfl⟩).below _
          have HK2 := Lib.hid hbd
          clear hV hbd v0 v1 v2 zv x0 x1 x2 y0 y1 y2 p1 p2
          have HCt := Lib.hid (HAt.out V2 (x.fr) x.off x.dst (HF4.out V2 HK2.out) (by omega) (by omega) HI3.out)
          obtain ⟨b0, b1, b2, _⟩ := (HF1.out V2 HK2.out).three
          have zz := (HF1.out V2 HK2.out).lt
          obtain ⟨c0, c1, c2, _⟩ := (HF2.out V2 HK2.out).three
          have zc := (HF2.out V2 HK2.out).lt
          go_wp2_with fail
          refine HCt.out.mono ?_
          rintro e v3 ⟨⟨ab3, rfl⟩, hb⟩
          obtain ⟨V3, hV⟩ : ∃ W, v3.alloc (.cells #[.int .i64 x.off, .bool x.dst, .string ab3] 31) = W := ⟨_, rfl⟩
          have hbn : Below v3.heap.size v3 V3 := by rw [← hV]; exact (Below.refl _ _).alloc (Nat.le_refl _) _
          obtain ⟨g3, hgm⟩ : ∃ g, v3.heap.size = g := ⟨_, rfl⟩
          have hAm : At V3 g3 [.int .i64 x.off, .bool x.dst, .string ab3] := by rw [← hV, ← hgm]; exact At.new _ _ _
          have HK3 := Lib.hid (HK2.out.trans ((hb.trans (hbn.mono hb.size)).mono HK2.out.size))
          have HS3 := Lib.hid hAm
          have HW3 := Lib.hid hV
          have HG3 := Lib.hid hgm
          clear b0 b1 b2 zz c0 c1 c2 zc hb hbn hAm hV hgm HCt
          go_upto_region 19 with fail
          rw [HW3.out]
          try rw [HG3.out]
          obtain ⟨c0, c1, c2, _⟩ := (HF2.out V3 HK3.out).three
          have zc := (HF2.out V3 HK3.out).lt
          obtain ⟨d0, d1, d2, _⟩ := HS3.out.three
          have zd := HS3.out.lt
          have q8 : (x.off != x.off) = false := by simp
          have q9 : (x.dst != x.dst) = false := by simp
          go_upto_region 22 with fail
          clear c0 c1 c2 zc d0 d1 d2 zd q8 q9
          have HCt := Lib.hid (HAt.out V3 (x.fr - 1) y.off y.dst (HF4.out V3 HK3.out) (by omega) (by omega) HT3.out)
          obtain ⟨b0, b1, b2, _⟩ := (HF1.out V3 HK3.out).three
          have zz := (HF1.out V3 HK3.out).lt
          obtain ⟨c0, c1, c2, _⟩ := (HF2.out V3 HK3.out).three
          have zc := (HF2.out V3 HK3.out).lt
          go_wp2_with fail
          refine HCt.out.mono ?_
          rintro e v4 ⟨⟨ab4, rfl⟩, hb⟩
          obtain ⟨V4, hV⟩ : ∃ W, v4.alloc (.cells #[.int .i64 y.off, .bool y.dst, .string ab4] 31) = W := ⟨_, rfl⟩
          have hbn : Below v4.heap.size v4 V4 := by rw [← hV]; exact (Below.refl _ _).alloc (Nat.le_refl _) _
          obtain ⟨g4, hgm⟩ : ∃ g, v4.heap.size = g := ⟨_, rfl⟩
          have hAm : At V4 g4 [.int .i64 y.off, .bool y.dst, .string ab4] := by rw [← hV, ← hgm]; exact At.new _ _ _
          have HK4 := Lib.hid (HK3.out.trans ((hb.trans (hbn.mono hb.size)).mono HK3.out.size))
          have HS4 := Lib.hid hAm
          have HW4 := Lib.hid hV
          have HG4 := Lib.hid hgm
          clear b0 b1 b2 zz c0 c1 c2 zc hb hbn hAm hV hgm HCt
          go_upto_region 23 with fail
          rw [HW4.out]
          try rw [HG4.out]
          obtain ⟨c0, c1, c2, _⟩ := (HF2.out V4 HK4.out).three
          have zc := (HF2.out V4 HK4.out).lt
          obtain ⟨d0, d1, d2, _⟩ := HS4.out.three
          have zd := HS4.out.lt
          have q8 : (y.off != y.off) = false := by simp
          have q9 : (y.dst != y.dst) = false := by simp
          obtain ⟨y0, y1, y2⟩ := HY.out V4 HK4.out
          go_quiet (fail)
          obtain ⟨V5, hV⟩ : ∃ X, V4.drewN nq = X := ⟨_, rfl⟩
          rw [hV]
          have hbd : Below V4.heap.size V4 V5 := by rw [← hV]; exact (show Drew V4 (V4.drewN nq) from ⟨nq, rfl⟩).below _
          have HK5 := Lib.hid (HK4.out.trans (hbd.mono HK4.out.size))
          clear hV hbd c0 c1 c2 zc d0 d1 d2 zd y0 y1 y2 q8 q9
          obtain ⟨c0, c1, c2, _⟩ := (HF2.out V5 HK5.out).three
          have zc := (HF2.out V5 HK5.out).lt
          by_cases ht' : x.fr ≤ t
          · obtain ⟨y0, y1, y2, g0, g1, g2⟩ := (HF3.out V5 HK5.out).three
            have zg := (HF3.out V5 HK5.out).lt
            have HFin := Lib.hid (((HF3.out V5 HK5.out).set 0 (.int .i64 x.fr)).set 1 (.int .i64 x.off) |>.set 2 (.bool x.dst))
            have HBin := Lib.hid ((((HF5.out V5 HK5.out).setCell (p := ⟨g, 0, none⟩) (Nat.le_refl _) (.int .i64 x.fr)).setCell (p := ⟨g, 1, none⟩) (Nat.le_refl _) (.int .i64 x.off)).setCell (p := ⟨g, 2, none⟩) (Nat.le_refl _) (.bool x.dst))
            go_wp2
            go_roundw
            case rel => exact ⟨k + 1, by omega, by go_num, HBin.out, by rw [HNx.out, if_pos ht']; exact HFin.out⟩
            case measure => simp [intOf]; omega
          · have HFin := Lib.hid (HF3.out V5 HK5.out)
            have HBin := Lib.hid (HF5.out V5 HK5.out)
            go_wp2
            go_roundw
            case rel => exact ⟨k + 1, by omega, by go_num, HBin.out, by rw [HNx.out, if_neg ht']; exact HFin.out⟩
            case measure => simp [intOf]; omega
        · have p3 : (x.off == y.off) = false := by rw [beq_eq_false_iff_ne]; exact ho
          clear ho
          go_quiet (fail)
          obtain ⟨V2, hV⟩ : ∃ X, V1.drewN nq = X := ⟨_, rfl⟩
          rw [hV]
          have hbd : Below V1.heap.size V1 V2 := by rw [← hV]; exact (show Drew V1 (V1.drewN nq) from ⟨nq, rfl⟩).below _
          have HK2 := Lib.hid hbd
          clear hV hbd v0 v1 v2 zv x0 x1 x2 y0 y1 y2 p1 p2
          have HCt := Lib.hid (HAt.out V2 (x.fr) x.off x.dst (HF4.out V2 HK2.out) (by omega) (by omega) HI3.out)
          obtain ⟨b0, b1, b2, _⟩ := (HF1.out V2 HK2.out).three
          have zz := (HF1.out V2 HK2.out).lt
          obtain ⟨c0, c1, c2, _⟩ := (HF2.out V2 HK2.out).three
          have zc := (HF2.out V2 HK2.out).lt
          go_wp2_with fail
          refine HCt.out.mono ?_
          rintro e v3 ⟨⟨ab3, rfl⟩, hb⟩
          obtain ⟨V3, hV⟩ : ∃ W, v3.alloc (.cells #[.int .i64 x.off, .bool x.dst, .string ab3] 31) = W := ⟨_, rfl⟩
          have hbn : Below v3.heap.size v3 V3 := by rw [← hV]; exact (Below.refl _ _).alloc (Nat.le_refl _) _
          obtain ⟨g3, hgm⟩ : ∃ g, v3.heap.size = g := ⟨_, rfl⟩
          have hAm : At V3 g3 [.int .i64 x.off, .bool x.dst, .string ab3] := by rw [← hV, ← hgm]; exact At.new _ _ _
          have HK3 := Lib.hid (HK2.out.trans ((hb.trans (hbn.mono hb.size)).mono HK2.out.size))
          have HS3 := Lib.hid hAm
          have HW3 := Lib.hid hV
          have HG3 := Lib.hid hgm
          clear b0 b1 b2 zz c0 c1 c2 zc hb hbn hAm hV hgm HCt
          go_upto_region 19 with fail
          rw [HW3.out]
          try rw [HG3.out]
          obtain ⟨c0, c1, c2, _⟩ := (HF2.out V3 HK3.out).three
          have zc := (HF2.out V3 HK3.out).lt
          obtain ⟨d0, d1, d2, _⟩ := HS3.out.three
          have zd := HS3.out.lt
          have q8 : (x.off != x.off) = false := by simp
          have q9 : (x.dst != x.dst) = false := by simp
          go_upto_region 22 with fail
          clear c0 c1 c2 zc d0 d1 d2 zd q8 q9
          have HCt := Lib.hid (HAt.out V3 (x.fr - 1) y.off y.dst (HF4.out V3 HK3.out) (by omega) (by omega) HT3.out)
          obtain ⟨b0, b1, b2, _⟩ := (HF1.out V3 HK3.out).three
          have zz := (HF1.out V3 HK3.out).lt
          obtain ⟨c0, c1, c2, _⟩ := (HF2.out V3 HK3.out).three
          have zc := (HF2.out V3 HK3.out).lt
          go_wp2_with fail
          refine HCt.out.mono ?_
          rintro e v4 ⟨⟨ab4, rfl⟩, hb⟩
          obtain ⟨V4, hV⟩ : ∃ W, v4.alloc (.cells #[.int .i64 y.off, .bool y.dst, .string ab4] 31) = W := ⟨_, rfl⟩
          have hbn : Below v4.heap.size v4 V4 := by rw [← hV]; exact (Below.refl _ _).alloc (Nat.le_refl _) _
          obtain ⟨g4, hgm⟩ : ∃ g, v4.heap.size = g := ⟨_, rfl⟩
          have hAm : At V4 g4 [.int .i64 y.off, .bool y.dst, .string ab4] := by rw [← hV, ← hgm]; exact At.new _ _ _
          have HK4 := Lib.hid (HK3.out.trans ((hb.trans (hbn.mono hb.size)).mono HK3.out.size))
          have HS4 := Lib.hid hAm
          have HW4 := Lib.hid hV
          have HG4 := Lib.hid hgm
          clear b0 b1 b2 zz c0 c1 c2 zc hb hbn hAm hV hgm HCt
          go_upto_region 23 with fail
          rw [HW4.out]
          try rw [HG4.out]
          obtain ⟨c0, c1, c2, _⟩ := (HF2.out V4 HK4.out).three
          have zc := (HF2.out V4 HK4.out).lt
          obtain ⟨d0, d1, d2, _⟩ := HS4.out.three
          have zd := HS4.out.lt
          have q8 : (y.off != y.off) = false := by simp
          have q9 : (y.dst != y.dst) = false := by simp
          obtain ⟨y0, y1, y2⟩ := HY.out V4 HK4.out
          go_quiet (fail)
          obtain ⟨V5, hV⟩ : ∃ X, V4.drewN nq = X := ⟨_, rfl⟩
          rw [hV]
          have hbd : Below V4.heap.size V4 V5 := by rw [← hV]; exact (show Drew V4 (V4.drewN nq) from ⟨nq, rfl⟩).below _
          have HK5 := Lib.hid (HK4.out.trans (hbd.mono HK4.out.size))
          clear hV hbd c0 c1 c2 zc d0 d1 d2 zd y0 y1 y2 q8 q9
          obtain ⟨c0, c1, c2, _⟩ := (HF2.out V5 HK5.out).three
          have zc := (HF2.out V5 HK5.out).lt
          by_cases ht' : x.fr ≤ t
          · obtain ⟨y0, y1, y2, g0, g1, g2⟩ := (HF3.out V5 HK5.out).three
            have zg := (HF3.out V5 HK5.out).lt
            have HFin := Lib.hid (((HF3.out V5 HK5.out).set 0 (.int .i64 x.fr)).set 1 (.int .i64 x.off) |>.set 2 (.bool x.dst))
            have HBin := Lib.hid ((((HF5.out V5 HK5.out).setCell (p := ⟨g, 0, none⟩) (Nat.le_refl _) (.int .i64 x.fr)).setCell (p := ⟨g, 1, none⟩) (Nat.le_refl _) (.int .i64 x.off)).setCell (p := ⟨g, 2, none⟩) (Nat.le_refl _) (.bool x.dst))
            go_wp2
            go_roundw
            case rel => exact ⟨k + 1, by omega, by go_num, HBin.out, by rw [HNx.out, if_pos ht']; exact HFin.out⟩
            case measure => simp [intOf]; omega
          · have HFin := Lib.hid (HF3.out V5 HK5.out)
            have HBin := Lib.hid (HF5.out V5 HK5.out)
            go_wp2
            go_roundw
            case rel => exact ⟨k + 1, by omega, by go_num, HBin.out, by rw [HNx.out, if_neg ht']; exact HFin.out⟩
            case measure => simp [intOf]; omega
    · have hke : k = n := by omega
      subst hke
      have htk : L.take k = L := List.take_of_length_le (by rw [HN.out]; exact Nat.le_refl _)
      have HA' := HA.out
      rw [htk] at HA'
      obtain ⟨q, hq⟩ : ∃ q, Ln.atGo t p0 L = q := ⟨_, rfl⟩
      rw [hq] at HA'
      have HAq := Lib.hid HA'
      have hbw : Below w.heap.size w wr := HB4.out.trans ((HB5.out.trans (by rw [HG.out]; exact HB.out)).mono HB4.out.size)
      have HBw := Lib.hid hbw
      have q9 : ¬ (k : Int) < (k : Int) := by omega
      have HAsr := Lib.hid (HAs.out.below (show Below g W5 wr from HB.out) (by have := HAs.out.lt; have := HA4.out.lt; rw [HG.out] at this; exact this))
      clear HA' hbw htk
      by_cases h1 : t < fr
      · go_wp2
        go_ret
        exact ⟨rfl, HBw.out⟩
      by_cases h2 : te ≤ t
      · go_wp2
        go_ret
        exact ⟨rfl, HBw.out⟩
      have hft := Ln.Cov.at_ (q := p0) HCv.out t (by omega) (by omega)
      rw [hq] at hft
      have HCt := Lib.hid (HAt.out wr t q.off q.dst HBw.out (by omega) (by omega) hft)
      obtain ⟨b0, b1, b2, _⟩ := HAsr.out.three
      have zz := HAsr.out.lt
      clear hft hq
      go_wp2_with fail
      refine HCt.out.mono ?_
      rintro e w8 ⟨⟨ab, rfl⟩, hb8⟩
      obtain ⟨W9, hW9⟩ : ∃ W, w8.alloc (.cells #[.int .i64 q.off, .bool q.dst, .string ab] 31) = W := ⟨_, rfl⟩
      have hb9 : Below w8.heap.size w8 W9 := by rw [← hW9]; exact (Below.refl _ _).alloc (Nat.le_refl _) _
      obtain ⟨g9, hg9⟩ : ∃ g, w8.heap.size = g := ⟨_, rfl⟩
      have hA9 : At W9 g9 [.int .i64 q.off, .bool q.dst, .string ab] := by rw [← hW9, ← hg9]; exact At.new _ _ _
      have hAq9 := (HAq.out.call hb8).call hb9
      unfold Ln.Sp.cells at hAq9
      have HB9 := Lib.hid (HBw.out.trans ((hb8.trans (hb9.mono hb8.size)).mono HBw.out.size))
      have HW9 := Lib.hid hW9
      have HG9 := Lib.hid hg9
      have HA9 := Lib.hid hA9
      have HAq9 := Lib.hid hAq9
      clear hb8 hb9 hA9 hAq9 hW9 hg9 b0 b1 b2 zz
      go_upto_region 31 with fail
      rw [HW9.out]
      try rw [HG9.out]
      obtain ⟨c0, c1, c2, _⟩ := HA9.out.three
      obtain ⟨d0, d1, d2, _⟩ := HAq9.out.three
      have zd := HAq9.out.lt
      have zc := HA9.out.lt
      go_wp2
      go_ret
      exact ⟨by first | rfl | exact ret_bool (by simp), HB9.out⟩
end Go.Proofs.YtolgigaolffenaaGreatDoor

/- LineJust at a row's arguments. -/
namespace Go.Proofs.YtolgigaolffenaaGreatDoor
open Go.RowKit

theorem lineJust_row (s : Src.S) (rv zv lv : Value) (evs : List Value) (z lo hi t : Int) (w : World) (hT : Wo w ∧ Wa w) (hR : Src.SrcR w w.heap.size s rv zv lv evs) (hw : Src.Wide s) (hz : (Lit.int .i64 z).wf = true) (hlo : (Lit.int .i64 lo).wf = true) (hhi : (Lit.int .i64 hi).wf = true) (_ : (Lit.int .i64 t).wf = true) :
    Calls Tryz.prog 4 #[.agg #[rv, zv, lv], .int .i64 z, .int .i64 lo, .int .i64 hi, .int .i64 t] w fun e w' => e = .returned (.bool true) ∧ Below w.heap.size w w' :=
  lineJust_any s z lo hi t rv zv lv evs w hR hw hT.1 hT.2 (by have := i64_range hz; omega) (by have := i64_range hlo; omega) (by have := i64_range hhi; omega)
end Go.Proofs.YtolgigaolffenaaGreatDoor

/-
  LineJust: whatever comes in, the law returns true and each argument reads as it did.
  Conditions: the listed package-level tables read as the program's text lays them (the card ties them to it).
-/
namespace Go.Proofs.YtolgigaolffenaaGreatDoor.lineJust
open Go.ChangeShapes Go.WideShapes Go.ChangeAt Go.RowKit Go.Joins
open Go.ChangeMaps (open_string shut_string)

theorem u8_nonneg {c : Int} (h : (Lit.int .u8 c).wf = true) : 0 ≤ c := by
  have : 0 ≤ c ∧ c ≤ 255 := by simpa [Lit.wf, IntKind.min, IntKind.max, IntKind.signed, IntKind.bits] using h
  exact this.1
theorem own : ownKnob Tryz.prog.godebug = none := by kernel_rfl
theorem laidOut : laidOutB Tryz.prog = true := by kernel_rfl
theorem g_places : Tryz.prog.globalNamed "solstice/abbr.places" = some 1 := by kernel_rfl
theorem t_places : (Tryz.prog.globals[1]?).map (·.type) = some 272 := by kernel_rfl
theorem g_lens : Tryz.prog.globalNamed "solstice/civil.lengths" = some 0 := by kernel_rfl
theorem t_lens : (Tryz.prog.globals[0]?).map (·.type) = some 222 := by kernel_rfl

theorem wo_of {W : World} (h : laidMetH Tryz.prog Rows.lineJustRow.laid W) (hS : W.ShapedOpen Tryz.prog) : Wo W ∧ Wa W := by
  have h0 : laidMet Tryz.prog Rows.lineJustRow.laid W := h
  have h1 := h0.tail
  have x_lens : Lib.TabIs Tryz.prog W "solstice/civil.lengths" .i64 Cv.lens := Lib.tabIs_of_head g_lens t_lens Tryz.underlying222 Tryz.underlying3 (by kernel_rfl) (by kernel_rfl) h0
  have x_places := strs_of_head (ls := [[37, 115], [37, 122]]) (rest := []) g_places t_places Tryz.underlying272 Tryz.underlying9 (by kernel_rfl) (by kernel_rfl) h1
  exact ⟨⟨fun k hk => x_lens.cell g_lens k hk, Tryz.laysM145.s1_3 W hS⟩, ⟨x_places 0 _ rfl, x_places 1 _ rfl, Tryz.laysM145.s1_3 W hS⟩⟩

noncomputable def laidWorld (os : Os) : World := World.doorLaid Tryz.prog 4000 os
theorem laid_met (os : Os) : laidMet Tryz.prog Rows.lineJustRow.laid ((laidWorld os).forCall (fun _ _ => 0) ⟨#[], #[.agg #[.slice none 0 0, .slice none 0 0, .slice none 0 0], .int .i64 0, .int .i64 0, .int .i64 0, .int .i64 0], []⟩).memory :=
  laidMet_of_run' 8 (by kernel_rfl) (by kernel_rfl)
theorem reads (os : Os) {H : Type} (enc : TypeId × Value → H) : ∃ places, DataW.whole enc Tryz.prog ((laidWorld os).forCall (fun _ _ => 0) ⟨#[], #[.agg #[.slice none 0 0, .slice none 0 0, .slice none 0 0], .int .i64 0, .int .i64 0, .int .i64 0, .int .i64 0], []⟩).memory Tryz.f4.params.toList Rows.lineJustSpec.vars false #[Value.agg #[.slice none 0 0, .slice none 0 0, .slice none 0 0], .int .i64 0, .int .i64 0, .int .i64 0, .int .i64 0].toList 8 = some ([.agg [.nil, .nil, .nil], .lit (.int .i64 0), .lit (.int .i64 0), .lit (.int .i64 0), .lit (.int .i64 0)], [], places) :=
  ⟨[], by kernel_rfl⟩

set_option maxRecDepth 100000 in
set_option maxHeartbeats 4000000 in
theorem contract (H : Type) (enc : TypeId × Value → H) (W : World) (base : Nat) (args : Array Value) (ds gs : List (DataW H)) (before : List MemPlace)
    (hval : ∀ (j : Nat) t v, Tryz.f4.params[j]? = some t → args[j]? = some v → Value.okWide Tryz.prog W .any base t v)
    (hW : DataW.Whole enc Tryz.prog Tryz.f4.params.toList Rows.lineJustSpec.vars false W args.toList ds gs before) (hL : laidMetH Tryz.prog Rows.lineJustRow.laid W) (hS : W.ShapedOpen Tryz.prog) :
    Calls Tryz.prog 4 args W fun e W' => ∃ v, e = .returned v ∧ Rows.lineJustSpec.post enc Tryz.prog Tryz.f4 false true false false W args v W' := by
  have hW' := hW
  obtain ⟨p, q, hA0, hV, rfl, hfz, hnd⟩ := hW
  have hA : DataW.TrodAll enc Tryz.prog W 0 (fun _ => true) true Tryz.f4.params.toList args.toList ds p := hA0
  rw [Tryz.params4] at hA hval
  obtain ⟨v0, vs0, d0, ds0, p0, q0, hargs, rfl, rfl, h0, r0⟩ := trodAll_cons hA
  obtain ⟨v1, vs1, d1, ds1, p1, q1, rfl, rfl, rfl, h1, r1⟩ := trodAll_cons r0
  obtain ⟨v2, vs2, d2, ds2, p2, q2, rfl, rfl, rfl, h2, r2⟩ := trodAll_cons r1
  obtain ⟨v3, vs3, d3, ds3, p3, q3, rfl, rfl, rfl, h3, r3⟩ := trodAll_cons r2
  obtain ⟨v4, vs4, d4, ds4, p4, q4, rfl, rfl, rfl, h4, r4⟩ := trodAll_cons r3
  obtain ⟨rfl, rfl, rfl⟩ := trodAll_nil r4
  obtain rfl : args = #[v0, v1, v2, v3, v4] := by cases args; simp_all
  obtain ⟨rfl, rfl⟩ := trodVars_none hV
  have k0 := h0
  have lt0 : ∀ x ∈ p0, x.block < W.heap.size := by obtain ⟨m, hm⟩ := k0; exact DataW.trod_lt m _ _ _ hm
  obtain ⟨s0, rv0, zv0, lv0, evs0, rfl, hsr0, hsw0⟩ := open_source (hval 0 26 v0 rfl rfl) h0
  obtain ⟨z, rfl, rfl, rfl, wz⟩ := open_int Tryz.underlying3 (hval 1 3 v1 rfl rfl) h1
  obtain ⟨lo, rfl, rfl, rfl, wlo⟩ := open_int Tryz.underlying3 (hval 2 3 v2 rfl rfl) h2
  obtain ⟨hi, rfl, rfl, rfl, whi⟩ := open_int Tryz.underlying3 (hval 3 3 v3 rfl rfl) h3
  obtain ⟨t, rfl, rfl, rfl, wt⟩ := open_int Tryz.underlying2 (hval 4 2 v4 rfl rfl) h4
  clear hA0
  refine (lineJust_row s0 rv0 zv0 lv0 evs0 z lo hi t W (wo_of hL hS) hsr0 hsw0 wz wlo whi wt).mono fun e W' ⟨he, bel⟩ => ?_
  subst he
  exact ⟨_, rfl, _, _, _, [], _, [], hW', trodAll_mk1 (shut_bool Tryz.underlying4 _), (trodAll_cons_mk (Below.trod laidOut (by kernel_rfl) (of_decide_eq_true (by kernel_rfl)) k0 bel lt0) (trodAll_cons_mk (shut_int Tryz.underlying3 wz) (trodAll_cons_mk (shut_int Tryz.underlying3 wlo) (trodAll_cons_mk (shut_int Tryz.underlying3 whi) (trodAll_cons_mk (shut_int Tryz.underlying2 wt) trodAll_mk0))))), rfl, bel.frame _, fun h => by cases h⟩

set_option maxRecDepth 100000 in
theorem lifted (os : Os) (started : os.Started) (H : Type) (enc : TypeId × Value → H) (F : Stop.Interp) :
    ReturnsInHanded {} Tryz.checked os 4 .any ((OpenSpec.ofChange Rows.lineJustSpec).preRow enc Tryz.prog Tryz.f4 Rows.lineJustRow.domain false Rows.lineJustRow.laid) (((OpenSpec.ofChange Rows.lineJustSpec).at F).post enc Tryz.prog Tryz.f4 false true false false) := by
  obtain ⟨places, hx⟩ := reads os enc
  refine returnsInHanded_of_row (C := Tryz.checked) (s := OpenSpec.ofChange Rows.lineJustSpec) own started (by kernel_rfl) Tryz.func4
    (witness_row_at (enc := enc) (C := Tryz.checked) false (laidWorld os) #[.agg #[.slice none 0 0, .slice none 0 0, .slice none 0 0], .int .i64 0, .int .i64 0, .int .i64 0, .int .i64 0] rfl (by kernel_rfl) (by kernel_rfl) (by kernel_rfl)
      (OpenSpec.preRow_of_cond 8 hx (by kernel_rfl) (fun k hk => by cases hk) (by kernel_rfl) (laid_met os))) ?_
  intro W base args ds gs before hval hW _ _ _ hL hS _
  exact contract H enc W base args ds gs before hval hW hL hS

theorem said : Rows.LineJustSaid :=
  OpenClaim.holds_of_cond 4 Tryz.f4 rfl rfl rfl rfl rfl rfl rfl ⟨rfl, rfl, rfl, rfl, rfl⟩ rfl rfl rfl rfl rfl (by kernel_rfl) Tryz.func4 (by kernel_rfl)
    (of_decide_eq_true (by kernel_rfl)) (by unfold Func.isWrapper; first | (rw [if_pos (by decide +kernel)]; kernel_rfl) | (rw [if_neg (by decide +kernel)]; exact ⟨rfl, rfl⟩))
    (fun os started H enc _ F => by rw [OpenClaim.pre_eq_preRow]; exact lifted os started H enc F)

theorem plain (f : FuncId) (fn : Func) (hf : Tryz.pinned.checked.prog.funcNamed "solstice/solsticelaw18.LineJust" = some f) (hfn : Tryz.pinned.checked.prog.funcs[f]? = some fn) :
    false = Tryz.pinned.checked.prog.looks [] ∧ ∀ (j : Nat) t, fn.params[j]? = some t → Tryz.pinned.checked.prog.wantsStandIn t = false := by
  obtain rfl : f = 4 := Option.some.inj ((show Tryz.prog.funcNamed "solstice/solsticelaw18.LineJust" = some 4 by kernel_rfl).symm.trans hf) |>.symm
  obtain rfl : fn = Tryz.f4 := (Option.some.inj (Tryz.func4.symm.trans hfn)).symm
  refine ⟨by kernel_rfl, fun j t ht => ?_⟩
  rw [Tryz.params4] at ht
  have hm : t ∈ [26, 3, 2] := by
    have := Array.mem_of_getElem? ht
    simp at this ⊢
    omega
  simp only [List.mem_cons, List.not_mem_nil, or_false] at hm
  rcases hm with rfl | rfl | rfl
  · exact (show Tryz.prog.wantsStandIn 26 = false by kernel_rfl)
  · exact (show Tryz.prog.wantsStandIn 3 = false by kernel_rfl)
  · exact (show Tryz.prog.wantsStandIn 2 = false by kernel_rfl)

theorem card : Rows.LineJustCardSaid :=
  Claim7.holds_tied_plain_at .later [] _ _ _ _ said (fun _ h => by cases h) (by kernel_rfl) (fun _ h => by cases h) lineJust_row_tie rfl ⟨rfl, rfl⟩ (by kernel_rfl) rfl plain (by kernel_rfl)
end Go.Proofs.YtolgigaolffenaaGreatDoor.lineJust
