/- TopEast: the walk. -/
import Derived.Test.YtolgigaolffenaaGreatDoorQ01
import Derived.Test.YtolgigaolffenaaGreatDoorQ02
import Derived.Test.YtolgigaolffenaaGreatDoorQ03
import Derived.Test.YtolgigaolffenaaGreatDoorQ04
import Derived.Test.YtolgigaolffenaaGreatDoorQ05
import Derived.Test.YtolgigaolffenaaGreatDoorQ06
import Derived.Test.YtolgigaolffenaaGreatDoorQ07
import Derived.Test.YtolgigaolffenaaGreatDoorQ08
import Derived.Test.YtolgigaolffenaaGreatDoorQ09
import Derived.Test.YtolgigaolffenaaGreatDoorQ10
import Derived.Test.YtolgigaolffenaaGreatDoorQ11
import Derived.Test.YtolgigaolffenaaGreatDoorQ12
import Derived.Test.YtolgigaolffenaaGreatDoorQ13
import Derived.Test.YtolgigaolffenaaGreatDoorQ14
import Derived.Test.YtolgigaolffenaaGreatDoorQ15
import Derived.Test.YtolgigaolffenaaGreatDoorQ16
import Derived.Test.YtolgigaolffenaaGreatDoorQ17
import Derived.Test.YtolgigaolffenaaGreatDoorQ18
import Derived.Test.YtolgigaolffenaaGreatDoorQ19
import Derived.Test.YtolgigaolffenaaGreatDoorQ20
import Derived.Test.YtolgigaolffenaaGreatDoorQ21
import Derived.Test.YtolgigaolffenaaGreatDoorQ22
import Derived.Test.YtolgigaolffenaaGreatDoorQ23
import Derived.Test.YtolgigaolffenaaGreatDoorQ24
import Derived.Test.YtolgigaolffenaaGreatDoorQ25
import Derived.Test.YtolgigaolffenaaGreatDoorQ26
import Derived.Test.YtolgigaolffenaaGreatDoorQ27
import Derived.Test.YtolgigaolffenaaGreatDoorQ28
import Derived.Test.YtolgigaolffenaaGreatDoorQ29
import Derived.Test.YtolgigaolffenaaGreatDoorQ30
import Derived.Test.YtolgigaolffenaaGreatDoorQ31
import Derived.Test.YtolgigaolffenaaGreatDoorQ32
import Derived.Test.YtolgigaolffenaaGreatDoorQ33
import Derived.Test.YtolgigaolffenaaGreatDoorQ34
import Derived.Test.YtolgigaolffenaaGreatDoorQ35
import Derived.Test.YtolgigaolffenaaGreatDoorQ36
import Derived.Test.YtolgigaolffenaaGreatDoorQ37
import Derived.Test.YtolgigaolffenaaGreatDoorQ38
import Derived.Test.YtolgigaolffenaaGreatDoorQ39
import Derived.Test.YtolgigaolffenaaGreatDoorQa01
import Derived.Test.YtolgigaolffenaaGreatDoorR01
import Derived.Lib.SmallJoins
import Derived.Deep.QuietTactic
import Derived.BigQuiet

namespace Go.Proofs.YtolgigaolffenaaGreatDoor
open Go.RowKit Go.Shelf

set_option maxHeartbeats 16000000 in
set_option maxRecDepth 200000 in
theorem topEast_any (s : Src.S) (z more lo hi : Int) (rv zv lv : Value) (evs : List Value) (w : World) (hR : Src.SrcR w w.heap.size s rv zv lv evs) (hw : Src.Wide s) (hW : Wo w) (hA : Wa w) (hz : -9223372036854775808 ≤ z ∧ z < 9223372036854775808)
    (hlo : -9223372036854775808 ≤ lo ∧ lo < 9223372036854775808) (hhi : -9223372036854775808 ≤ hi ∧ hi < 9223372036854775808) (hmo : -9223372036854775808 ≤ more ∧ more < 9223372036854775808) :
    Calls Tryz.prog 5 #[.agg #[rv, zv, lv], .int .i64 z, .int .i64 more, .int .i64 lo, .int .i64 hi] w fun e w' => e = .returned (.bool true) ∧ Below w.heap.size w w' := by
  have hcc : ∀ x ∈ s.zones, ∀ e ∈ x.2, 0 ≤ e.u.c := fun x hx e he => ((hw.zones x hx).2 e he).1
  have hsz : Src.Few s → Vd.Sz s := fun hf => ⟨⟨by have := hf.nr; omega, by have := hf.nz; omega, by have := hf.nl; omega⟩, fun x hx => by have := (hf.zones x hx).1; omega, hw.smw⟩
  have hwc : ∀ r ∈ s.rules, 0 ≤ r.c := fun r hr => (hw.rules r hr).1
  have HNe0 := Lib.hid fun W (hb : Below w.heap.size w W) => near16_some s rv zv lv evs 2100 W (hR.call hb) hw (by omega)
  have HLn := Lib.hid fun (hf : Src.Few s) a b (ha : -9223372036854775808 ≤ a ∧ a < 9223372036854775808) (hb' : -9223372036854775808 ≤ b ∧ b < 9223372036854775808) W (hb : Below w.heap.size w W) => lnOf_any s z a b rv zv lv evs W (hR.call hb) (hsz hf) (hW.below hb) (hA.below hb) hz ha hb' hcc hwc
  have HVd := Lib.hid fun (hf : Src.Few s) W (hb : Below w.heap.size w W) => vdWell_any s rv zv lv evs W (hR.call hb) (hsz hf) (hW.below hb) (hA.below hb)
  have HWw := Lib.hid hw
  have HWo := Lib.hid hW
  have HWa := Lib.hid hA
  have HR0 := Lib.hid hR
  have HSz := Lib.hid hsz
  have hlen : (s.zones.zip evs).length = s.zones.length := by rw [List.length_zip, hR.len]; omega
  have HErs := Lib.hid hR.eras
  have HRu := Lib.hid fun (hf : Src.Few s) (h : Vd.well s = true) => Eg.rules_ok2 h (hsz hf).lims.rules
  obtain ⟨rA, rc, rfl, hrn, hrc, hrr⟩ := hR.rules
  obtain ⟨zA, zc, rfl, hzn, hzc, hzr⟩ := hR.zones
  obtain ⟨lA, lc, rfl, _⟩ := hR.links
  obtain ⟨n1, hn1⟩ : ∃ n, s.rules.length = n := ⟨_, rfl⟩
  obtain ⟨n2, hn2⟩ : ∃ n, s.zones.length = n := ⟨_, rfl⟩
  obtain ⟨n3, hn3⟩ : ∃ n, s.links.length = n := ⟨_, rfl⟩
  rw [hn1, hn2, hn3] at HNe0 HLn HVd HR0
  rw [hn1] at hrn hrr
  rw [hn2] at hzn hzr hlen
  have HN1 := Lib.hid hn1
  have HN2 := Lib.hid hn2
  have HLen := Lib.hid hlen
  have HRr := Lib.hid hrr
  have HZr := Lib.hid hzr
  unfold maxLen at hrc hzc
  rw [hn1, hn2, hn3]
  obtain ⟨W1, hW1⟩ : ∃ W, w.alloc (.cells #[.slice rA n1 rc, .slice zA n2 zc, .slice lA n3 lc] 26) = W := ⟨_, rfl⟩
  have hb1 : Below w.heap.size w W1 := by rw [← hW1]; exact (Below.refl _ _).alloc (Nat.le_refl _) _
  have hA1 : At W1 w.heap.size [.slice rA n1 rc, .slice zA n2 zc, .slice lA n3 lc] := by rw [← hW1]; exact At.new _ _ _
  have HBg := Lib.hid (begins9_any W1 (hW.below hb1) (hA.below hb1))
  have HA1 := Lib.hid hA1
  have HB1 := Lib.hid hb1
  have HW1 := Lib.hid hW1
  obtain ⟨X, hX⟩ : ∃ x, IntKind.i64.wrap (hi - lo) = x := ⟨_, rfl⟩
  have HX := Lib.hid hX
  clear hn1 hn2 hn3 hb1 hA1 hW1 hR hw hW hA hcc hsz hwc hlen hrr hzr
  go_enter Tryz.func5, Tryz.ntmps5
  go_wp2_with fail
  rw [HW1.out]
  refine HBg.out.mono ?_
  rintro e w2 ⟨rfl, hb2⟩
  have HA2 := Lib.hid (HA1.out.call hb2)
  have HB2 := Lib.hid (HB1.out.trans (hb2.mono HB1.out.size))
  obtain ⟨b0, b1, b2, _⟩ := HA2.out.three
  have zz := HA2.out.lt
  clear hb2
  have HNe := Lib.hid (HNe0.out w2 HB2.out)
  go_wp2_with fail
  refine HNe.out.mono ?_
  rintro e w3 ⟨he, hb3⟩
  have HA3 := Lib.hid (HA2.out.call hb3)
  have HB3 := Lib.hid (HB2.out.trans (hb3.mono HB2.out.size))
  clear hb3 b0 b1 b2 zz HNe
  obtain ⟨b0, b1, b2, _⟩ := HA3.out.three
  have zz := HA3.out.lt
  rcases he with rfl | ⟨rfl, hfew⟩
  · clear hX
    go_wp2
    go_ret
    exact ⟨rfl, HB3.out⟩
  have hc : (z < 0) ∨ (¬ z < 0 ∧ (n2 : Int) ≤ z) ∨ (¬ z < 0 ∧ ¬ (n2 : Int) ≤ z ∧ lo < 1600) ∨ (¬ z < 0 ∧ ¬ (n2 : Int) ≤ z ∧ ¬ lo < 1600 ∧ 2098 < hi) ∨ (¬ z < 0 ∧ ¬ (n2 : Int) ≤ z ∧ ¬ lo < 1600 ∧ ¬ 2098 < hi ∧ 30 < X) ∨ (¬ z < 0 ∧ ¬ (n2 : Int) ≤ z ∧ ¬ lo < 1600 ∧ ¬ 2098 < hi ∧ ¬ 30 < X ∧ more < -86400) ∨ (¬ z < 0 ∧ ¬ (n2 : Int) ≤ z ∧ ¬ lo < 1600 ∧ ¬ 2098 < hi ∧ ¬ 30 < X ∧ ¬ more < -86400 ∧ 86400 < more) ∨ (¬ z < 0 ∧ ¬ (n2 : Int) ≤ z ∧ ¬ lo < 1600 ∧ ¬ 2098 < hi ∧ ¬ 30 < X ∧ ¬ more < -86400 ∧ ¬ 86400 < more) := by omega
  rcases hc with k1 | ⟨k1, k2⟩ | ⟨k1, k2, k3⟩ | ⟨k1, k2, k3, k4⟩ | ⟨k1, k2, k3, k4, k5⟩ | ⟨k1, k2, k3, k4, k5, k6⟩ | ⟨k1, k2, k3, k4, k5, k6, k7⟩ | ⟨k1, k2, k3, k4, k5, k6, k7⟩
  · go_wp2
    go_ret
    exact ⟨rfl, HB3.out⟩
  · go_wp2
    go_ret
    exact ⟨rfl, HB3.out⟩
  · go_wp2
    go_ret
    exact ⟨rfl, HB3.out⟩
  · go_wp2
    go_ret
    exact ⟨rfl, HB3.out⟩
  · go_wp2
    go_ret
    exact ⟨rfl, HB3.out⟩
  · go_wp2
    go_ret
    exact ⟨rfl, HB3.out⟩
  · go_wp2
    go_ret
    exact ⟨rfl, HB3.out⟩
  obtain ⟨kz, rfl⟩ : ∃ kz : Nat, z = (kz : Int) := ⟨z.toNat, by omega⟩
  have hkz : kz < n2 := by omega
  have HF := Lib.hid hfew
  have HK := Lib.hid (And.intro k3 (And.intro k4 (And.intro k5 (And.intro k6 k7))))
  have hn1' : n1 ≤ 40 := by have := hfew.nr; have := HN1.out; omega
  have hn2' : n2 ≤ 12 := by have := hfew.nz; have := HN2.out; omega
  clear hfew
  go_wp2_with fail
  clear b0 b1 b2 zz
  go_loopw [63] (fun i wr => ∃ k : Nat, k ≤ n1 ∧ i = .int .i64 (k : Int) ∧ Hid (∀ j r, j < k → s.rules[j]? = some r → r.c = 2) ∧ Hid (Below w.heap.size w wr) ∧ Hid (At wr w.heap.size [.slice rA n1 rc, .slice zA n2 zc, .slice lA n3 lc])) (fun i _ => n1 - (intOf i).toNat)
  case atStart => exact ⟨0, Nat.zero_le _, rfl, fun j r hj _ => (by omega), HB3.out, HA3.out⟩
  case round =>
    obtain ⟨k, hk, rfl, HQ, HB, HA⟩ := hrel
    by_cases hlt : k < n1
    · obtain ⟨ad, r, rfl, hab, Hx, HLx⟩ := Ix.reads_cells (enc := Ru.R.cells) (m := 11) (fun _ => rfl) HN1.out (HRr.out.below HB.out) hlt
      obtain ⟨rn, rf, rt, rm, rk, rnn, rd, rs, rcc, rsv, rl⟩ := r
      have x0 : wr.cell? (ad.add (k * 11)) = some (.string rn) := HLx.out 0 _ rfl
      have x1 : wr.cell? ⟨(ad.add (k * 11)).block, (ad.add (k * 11)).off + 1, none⟩ = some (.int .i64 rf) := HLx.out 1 _ rfl
      have x2 : wr.cell? ⟨(ad.add (k * 11)).block, (ad.add (k * 11)).off + 2, none⟩ = some (.int .i64 rt) := HLx.out 2 _ rfl
      have x3 : wr.cell? ⟨(ad.add (k * 11)).block, (ad.add (k * 11)).off + 3, none⟩ = some (.int .i64 rm) := HLx.out 3 _ rfl
      have x4 : wr.cell? ⟨(ad.add (k * 11)).block, (ad.add (k * 11)).off + 4, none⟩ = some (.int .u8 rk) := HLx.out 4 _ rfl
      have x5 : wr.cell? ⟨(ad.add (k * 11)).block, (ad.add (k * 11)).off + 5, none⟩ = some (.int .i64 rnn) := HLx.out 5 _ rfl
      have x6 : wr.cell? ⟨(ad.add (k * 11)).block, (ad.add (k * 11)).off + 6, none⟩ = some (.int .i64 rd) := HLx.out 6 _ rfl
      have x7 : wr.cell? ⟨(ad.add (k * 11)).block, (ad.add (k * 11)).off + 7, none⟩ = some (.int .i64 rs) := HLx.out 7 _ rfl
      have x8 : wr.cell? ⟨(ad.add (k * 11)).block, (ad.add (k * 11)).off + 8, none⟩ = some (.int .u8 rcc) := HLx.out 8 _ rfl
      have x9 : wr.cell? ⟨(ad.add (k * 11)).block, (ad.add (k * 11)).off + 9, none⟩ = some (.int .i64 rsv) := HLx.out 9 _ rfl
      have x10 : wr.cell? ⟨(ad.add (k * 11)).block, (ad.add (k * 11)).off + 10, none⟩ = some (.string rl) := HLx.out 10 _ rfl
      have q3 : (0 : Int) ≤ (k : Int) := by omega
      have q4 : (k : Int) < (n1 : Int) := by omega
      obtain ⟨V1, hV1⟩ : ∃ W, wr.alloc (.cells #[.string rn, .int .i64 rf, .int .i64 rt, .int .i64 rm, .int .u8 rk, .int .i64 rnn, .int .i64 rd, .int .i64 rs, .int .u8 rcc, .int .i64 rsv, .string rl] 75) = W := ⟨_, rfl⟩
      have hvb : Below wr.heap.size wr V1 := by rw [← hV1]; exact (Below.refl _ _).alloc (Nat.le_refl _) _
      obtain ⟨b9, hb9⟩ : ∃ b, wr.heap.size = b := ⟨_, rfl⟩
      have hAx : At V1 b9 [.string rn, .int .i64 rf, .int .i64 rt, .int .i64 rm, .int .u8 rk, .int .i64 rnn, .int .i64 rd, .int .i64 rs, .int .u8 rcc, .int .i64 rsv, .string rl] := by rw [← hV1, ← hb9]; exact At.new _ _ _
      have HV1 := Lib.hid hV1
      have HB9 := Lib.hid hb9
      have HBn := Lib.hid (HB.out.trans (hvb.mono HB.out.size))
      have HAn := Lib.hid (HA.out.call hvb)
      have HAx := Lib.hid hAx
      clear hV1 hvb hb9 hAx hab
      go_upto_region 8 with fail
      rw [HV1.out]
      try rw [HB9.out]
      have y8 := HAx.out.cell 8 _ rfl
      have zy := HAx.out.lt
      by_cases hc2 : rcc = 2
      · have HQn : Hid (∀ j r, j < k + 1 → s.rules[j]? = some r → r.c = 2) := fun j r hj hr => by
          rcases Nat.lt_or_ge j k with q | q
          · exact HQ.out j r q hr
          · obtain rfl : j = k := by omega
            rw [Hx.out] at hr
            cases hr
            exact hc2
        have hc3 : (rcc != 2) = false := by simp [hc2]
        clear hc2
        go_wp2
        go_roundw
        case rel => exact ⟨k + 1, by omega, by go_num, HQn.out, HBn.out, HAn.out⟩
        case measure => simp [intOf]; omega
      · have hc3 : (rcc != 2) = true := by rw [bne_iff_ne]; exact hc2
        go_wp2
        go_ret
        exact ⟨rfl, HBn.out⟩
    · have hke : k = n1 := by omega
      subst hke
      obtain ⟨k0, rfl⟩ : ∃ x, x = k := ⟨_, rfl⟩
      have q4 : ¬ (k0 : Int) < (k0 : Int) := by omega
      have HR2 : Hid (∀ r ∈ s.rules, r.c = 2) := fun r hr => by
        obtain ⟨j, hj⟩ := List.mem_iff_getElem?.1 hr
        exact HQ.out j r (by have := (List.getElem?_eq_some_iff.1 hj).1; have := HN1.out; omega) hj
      obtain ⟨wq, rfl⟩ : ∃ x, x = wr := ⟨_, rfl⟩
      obtain ⟨adz, x, rfl, habz, Hxz, HLz⟩ := Ix.reads_cells (enc := Src.zc) (m := 2) (fun _ => rfl) HLen.out (HZr.out.below HB.out) hkz
      obtain ⟨⟨xn, es⟩, ev⟩ := x
      have hxk : s.zones[kz]? = some (xn, es) := (List.getElem?_zip_eq_some.1 Hxz.out).1
      obtain ⟨eA, ec, hev, hen, hec, her⟩ := HErs.out _ (List.mem_of_getElem? Hxz.out)
      simp only at hev
      subst hev
      have hes12 := (HF.out.zones _ (List.mem_of_getElem? hxk)).1
      obtain ⟨m, hm⟩ : ∃ m, es.length = m := ⟨_, rfl⟩
      simp only at hes12 hen her
      rw [hm] at hen her hes12
      unfold maxLen at hec
      have HM := Lib.hid hm
      have HXk := Lib.hid hxk
      obtain ⟨zb, hzb⟩ : ∃ t, Src.bts xn = t := ⟨_, rfl⟩
      have z0 : wq.cell? (adz.add (kz * 2)) = some (.string zb) := by rw [← hzb]; exact HLz.out 0 _ rfl
      have z1 : wq.cell? ⟨(adz.add (kz * 2)).block, (adz.add (kz * 2)).off + 1, none⟩ = some (.slice eA m ec) := by rw [← hm]; exact HLz.out 1 _ rfl
      obtain ⟨a0, a1, a2, _⟩ := HA.out.three
      have za := HA.out.lt
      have q5 : (0 : Int) ≤ (kz : Int) := by omega
      have q6 : (kz : Int) < (n2 : Int) := by omega
      have HEr := Lib.hid her
      have HZb := Lib.hid hzb
      clear hm hxk hzb her HQ
      go_upto_region 13 with fail
      clear z0 z1
      go_loopw [79, 13] (fun i v wr => ∃ k : Nat, k ≤ m ∧ i = .int .i64 (k : Int) ∧ ∃ vA vc, v = .slice vA k vc ∧ Hid (∀ j e, j < k → es[j]? = some e → e.en = true → e.u.c = 2) ∧ Hid (wr.ownsRow (w.heap.size + 1) 53 13 (.slice vA k vc) k (((es.take k).map (Ea.eastW more)).flatMap Er.E.cells)) ∧ Hid (Below w.heap.size w wr) ∧ Hid (At wr w.heap.size [.slice rA k0 rc, .slice (some adz) n2 zc, .slice lA n3 lc])) (fun i _ _ => m - (intOf i).toNat)
      case atStart => exact ⟨0, Nat.zero_le _, rfl, none, 0, rfl, fun j e hj _ => (by omega), World.ownsRow_nil _ _ _ _, HB.out, HA.out⟩
      case round =>
        clear HB HA
        obtain ⟨k, hk, rfl, vA, vc, rfl, HQ, HO, HB, HA⟩ := hrel
        by_cases hlt : k < m
        · obtain ⟨ade, e, rfl, habe, He, HLe⟩ := Ix.reads_cells (enc := Er.E.cells) (m := 13) (fun _ => rfl) HM.out (HEr.out.below HB.out) hlt
          obtain ⟨std, ek, esv, ru, fm, en, ⟨ey, em, dk, dn, dd, sc, cc⟩⟩ := e
          have x0 : wr.cell? (ade.add (k * 13)) = some (.int .i64 std) := HLe.out 0 _ rfl
          have x1 : wr.cell? ⟨(ade.add (k * 13)).block, (ade.add (k * 13)).off + 1, none⟩ = some (.int .u8 ek) := HLe.out 1 _ rfl
          have x2 : wr.cell? ⟨(ade.add (k * 13)).block, (ade.add (k * 13)).off + 2, none⟩ = some (.int .i64 esv) := HLe.out 2 _ rfl
          have x3 : wr.cell? ⟨(ade.add (k * 13)).block, (ade.add (k * 13)).off + 3, none⟩ = some (.string ru) := HLe.out 3 _ rfl
          have x4 : wr.cell? ⟨(ade.add (k * 13)).block, (ade.add (k * 13)).off + 4, none⟩ = some (.string fm) := HLe.out 4 _ rfl
          have x5 : wr.cell? ⟨(ade.add (k * 13)).block, (ade.add (k * 13)).off + 5, none⟩ = some (.bool en) := HLe.out 5 _ rfl
          have x6 : wr.cell? ⟨(ade.add (k * 13)).block, (ade.add (k * 13)).off + 6, none⟩ = some (.int .i64 ey) := HLe.out 6 _ rfl
          have x7 : wr.cell? ⟨(ade.add (k * 13)).block, (ade.add (k * 13)).off + 7, none⟩ = some (.int .i64 em) := HLe.out 7 _ rfl
          have x8 : wr.cell? ⟨(ade.add (k * 13)).block, (ade.add (k * 13)).off + 8, none⟩ = some (.int .u8 dk) := HLe.out 8 _ rfl
          have x9 : wr.cell? ⟨(ade.add (k * 13)).block, (ade.add (k * 13)).off + 9, none⟩ = some (.int .i64 dn) := HLe.out 9 _ rfl
          have x10 : wr.cell? ⟨(ade.add (k * 13)).block, (ade.add (k * 13)).off + 10, none⟩ = some (.int .i64 dd) := HLe.out 10 _ rfl
          have x11 : wr.cell? ⟨(ade.add (k * 13)).block, (ade.add (k * 13)).off + 11, none⟩ = some (.int .i64 sc) := HLe.out 11 _ rfl
          have x12 : wr.cell? ⟨(ade.add (k * 13)).block, (ade.add (k * 13)).off + 12, none⟩ = some (.int .u8 cc) := HLe.out 12 _ rfl
          have q7 : (0 : Int) ≤ (k : Int) := by omega
          have q8 : (k : Int) < (m : Int) := by omega
          obtain ⟨V1, hV1⟩ : ∃ W, wr.alloc (.cells #[.int .i64 std, .int .u8 ek, .int .i64 esv, .string ru, .string fm, .bool en, .int .i64 ey, .int .i64 em, .int .u8 dk, .int .i64 dn, .int .i64 dd, .int .i64 sc, .int .u8 cc] 53) = W := ⟨_, rfl⟩
          have hvb : Below wr.heap.size wr V1 := by rw [← hV1]; exact (Below.refl _ _).alloc (Nat.le_refl _) _
          obtain ⟨b9, hb9⟩ : ∃ b, wr.heap.size = b := ⟨_, rfl⟩
          have hAx : At V1 b9 [.int .i64 std, .int .u8 ek, .int .i64 esv, .string ru, .string fm, .bool en, .int .i64 ey, .int .i64 em, .int .u8 dk, .int .i64 dn, .int .i64 dd, .int .i64 sc, .int .u8 cc] := by rw [← hV1, ← hb9]; exact At.new _ _ _
          have hO1 : V1.ownsRow (w.heap.size + 1) 53 13 (.slice vA k vc) k (((es.take k).map (Ea.eastW more)).flatMap Er.E.cells) := by rw [← hV1]; exact HO.out.alloc _
          have HV1 := Lib.hid hV1
          have HB9 := Lib.hid hb9
          have HBn := Lib.hid (HB.out.trans (hvb.mono HB.out.size))
          have HAn := Lib.hid (HA.out.call hvb)
          have HAx := Lib.hid hAx
          have HO1 := Lib.hid hO1
          have hbw : w.heap.size ≤ b9 := by rw [← hb9]; exact HB.out.size
          clear hV1 hvb hb9 hAx hO1 habe
          go_upto_region 15 with fail
          rw [HV1.out]
          try rw [HB9.out]
          have y0 := HAx.out.cell 0 _ rfl
          have y1 := HAx.out.cell 1 _ rfl
          have y2 := HAx.out.cell 2 _ rfl
          have y3 := HAx.out.cell 3 _ rfl
          have y4 := HAx.out.cell 4 _ rfl
          have y5 := HAx.out.cell 5 _ rfl
          have y6 := HAx.out.cell 6 _ rfl
          have y7 := HAx.out.cell 7 _ rfl
          have y8 := HAx.out.cell 8 _ rfl
          have y9 := HAx.out.cell 9 _ rfl
          have y10 := HAx.out.cell 10 _ rfl
          have y11 := HAx.out.cell 11 _ rfl
          have y12 := HAx.out.cell 12 _ rfl
          have zy := HAx.out.lt
          by_cases hbad : en = true ∧ ¬ cc = 2
          · have p1 : en = true := hbad.1
            have p2 : (cc != 2) = true := by rw [bne_iff_ne]; exact hbad.2
            clear hbad
            go_wp2
            go_ret
            exact ⟨rfl, HBn.out⟩
          · have HQn : Hid (∀ j e, j < k + 1 → es[j]? = some e → e.en = true → e.u.c = 2) := fun j e hj he h1 => by
              rcases Nat.lt_or_ge j k with q | q
              · exact HQ.out j e q he h1
              · obtain rfl : j = k := by omega
                rw [He.out] at he
                cases he
                exact Classical.byContradiction fun h2 => hbad ⟨h1, h2⟩
            obtain ⟨sd, hsd⟩ : ∃ q, IntKind.i64.wrap (std + more) = q := ⟨_, rfl⟩
            have hnx : ((es.take (k + 1)).map (Ea.eastW more)).flatMap Er.E.cells = ((es.take k).map (Ea.eastW more)).flatMap Er.E.cells ++ [.int .i64 sd, .int .u8 ek, .int .i64 esv, .string ru, .string fm, .bool en, .int .i64 ey, .int .i64 em, .int .u8 dk, .int .i64 dn, .int .i64 dd, .int .i64 sc, .int .u8 cc] := by
              rw [List.take_add_one, He.out, List.map_append, List.flatMap_append]
              show _ ++ ([Ea.eastW more _].flatMap Er.E.cells) = _
              unfold Ea.eastW
              simp only
              rw [hsd]
              rfl
            have HNx := Lib.hid hnx
            have hq : en = false ∨ (en = true ∧ (cc != 2) = false) := by
              cases en
              · exact .inl rfl
              · exact .inr ⟨rfl, by simpa using hbad⟩
            obtain ⟨V2, hV2⟩ : ∃ W, V1.setCell ⟨b9, 0, none⟩ (.int .i64 sd) = W := ⟨_, rfl⟩
            have hA2 : At V2 b9 [.int .i64 sd, .int .u8 ek, .int .i64 esv, .string ru, .string fm, .bool en, .int .i64 ey, .int .i64 em, .int .u8 dk, .int .i64 dn, .int .i64 dd, .int .i64 sc, .int .u8 cc] := by rw [← hV2]; exact HAx.out.set 0 _
            have hB2 : Below w.heap.size w V2 := by rw [← hV2]; exact HBn.out.setCell (p := ⟨b9, 0, none⟩) hbw _
            have hAs2 : At V2 w.heap.size [.slice rA k0 rc, .slice (some adz) n2 zc, .slice lA n3 lc] := by
              rw [← hV2]
              exact HAn.out.set_other ⟨b9, 0, none⟩ _ (by
                have h1 := HA.out.lt
                have h2 := HB9.out
                show b9 ≠ w.heap.size
                omega)
            have hO2 : V2.ownsRow (w.heap.size + 1) 53 13 (.slice vA k vc) k (((es.take k).map (Ea.eastW more)).flatMap Er.E.cells) := by
              rw [← hV2]
              exact ownsRow_setCell_other HO1.out (by
                intro e9
                have h1 := (HO.out.lt _ e9).2
                have h2 := HB9.out
                have h3 : b9 < wr.heap.size := h1
                omega) _
            have HV2 := Lib.hid hV2
            have HA2 := Lib.hid hA2
            have HB2 := Lib.hid hB2
            have HAs2 := Lib.hid hAs2
            have HO2 := Lib.hid hO2
            have f0 := HAx.out.free 0 _ rfl
            clear hbad hV2 hA2 hB2 hAs2 hO2 hnx
            have HAp := fun {ops : Array Oper} {rest : List Oper} {o : Oper} {a : Act} {Q : Exit → Act → World → Prop} hgd ho hs hx h => row_append (ops := ops) (rest := rest) (o := o) (a := a) (Q := Q) 54 53 13 120 _ #[.int .i64 sd, .int .u8 ek, .int .i64 esv, .string ru, .string fm, .bool en, .int .i64 ey, .int .i64 em, .int .u8 dk, .int .i64 dn, .int .i64 dd, .int .i64 sc, .int .u8 cc] Tryz.underlying54 era_info rfl (by decide) rfl (by
              intro u hu
              simp at hu
              rcases hu with rfl | rfl | rfl | rfl | rfl | rfl | rfl | rfl | rfl | rfl | rfl | rfl | rfl <;> rfl) (by decide) V2 (w.heap.size + 1) k _ (.slice vA k vc) 97 99 V2.heap.size rfl HO2.out (by omega) (HAs2.out.lt) hgd ho hs hx h
            have HMk := Lib.hid (show k + 1 ≤ m by omega)
            have d0 := HA2.out.cell 0 _ rfl
            have d1 := HA2.out.cell 1 _ rfl
            have d2 := HA2.out.cell 2 _ rfl
            have d3 := HA2.out.cell 3 _ rfl
            have d4 := HA2.out.cell 4 _ rfl
            have d5 := HA2.out.cell 5 _ rfl
            have d6 := HA2.out.cell 6 _ rfl
            have d7 := HA2.out.cell 7 _ rfl
            have d8 := HA2.out.cell 8 _ rfl
            have d9 := HA2.out.cell 9 _ rfl
            have d10 := HA2.out.cell 10 _ rfl
            have d11 := HA2.out.cell 11 _ rfl
            have d12 := HA2.out.cell 12 _ rfl
            have zd := HA2.out.lt
            clear y0 y1 y2 y3 y4 y5 y6 y7 y8 y9 y10 y11 y12 zy f0
            rcases hq with rfl | ⟨rfl, hq2⟩
            · have y5 := HAx.out.cell 5 _ rfl
              have y12 := HAx.out.cell 12 _ rfl
              have y0 := HAx.out.cell 0 _ rfl
              have f0 := HAx.out.free 0 _ rfl
              have zy := HAx.out.lt
              go_upto_region 18 with fail
              rw [HV2.out]
              clear y5 y12 y0 f0 zy
              go_wp2_with (at_builtin; refine HAp rfl rfl rfl rfl ?_; intro v9 w9 hown9 hb9 hg9 hat9; obtain ⟨A9, c9, rfl, _, _⟩ := own_slice_cap hown9)
              have HO9 : Hid (w9.ownsRow (w.heap.size + 1) 53 13 (.slice A9 (k + 1) c9) (k + 1) (((es.take (k + 1)).map (Ea.eastW more)).flatMap Er.E.cells)) := by
                show World.ownsRow _ _ _ _ _ _ _
                rw [HNx.out]
                exact hown9
              have HB9' : Hid (Below w.heap.size w w9) := HB2.out.trans (hb9.mono (Nat.le_succ _))
              have HAs9 : Hid (At w9 w.heap.size [.slice rA k0 rc, .slice (some adz) n2 zc, .slice lA n3 lc]) := HAs2.out.below hb9 (Nat.lt_succ_self _)
              clear hown9 hb9 hg9 hat9 HAp
              go_roundw
              case rel => exact ⟨k + 1, HMk.out, by go_num, A9, c9, rfl, HQn.out, HO9.out, HB9'.out, HAs9.out⟩
              case measure => simp [intOf]; omega
            · have y5 := HAx.out.cell 5 _ rfl
              have y12 := HAx.out.cell 12 _ rfl
              have y0 := HAx.out.cell 0 _ rfl
              have f0 := HAx.out.free 0 _ rfl
              have zy := HAx.out.lt
              go_upto_region 18 with fail
              rw [HV2.out]
              clear y5 y12 y0 f0 zy
              go_wp2_with (at_builtin; refine HAp rfl rfl rfl rfl ?_; intro v9 w9 hown9 hb9 hg9 hat9; obtain ⟨A9, c9, rfl, _, _⟩ := own_slice_cap hown9)
              have HO9 : Hid (w9.ownsRow (w.heap.size + 1) 53 13 (.slice A9 (k + 1) c9) (k + 1) (((es.take (k + 1)).map (Ea.eastW more)).flatMap Er.E.cells)) := by
                show World.ownsRow _ _ _ _ _ _ _
                rw [HNx.out]
                exact hown9
              have HB9' : Hid (Below w.heap.size w w9) := HB2.out.trans (hb9.mono (Nat.le_succ _))
              have HAs9 : Hid (At w9 w.heap.size [.slice rA k0 rc, .slice (some adz) n2 zc, .slice lA n3 lc]) := HAs2.out.below hb9 (Nat.lt_succ_self _)
              clear hown9 hb9 hg9 hat9 HAp
              go_roundw
              case rel => exact ⟨k + 1, HMk.out, by go_num, A9, c9, rfl, HQn.out, HO9.out, HB9'.out, HAs9.out⟩
              case measure => simp [intOf]; omega
        · have hke : k = m := by omega
          subst hke
          obtain ⟨wl, rfl⟩ : ∃ x, x = wr := ⟨_, rfl⟩
          have q9 : ¬ (k : Int) < (k : Int) := by omega
          have htk : es.take k = es := List.take_of_length_le (by rw [HM.out]; exact Nat.le_refl _)
          have HOe : Hid (wl.ownsRow (w.heap.size + 1) 53 13 (.slice vA k vc) k ((es.map (Ea.eastW more)).flatMap Er.E.cells)) := by
            have h := HO.out
            rw [htk] at h
            exact h
          have HU2 : Hid (∀ e ∈ es, e.en = true → e.u.c = 2) := fun e he h1 => by
            obtain ⟨j, hj⟩ := List.mem_iff_getElem?.1 he
            exact HQ.out j e (by have := (List.getElem?_eq_some_iff.1 hj).1; have := HM.out; omega) hj h1
          obtain ⟨U1, hU1⟩ : ∃ W, wl.alloc (.cells #[.slice rA k0 rc, .slice (some adz) n2 zc, .slice lA n3 lc] 26) = W := ⟨_, rfl⟩
          obtain ⟨g6, hg6⟩ : ∃ b, wl.heap.size = b := ⟨_, rfl⟩
          have hub : Below wl.heap.size wl U1 := by rw [← hU1]; exact (Below.refl _ _).alloc (Nat.le_refl _) _
          have hA6 : At U1 g6 [.slice rA k0 rc, .slice (some adz) n2 zc, .slice lA n3 lc] := by rw [← hU1, ← hg6]; exact At.new _ _ _
          have HB6 := Lib.hid (HB.out.trans (hub.mono HB.out.size))
          have HAs6 := Lib.hid (HA.out.call hub)
          have HOe6 := Lib.hid (own_below HOe.out hub)
          have HOl := Lib.hid HOe.out.lt
          have HU1 := Lib.hid hU1
          have HG6 := Lib.hid hg6
          have HA6 := Lib.hid hA6
          have hwg : w.heap.size < g6 := by rw [← hg6]; exact HA.out.lt
          obtain ⟨a0, a1, a2, _⟩ := HA.out.three
          have za := HA.out.lt
          clear htk HO HQ hU1 hg6 hub hA6 HOe
          go_upto_region 21 with fail
          rw [HU1.out]
          try rw [HG6.out]
          clear a0 a1 a2 za
          obtain ⟨i0, hi0, hs0, hs1, hs2⟩ := info_parts zone_info
          have hb0 : Below U1.heap.size U1 (U1.alloc (.cells #[] 56)) := (Below.refl _ _).alloc (Nat.le_refl _) _
          have HO0 := Lib.hid (World.ownsRow_lit (base := U1.heap.size) (e := 56) (size := 2) U1 #[] 0 (Nat.le_refl _) (by decide) rfl)
          have HRz := Lib.hid (HZr.out.below (HB6.out.trans (hb0.mono HB6.out.size)))
          have hone : ∀ u ∈ (s.zones.zip evs).flatMap Src.zc, u.oneCell' = true := fun u hu => by
            obtain ⟨p, hp, hx⟩ := List.mem_flatMap.1 hu
            obtain ⟨A, c, e, _⟩ := HErs.out p hp
            unfold Src.zc at hx
            simp only [List.mem_cons, List.not_mem_nil, or_false] at hx
            rcases hx with rfl | rfl
            · rfl
            · rw [e]; rfl
          have hz0' := hb0.size
          have HB0 := Lib.hid hb0
          obtain ⟨a0, a1, a2, _⟩ := HAs6.out.three
          have za := HAs6.out.lt
          obtain ⟨b0, b1, b2, f0, f1, f2⟩ := HA6.out.three
          have zg6 := HA6.out.lt
          clear hb0
          go_upto_region 22 with (first
            | (at_builtin; refine wpList_append_any _ rfl (.tmp 103) (.tmp 105) _ rfl U1.heap.size 56 i0 _ 2 40 Tryz.underlying23 hi0 hs0 hs1 hs2 rfl (by decide) _ _ _ rfl HO0.out _ _ n2 zc _ rfl HRz.out hone (by unfold maxLen; omega) (by omega) hz0' ?_
               intro v8 w8 ho8 hg8 hat8
               rw [Nat.zero_add] at ho8
               have HB8 := Lib.hid (HB0.out.grown hg8 hz0' (fun k hk => (HO0.out.lt k hk).1))
               have HO8 := Lib.hid ho8
               obtain ⟨rA8, rc8, rfl, hr81, hr82⟩ := own_slice_cap ho8
               have f1' := (HA6.out.call HB8.out).free 1 _ rfl
               have b1' := (HA6.out.call HB8.out).cell 1 _ rfl
               have zb' := (HA6.out.call HB8.out).lt
               clear ho8 hg8 hat8))
          obtain ⟨g8, c8, e8⟩ := Go.Joins.ownsRow_form HO8.out (by omega)
          injection e8 with e8a _ e8b
          subst e8a
          subst e8b
          obtain ⟨U2, hU2⟩ : ∃ W, w8.setCell ⟨g6, 1, none⟩ (.slice (some ⟨g8, 0, none⟩) n2 rc8) = W := ⟨_, rfl⟩
          rw [hU2]
          have hg8 : U1.heap.size ≤ g8 ∧ g8 < w8.heap.size := HO8.out.lt g8 rfl
          have hg6 : g6 < U1.heap.size := HA6.out.lt
          have hsz2 : U2.heap.size = w8.heap.size := by rw [← hU2]; simp only [heap_set]
          have hB2 : Below w.heap.size w U2 := by rw [← hU2]; exact (HB6.out.trans (HB8.out.mono HB6.out.size)).setCell (p := ⟨g6, 1, none⟩) (by show w.heap.size ≤ g6; omega) _
          have hA2 : At U2 g6 [.slice rA k0 rc, .slice (some ⟨g8, 0, none⟩) n2 rc8, .slice lA n3 lc] := by rw [← hU2]; exact (HA6.out.call HB8.out).set 1 _
          have hAs2 : At U2 w.heap.size [.slice rA k0 rc, .slice (some adz) n2 zc, .slice lA n3 lc] := by rw [← hU2]; exact (HAs6.out.call HB8.out).set_other ⟨g6, 1, none⟩ _ (by show g6 ≠ w.heap.size; omega)
          have hOe2 : U2.ownsRow (w.heap.size + 1) 53 13 (.slice vA k vc) k ((es.map (Ea.eastW more)).flatMap Er.E.cells) := by
            rw [← hU2]
            refine ownsRow_setCell_other (own_below HOe6.out HB8.out) (fun e9 => ?_) _
            have h1 := (HOl.out _ e9).2
            have h2 := HG6.out
            have h3 : g6 < wl.heap.size := h1
            omega
          have hO2 : U2.ownsRow U1.heap.size 56 2 (.slice (some ⟨g8, 0, none⟩) n2 rc8) n2 ((s.zones.zip evs).flatMap Src.zc) := by rw [← hU2]; exact ownsRow_setCell_below HO8.out hg6 _
          have hRz2 := (HZr.out.below hB2)
          obtain ⟨ad', x', e0, _, Hx', HLz'⟩ := Ix.reads_cells (enc := Src.zc) (m := 2) (fun _ => rfl) HLen.out hRz2 hkz
          obtain rfl := Option.some.inj e0
          obtain rfl : x' = ((xn, es), .slice eA k ec) := by
            have h1 := Hx'.out
            rw [Hxz.out] at h1
            have h2 := HM.out
            rw [h2] at h1
            exact (Option.some.inj h1).symm
          have c0 : U2.cell? (adz.add (kz * 2)) = some (.string zb) := by rw [← HZb.out]; exact HLz'.out 0 _ rfl
          have HB2 := Lib.hid hB2
          have HA2 := Lib.hid hA2
          have HAs2 := Lib.hid hAs2
          have HOe2 := Lib.hid hOe2
          have HO2 := Lib.hid hO2
          clear a0 a1 a2 za b0 b1 b2 f0 f1 f2 zg6 hB2 hA2 hAs2 hOe2 hO2 hRz2 hU2 hz0' hone Hx' HLz'
          obtain ⟨a0, a1, a2, _⟩ := HAs2.out.three
          have za := HAs2.out.lt
          obtain ⟨b0, b1, b2, _⟩ := HA2.out.three
          have zb' := HA2.out.lt
          refine wp_region_quiet_tail (C := fun w' => ∃ j, w' = U2.drewN j) 12 (by kernel_rfl) (by kernel_rfl) ⟨1, rfl⟩ ?_
          repeat (quiet_step (fail))
          refine wpQuiet_nil ?_
          intro wz hwz
          obtain ⟨nq, rfl⟩ := hwz
          obtain ⟨Ud, hUd⟩ : ∃ W, U2.drewN nq = W := ⟨_, rfl⟩
          rw [hUd]
          have hbd : Below U2.heap.size U2 Ud := by rw [← hUd]; exact (show Drew U2 (U2.drewN nq) from ⟨nq, rfl⟩).below _
          have hOd : Ud.ownsRow U1.heap.size 56 2 (.slice (some ⟨g8, 0, none⟩) n2 rc8) n2 ((s.zones.zip evs).flatMap Src.zc) := own_below HO2.out hbd
          have hxl : ((s.zones.zip evs).flatMap Src.zc).length = n2 * 2 := hOd.1
          obtain ⟨v0, hv0⟩ : ∃ v, ((s.zones.zip evs).flatMap Src.zc)[kz * 2]? = some v := ⟨_, List.getElem?_eq_getElem (by omega)⟩
          obtain ⟨v1, hv1⟩ : ∃ v, ((s.zones.zip evs).flatMap Src.zc)[kz * 2 + 1]? = some v := ⟨_, List.getElem?_eq_getElem (by omega)⟩
          have d0 : Ud.cell? ⟨g8, kz * 2, none⟩ = some v0 := (hOd.cellAt (kz * 2) (by omega)).trans hv0
          have d1 : Ud.cell? ⟨g8, kz * 2 + 1, none⟩ = some v1 := (hOd.cellAt (kz * 2 + 1) (by omega)).trans hv1
          have e0 := hOd.frozenAt (kz * 2)
          have e1 := hOd.frozenAt (kz * 2 + 1)
          have hadd := add_zero_off g8 (kz * 2)
          obtain ⟨U3, hU3⟩ : ∃ W, (Ud.setCell ⟨g8, kz * 2, none⟩ (.string zb)).setCell ⟨g8, kz * 2 + 1, none⟩ (.slice vA k vc) = W := ⟨_, rfl⟩
          have HU3 := Lib.hid hU3
          clear a0 a1 a2 za b0 b1 b2 zb' c0
          show wpList _ _ _ (_ :: _) _ _
          go_upto_region 23 with fail
          try rw [HU3.out]
          have hB3 : Below w.heap.size w U3 := by rw [← hU3]; exact ((HB2.out.trans (hbd.mono HB2.out.size)).setCell (p := ⟨g8, kz * 2, none⟩) (by show w.heap.size ≤ g8; omega) _).setCell (p := ⟨g8, kz * 2 + 1, none⟩) (by show w.heap.size ≤ g8; omega) _
          have hA3 : At U3 g6 [.slice rA k0 rc, .slice (some ⟨g8, 0, none⟩) n2 rc8, .slice lA n3 lc] := by rw [← hU3]; exact ((HA2.out.call hbd).set_other ⟨g8, kz * 2, none⟩ _ (by show g8 ≠ g6; omega)).set_other ⟨g8, kz * 2 + 1, none⟩ _ (by show g8 ≠ g6; omega)
          have hAs3 : At U3 w.heap.size [.slice rA k0 rc, .slice (some adz) n2 zc, .slice lA n3 lc] := by rw [← hU3]; exact ((HAs2.out.call hbd).set_other ⟨g8, kz * 2, none⟩ _ (by show g8 ≠ w.heap.size; omega)).set_other ⟨g8, kz * 2 + 1, none⟩ _ (by show g8 ≠ w.heap.size; omega)
          have hO3 : U3.ownsRow U1.heap.size 56 2 (.slice (some ⟨g8, 0, none⟩) n2 rc8) n2 ((((s.zones.zip evs).flatMap Src.zc).set (kz * 2) (.string zb)).set (kz * 2 + 1) (.slice vA k vc)) := by rw [← hU3]; exact (World.ownsRow.stored (World.ownsRow.stored hOd (kz * 2) _).1 (kz * 2 + 1) _).1
          have hOe3 : U3.ownsRow (w.heap.size + 1) 53 13 (.slice vA k vc) k ((es.map (Ea.eastW more)).flatMap Er.E.cells) := by
            rw [← hU3]
            refine ownsRow_setCell_other (ownsRow_setCell_other (own_below HOe2.out hbd) (fun e9 => ?_) _) (fun e9 => ?_) _
            · have h1 := (HOl.out _ e9).2
              have h2 := HG6.out
              have h3 : g8 < wl.heap.size := h1
              omega
            · have h1 := (HOl.out _ e9).2
              have h2 := HG6.out
              have h3 : g8 < wl.heap.size := h1
              omega
          have hsx : s.zones.length = n2 := HN2.out
          have hml : (es.map (Ea.eastW more)).length = k := by rw [List.length_map]; exact HM.out
          have hS3 : Src.SrcR U3 U3.heap.size (Ea.put s kz xn (es.map (Ea.eastW more))) (.slice rA k0 rc) (.slice (some ⟨g8, 0, none⟩) n2 rc8) (.slice lA n3 lc) (evs.set kz (.slice vA k vc)) := by
            refine Ea.src_put (HR0.out.call hB3) ?_ ?_
            · have h := Src.RowR.of_own hOe3
              rw [hml]
              exact h
            · have h := Src.RowR.of_own hO3
              rw [hsx, Ea.flat_set (fun _ => rfl) (u0 := .string zb) (u1 := .slice vA k vc) (by show [Value.string (Src.bts xn), _] = _; rw [HZb.out]) _ kz (by rw [HLen.out]; exact hkz)]
              exact h
          have hwide : Src.Wide (Ea.put s kz xn (es.map (Ea.eastW more))) := Ea.put_wide (x := (xn, es)) HWw.out (List.mem_of_getElem? HXk.out)
          have hsz' : Vd.Sz (Ea.put s kz xn (es.map (Ea.eastW more))) := ⟨⟨(HSz.out HF.out).lims.rules, by show (s.zones.set kz _).length ≤ 1024; rw [List.length_set]; exact (HSz.out HF.out).lims.zones, (HSz.out HF.out).lims.links⟩, fun y hy => by
            rcases List.mem_or_eq_of_mem_set hy with hy | hy
            · exact (HSz.out HF.out).eras y hy
            · subst hy
              show (es.map (Ea.eastW more)).length ≤ 100
              rw [hml]
              omega, hwide.smw⟩
          have HVd' := Lib.hid fun W (hb : Below U3.heap.size U3 W) => vdWell_any _ _ _ _ _ W (hS3.call hb) hsz' (HWo.out.below (hB3.trans (hb.mono hB3.size))) (HWa.out.below (hB3.trans (hb.mono hB3.size)))
          have HLn' := Lib.hid fun W (hb : Below U3.heap.size U3 W) => lnOf_any _ (kz : Int) lo hi _ _ _ _ W (hS3.call hb) hsz' (HWo.out.below (hB3.trans (hb.mono hB3.size))) (HWa.out.below (hB3.trans (hb.mono hB3.size))) (by omega) hlo hhi (fun x hx e he => ((hwide.zones x hx).2 e he).1) (fun r hr => (hwide.rules r hr).1)
          have hzo : Eg.zoneAt s (kz : Int) = some (xn, es) := Ea.at_is HXk.out
          have hzo' : Eg.zoneAt (Ea.put s kz xn (es.map (Ea.eastW more))) (kz : Int) = some (xn, es.map (Ea.eastW more)) := Ea.put_at (by rw [hsx]; exact hkz)
          obtain ⟨S', hS'⟩ : ∃ S, Ea.put s kz xn (es.map (Ea.eastW more)) = S := ⟨_, rfl⟩
          rw [hS'] at HVd' HLn' hzo'
          have hrr' : S'.rules = s.rules := by rw [← hS']; rfl
          have HB3' := Lib.hid hB3
          have HA3' := Lib.hid hA3
          have HAs3' := Lib.hid hAs3
          have HRr' := Lib.hid hrr'
          have HZo := Lib.hid hzo
          have HZo' := Lib.hid hzo'
          have HMem := Lib.hid (show (xn, es.map (Ea.eastW more)) ∈ S'.zones from by rw [← hS']; exact List.mem_of_getElem? (i := kz) (by show (s.zones.set kz _)[kz]? = _; rw [List.getElem?_set_self (by rw [hsx]; exact hkz)]))
          clear d0 d1 e0 e1 hadd hv0 hv1 hxl hOd hbd hUd hU3 hB3 hA3 hAs3 hO3 hOe3 hsx hml hS3 hwide hsz' hzo hzo' hS' hrr'
          obtain ⟨bw, hbw⟩ : ∃ b, Vd.well s = b := ⟨_, rfl⟩
          obtain ⟨bw', hbw'⟩ : ∃ b, Vd.well S' = b := ⟨_, rfl⟩
          rw [hbw] at HVd
          rw [hbw'] at HVd'
          have HC1 := Lib.hid (HVd.out HF.out U3 HB3'.out)
          obtain ⟨a0, a1, a2, _⟩ := HAs3'.out.three
          have za := HAs3'.out.lt
          go_wp2_with fail
          refine HC1.out.mono ?_
          rintro e y1 ⟨rfl, hb⟩
          have HD1 := Lib.hid hb
          have HE1 := Lib.hid (HB3'.out.trans (hb.mono HB3'.out.size))
          clear hb a0 a1 a2 za HC1
          cases bw with
          | false =>
            go_wp2
            go_ret
            exact ⟨rfl, HE1.out⟩
          | true =>
            have HC2 := Lib.hid (HVd'.out y1 HD1.out)
            obtain ⟨b0, b1, b2, _⟩ := (HA3'.out.call HD1.out).three
            have zb' := (HA3'.out.call HD1.out).lt
            go_wp2_with fail
            refine HC2.out.mono ?_
            rintro e y2 ⟨rfl, hb⟩
            have HD2 := Lib.hid (below_then HD1.out hb)
            have HE2 := Lib.hid (HE1.out.trans (hb.mono HE1.out.size))
            clear hb b0 b1 b2 zb' HC2
            cases bw' with
            | false =>
              go_wp2
              go_ret
              exact ⟨rfl, HE2.out⟩
            | true =>
              have HWl := Lib.hid hbw
              have HWl' := Lib.hid hbw'
              clear hbw hbw'
              have HC3 := Lib.hid (HLn.out HF.out lo hi hlo hhi y2 HE2.out)
              obtain ⟨a0, a1, a2, _⟩ := (HAs3'.out.call HD2.out).three
              have za := (HAs3'.out.call HD2.out).lt
              go_wp2_with fail
              refine HC3.out.mono ?_
              rintro e y3 ⟨hb, h3⟩
              have HD3 := Lib.hid (below_then HD2.out hb)
              have HE3 := Lib.hid (HE2.out.trans (hb.mono HE2.out.size))
              clear hb a0 a1 a2 za HC3
              have HC4 := Lib.hid (HLn'.out y3 HD3.out)
              obtain ⟨b0, b1, b2, _⟩ := (HA3'.out.call HD3.out).three
              have zb' := (HA3'.out.call HD3.out).lt
              by_cases hin : Ln.InY lo hi
              · obtain ⟨u3, rfl, ho3⟩ := Tp.got h3 HWl.out HZo.out hin
                obtain ⟨A3, c3, rfl, hc31, hc32⟩ := own_slice_cap ho3
                go_wp2_with fail
                refine HC4.out.mono ?_
                rintro e y4 ⟨hb, h4⟩
                obtain ⟨u4, rfl, ho4⟩ := Tp.got h4 HWl'.out HZo'.out hin
                obtain ⟨A4, c4, rfl, hc41, hc42⟩ := own_slice_cap ho4
                have HE4 := Lib.hid (HE3.out.trans (hb.mono HE3.out.size))
                have HR3' := Lib.hid (((Reads.of_own ho3).below hb).more hb.size)
                have HR4' := Lib.hid (Reads.of_own ho4)
                have hRu := HRu.out HF.out HWl.out
                have hzk := Eg.zone_ok HWl.out (List.mem_of_getElem? HXk.out)
                have hzk' := Eg.zone_ok HWl'.out HMem.out
                have hmk : es.map (Ea.eastW more) = es.map (Ln.eastE more) := Ea.eastW_ok (fun e he => (hzk.ok e he).1) ⟨by have := HK.out; omega, by have := HK.out; omega⟩
                simp only at hzk hzk' ho3 ho4 hc31 hc41 HR3' HR4'
                rw [hmk] at hzk' HR4' hc41
                have hea := Ln.east (s := s) (s' := S') (eras := es) (m := more) hRu HR2.out hzk hzk' HU2.out HRr'.out hin
                have hbd' := fun k p => Ea.off_bd (k := k) (p := p) hRu hzk hin
                have hll := Tp.len_le hRu hzk hin
                have hnl := Ln.lineOf_ne hRu hzk hin
                rw [hea, List.length_map] at HR4' hc41
                rw [hmk, hea, List.length_map]
                obtain ⟨L, hL⟩ : ∃ L, Ln.lineOf s es lo hi = L := ⟨_, rfl⟩
                rw [hL] at HR3' HR4' hc31 hc41 hbd' hll hnl
                rw [hL]
                obtain ⟨n, hn⟩ : ∃ n, L.length = n := ⟨_, rfl⟩
                rw [hn] at HR3' HR4' hc31 hc41 hll
                rw [hn]
                have HNn := Lib.hid hn
                have HNm := Lib.hid (show (L.map (Ln.eastP more)).length = n by rw [List.length_map]; exact hn)
                have HBd := Lib.hid hbd'
                have hn0 : 0 < n := by
                  rw [← hn]
                  exact List.length_pos_iff.2 hnl
                have g1 : ((n : Int) != (n : Int)) = false := by simp
                have hm1 : -86400 ≤ more := by have := HK.out; omega
                have hm2 : more ≤ 86400 := by have := HK.out; omega
                clear hb h3 h4 ho3 ho4 hRu hzk hzk' hmk hea hbd' hnl hL hn b0 b1 b2 zb' HC4
                go_wp2_with fail
                go_loopw [156] (fun i wr => ∃ j : Nat, j ≤ n ∧ i = .int .i64 (j : Int) ∧ Hid (Below y4.heap.size y4 wr)) (fun i _ => n - (intOf i).toNat)
                case atStart => exact ⟨0, Nat.zero_le _, rfl, Below.refl _ _⟩
                case round =>
                  obtain ⟨j, hj, rfl, HBr⟩ := hrel
                  by_cases hlt : j < n
                  · obtain ⟨ad1, x, rfl, hab1, Hx1, HL1⟩ := Ix.reads_cells (enc := Ln.Sp.cells) (m := 3) (fun _ => rfl) HNn.out (HR3'.out.below HBr.out) hlt
                    obtain ⟨ad2, x', rfl, hab2, Hx2, HL2⟩ := Ix.reads_cells (enc := Ln.Sp.cells) (m := 3) (fun _ => rfl) HNm.out (HR4'.out.below HBr.out) hlt
                    obtain rfl : x' = Ln.eastP more x := by
                      have h := Hx2.out
                      rw [List.getElem?_map, Hx1.out] at h
                      exact (Option.some.inj h).symm
                    have hxb := HBd.out j x Hx1.out
                    obtain ⟨xf, xo, xd⟩ := x
                    have c0 : wr.cell? (ad1.add (j * 3)) = some (.int .i64 xf) := HL1.out 0 _ rfl
                    have c1 : wr.cell? ⟨(ad1.add (j * 3)).block, (ad1.add (j * 3)).off + 1, none⟩ = some (.int .i64 xo) := HL1.out 1 _ rfl
                    have c2 : wr.cell? ⟨(ad1.add (j * 3)).block, (ad1.add (j * 3)).off + 2, none⟩ = some (.bool xd) := HL1.out 2 _ rfl
                    have d0 : wr.cell? (ad2.add (j * 3)) = some (.int .i64 xf) := HL2.out 0 _ rfl
                    have d1 : wr.cell? ⟨(ad2.add (j * 3)).block, (ad2.add (j * 3)).off + 1, none⟩ = some (.int .i64 (xo + more)) := HL2.out 1 _ rfl
                    have d2 : wr.cell? ⟨(ad2.add (j * 3)).block, (ad2.add (j * 3)).off + 2, none⟩ = some (.bool xd) := HL2.out 2 _ rfl
                    have q3 : (0 : Int) ≤ (j : Int) := by omega
                    have q4 : (j : Int) < (n : Int) := by omega
                    have wo : IntKind.i64.wrap (xo + more) = xo + more := by
                      simp only at hxb
                      rw [IntKind.wrap_i64]
                      omega
                    have p1 : (xf != xf) = false := by simp
                    have p2 : (xo + more != xo + more) = false := by simp
                    have p3 : (xd != xd) = false := by simp
                    clear HL1 HL2 hab1 hab2 Hx1 Hx2 hxb
                    go_upto_region 32 with fail
                    go_quiet (fail)
                    go_wp2
                    go_roundw
                    case rel => exact ⟨j + 1, by omega, by go_num, by first | exact HBr.out | exact below_drewN HBr.out _⟩
                    case measure => simp [intOf]; omega
                  · have q4 : ¬ (j : Int) < (n : Int) := by omega
                    have q8 : (0 : Int) < (n : Int) := by omega
                    have HEr' := Lib.hid (HE4.out.trans (HBr.out.mono HE4.out.size))
                    go_wp2
                    go_ret
                    exact ⟨rfl, HEr'.out⟩
              · obtain rfl := Ea.out h3 HWl.out HZo.out hin
                go_wp2_with fail
                refine HC4.out.mono ?_
                rintro e y4 ⟨hb, h4⟩
                obtain rfl := Ea.out h4 HWl'.out HZo'.out hin
                have HE4 := Lib.hid (HE3.out.trans (hb.mono HE3.out.size))
                clear hb h3 h4 hin b0 b1 b2 zb' HC4
                go_wp2_with fail
                go_loopw [156] (fun i wr => i = .int .i64 0 ∧ Hid (Below w.heap.size w wr)) (fun i _ => 0)
                case atStart => exact ⟨rfl, HE4.out⟩
                case round =>
                  obtain ⟨rfl, HBr⟩ := hrel
                  go_wp2
                  go_ret
                  exact ⟨rfl, HBr.out⟩
end Go.Proofs.YtolgigaolffenaaGreatDoor
