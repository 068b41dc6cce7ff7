/- What the laws of the tenth stage ask first. -/
import Derived.Test.YtolgigaolffenaaGreatDoorU33
import Derived.Test.YtolgigaolffenaaGreatDoorU32
import Derived.Test.YtolgigaolffenaaGreatDoorU37
import Derived.Test.YtolgigaolffenaaGreatDoorU36
import Derived.Test.YtolgigaolffenaaGreatDoorU01
import Derived.Test.YtolgigaolffenaaGreatDoorCards
import Derived.Test.YtolgigaolffenaaGreatDoorTie
import Derived.ProofKit
import Derived.OpenShut
import Derived.ShutString
import Derived.ChangeOld
import Derived.LaidMore
import Derived.Stop.LaidErr
import Derived.Deep.DeepHandedRow
import Derived.Lib.LaidTab
import Derived.Lib.SmallJoins
import Derived.Test.YtolgigaolffenaaGreatDoorU24
import Derived.Test.YtolgigaolffenaaGreatDoorU23

namespace Go.Proofs.YtolgigaolffenaaGreatDoor
open Go.RowKit

theorem right_one (p : Ln.Sp) : Lo.Right [p] := ⟨by simp, fun k x y hx hy => by
  cases k <;> simp at hy⟩
set_option maxHeartbeats 8000000 in
set_option maxRecDepth 200000 in
theorem begins10_any (w : World) : Calls Tryz.prog 27 #[] w fun e w' => e = .returned (.bool true) ∧ Below w.heap.size w w' := by
  obtain ⟨W1, hW1⟩ : ∃ W, w.alloc (.cells #[.int .i64 0, .int .i64 5, .bool false] 71) = W := ⟨_, rfl⟩
  have hb1 : Below w.heap.size w W1 := by rw [← hW1]; exact (Below.refl _ _).alloc (Nat.le_refl _) _
  have hA1 : At W1 w.heap.size [.int .i64 0, .int .i64 5, .bool false] := by rw [← hW1]; exact At.new _ _ _
  have HLa := Lib.hid (lookAt_any [⟨0, 5, false⟩] 7 (some ⟨w.heap.size, 0, none⟩) 1 1 W1 rfl (by omega) (right_one _) (fun x hx => by
    obtain rfl : _ = x := by simpa using hx
    decide) (Lit.reads hA1 rfl))
  have he : Sm.exact (0 / 86400000) (0 % 86400000) = ⟨1970, 1, 4, 1, 0, 0, 0, 0⟩ := by
    have h1 : Cv.yearOf 0 = 1970 := by decide +kernel
    have h2 : Cv.monthOf 0 = 1 := by decide +kernel
    have h3 : Cv.dayOf 0 = 1 := by decide +kernel
    have h4 : dow 0 = 4 := by decide +kernel
    show Sm.S.mk (Cv.yearOf 0) (Cv.monthOf 0) (dow 0) (Cv.dayOf 0) _ _ _ _ = _
    rw [h1, h2, h3, h4]
    rfl
  have HEx := Lib.hid fun W => he ▸ stampExact_any 0 W (by decide) (by decide) (by decide +kernel)
  have HB1 := Lib.hid hb1
  have HW1 := Lib.hid hW1
  have hq1 : ∀ W, (Op.equalIn 10000 71 (.agg #[.int .i64 0, .int .i64 5, .bool false]) (.agg #[.int .i64 0, .int .i64 5, .bool false])).run Tryz.prog W = .ok true W := fun W => by kernel_rfl
  have hq2 : ∀ W, (Op.equalIn 10000 84 (.agg #[.int .u16 1970, .int .u16 1, .int .u16 4, .int .u16 1, .int .u16 0, .int .u16 0, .int .u16 0, .int .u16 0]) (.agg #[.int .u16 1970, .int .u16 1, .int .u16 4, .int .u16 1, .int .u16 0, .int .u16 0, .int .u16 0, .int .u16 0])).run Tryz.prog W = .ok true W := fun W => by kernel_rfl
  clear hb1 hA1 hW1 he
  go_enter Tryz.func27, Tryz.ntmps27
  go_wp2_with fail
  rw [HW1.out]
  refine HLa.out.mono ?_
  rintro e v2 ⟨⟨k, x, hA, hx, rfl⟩, hb2⟩
  obtain ⟨rfl, rfl⟩ : k = 0 ∧ x = ⟨0, 5, false⟩ := by
    cases k with
    | zero =>
      obtain rfl : _ = x := by simpa using hx
      exact ⟨rfl, rfl⟩
    | succ k => simp at hx
  unfold Ln.Sp.v
  simp only
  obtain ⟨W2, hW2⟩ : ∃ W, v2.alloc (.cells #[.int .i64 0, .int .i64 5, .bool false] 71) = W := ⟨_, rfl⟩
  have hbn : Below v2.heap.size v2 W2 := by rw [← hW2]; exact (Below.refl _ _).alloc (Nat.le_refl _) _
  obtain ⟨g2, hg2⟩ : ∃ g, v2.heap.size = g := ⟨_, rfl⟩
  have hA2 : At W2 g2 [.int .i64 0, .int .i64 5, .bool false] := by rw [← hW2, ← hg2]; exact At.new _ _ _
  have HB2 := Lib.hid (HB1.out.trans ((hb2.trans (hbn.mono hb2.size)).mono HB1.out.size))
  have HA2 := Lib.hid hA2
  have HW2 := Lib.hid hW2
  have HG2 := Lib.hid hg2
  clear hb2 hbn hW2 hA2 hg2 hA hx
  go_wp2_with fail
  rw [HW2.out]
  try rw [HG2.out]
  refine (HEx.out W2).mono ?_
  rintro e v3 ⟨rfl, hb3⟩
  unfold Sm.S.v
  simp only
  obtain ⟨c0, c1, c2, _⟩ := (HA2.out.call hb3).three
  have zc := (HA2.out.call hb3).lt
  have HB3 := Lib.hid (HB2.out.trans (hb3.mono HB2.out.size))
  have HB4 := Lib.hid (HB3.out.alloc HB3.out.size (.cells #[.int .u16 1970, .int .u16 1, .int .u16 4, .int .u16 1, .int .u16 0, .int .u16 0, .int .u16 0, .int .u16 0] 84))
  clear hb3
  go_wp2
  go_ret
  exact ⟨by first | rfl | exact ret_bool (by decide), HB4.out⟩
end Go.Proofs.YtolgigaolffenaaGreatDoor

/- TopStamped: the walk. -/
namespace Go.Proofs.YtolgigaolffenaaGreatDoor
open Go.RowKit Go.Shelf

set_option maxHeartbeats 16000000 in
set_option maxRecDepth 200000 in
theorem topStamped_any (s : Src.S) (z lo hi : Int) (rv zv lv : Value) (evs : List Value) (w : World) (hR : Src.SrcR w w.heap.size s rv zv lv evs) (hw : Src.Wide s) (hW : Wo w) (hA : Wa w) (hz : -9223372036854775808 ≤ z ∧ z < 9223372036854775808)
    (hlo : -9223372036854775808 ≤ lo ∧ lo < 9223372036854775808) (hhi : -9223372036854775808 ≤ hi ∧ hi < 9223372036854775808) :
    Calls Tryz.prog 7 #[.agg #[rv, zv, lv], .int .i64 z, .int .i64 lo, .int .i64 hi] w fun e w' => e = .returned (.bool true) ∧ Below w.heap.size w w' := by
  have hcc : ∀ x ∈ s.zones, ∀ e ∈ x.2, 0 ≤ e.u.c := fun x hx e he => ((hw.zones x hx).2 e he).1
  have hsz : Src.Few s → Vd.Sz s := fun hf => ⟨⟨by have := hf.nr; omega, by have := hf.nz; omega, by have := hf.nl; omega⟩, fun x hx => by have := (hf.zones x hx).1; omega, hw.smw⟩
  have hwc : ∀ r ∈ s.rules, 0 ≤ r.c := fun r hr => (hw.rules r hr).1
  have HNe0 := Lib.hid fun W (hb : Below w.heap.size w W) => near16_some s rv zv lv evs 2100 W (hR.call hb) hw (by omega)
  have HLn := Lib.hid fun (hf : Src.Few s) W (hb : Below w.heap.size w W) => lnOf_any s z lo hi rv zv lv evs W (hR.call hb) (hsz hf) (hW.below hb) (hA.below hb) hz hlo hhi hcc hwc
  have HWo := Lib.hid hW
  have HRu := Lib.hid fun (hf : Src.Few s) (h : Vd.well s = true) => Eg.rules_ok2 h (hsz hf).lims.rules
  obtain ⟨rA, rc, rfl, _⟩ := hR.rules
  obtain ⟨zA, zc, rfl, _⟩ := hR.zones
  obtain ⟨lA, lc, rfl, _⟩ := hR.links
  obtain ⟨n1, hn1⟩ : ∃ n, s.rules.length = n := ⟨_, rfl⟩
  obtain ⟨n2, hn2⟩ : ∃ n, s.zones.length = n := ⟨_, rfl⟩
  obtain ⟨n3, hn3⟩ : ∃ n, s.links.length = n := ⟨_, rfl⟩
  rw [hn1, hn2, hn3] at HNe0 HLn
  rw [hn1, hn2, hn3]
  obtain ⟨W1, hW1⟩ : ∃ W, w.alloc (.cells #[.slice rA n1 rc, .slice zA n2 zc, .slice lA n3 lc] 26) = W := ⟨_, rfl⟩
  have hb1 : Below w.heap.size w W1 := by rw [← hW1]; exact (Below.refl _ _).alloc (Nat.le_refl _) _
  have hA1 : At W1 w.heap.size [.slice rA n1 rc, .slice zA n2 zc, .slice lA n3 lc] := by rw [← hW1]; exact At.new _ _ _
  have HBg := Lib.hid (begins10_any W1)
  have HA1 := Lib.hid hA1
  have HB1 := Lib.hid hb1
  have HW1 := Lib.hid hW1
  obtain ⟨X, hX⟩ : ∃ x, IntKind.i64.wrap (hi - lo) = x := ⟨_, rfl⟩
  clear hn1 hn2 hn3 hb1 hA1 hW1 hR hw hW hA hcc hsz hwc
  go_enter Tryz.func7, Tryz.ntmps7
  go_wp2_with fail
  rw [HW1.out]
  refine HBg.out.mono ?_
  rintro e w2 ⟨rfl, hb2⟩
  have HA2 := Lib.hid (HA1.out.call hb2)
  have HB2 := Lib.hid (HB1.out.trans (hb2.mono HB1.out.size))
  obtain ⟨b0, b1, b2, _⟩ := HA2.out.three
  have zz := HA2.out.lt
  clear hb2
  have HNe := Lib.hid (HNe0.out w2 HB2.out)
  go_wp2_with fail
  refine HNe.out.mono ?_
  rintro e w3 ⟨he, hb3⟩
  have HA3 := Lib.hid (HA2.out.call hb3)
  have HB3 := Lib.hid (HB2.out.trans (hb3.mono HB2.out.size))
  clear hb3 b0 b1 b2 zz HNe
  obtain ⟨b0, b1, b2, _⟩ := HA3.out.three
  have zz := HA3.out.lt
  rcases he with rfl | ⟨rfl, hfew⟩
  · clear hX
    go_wp2
    go_ret
    exact ⟨rfl, HB3.out⟩
  have hc : lo < 1605 ∨ (¬ lo < 1605 ∧ 2090 < hi) ∨ (¬ lo < 1605 ∧ ¬ 2090 < hi ∧ 30 < X) ∨ (¬ lo < 1605 ∧ ¬ 2090 < hi ∧ ¬ 30 < X) := by omega
  rcases hc with k1 | ⟨k1, k2⟩ | ⟨k1, k2, k3⟩ | ⟨k1, k2, k3⟩
  · go_wp2
    go_ret
    exact ⟨rfl, HB3.out⟩
  · go_wp2
    go_ret
    exact ⟨rfl, HB3.out⟩
  · go_wp2
    go_ret
    exact ⟨rfl, HB3.out⟩
  have HC1 := Lib.hid (HLn.out hfew w3 HB3.out)
  go_wp2_with fail
  refine HC1.out.mono ?_
  rintro e w4 ⟨hb4, h4⟩
  have HA4 := Lib.hid (HA3.out.call hb4)
  have HB4 := Lib.hid (HB3.out.trans (hb4.mono HB3.out.size))
  clear hb4 b0 b1 b2 zz HC1
  rcases h4 with ⟨hno, rfl⟩ | ⟨hwe, hno, rfl⟩ | ⟨_, _, _, hx, rfl⟩ | ⟨x, v, hwe, hx, hin, rfl, ho4⟩
  · clear hno
    go_wp2
    go_ret
    exact ⟨rfl, HB4.out⟩
  · clear hno
    go_wp2
    go_ret
    exact ⟨rfl, HB4.out⟩
  · clear hx
    go_wp2
    go_ret
    exact ⟨rfl, HB4.out⟩
  obtain ⟨vA, vc, rfl, hv1, hv2⟩ := own_slice_cap ho4
  have hzo := Eg.zone_ok hwe (show x ∈ s.zones by
    unfold Eg.zoneAt at hx
    split at hx
    · exact List.mem_of_getElem? hx
    · cases hx)
  have hRu := HRu.out hfew hwe
  have hcov := Ln.lineOf_cov hRu hzo hin
  have hlen := Tp.len_le hRu hzo hin
  have hne := Ln.lineOf_ne hRu hzo hin
  have hys := Ln.years_in hin.1 hin.2.1 hin.2.2.1
  obtain ⟨fr, hfr⟩ : ∃ q, Oc.D lo * 86400 = q := ⟨_, rfl⟩
  obtain ⟨te, hte⟩ : ∃ q, Oc.D (hi + 1) * 86400 = q := ⟨_, rfl⟩
  obtain ⟨f, hf⟩ : ∃ f, Ln.st s.rules x.2 (Eg.ends s.rules x.2) = f := ⟨_, rfl⟩
  rw [hfr, hte, hf] at hcov
  obtain ⟨L, hL⟩ : ∃ L, Ln.lineOf s x.2 lo hi = L := ⟨_, rfl⟩
  rw [hL] at hcov hlen hne ho4 hv1
  rw [hL]
  obtain ⟨n, hn⟩ : ∃ n, L.length = n := ⟨_, rfl⟩
  rw [hn] at hlen hv1 ho4
  rw [hn]
  have hn0 : 0 < n := by
    cases L with
    | nil => exact absurd rfl hne
    | cons a L => rw [← hn]; exact Nat.succ_pos _
  have hlt := hys.1
  rw [hfr, hte] at hlt
  have hrt := Lo.right_cov hcov hlt
  have HCv := Lib.hid hcov
  have HN := Lib.hid hn
  have HR4 := Lib.hid (Reads.of_own ho4)
  have h0 : ∀ x, L[0]? = some x → x.fr = fr := fun x hx => by
    cases L with
    | nil => cases hx
    | cons a L =>
      obtain rfl : a = x := by simpa using hx
      exact hcov.1
  have HF0 := Lib.hid h0
  have HFt := Lib.hid (show -62135596800 ≤ fr ∧ te ≤ 253402300800 by
    have h1 := hys.2.1
    have h2 := hys.2.2.1
    rw [hfr] at h1
    rw [hte] at h2
    unfold Ln.InDays at h1 h2
    omega)
  have HFw := Lib.hid hfew
  have hxm : x ∈ s.zones := by
    have h := hx
    unfold Eg.zoneAt at h
    split at h
    · exact List.mem_of_getElem? h
    · cases h
  have hXe : X = hi - lo := by
    have := hin.1
    have := hin.2.1
    have := hin.2.2.1
    rw [← hX, IntKind.wrap_i64]
    omega
  have hlL := Ts.len_le (s := s) (eras := x.2) hfew.nr (hfew.zones x hxm).1 hin (by omega)
  rw [hL, hn] at hlL
  have hOff := fun k p => Ea.off_bd (k := k) (p := p) hRu hzo hin
  rw [hL] at hOff
  have HOff := Lib.hid hOff
  have hfe := Lib.hid hfr
  have hte' := Lib.hid hte
  have hY1 := hin.2.2.1
  obtain ⟨M, hM⟩ : ∃ M : Nat, (M : Int) = hi - lo + 1 := ⟨(hi - lo + 1).toNat, by omega⟩
  have hM31 : M ≤ 31 := by omega
  have HYr := Lib.hid fun (y : Int) (h1 : lo ≤ y) (h2 : y ≤ hi) W (hb : Below w4.heap.size w4 W) => lookYear_any L y vA n vc W hn (by omega) hv1 hv2 hrt (by omega) (fun x hx => by
    rw [h0 x hx, ← hfr]
    have := Oc.D_mono h1
    omega) ((HR4.out.below hb).more hb.size)
  have HTd := Lib.hid fun P q A c W (hq : P.length = q) (hq2 : q ≤ 900000000) (hr : Reads W W.heap.size 3 A q (P.flatMap Ln.Sp.cells)) => lookTidy_any P A q c W hq hq2 hr
  have HDy := Lib.hid (show Oc.D 1605 * 86400 ≤ fr ∧ te ≤ Oc.D 2091 * 86400 from by
    rw [← hfr, ← hte]
    have a := Oc.D_mono (show (1605 : Int) ≤ lo by omega)
    have b := Oc.D_mono (show hi + 1 ≤ (2091 : Int) by omega)
    omega)
  obtain ⟨i0, hi0, hs0, hs1, hs2⟩ := info_parts span_info
  clear hcov hn hL hf hfr hte hys hne hwe hx hzo hRu hin hfew hX ho4 hrt h0 hlt hOff hxm hlen
  have HLen := Lib.hid (And.intro hlL hM31)
  have HV := Lib.hid (And.intro hv1 hv2)
  go_upto_region 10 with fail
  go_loopw [12, 11] (fun i v wr => ∃ j : Nat, j ≤ M ∧ i = .int .i64 (lo + (j : Int)) ∧ ∃ A q c, v = .slice A q c ∧ Hid (Below w4.heap.size w4 wr) ∧ Hid (q ≤ j * 20001) ∧ Hid (∃ P : List Ln.Sp, P.length = q ∧ Lo.CovW f (Oc.D (lo + (j : Int)) * 86400) fr P ∧ wr.ownsRow w4.heap.size 71 3 (.slice A q c) q (Ln.fl P))) (fun i _ _ => (hi + 1 - intOf i).toNat)
  case atStart => exact ⟨0, Nat.zero_le _, by simp, none, 0, 0, rfl, Below.refl _ _, Nat.le_refl _, [], rfl, (by show fr = _; rw [← hfe.out]; simp), World.ownsRow_nil _ _ _ _⟩
  case round =>
    obtain ⟨j, hj, rfl, A, q, c, rfl, HB, Hq, HP⟩ := hrel
    obtain ⟨y, hy⟩ : ∃ y, lo + (j : Int) = y := ⟨_, rfl⟩
    rw [hy] at HP
    rw [hy]
    by_cases hlt : j < M
    · have hyh : y ≤ hi := by omega
      have hyl : lo ≤ y := by omega
      have HC := Lib.hid (HYr.out y hyl hyh wr HB.out)
      have hqn := Hq.out
      have HYj := Lib.hid hy
      clear hy
      go_wp2_with fail
      refine HC.out.mono ?_
      rintro e w5 ⟨⟨kk, xx, v5, hAb, hxx, rfl, ho5⟩, hb5⟩
      obtain ⟨P, hP1, hP2, hP3⟩ := HP.out
      have hcl := Ts.cut_len L (Oc.D y * 86400) (Oc.D (y + 1) * 86400) (kk + 1) xx
      have hcc := Lo.cov_cut (m := Oc.D (y + 1) * 86400) HCv.out (show fr ≤ Oc.D y * 86400 by rw [← hfe.out]; have := Oc.D_mono hyl; omega) (by have := Oc.D_next y; omega) (by rw [← hte'.out]; have := Oc.D_mono (show y + 1 ≤ hi + 1 by omega); omega) hAb hxx
      obtain ⟨Q, hQ⟩ : ∃ Q, Lo.cutL L (Oc.D y * 86400) (Oc.D (y + 1) * 86400) (kk + 1) xx = Q := ⟨_, rfl⟩
      rw [hQ] at ho5 hcl hcc
      obtain ⟨m5, hm5⟩ : ∃ m, Q.length = m := ⟨_, rfl⟩
      rw [hm5] at ho5 hcl
      rw [HN.out] at hcl
      obtain ⟨A5, c5, rfl, hc51, hc52⟩ := own_slice_cap ho5
      have HB5 := Lib.hid (HB.out.trans (hb5.mono HB.out.size))
      have HO5 := Lib.hid (own_below hP3 hb5)
      have HR5 := Lib.hid (Reads.of_own ho5)
      have hcw := Lo.covW_app hP2 (Lo.covW hcc)
      have hone : ∀ u ∈ Ln.fl Q, u.oneCell' = true := Tp.cells_one _
      have HCw := Lib.hid hcw
      have HP1 := Lib.hid hP1
      have HM5 := Lib.hid hm5
      have hcl1 := hcl.1
      have hcl2 := hcl.2
      have hlL' := HLen.out.1
      have hjM := HLen.out.2
      have q1 : ((m5 : Int) == 0) = false := by rw [beq_eq_false_iff_ne]; omega
      have q2 : ¬ (m5 : Int) = 0 := by omega
      have hsz5 := HB5.out.size
      have hqb : q ≤ 700000 := by
        have h1 : j * 20001 ≤ 31 * 20001 := Nat.mul_le_mul_right _ (by omega)
        omega
      clear hb5 ho5 hP1 hP2 hP3 hcc hcw hQ hm5 hAb hxx hcl HC
      go_wp2_with (at_builtin; refine wpList_append_any _ rfl (.tmp 73) (.tmp 74) _ rfl w4.heap.size 71 i0 _ 3 24 Tryz.underlying66 hi0 hs0 hs1 hs2 rfl (by decide) _ _ _ rfl HO5.out _ _ m5 c5 _ rfl HR5.out hone (by unfold maxLen; omega) (by omega) hsz5 ?_; intro v8 w8 ho8 hg8 hat8; obtain ⟨A8, c8, rfl, hr81, hr82⟩ := own_slice_cap ho8)
      have HB8 : Hid (Below w4.heap.size w4 w8) := HB5.out.grown hg8 hsz5 (fun k hk => (HO5.out.lt k hk).1)
      have HP8 : Hid (∃ P : List Ln.Sp, P.length = q + m5 ∧ Lo.CovW f (Oc.D (lo + ((j + 1 : Nat) : Int)) * 86400) fr P ∧ w8.ownsRow w4.heap.size 71 3 (.slice A8 (q + m5) c8) (q + m5) (Ln.fl P)) :=
        ⟨P ++ Q, by rw [List.length_append, HP1.out, HM5.out], by rw [show lo + ((j + 1 : Nat) : Int) = y + 1 by have := HYj.out; omega]; exact HCw.out, by unfold Ln.fl at ho8 ⊢; rw [List.flatMap_append]; exact ho8⟩
      have Hq8 : Hid (q + m5 ≤ (j + 1) * 20001) := by
        show _ ≤ _
        rw [Nat.succ_mul]
        omega
      have HMk := Lib.hid (show j + 1 ≤ M by omega)
      have HYk := Lib.hid (show y + 1 = lo + ((j + 1 : Nat) : Int) by have := HYj.out; omega)
      have wy : IntKind.i64.wrap (y + 1) = y + 1 := by rw [IntKind.wrap_i64]; omega
      clear ho8 hg8 hat8
      go_roundw
      case rel => exact ⟨j + 1, HMk.out, by rw [HYk.out], A8, q + m5, c8, rfl, HB8.out, Hq8.out, HP8.out⟩
      case measure => simp [intOf]; omega
    · have hjM : j = M := by omega
      have hyh : ¬ y ≤ hi := by omega
      obtain ⟨P, hP1, hP2, hP3⟩ := HP.out
      have hy2 : y = hi + 1 := by omega
      rw [hy2, hte'.out] at hP2
      have htl : Lo.tidy P = L := (Lo.tidy_cov hP2).one HCv.out
      have hqb : q ≤ 700000 := by
        have h1 : j * 20001 ≤ 31 * 20001 := Nat.mul_le_mul_right _ (by have := HLen.out.2; omega)
        have := Hq.out
        omega
      have HT1 := Lib.hid (HTd.out P q A c wr hP1 (by omega) (Reads.of_own hP3))
      unfold Lo.TdRet at HT1
      rw [htl, HN.out] at HT1
      have HP3 := Lib.hid (And.intro hP1 hP3)
      have HTl := Lib.hid htl
      obtain ⟨wl, rfl⟩ : ∃ x, x = wr := ⟨_, rfl⟩
      have g1 : ((n : Int) != (n : Int)) = false := by simp
      clear hjM hy2 hP1 hP2 hP3 htl hy
      go_wp2_with fail
      refine HT1.out.mono ?_
      rintro e w5 ⟨⟨v5, rfl, ho5⟩, hb5⟩
      obtain ⟨A5, c5, rfl, _, _⟩ := own_slice_cap ho5
      have HB5 := Lib.hid (HB.out.trans (hb5.mono HB.out.size))
      have HT2 := Lib.hid (HTd.out P q A c w5 HP3.out.1 (by omega) (Reads.of_own (own_below HP3.out.2 hb5)))
      unfold Lo.TdRet at HT2
      rw [HTl.out, HN.out] at HT2
      clear hb5 ho5 HT1
      go_wp2_with fail
      refine HT2.out.mono ?_
      rintro e w6 ⟨⟨v6, rfl, ho6⟩, hb6⟩
      obtain ⟨A6, c6, rfl, _, _⟩ := own_slice_cap ho6
      have HB6 := Lib.hid (HB5.out.trans (hb6.mono HB5.out.size))
      have HR6 := Lib.hid (Reads.of_own ho6)
      clear hb6 ho6 HT2
      go_upto_region 19 with fail
      go_loopw [85] (fun i wr => ∃ k : Nat, k ≤ n ∧ i = .int .i64 (k : Int) ∧ Hid (Below w6.heap.size w6 wr)) (fun i _ => n - (intOf i).toNat)
      case atStart => exact ⟨0, Nat.zero_le _, rfl, Below.refl _ _⟩
      case round =>
        obtain ⟨k, hk, rfl, HBr⟩ := hrel
        by_cases hlt2 : k < n
        · obtain ⟨ad1, x1, rfl, hab1, Hx1, HL1⟩ := Ix.reads_cells (enc := Ln.Sp.cells) (m := 3) (fun _ => rfl) HN.out (HR6.out.below HBr.out) hlt2
          obtain ⟨ad2, x2, rfl, hab2, Hx2, HL2⟩ := Ix.reads_cells (enc := Ln.Sp.cells) (m := 3) (fun _ => rfl) HN.out ((HR4.out.below HB6.out).below (HBr.out.mono HB6.out.size)) hlt2
          obtain rfl : x2 = x1 := by have h := Hx2.out; rw [Hx1.out] at h; exact (Option.some.inj h).symm
          have hq := span_one x2
          have hx1b := Ln.Cov.in_ HCv.out k x2 Hx1.out
          have hD := HDy.out
          have c0 : wr.cell? (ad1.add (k * 3)) = some (.int .i64 x2.fr) := HL1.out 0 _ rfl
          have c1 : wr.cell? ⟨(ad1.add (k * 3)).block, (ad1.add (k * 3)).off + 1, none⟩ = some (.int .i64 x2.off) := HL1.out 1 _ rfl
          have c2 : wr.cell? ⟨(ad1.add (k * 3)).block, (ad1.add (k * 3)).off + 2, none⟩ = some (.bool x2.dst) := HL1.out 2 _ rfl
          have q3 : (0 : Int) ≤ (k : Int) := by omega
          have q4 : (k : Int) < (n : Int) := by omega
          obtain ⟨V1, hV1⟩ : ∃ W, wr.alloc (.cells #[.int .i64 x2.fr, .int .i64 x2.off, .bool x2.dst] 71) = W := ⟨_, rfl⟩
          have hvb : Below wr.heap.size wr V1 := by rw [← hV1]; exact (Below.refl _ _).alloc (Nat.le_refl _) _
          obtain ⟨b9, hb9⟩ : ∃ b, wr.heap.size = b := ⟨_, rfl⟩
          have hAx : At V1 b9 [.int .i64 x2.fr, .int .i64 x2.off, .bool x2.dst] := by rw [← hV1, ← hb9]; exact At.new _ _ _
          have hV46 : Below w4.heap.size w4 wr := HB6.out.trans (HBr.out.mono HB6.out.size)
          have hab2' : ad2.block < wr.heap.size := Nat.lt_of_lt_of_le hab2 hV46.size
          have HK4 := Lib.hid (hV46.trans (hvb.mono hV46.size))
          have HKr := Lib.hid (HBr.out.trans (hvb.mono HBr.out.size))
          have HV1 := Lib.hid hV1
          have HB9 := Lib.hid hb9
          have HAx := Lib.hid hAx
          have d0 : V1.cell? (ad2.add (k * 3)) = some (.int .i64 x2.fr) := (hvb.cell (p := ad2.add (k * 3)) (by rw [block_of_add]; exact hab2')).trans (HL2.out 0 _ rfl)
          have d1 : V1.cell? ⟨(ad2.add (k * 3)).block, (ad2.add (k * 3)).off + 1, none⟩ = some (.int .i64 x2.off) := (hvb.cell (p := ⟨(ad2.add (k * 3)).block, (ad2.add (k * 3)).off + 1, none⟩) (by show (ad2.add (k * 3)).block < _; rw [block_of_add]; exact hab2')).trans (HL2.out 1 _ rfl)
          have d2 : V1.cell? ⟨(ad2.add (k * 3)).block, (ad2.add (k * 3)).off + 2, none⟩ = some (.bool x2.dst) := (hvb.cell (p := ⟨(ad2.add (k * 3)).block, (ad2.add (k * 3)).off + 2, none⟩) (by show (ad2.add (k * 3)).block < _; rw [block_of_add]; exact hab2')).trans (HL2.out 2 _ rfl)
          obtain ⟨e0, e1, e2, _⟩ := hAx.three
          have ze := hAx.lt
          clear hV1 hvb hb9 hAx hV46 hab2' hab1 hab2 HL1 HL2
          go_upto_region 21 with fail
          rw [HV1.out]
          try rw [HB9.out]
          clear c0 c1 c2
          go_quiet (fail)
          obtain ⟨V2, hV2⟩ : ∃ W, V1.drewN nq = W := ⟨_, rfl⟩
          rw [hV2]
          have hbd : Below V1.heap.size V1 V2 := by rw [← hV2]; exact (show Drew V1 (V1.drewN nq) from ⟨nq, rfl⟩).below _
          have HK2 := Lib.hid (HK4.out.trans (hbd.mono HK4.out.size))
          have HKr2 := Lib.hid (HKr.out.trans (hbd.mono HKr.out.size))
          have HAx2 := Lib.hid (HAx.out.call hbd)
          clear hV2 hbd d0 d1 d2 e0 e1 e2 ze hq
          rcases Nat.eq_zero_or_pos k with h0 | h0
          · have p1 : ((k : Int) == 0) = true := by rw [h0]; rfl
            have HMk := Lib.hid (show k + 1 ≤ n by omega)
            clear h0
            go_wp2
            go_roundw
            case rel => exact ⟨k + 1, HMk.out, by go_num, HKr2.out⟩
            case measure => simp [intOf]; omega
          · have p1 : ((k : Int) == 0) = false := by rw [beq_eq_false_iff_ne]; omega
            obtain ⟨jj, hjj⟩ : ∃ j, k = j + 1 := ⟨k - 1, by omega⟩
            obtain ⟨ad3, y, e0', haby, Hy, HLy⟩ := Ix.reads_cells (enc := Ln.Sp.cells) (m := 3) (fun _ => rfl) HN.out (HR4.out.below HK2.out) (show jj < n by omega)
            obtain rfl := Option.some.inj e0'
            have hyb := HOff.out jj y Hy.out
            have y0 : V2.cell? (ad2.add (jj * 3)) = some (.int .i64 y.fr) := HLy.out 0 _ rfl
            have y1 : V2.cell? ⟨(ad2.add (jj * 3)).block, (ad2.add (jj * 3)).off + 1, none⟩ = some (.int .i64 y.off) := HLy.out 1 _ rfl
            have wj : IntKind.i64.wrap ((k : Int) - 1) = (jj : Int) := by rw [IntKind.wrap_i64]; omega
            have q5 : (0 : Int) ≤ (jj : Int) := by omega
            have q6 : (jj : Int) < (n : Int) := by omega
            obtain ⟨C, hC⟩ : ∃ C, x2.fr + y.off = C := ⟨_, rfl⟩
            have hD1 : Oc.D 1605 = -133313 := by decide
            have hD2 : Oc.D 2091 = 44195 := by decide
            have hD3 : Oc.D 1604 = -133679 := by decide
            have hD4 : Oc.D 2100 = 47482 := by decide
            have hC1 : -11549952000 ≤ C := by rw [hD1] at hD; omega
            have hC2 : C < 4102444800 := by rw [hD2] at hD; omega
            obtain ⟨m1, m2, m3, m4⟩ := Ts.mill (c := C) (by rw [hD3]; omega) (by rw [hD4]; omega)
            have HEx := Lib.hid fun W => stampExact_any (1000 * C) W m1 m2 m3
            have hok := Sm.exact_ok m1 m2 m3 (o := 1000 * C % 86400000) (Int.emod_nonneg _ (by decide)) (Int.emod_lt_of_pos _ (by decide))
            have hat := Sm.exact_at m1 m2 (o := 1000 * C % 86400000)
            rw [m4] at hat
            have hnum : Cv.num (Sm.exact (1000 * C / 86400000) (1000 * C % 86400000)).y (Sm.exact (1000 * C / 86400000) (1000 * C % 86400000)).mo (Sm.exact (1000 * C / 86400000) (1000 * C % 86400000)).d = 1000 * C / 86400000 := (Cv.num_of _ m1 m2).2
            obtain ⟨S, hS⟩ : ∃ S, Sm.exact (1000 * C / 86400000) (1000 * C % 86400000) = S := ⟨_, rfl⟩
            rw [hS] at hok hat hnum HEx
            have HLo := Lib.hid fun W (hb : Below w4.heap.size w4 W) => stampLocal_ok S W ((HWo.out.below (HB4.out.trans (hb.mono HB4.out.size))).lens) hok ⟨by rw [hnum]; exact m1, by rw [hnum]; exact m2⟩
            rw [hat] at HLo
            have HCk := Lib.hid fun W (hb : Below w4.heap.size w4 W) => stampCheck_ok S W ((HWo.out.below (HB4.out.trans (hb.mono HB4.out.size))).lens) hok
            have hSy1 := hok.y1
            have hSy2 := hok.y2
            obtain ⟨sy, smo, sdw, sd, sh, smi, ss, sms⟩ := S
            unfold Sm.S.v at HEx HLo HCk
            simp only at HEx HLo HCk hSy1 hSy2
            have wc : IntKind.i64.wrap (x2.fr + y.off) = C := by rw [IntKind.wrap_i64]; omega
            have wc2 : IntKind.i64.wrap C = C := by rw [IntKind.wrap_i64]; omega
            have wm : IntKind.i64.wrap (1000 * C) = 1000 * C := by rw [IntKind.wrap_i64]; omega
            have HCe := Lib.hid hC
            have hx1 := hx1b.1
            have hx2 := hx1b.2.1
            obtain ⟨e0, e1, e2, _⟩ := HAx2.out.three
            have ze := HAx2.out.lt
            clear hjj Hy HLy haby hok hat hnum hS m1 m2 m3 m4 hD1 hD2 hD3 hD4 h0
            go_upto_region 24 with fail
            go_quiet (fail)
            obtain ⟨V3, hV3⟩ : ∃ W, V2.drewN nq = W := ⟨_, rfl⟩
            rw [hV3]
            have hbd : Below V2.heap.size V2 V3 := by rw [← hV3]; exact (show Drew V2 (V2.drewN nq) from ⟨nq, rfl⟩).below _
            have HK3 := Lib.hid (HK2.out.trans (hbd.mono HK2.out.size))
            have HKr3 := Lib.hid (HKr2.out.trans (hbd.mono HKr2.out.size))
            clear hV3 hbd e0 e1 e2 ze y0 y1 hC
            try rw [HCe.out]
            go_wp2_with fail
            try rw [HCe.out]
            refine (HEx.out V3).mono ?_
            rintro e v4 ⟨rfl, hb⟩
            obtain ⟨V4, hV4⟩ : ∃ W, v4.alloc (.cells #[.int .u16 sy, .int .u16 smo, .int .u16 sdw, .int .u16 sd, .int .u16 sh, .int .u16 smi, .int .u16 ss, .int .u16 sms] 84) = W := ⟨_, rfl⟩
            have hbn : Below v4.heap.size v4 V4 := by rw [← hV4]; exact (Below.refl _ _).alloc (Nat.le_refl _) _
            obtain ⟨g4, hg4⟩ : ∃ b, v4.heap.size = b := ⟨_, rfl⟩
            have hA4 : At V4 g4 [.int .u16 sy, .int .u16 smo, .int .u16 sdw, .int .u16 sd, .int .u16 sh, .int .u16 smi, .int .u16 ss, .int .u16 sms] := by rw [← hV4, ← hg4]; exact At.new _ _ _
            have hbb := hb.trans (hbn.mono hb.size)
            have HK5 := Lib.hid (HK3.out.trans (hbb.mono HK3.out.size))
            have HKr5 := Lib.hid (HKr3.out.trans (hbb.mono HKr3.out.size))
            have HV4 := Lib.hid hV4
            have HG4 := Lib.hid hg4
            have HA4 := Lib.hid hA4
            clear hb hV4 hbn hg4 hA4 hbb
            go_upto_region 26 with fail
            rw [HV4.out]
            try rw [HG4.out]
            have s0 := HA4.out.cell 0 _ rfl
            have s1 := HA4.out.cell 1 _ rfl
            have s2 := HA4.out.cell 2 _ rfl
            have s3 := HA4.out.cell 3 _ rfl
            have s4 := HA4.out.cell 4 _ rfl
            have s5 := HA4.out.cell 5 _ rfl
            have s6 := HA4.out.cell 6 _ rfl
            have s7 := HA4.out.cell 7 _ rfl
            have zs := HA4.out.lt
            go_wp2_with fail
            refine (HLo.out V4 HK5.out).mono ?_
            rintro e v6 ⟨rfl, hb⟩
            have HK6 := Lib.hid (HK5.out.trans (hb.mono HK5.out.size))
            have HKr6 := Lib.hid (HKr5.out.trans (hb.mono HKr5.out.size))
            have HA6 := Lib.hid (HA4.out.call hb)
            clear hb s0 s1 s2 s3 s4 s5 s6 s7 zs
            have s0 := HA6.out.cell 0 _ rfl
            have s1 := HA6.out.cell 1 _ rfl
            have s2 := HA6.out.cell 2 _ rfl
            have s3 := HA6.out.cell 3 _ rfl
            have s4 := HA6.out.cell 4 _ rfl
            have s5 := HA6.out.cell 5 _ rfl
            have s6 := HA6.out.cell 6 _ rfl
            have s7 := HA6.out.cell 7 _ rfl
            have zs := HA6.out.lt
            have g9 : (1000 * C != 1000 * C) = false := by simp
            go_wp2_with fail
            refine (HCk.out v6 HK6.out).mono ?_
            rintro e v7 ⟨rfl, hb⟩
            have HKr7 := Lib.hid (HKr6.out.trans (hb.mono HKr6.out.size))
            have HMk := Lib.hid (show k + 1 ≤ n by omega)
            clear hb s0 s1 s2 s3 s4 s5 s6 s7 zs
            go_wp2
            go_roundw
            case rel => exact ⟨k + 1, HMk.out, by go_num, HKr7.out⟩
            case measure => simp [intOf]; omega
        · have q4 : ¬ (k : Int) < (n : Int) := by omega
          have HFin := Lib.hid (HB4.out.trans ((HB6.out.trans (HBr.out.mono HB6.out.size)).mono HB4.out.size))
          go_wp2
          go_ret
          exact ⟨rfl, HFin.out⟩
end Go.Proofs.YtolgigaolffenaaGreatDoor

/- The reach of a number among a row's arguments. -/
namespace Go.Proofs.YtolgigaolffenaaGreatDoor
open Go.RowKit

theorem i64_range {z : Int} (h : (Lit.int .i64 z).wf = true) : -9223372036854775808 ≤ z ∧ z ≤ 9223372036854775807 := by
  simpa [Lit.wf, IntKind.min, IntKind.max, IntKind.signed, IntKind.bits] using h
end Go.Proofs.YtolgigaolffenaaGreatDoor

/- TopStamped at a row's arguments. -/
namespace Go.Proofs.YtolgigaolffenaaGreatDoor
open Go.RowKit

theorem topStamped_row (s : Src.S) (rv zv lv : Value) (evs : List Value) (z lo hi : Int) (w : World) (hT : Wo w ∧ Wa w) (hR : Src.SrcR w w.heap.size s rv zv lv evs) (hw : Src.Wide s) (hz : (Lit.int .i64 z).wf = true) (hlo : (Lit.int .i64 lo).wf = true) (hhi : (Lit.int .i64 hi).wf = true) :
    Calls Tryz.prog 7 #[.agg #[rv, zv, lv], .int .i64 z, .int .i64 lo, .int .i64 hi] w fun e w' => e = .returned (.bool true) ∧ Below w.heap.size w w' :=
  topStamped_any s z lo hi rv zv lv evs w hR hw hT.1 hT.2 (by have := i64_range hz; omega) (by have := i64_range hlo; omega) (by have := i64_range hhi; omega)
end Go.Proofs.YtolgigaolffenaaGreatDoor

/-
  TopStamped: whatever comes in, the law returns true and each argument reads as it did.
  Conditions: the listed package-level tables read as the program's text lays them (the card ties them to it).
-/
namespace Go.Proofs.YtolgigaolffenaaGreatDoor.topStamped
open Go.ChangeShapes Go.WideShapes Go.ChangeAt Go.RowKit Go.Joins
open Go.ChangeMaps (open_string shut_string)

theorem own : ownKnob Tryz.prog.godebug = none := by kernel_rfl
theorem laidOut : laidOutB Tryz.prog = true := by kernel_rfl
theorem g_places : Tryz.prog.globalNamed "solstice/abbr.places" = some 1 := by kernel_rfl
theorem t_places : (Tryz.prog.globals[1]?).map (·.type) = some 272 := by kernel_rfl
theorem g_lens : Tryz.prog.globalNamed "solstice/civil.lengths" = some 0 := by kernel_rfl
theorem t_lens : (Tryz.prog.globals[0]?).map (·.type) = some 222 := by kernel_rfl

theorem wo_of {W : World} (h : laidMetH Tryz.prog Rows.topStampedRow.laid W) (hS : W.ShapedOpen Tryz.prog) : Wo W ∧ Wa W := by
  have h0 : laidMet Tryz.prog Rows.topStampedRow.laid W := h
  have h1 := h0.tail
  have x_lens : Lib.TabIs Tryz.prog W "solstice/civil.lengths" .i64 Cv.lens := Lib.tabIs_of_head g_lens t_lens Tryz.underlying222 Tryz.underlying3 (by kernel_rfl) (by kernel_rfl) h0
  have x_places := strs_of_head (ls := [[37, 115], [37, 122]]) (rest := []) g_places t_places Tryz.underlying272 Tryz.underlying9 (by kernel_rfl) (by kernel_rfl) h1
  exact ⟨⟨fun k hk => x_lens.cell g_lens k hk, Tryz.laysM145.s1_3 W hS⟩, ⟨x_places 0 _ rfl, x_places 1 _ rfl, Tryz.laysM145.s1_3 W hS⟩⟩

noncomputable def laidWorld (os : Os) : World := World.doorLaid Tryz.prog 4000 os
theorem laid_met (os : Os) : laidMet Tryz.prog Rows.topStampedRow.laid ((laidWorld os).forCall (fun _ _ => 0) ⟨#[], #[.agg #[.slice none 0 0, .slice none 0 0, .slice none 0 0], .int .i64 0, .int .i64 0, .int .i64 0], []⟩).memory :=
  laidMet_of_run' 8 (by kernel_rfl) (by kernel_rfl)
theorem reads (os : Os) {H : Type} (enc : TypeId × Value → H) : ∃ places, DataW.whole enc Tryz.prog ((laidWorld os).forCall (fun _ _ => 0) ⟨#[], #[.agg #[.slice none 0 0, .slice none 0 0, .slice none 0 0], .int .i64 0, .int .i64 0, .int .i64 0], []⟩).memory Tryz.f7.params.toList Rows.topStampedSpec.vars false #[Value.agg #[.slice none 0 0, .slice none 0 0, .slice none 0 0], .int .i64 0, .int .i64 0, .int .i64 0].toList 8 = some ([.agg [.nil, .nil, .nil], .lit (.int .i64 0), .lit (.int .i64 0), .lit (.int .i64 0)], [], places) :=
  ⟨[], by kernel_rfl⟩

set_option maxRecDepth 100000 in
set_option maxHeartbeats 4000000 in
theorem contract (H : Type) (enc : TypeId × Value → H) (W : World) (base : Nat) (args : Array Value) (ds gs : List (DataW H)) (before : List MemPlace)
    (hval : ∀ (j : Nat) t v, Tryz.f7.params[j]? = some t → args[j]? = some v → Value.okWide Tryz.prog W .any base t v)
    (hW : DataW.Whole enc Tryz.prog Tryz.f7.params.toList Rows.topStampedSpec.vars false W args.toList ds gs before) (hL : laidMetH Tryz.prog Rows.topStampedRow.laid W) (hS : W.ShapedOpen Tryz.prog) :
    Calls Tryz.prog 7 args W fun e W' => ∃ v, e = .returned v ∧ Rows.topStampedSpec.post enc Tryz.prog Tryz.f7 false true false false W args v W' := by
  have hW' := hW
  obtain ⟨p, q, hA0, hV, rfl, hfz, hnd⟩ := hW
  have hA : DataW.TrodAll enc Tryz.prog W 0 (fun _ => true) true Tryz.f7.params.toList args.toList ds p := hA0
  rw [Tryz.params7] at hA hval
  obtain ⟨v0, vs0, d0, ds0, p0, q0, hargs, rfl, rfl, h0, r0⟩ := trodAll_cons hA
  obtain ⟨v1, vs1, d1, ds1, p1, q1, rfl, rfl, rfl, h1, r1⟩ := trodAll_cons r0
  obtain ⟨v2, vs2, d2, ds2, p2, q2, rfl, rfl, rfl, h2, r2⟩ := trodAll_cons r1
  obtain ⟨v3, vs3, d3, ds3, p3, q3, rfl, rfl, rfl, h3, r3⟩ := trodAll_cons r2
  obtain ⟨rfl, rfl, rfl⟩ := trodAll_nil r3
  obtain rfl : args = #[v0, v1, v2, v3] := by cases args; simp_all
  obtain ⟨rfl, rfl⟩ := trodVars_none hV
  have k0 := h0
  have lt0 : ∀ x ∈ p0, x.block < W.heap.size := by obtain ⟨m, hm⟩ := k0; exact DataW.trod_lt m _ _ _ hm
  obtain ⟨s0, rv0, zv0, lv0, evs0, rfl, hsr0, hsw0⟩ := open_source (hval 0 26 v0 rfl rfl) h0
  obtain ⟨z, rfl, rfl, rfl, wz⟩ := open_int Tryz.underlying3 (hval 1 3 v1 rfl rfl) h1
  obtain ⟨lo, rfl, rfl, rfl, wlo⟩ := open_int Tryz.underlying3 (hval 2 3 v2 rfl rfl) h2
  obtain ⟨hi, rfl, rfl, rfl, whi⟩ := open_int Tryz.underlying3 (hval 3 3 v3 rfl rfl) h3
  clear hA0
  refine (topStamped_row s0 rv0 zv0 lv0 evs0 z lo hi W (wo_of hL hS) hsr0 hsw0 wz wlo whi).mono fun e W' ⟨he, bel⟩ => ?_
  subst he
  exact ⟨_, rfl, _, _, _, [], _, [], hW', trodAll_mk1 (shut_bool Tryz.underlying4 _), (trodAll_cons_mk (Below.trod laidOut (by kernel_rfl) (of_decide_eq_true (by kernel_rfl)) k0 bel lt0) (trodAll_cons_mk (shut_int Tryz.underlying3 wz) (trodAll_cons_mk (shut_int Tryz.underlying3 wlo) (trodAll_cons_mk (shut_int Tryz.underlying3 whi) trodAll_mk0)))), rfl, bel.frame _, fun h => by cases h⟩

set_option maxRecDepth 100000 in
theorem lifted (os : Os) (started : os.Started) (H : Type) (enc : TypeId × Value → H) (F : Stop.Interp) :
    ReturnsInHanded {} Tryz.checked os 7 .any ((OpenSpec.ofChange Rows.topStampedSpec).preRow enc Tryz.prog Tryz.f7 Rows.topStampedRow.domain false Rows.topStampedRow.laid) (((OpenSpec.ofChange Rows.topStampedSpec).at F).post enc Tryz.prog Tryz.f7 false true false false) := by
  obtain ⟨places, hx⟩ := reads os enc
  refine returnsInHanded_of_row (C := Tryz.checked) (s := OpenSpec.ofChange Rows.topStampedSpec) own started (by kernel_rfl) Tryz.func7
    (witness_row_at (enc := enc) (C := Tryz.checked) false (laidWorld os) #[.agg #[.slice none 0 0, .slice none 0 0, .slice none 0 0], .int .i64 0, .int .i64 0, .int .i64 0] rfl (by kernel_rfl) (by kernel_rfl) (by kernel_rfl)
      (OpenSpec.preRow_of_cond 8 hx (by kernel_rfl) (fun k hk => by cases hk) (by kernel_rfl) (laid_met os))) ?_
  intro W base args ds gs before hval hW _ _ _ hL hS _
  exact contract H enc W base args ds gs before hval hW hL hS

theorem said : Rows.TopStampedSaid :=
  OpenClaim.holds_of_cond 7 Tryz.f7 rfl rfl rfl rfl rfl rfl rfl ⟨rfl, rfl, rfl, rfl, rfl⟩ rfl rfl rfl rfl rfl (by kernel_rfl) Tryz.func7 (by kernel_rfl)
    (of_decide_eq_true (by kernel_rfl)) (by unfold Func.isWrapper; first | (rw [if_pos (by decide +kernel)]; kernel_rfl) | (rw [if_neg (by decide +kernel)]; exact ⟨rfl, rfl⟩))
    (fun os started H enc _ F => by rw [OpenClaim.pre_eq_preRow]; exact lifted os started H enc F)

theorem plain (f : FuncId) (fn : Func) (hf : Tryz.pinned.checked.prog.funcNamed "solstice/solsticetop.TopStamped" = some f) (hfn : Tryz.pinned.checked.prog.funcs[f]? = some fn) :
    false = Tryz.pinned.checked.prog.looks [] ∧ ∀ (j : Nat) t, fn.params[j]? = some t → Tryz.pinned.checked.prog.wantsStandIn t = false := by
  obtain rfl : f = 7 := Option.some.inj ((show Tryz.prog.funcNamed "solstice/solsticetop.TopStamped" = some 7 by kernel_rfl).symm.trans hf) |>.symm
  obtain rfl : fn = Tryz.f7 := (Option.some.inj (Tryz.func7.symm.trans hfn)).symm
  refine ⟨by kernel_rfl, fun j t ht => ?_⟩
  rw [Tryz.params7] at ht
  have hm : t ∈ [26, 3] := by
    have := Array.mem_of_getElem? ht
    simp at this ⊢
    first | omega | (rcases this with h | h | h | h <;> simp [h]) | (rcases this with h | h | h <;> simp [h]) | (rcases this with h | h | h | h | h <;> simp [h])
  simp only [List.mem_cons, List.not_mem_nil, or_false] at hm
  rcases hm with rfl | rfl
  · exact (show Tryz.prog.wantsStandIn 26 = false by kernel_rfl)
  · exact (show Tryz.prog.wantsStandIn 3 = false by kernel_rfl)

theorem card : Rows.TopStampedCardSaid :=
  Claim7.holds_tied_plain_at .later [] _ _ _ _ said (fun _ h => by cases h) (by kernel_rfl) (fun _ h => by cases h) topStamped_row_tie rfl ⟨rfl, rfl⟩ (by kernel_rfl) rfl plain (by kernel_rfl)
end Go.Proofs.YtolgigaolffenaaGreatDoor.topStamped
