/- TopParts: the walk. -/
import Derived.Test.YtolgigaolffenaaGreatDoorQ34
import Derived.Test.YtolgigaolffenaaGreatDoorQa01
import Derived.Test.YtolgigaolffenaaGreatDoorQ38
import Derived.Test.YtolgigaolffenaaGreatDoorCards
import Derived.Test.YtolgigaolffenaaGreatDoorTie
import Derived.ProofKit
import Derived.OpenShut
import Derived.ShutString
import Derived.ChangeOld
import Derived.LaidMore
import Derived.Stop.LaidErr
import Derived.Deep.DeepHandedRow
import Derived.Lib.LaidTab
import Derived.Lib.SmallJoins
import Derived.Test.YtolgigaolffenaaGreatDoorQ24
import Derived.Test.YtolgigaolffenaaGreatDoorQ23

namespace Go.Proofs.YtolgigaolffenaaGreatDoor
open Go.RowKit Go.Shelf

set_option maxHeartbeats 16000000 in
set_option maxRecDepth 200000 in
theorem topParts_any (s : Src.S) (z lo mid hi : Int) (rv zv lv : Value) (evs : List Value) (w : World) (hR : Src.SrcR w w.heap.size s rv zv lv evs) (hw : Src.Wide s) (hW : Wo w) (hA : Wa w) (hz : -9223372036854775808 ≤ z ∧ z < 9223372036854775808)
    (hlo : -9223372036854775808 ≤ lo ∧ lo < 9223372036854775808) (hmid : -9223372036854775808 ≤ mid ∧ mid < 9223372036854775808) (hhi : -9223372036854775808 ≤ hi ∧ hi < 9223372036854775808) :
    Calls Tryz.prog 6 #[.agg #[rv, zv, lv], .int .i64 z, .int .i64 lo, .int .i64 mid, .int .i64 hi] w fun e w' => e = .returned (.bool true) ∧ Below w.heap.size w w' := by
  have hcc : ∀ x ∈ s.zones, ∀ e ∈ x.2, 0 ≤ e.u.c := fun x hx e he => ((hw.zones x hx).2 e he).1
  have hsz : Src.Few s → Vd.Sz s := fun hf => ⟨⟨by have := hf.nr; omega, by have := hf.nz; omega, by have := hf.nl; omega⟩, fun x hx => by have := (hf.zones x hx).1; omega, hw.smw⟩
  have hwc : ∀ r ∈ s.rules, 0 ≤ r.c := fun r hr => (hw.rules r hr).1
  have HNe0 := Lib.hid fun W (hb : Below w.heap.size w W) => near16_some s rv zv lv evs 2100 W (hR.call hb) hw (by omega)
  have HLn := Lib.hid fun (hf : Src.Few s) a b (ha : -9223372036854775808 ≤ a ∧ a < 9223372036854775808) (hb' : -9223372036854775808 ≤ b ∧ b < 9223372036854775808) W (hb : Below w.heap.size w W) => lnOf_any s z a b rv zv lv evs W (hR.call hb) (hsz hf) (hW.below hb) (hA.below hb) hz ha hb' hcc hwc
  have HRu := Lib.hid fun (hf : Src.Few s) (h : Vd.well s = true) => Eg.rules_ok2 h (hsz hf).lims.rules
  obtain ⟨rA, rc, rfl, _⟩ := hR.rules
  obtain ⟨zA, zc, rfl, _⟩ := hR.zones
  obtain ⟨lA, lc, rfl, _⟩ := hR.links
  obtain ⟨n1, hn1⟩ : ∃ n, s.rules.length = n := ⟨_, rfl⟩
  obtain ⟨n2, hn2⟩ : ∃ n, s.zones.length = n := ⟨_, rfl⟩
  obtain ⟨n3, hn3⟩ : ∃ n, s.links.length = n := ⟨_, rfl⟩
  rw [hn1, hn2, hn3] at HNe0 HLn
  rw [hn1, hn2, hn3]
  obtain ⟨W1, hW1⟩ : ∃ W, w.alloc (.cells #[.slice rA n1 rc, .slice zA n2 zc, .slice lA n3 lc] 26) = W := ⟨_, rfl⟩
  have hb1 : Below w.heap.size w W1 := by rw [← hW1]; exact (Below.refl _ _).alloc (Nat.le_refl _) _
  have hA1 : At W1 w.heap.size [.slice rA n1 rc, .slice zA n2 zc, .slice lA n3 lc] := by rw [← hW1]; exact At.new _ _ _
  have HBg := Lib.hid (begins9_any W1 (hW.below hb1) (hA.below hb1))
  have HA1 := Lib.hid hA1
  have HB1 := Lib.hid hb1
  have HW1 := Lib.hid hW1
  obtain ⟨X, hX⟩ : ∃ x, IntKind.i64.wrap (hi - lo) = x := ⟨_, rfl⟩
  have HX := Lib.hid hX
  clear hn1 hn2 hn3 hb1 hA1 hW1 hR hw hW hA hcc hsz hwc
  go_enter Tryz.func6, Tryz.ntmps6
  go_wp2_with fail
  rw [HW1.out]
  refine HBg.out.mono ?_
  rintro e w2 ⟨rfl, hb2⟩
  have HA2 := Lib.hid (HA1.out.call hb2)
  have HB2 := Lib.hid (HB1.out.trans (hb2.mono HB1.out.size))
  obtain ⟨b0, b1, b2, _⟩ := HA2.out.three
  have zz := HA2.out.lt
  clear hb2
  have HNe := Lib.hid (HNe0.out w2 HB2.out)
  go_wp2_with fail
  refine HNe.out.mono ?_
  rintro e w3 ⟨he, hb3⟩
  have HA3 := Lib.hid (HA2.out.call hb3)
  have HB3 := Lib.hid (HB2.out.trans (hb3.mono HB2.out.size))
  clear hb3 b0 b1 b2 zz HNe
  obtain ⟨b0, b1, b2, _⟩ := HA3.out.three
  have zz := HA3.out.lt
  rcases he with rfl | ⟨rfl, hfew⟩
  · clear hX
    go_wp2
    go_ret
    exact ⟨rfl, HB3.out⟩
  have hc : lo < 1600 ∨ (¬ lo < 1600 ∧ 2098 < hi) ∨ (¬ lo < 1600 ∧ ¬ 2098 < hi ∧ 30 < X) ∨ (¬ lo < 1600 ∧ ¬ 2098 < hi ∧ ¬ 30 < X ∧ mid < lo) ∨ (¬ lo < 1600 ∧ ¬ 2098 < hi ∧ ¬ 30 < X ∧ ¬ mid < lo ∧ hi ≤ mid) ∨ (¬ lo < 1600 ∧ ¬ 2098 < hi ∧ ¬ 30 < X ∧ ¬ mid < lo ∧ ¬ hi ≤ mid) := by omega
  rcases hc with k1 | ⟨k1, k2⟩ | ⟨k1, k2, k3⟩ | ⟨k1, k2, k3, k4⟩ | ⟨k1, k2, k3, k4, k5⟩ | ⟨k1, k2, k3, k4, k5⟩
  · go_wp2
    go_ret
    exact ⟨rfl, HB3.out⟩
  · go_wp2
    go_ret
    exact ⟨rfl, HB3.out⟩
  · go_wp2
    go_ret
    exact ⟨rfl, HB3.out⟩
  · go_wp2
    go_ret
    exact ⟨rfl, HB3.out⟩
  · go_wp2
    go_ret
    exact ⟨rfl, HB3.out⟩
  have hXe : X = hi - lo := by rw [← hX, IntKind.wrap_i64]; omega
  have hin : Ln.InY lo hi := by unfold Ln.InY; omega
  have hin1 : Ln.InY lo mid := by unfold Ln.InY; omega
  have hin2 : Ln.InY (mid + 1) hi := by unfold Ln.InY; omega
  have HI := Lib.hid (And.intro hin (And.intro hin1 hin2))
  have wm : IntKind.i64.wrap (mid + 1) = mid + 1 := by rw [IntKind.wrap_i64]; omega
  have HF := Lib.hid hfew
  have HC1 := Lib.hid (HLn.out hfew lo hi hlo hhi w3 HB3.out)
  clear hin hin1 hin2 hfew hXe
  go_wp2_with fail
  refine HC1.out.mono ?_
  rintro e w4 ⟨hb4, h4⟩
  have HA4 := Lib.hid (HA3.out.call hb4)
  have HB4 := Lib.hid (HB3.out.trans (hb4.mono HB3.out.size))
  clear hb4 b0 b1 b2 zz HC1
  obtain ⟨b0, b1, b2, _⟩ := HA4.out.three
  have zz := HA4.out.lt
  have HC2 := Lib.hid (HLn.out HF.out lo mid hlo hmid w4 HB4.out)
  rcases h4 with ⟨hno, rfl⟩ | ⟨hwe, hno, rfl⟩ | ⟨_, _, _, hx, _⟩ | ⟨x, v, hwe, hx, _, rfl, ho4⟩
  · skip
    go_wp2_with fail
    refine HC2.out.mono ?_
    rintro e w5 ⟨hb5, h5⟩
    obtain rfl := Tp.bad h5 hno
    have HA5 := Lib.hid (HA4.out.call hb5)
    have HB5 := Lib.hid (HB4.out.trans (hb5.mono HB4.out.size))
    clear hb5 b0 b1 b2 zz HC2 h5
    obtain ⟨b0, b1, b2, _⟩ := HA5.out.three
    have zz := HA5.out.lt
    have HC3 := Lib.hid (HLn.out HF.out (mid + 1) hi (by omega) hhi w5 HB5.out)
    go_wp2_with fail
    refine HC3.out.mono ?_
    rintro e w6 ⟨hb6, h6⟩
    obtain rfl := Tp.bad h6 hno
    have HB6 := Lib.hid (HB5.out.trans (hb6.mono HB5.out.size))
    clear hb6 b0 b1 b2 zz HC3 h6 hno
    go_wp2
    go_ret
    exact ⟨rfl, HB6.out⟩
  · skip
    go_wp2_with fail
    refine HC2.out.mono ?_
    rintro e w5 ⟨hb5, h5⟩
    obtain rfl := Tp.gone h5 hwe hno
    have HA5 := Lib.hid (HA4.out.call hb5)
    have HB5 := Lib.hid (HB4.out.trans (hb5.mono HB4.out.size))
    clear hb5 b0 b1 b2 zz HC2 h5
    obtain ⟨b0, b1, b2, _⟩ := HA5.out.three
    have zz := HA5.out.lt
    have HC3 := Lib.hid (HLn.out HF.out (mid + 1) hi (by omega) hhi w5 HB5.out)
    go_wp2_with fail
    refine HC3.out.mono ?_
    rintro e w6 ⟨hb6, h6⟩
    obtain rfl := Tp.gone h6 hwe hno
    have HB6 := Lib.hid (HB5.out.trans (hb6.mono HB5.out.size))
    clear hb6 b0 b1 b2 zz HC3 h6 hno
    go_wp2
    go_ret
    exact ⟨rfl, HB6.out⟩
  · exact absurd HI.out.1 hx
  obtain ⟨vA, vc, rfl, hv1, hv2⟩ := own_slice_cap ho4
  go_wp2_with fail
  refine HC2.out.mono ?_
  rintro e w5 ⟨hb5, h5⟩
  obtain ⟨v5, rfl, ho5⟩ := Tp.got h5 hwe hx HI.out.2.1
  obtain ⟨uA, uc, rfl, hu1, hu2⟩ := own_slice_cap ho5
  have HA5 := Lib.hid (HA4.out.call hb5)
  have HB5 := Lib.hid (HB4.out.trans (hb5.mono HB4.out.size))
  have HR5 := Lib.hid (((Reads.of_own ho4).below hb5).more hb5.size)
  clear hb5 b0 b1 b2 zz HC2 h5
  obtain ⟨b0, b1, b2, _⟩ := HA5.out.three
  have zz := HA5.out.lt
  have HC3 := Lib.hid (HLn.out HF.out (mid + 1) hi (by omega) hhi w5 HB5.out)
  go_wp2_with fail
  refine HC3.out.mono ?_
  rintro e w6 ⟨hb6, h6⟩
  obtain ⟨v6, rfl, ho6⟩ := Tp.got h6 hwe hx HI.out.2.2
  obtain ⟨tA, tc, rfl, ht1, ht2⟩ := own_slice_cap ho6
  have HB6 := Lib.hid (HB5.out.trans (hb6.mono HB5.out.size))
  have HR6a := Lib.hid ((HR5.out.below hb6).more hb6.size)
  have HR6b := Lib.hid (((Reads.of_own ho5).below hb6).more hb6.size)
  have HR6c := Lib.hid (Reads.of_own ho6)
  have hzo := Eg.zone_ok hwe (show x ∈ s.zones by
    unfold Eg.zoneAt at hx
    split at hx
    · exact List.mem_of_getElem? hx
    · cases hx)
  have hRu := HRu.out HF.out hwe
  have hparts := Ln.parts hRu hzo HI.out.1 (show lo ≤ mid by omega) (show mid < hi by omega)
  have hlenB := Tp.len_le hRu hzo HI.out.2.1
  have hlenC := Tp.len_le hRu hzo HI.out.2.2
  have hneB := Ln.lineOf_ne hRu hzo HI.out.2.1
  have hneC := Ln.lineOf_ne hRu hzo HI.out.2.2
  obtain ⟨LA, hLA⟩ : ∃ L, Ln.lineOf s x.2 lo hi = L := ⟨_, rfl⟩
  obtain ⟨LB, hLB⟩ : ∃ L, Ln.lineOf s x.2 lo mid = L := ⟨_, rfl⟩
  obtain ⟨LC, hLC⟩ : ∃ L, Ln.lineOf s x.2 (mid + 1) hi = L := ⟨_, rfl⟩
  rw [hLA, hLB, hLC] at hparts
  rw [hLB] at hneB HR6b hu1 hlenB
  rw [hLC] at hneC HR6c ht1 hlenC
  rw [hLA] at HR6a hv1
  rw [hLA, hLB, hLC]
  clear hb6 b0 b1 b2 zz HC3 h6 ho4 ho5 ho6 hzo hRu HR5 hLA hLB hLC hwe hx
  obtain ⟨na, hna⟩ : ∃ n, LA.length = n := ⟨_, rfl⟩
  obtain ⟨x0, C, rfl⟩ : ∃ x C, LC = x :: C := List.exists_cons_of_ne_nil hneC
  obtain ⟨B, l, rfl⟩ : ∃ B l, LB = B ++ [l] := ⟨LB.dropLast, LB.getLast hneB, (List.dropLast_concat_getLast hneB).symm⟩
  rw [Ln.join_end] at hparts
  simp only at hparts
  obtain ⟨nb, hnb⟩ : ∃ n, B.length = n := ⟨_, rfl⟩
  obtain ⟨nc, hnc⟩ : ∃ n, C.length = n := ⟨_, rfl⟩
  have hlb : (B ++ [l]).length = nb + 1 := by rw [List.length_append, hnb]; rfl
  have hlc : (x0 :: C).length = nc + 1 := by rw [List.length_cons, hnc]
  rw [hna] at HR6a hv1
  rw [hlb] at HR6b hu1 hlenB
  rw [hlc] at HR6c ht1 hlenC
  rw [hna, hlb, hlc]
  have HNa := Lib.hid hna
  have HNb := Lib.hid hlb
  have HNc := Lib.hid hlc
  have HNb2 := Lib.hid hnb
  have HPt := Lib.hid hparts
  unfold maxLen at hu2 hv2 ht2
  have q1' : ((nb : Int) + 1 == 0) = false := by rw [beq_eq_false_iff_ne]; omega
  have q2' : ((nc : Int) + 1 == 0) = false := by rw [beq_eq_false_iff_ne]; omega
  have q1'' : ¬ (nb : Int) + 1 = 0 := by omega
  have q2'' : ¬ (nc : Int) + 1 = 0 := by omega
  have w3 : IntKind.i64.wrap ((nb : Int) + 1 - 1) = (nb : Int) := by rw [IntKind.wrap_i64]; omega
  have w3'' : IntKind.i64.wrap (nb : Int) = (nb : Int) := by rw [IntKind.wrap_i64]; omega
  have q1 : (((nb + 1 : Nat) : Int) == 0) = false := by rw [beq_eq_false_iff_ne]; omega
  have q2 : (((nc + 1 : Nat) : Int) == 0) = false := by rw [beq_eq_false_iff_ne]; omega
  have w3' : IntKind.i64.wrap (((nb + 1 : Nat) : Int) - 1) = (nb : Int) := by rw [IntKind.wrap_i64]; omega
  have q3 : (0 : Int) ≤ (nb : Int) := by omega
  have q4 : (nb : Int) < ((nb + 1 : Nat) : Int) := by omega
  obtain ⟨adb, l', rfl, hab, Hl, HLb⟩ := Ix.reads_cells (enc := Ln.Sp.cells) (m := 3) (fun _ => rfl) hlb HR6b.out (show nb < nb + 1 by omega)
  have hl' : l' = l := by
    have := Hl.out
    rw [List.getElem?_append_right (by omega), hnb, Nat.sub_self] at this
    exact (Option.some.inj this).symm
  subst hl'
  obtain ⟨adc, c', rfl, hac, Hc, HLc⟩ := Ix.reads_cells (enc := Ln.Sp.cells) (m := 3) (fun _ => rfl) hlc HR6c.out (show 0 < nc + 1 by omega)
  have hc' : c' = x0 := (Option.some.inj Hc.out).symm
  subst hc'
  have d0 : w6.cell? (adb.add (nb * 3)) = some (.int .i64 l'.fr) := HLb.out 0 _ rfl
  have d1 : w6.cell? ⟨(adb.add (nb * 3)).block, (adb.add (nb * 3)).off + 1, none⟩ = some (.int .i64 l'.off) := HLb.out 1 _ rfl
  have d2 : w6.cell? ⟨(adb.add (nb * 3)).block, (adb.add (nb * 3)).off + 2, none⟩ = some (.bool l'.dst) := HLb.out 2 _ rfl
  clear hna hlb hlc hnb hnc hparts hneB hneC Hl Hc hX k1 k2 k3 k4 k5 wm
  obtain ⟨W7, hW7⟩ : ∃ X, w6.alloc (.cells #[.int .i64 l'.fr, .int .i64 l'.off, .bool l'.dst] 71) = X := ⟨_, rfl⟩
  have hb7 : Below w6.heap.size w6 W7 := by rw [← hW7]; exact (Below.refl _ _).alloc (Nat.le_refl _) _
  have hA7 : At W7 w6.heap.size [.int .i64 l'.fr, .int .i64 l'.off, .bool l'.dst] := by rw [← hW7]; exact At.new _ _ _
  have e0 := hA7.cell 0 _ rfl
  have e1 := hA7.cell 1 _ rfl
  have e2 := hA7.cell 2 _ rfl
  have z7 := hA7.lt
  have x1 : W7.cell? ⟨adc.block, adc.off + 1, none⟩ = some (.int .i64 c'.off) := (hb7.cell (p := ⟨adc.block, adc.off + 1, none⟩) hac).trans (by have h := HLc.out 1 _ rfl; rw [Nat.zero_mul] at h; exact h)
  have x2 : W7.cell? ⟨adc.block, adc.off + 2, none⟩ = some (.bool c'.dst) := (hb7.cell (p := ⟨adc.block, adc.off + 2, none⟩) hac).trans (by have h := HLc.out 2 _ rfl; rw [Nat.zero_mul] at h; exact h)
  have HB7 := Lib.hid hb7
  have HW7 := Lib.hid hW7
  obtain ⟨i0, hi0, hs0, hs1, hs2⟩ := info_parts span_info
  have q5 : (0 : Int) < ((nc + 1 : Nat) : Int) := by omega
  clear hW7 hb7 hA7 HLb HLc
  go_wp2_with fail
  rw [HW7.out]
  by_cases ho : l'.off = c'.off
  · have p1 : (l'.off == c'.off) = true := by rw [beq_iff_eq]; exact ho
    by_cases hd : l'.dst = c'.dst
    · have p2 : (l'.dst == c'.dst) = true := by rw [beq_iff_eq]; exact hd
      go_quiet (fail)
      obtain ⟨Wd, hWd⟩ : ∃ W, W7.drewN nq = W := ⟨_, rfl⟩
      rw [hWd]
      have hbd : Below w6.heap.size w6 Wd := by rw [← hWd]; exact HB7.out.trans ((show Drew W7 (W7.drewN nq) from ⟨nq, rfl⟩).below _)
      have HBd := Lib.hid (HB6.out.trans (hbd.mono HB6.out.size))
      have HRa := Lib.hid ((HR6a.out.below hbd).more hbd.size)
      have HRb := Lib.hid ((HR6b.out.below hbd).more hbd.size)
      have hRc6 := (HR6c.out.below hbd).more hbd.size
      have HRc := Lib.hid (show Reads Wd Wd.heap.size 3 (if tc = 1 then some adc else some { block := adc.block, off := adc.off + 3 }) (nc) ((C).flatMap Ln.Sp.cells) from Tp.drop2 hRc6 HNc.out ht1)
      clear hRc6 hWd hbd d0 d1 d2 e0 e1 e2 z7 x1 x2 hac hab
      have hb0 : Below Wd.heap.size Wd (Wd.alloc (.cells #[] 71)) := (Below.refl _ _).alloc (Nat.le_refl _) _
      have HO0 := Lib.hid (World.ownsRow_lit (base := Wd.heap.size) (e := 71) (size := 3) Wd #[] 0 (Nat.le_refl _) (by decide) rfl)
      have hz0' := hb0.size
      have hBf : ∀ u ∈ (B ++ [l']).flatMap Ln.Sp.cells, u.oneCell' = true := Tp.cells_one _
      have hCf : ∀ u ∈ (C).flatMap Ln.Sp.cells, u.oneCell' = true := Tp.cells_one _
      have HB0 := Lib.hid hb0
      have HNm := Lib.hid (And.intro (show nb ≤ 400000000 by omega) (show nc ≤ 400000000 by omega))
      have hnm1 := HNm.out.1
      have hnm2 := HNm.out.2
      clear hb0
      go_wp2_with (first
        | (at_builtin; refine wpList_append_any _ rfl (.tmp 118) (.tmp 119) _ rfl Wd.heap.size 71 i0 _ 3 24 Tryz.underlying66 hi0 hs0 hs1 hs2 rfl (by decide) _ _ _ rfl HO0.out _ _ (nb + 1) uc _ rfl (HRb.out.below HB0.out) hBf (by unfold maxLen; omega) (by omega) hz0' ?_
           intro v8 w8 ho8 hg8 hat8
           rw [Nat.zero_add] at ho8
           have HB8 := Lib.hid (HB0.out.grown hg8 hz0' (fun k hk => (HO0.out.lt k hk).1))
           have HO8 := Lib.hid ho8
           have hz8 : Wd.heap.size ≤ w8.heap.size := HB8.out.size
           obtain ⟨rA8, rc8, rfl, hr81, hr82⟩ := own_slice_cap ho8
           clear ho8 hg8 hat8)
        | (at_builtin; refine wpList_append_any _ rfl (.tmp 120) (.tmp 121) _ rfl Wd.heap.size 71 i0 _ 3 24 Tryz.underlying66 hi0 hs0 hs1 hs2 rfl (by decide) _ _ _ rfl HO8.out _ _ (nc) _ _ rfl (HRc.out.below HB8.out) hCf (by unfold maxLen; omega) (by omega) hz8 ?_
           intro v9 w9 ho9 hg9 hat9
           obtain ⟨n9, hn9⟩ : ∃ n, nb + 1 + (nc) = n := ⟨_, rfl⟩
           rw [hn9] at ho9
           have HN9 := Lib.hid hn9
           have HB9 := Lib.hid (HB8.out.grown hg9 hz8 (fun k hk => (HO8.out.lt k hk).1))
           have HO9 := Lib.hid ho9
           obtain ⟨rA9, rc9, rfl, hr91, hr92⟩ := own_slice_cap ho9
           clear ho9 hg9 hat9 hn9)
        | (go_at_call 26
           have hRr := Reads.of_own HO9.out
           rw [show (#[] : Array Value).toList ++ (B ++ [l']).flatMap Ln.Sp.cells ++ (C).flatMap Ln.Sp.cells = (B ++ [l'] ++ (C)).flatMap Ln.Sp.cells by rw [List.flatMap_append (xs := B ++ [l'])]; rfl] at hRr
           refine (same18_any vA rA9 na n9 vc rc9 LA (B ++ [l'] ++ (C)) w9 (by unfold maxLen; omega) (by have := HN9.out; unfold maxLen; omega) HNa.out (by have h1 := HN9.out; have h2 := HNc.out; rw [List.length_cons] at h2; rw [List.length_append, HNb.out]; omega) ((HRa.out.below HB9.out).more HB9.out.size) hRr).mono ?_
           rintro e w10 ⟨rfl, hd10⟩
           have HB10 := Lib.hid (HBd.out.trans ((HB9.out.trans ((hd10.below _).mono HB9.out.size)).mono HBd.out.size))
           have hres : decide (LA = B ++ [l'] ++ (C)) = true := by
             rw [decide_eq_true_eq, HPt.out]
             rw [if_pos (Ln.alike_iff.2 ⟨ho, hd⟩)]
           rw [hres]
           clear hd10 hRr hres))
      all_goals
        go_ret
        exact ⟨rfl, HB10.out⟩
    · have p2 : (l'.dst == c'.dst) = false := by rw [beq_eq_false_iff_ne]; exact hd
      go_quiet (fail)
      obtain ⟨Wd, hWd⟩ : ∃ W, W7.drewN nq = W := ⟨_, rfl⟩
      rw [hWd]
      have hbd : Below w6.heap.size w6 Wd := by rw [← hWd]; exact HB7.out.trans ((show Drew W7 (W7.drewN nq) from ⟨nq, rfl⟩).below _)
      have HBd := Lib.hid (HB6.out.trans (hbd.mono HB6.out.size))
      have HRa := Lib.hid ((HR6a.out.below hbd).more hbd.size)
      have HRb := Lib.hid ((HR6b.out.below hbd).more hbd.size)
      have hRc6 := (HR6c.out.below hbd).more hbd.size
      have HRc := Lib.hid (show Reads Wd Wd.heap.size 3 (some adc) (nc + 1) ((c' :: C).flatMap Ln.Sp.cells) from hRc6)
      clear hRc6 hWd hbd d0 d1 d2 e0 e1 e2 z7 x1 x2 hac hab
      have hb0 : Below Wd.heap.size Wd (Wd.alloc (.cells #[] 71)) := (Below.refl _ _).alloc (Nat.le_refl _) _
      have HO0 := Lib.hid (World.ownsRow_lit (base := Wd.heap.size) (e := 71) (size := 3) Wd #[] 0 (Nat.le_refl _) (by decide) rfl)
      have hz0' := hb0.size
      have hBf : ∀ u ∈ (B ++ [l']).flatMap Ln.Sp.cells, u.oneCell' = true := Tp.cells_one _
      have hCf : ∀ u ∈ (c' :: C).flatMap Ln.Sp.cells, u.oneCell' = true := Tp.cells_one _
      have HB0 := Lib.hid hb0
      have HNm := Lib.hid (And.intro (show nb ≤ 400000000 by omega) (show nc ≤ 400000000 by omega))
      have hnm1 := HNm.out.1
      have hnm2 := HNm.out.2
      clear hb0
      go_wp2_with (first
        | (at_builtin; refine wpList_append_any _ rfl (.tmp 118) (.tmp 119) _ rfl Wd.heap.size 71 i0 _ 3 24 Tryz.underlying66 hi0 hs0 hs1 hs2 rfl (by decide) _ _ _ rfl HO0.out _ _ (nb + 1) uc _ rfl (HRb.out.below HB0.out) hBf (by unfold maxLen; omega) (by omega) hz0' ?_
           intro v8 w8 ho8 hg8 hat8
           rw [Nat.zero_add] at ho8
           have HB8 := Lib.hid (HB0.out.grown hg8 hz0' (fun k hk => (HO0.out.lt k hk).1))
           have HO8 := Lib.hid ho8
           have hz8 : Wd.heap.size ≤ w8.heap.size := HB8.out.size
           obtain ⟨rA8, rc8, rfl, hr81, hr82⟩ := own_slice_cap ho8
           clear ho8 hg8 hat8)
        | (at_builtin; refine wpList_append_any _ rfl (.tmp 120) (.tmp 121) _ rfl Wd.heap.size 71 i0 _ 3 24 Tryz.underlying66 hi0 hs0 hs1 hs2 rfl (by decide) _ _ _ rfl HO8.out _ _ (nc + 1) _ _ rfl (HRc.out.below HB8.out) hCf (by unfold maxLen; omega) (by omega) hz8 ?_
           intro v9 w9 ho9 hg9 hat9
           obtain ⟨n9, hn9⟩ : ∃ n, nb + 1 + (nc + 1) = n := ⟨_, rfl⟩
           rw [hn9] at ho9
           have HN9 := Lib.hid hn9
           have HB9 := Lib.hid (HB8.out.grown hg9 hz8 (fun k hk => (HO8.out.lt k hk).1))
           have HO9 := Lib.hid ho9
           obtain ⟨rA9, rc9, rfl, hr91, hr92⟩ := own_slice_cap ho9
           clear ho9 hg9 hat9 hn9)
        | (go_at_call 26
           have hRr := Reads.of_own HO9.out
           rw [show (#[] : Array Value).toList ++ (B ++ [l']).flatMap Ln.Sp.cells ++ (c' :: C).flatMap Ln.Sp.cells = (B ++ [l'] ++ (c' :: C)).flatMap Ln.Sp.cells by rw [List.flatMap_append (xs := B ++ [l'])]; rfl] at hRr
           refine (same18_any vA rA9 na n9 vc rc9 LA (B ++ [l'] ++ (c' :: C)) w9 (by unfold maxLen; omega) (by have := HN9.out; unfold maxLen; omega) HNa.out (by have h1 := HN9.out; have h2 := HNc.out; rw [List.length_cons] at h2; rw [List.length_append, HNb.out]; rw [List.length_cons]; omega) ((HRa.out.below HB9.out).more HB9.out.size) hRr).mono ?_
           rintro e w10 ⟨rfl, hd10⟩
           have HB10 := Lib.hid (HBd.out.trans ((HB9.out.trans ((hd10.below _).mono HB9.out.size)).mono HBd.out.size))
           have hres : decide (LA = B ++ [l'] ++ (c' :: C)) = true := by
             rw [decide_eq_true_eq, HPt.out]
             rw [if_neg (by rw [Ln.alike_iff]; exact fun h => hd h.2)]
           rw [hres]
           clear hd10 hRr hres))
      all_goals
        go_ret
        exact ⟨rfl, HB10.out⟩
  · have p1 : (l'.off == c'.off) = false := by rw [beq_eq_false_iff_ne]; exact ho
    go_quiet (fail)
    obtain ⟨Wd, hWd⟩ : ∃ W, W7.drewN nq = W := ⟨_, rfl⟩
    rw [hWd]
    have hbd : Below w6.heap.size w6 Wd := by rw [← hWd]; exact HB7.out.trans ((show Drew W7 (W7.drewN nq) from ⟨nq, rfl⟩).below _)
    have HBd := Lib.hid (HB6.out.trans (hbd.mono HB6.out.size))
    have HRa := Lib.hid ((HR6a.out.below hbd).more hbd.size)
    have HRb := Lib.hid ((HR6b.out.below hbd).more hbd.size)
    have hRc6 := (HR6c.out.below hbd).more hbd.size
    have HRc := Lib.hid (show Reads Wd Wd.heap.size 3 (some adc) (nc + 1) ((c' :: C).flatMap Ln.Sp.cells) from hRc6)
    clear hRc6 hWd hbd d0 d1 d2 e0 e1 e2 z7 x1 x2 hac hab
    have hb0 : Below Wd.heap.size Wd (Wd.alloc (.cells #[] 71)) := (Below.refl _ _).alloc (Nat.le_refl _) _
    have HO0 := Lib.hid (World.ownsRow_lit (base := Wd.heap.size) (e := 71) (size := 3) Wd #[] 0 (Nat.le_refl _) (by decide) rfl)
    have hz0' := hb0.size
    have hBf : ∀ u ∈ (B ++ [l']).flatMap Ln.Sp.cells, u.oneCell' = true := Tp.cells_one _
    have hCf : ∀ u ∈ (c' :: C).flatMap Ln.Sp.cells, u.oneCell' = true := Tp.cells_one _
    have HB0 := Lib.hid hb0
    have HNm := Lib.hid (And.intro (show nb ≤ 400000000 by omega) (show nc ≤ 400000000 by omega))
    have hnm1 := HNm.out.1
    have hnm2 := HNm.out.2
    clear hb0
    go_wp2_with (first
      | (at_builtin; refine wpList_append_any _ rfl (.tmp 118) (.tmp 119) _ rfl Wd.heap.size 71 i0 _ 3 24 Tryz.underlying66 hi0 hs0 hs1 hs2 rfl (by decide) _ _ _ rfl HO0.out _ _ (nb + 1) uc _ rfl (HRb.out.below HB0.out) hBf (by unfold maxLen; omega) (by omega) hz0' ?_
         intro v8 w8 ho8 hg8 hat8
         rw [Nat.zero_add] at ho8
         have HB8 := Lib.hid (HB0.out.grown hg8 hz0' (fun k hk => (HO0.out.lt k hk).1))
         have HO8 := Lib.hid ho8
         have hz8 : Wd.heap.size ≤ w8.heap.size := HB8.out.size
         obtain ⟨rA8, rc8, rfl, hr81, hr82⟩ := own_slice_cap ho8
         clear ho8 hg8 hat8)
      | (at_builtin; refine wpList_append_any _ rfl (.tmp 120) (.tmp 121) _ rfl Wd.heap.size 71 i0 _ 3 24 Tryz.underlying66 hi0 hs0 hs1 hs2 rfl (by decide) _ _ _ rfl HO8.out _ _ (nc + 1) _ _ rfl (HRc.out.below HB8.out) hCf (by unfold maxLen; omega) (by omega) hz8 ?_
         intro v9 w9 ho9 hg9 hat9
         obtain ⟨n9, hn9⟩ : ∃ n, nb + 1 + (nc + 1) = n := ⟨_, rfl⟩
         rw [hn9] at ho9
         have HN9 := Lib.hid hn9
         have HB9 := Lib.hid (HB8.out.grown hg9 hz8 (fun k hk => (HO8.out.lt k hk).1))
         have HO9 := Lib.hid ho9
         obtain ⟨rA9, rc9, rfl, hr91, hr92⟩ := own_slice_cap ho9
         clear ho9 hg9 hat9 hn9)
      | (go_at_call 26
         have hRr := Reads.of_own HO9.out
         rw [show (#[] : Array Value).toList ++ (B ++ [l']).flatMap Ln.Sp.cells ++ (c' :: C).flatMap Ln.Sp.cells = (B ++ [l'] ++ (c' :: C)).flatMap Ln.Sp.cells by rw [List.flatMap_append (xs := B ++ [l'])]; rfl] at hRr
         refine (same18_any vA rA9 na n9 vc rc9 LA (B ++ [l'] ++ (c' :: C)) w9 (by unfold maxLen; omega) (by have := HN9.out; unfold maxLen; omega) HNa.out (by have h1 := HN9.out; have h2 := HNc.out; rw [List.length_cons] at h2; rw [List.length_append, HNb.out]; rw [List.length_cons]; omega) ((HRa.out.below HB9.out).more HB9.out.size) hRr).mono ?_
         rintro e w10 ⟨rfl, hd10⟩
         have HB10 := Lib.hid (HBd.out.trans ((HB9.out.trans ((hd10.below _).mono HB9.out.size)).mono HBd.out.size))
         have hres : decide (LA = B ++ [l'] ++ (c' :: C)) = true := by
           rw [decide_eq_true_eq, HPt.out]
           rw [if_neg (by rw [Ln.alike_iff]; exact fun h => ho h.1)]
         rw [hres]
         clear hd10 hRr hres))
    all_goals
      go_ret
      exact ⟨rfl, HB10.out⟩
end Go.Proofs.YtolgigaolffenaaGreatDoor

/- TopParts at a row's arguments. -/
namespace Go.Proofs.YtolgigaolffenaaGreatDoor
open Go.RowKit

theorem topParts_row (s : Src.S) (rv zv lv : Value) (evs : List Value) (z lo mid hi : Int) (w : World) (hT : Wo w ∧ Wa w) (hR : Src.SrcR w w.heap.size s rv zv lv evs) (hw : Src.Wide s) (hz : (Lit.int .i64 z).wf = true) (hlo : (Lit.int .i64 lo).wf = true) (hmid : (Lit.int .i64 mid).wf = true) (hhi : (Lit.int .i64 hi).wf = true) :
    Calls Tryz.prog 6 #[.agg #[rv, zv, lv], .int .i64 z, .int .i64 lo, .int .i64 mid, .int .i64 hi] w fun e w' => e = .returned (.bool true) ∧ Below w.heap.size w w' :=
  topParts_any s z lo mid hi rv zv lv evs w hR hw hT.1 hT.2 (by have := i64_range hz; omega) (by have := i64_range hlo; omega) (by have := i64_range hmid; omega) (by have := i64_range hhi; omega)
end Go.Proofs.YtolgigaolffenaaGreatDoor

/-
  TopParts: whatever comes in, the law returns true and each argument reads as it did.
  Conditions: the listed package-level tables read as the program's text lays them (the card ties them to it).
-/
namespace Go.Proofs.YtolgigaolffenaaGreatDoor.topParts
open Go.ChangeShapes Go.WideShapes Go.ChangeAt Go.RowKit Go.Joins
open Go.ChangeMaps (open_string shut_string)

theorem u8_nonneg {c : Int} (h : (Lit.int .u8 c).wf = true) : 0 ≤ c := by
  have : 0 ≤ c ∧ c ≤ 255 := by simpa [Lit.wf, IntKind.min, IntKind.max, IntKind.signed, IntKind.bits] using h
  exact this.1
theorem own : ownKnob Tryz.prog.godebug = none := by kernel_rfl
theorem laidOut : laidOutB Tryz.prog = true := by kernel_rfl
theorem g_places : Tryz.prog.globalNamed "solstice/abbr.places" = some 1 := by kernel_rfl
theorem t_places : (Tryz.prog.globals[1]?).map (·.type) = some 272 := by kernel_rfl
theorem g_lens : Tryz.prog.globalNamed "solstice/civil.lengths" = some 0 := by kernel_rfl
theorem t_lens : (Tryz.prog.globals[0]?).map (·.type) = some 222 := by kernel_rfl

theorem wo_of {W : World} (h : laidMetH Tryz.prog Rows.topPartsRow.laid W) (hS : W.ShapedOpen Tryz.prog) : Wo W ∧ Wa W := by
  have h0 : laidMet Tryz.prog Rows.topPartsRow.laid W := h
  have h1 := h0.tail
  have x_lens : Lib.TabIs Tryz.prog W "solstice/civil.lengths" .i64 Cv.lens := Lib.tabIs_of_head g_lens t_lens Tryz.underlying222 Tryz.underlying3 (by kernel_rfl) (by kernel_rfl) h0
  have x_places := strs_of_head (ls := [[37, 115], [37, 122]]) (rest := []) g_places t_places Tryz.underlying272 Tryz.underlying9 (by kernel_rfl) (by kernel_rfl) h1
  exact ⟨⟨fun k hk => x_lens.cell g_lens k hk, Tryz.laysM145.s1_3 W hS⟩, ⟨x_places 0 _ rfl, x_places 1 _ rfl, Tryz.laysM145.s1_3 W hS⟩⟩

noncomputable def laidWorld (os : Os) : World := World.doorLaid Tryz.prog 4000 os
theorem laid_met (os : Os) : laidMet Tryz.prog Rows.topPartsRow.laid ((laidWorld os).forCall (fun _ _ => 0) ⟨#[], #[.agg #[.slice none 0 0, .slice none 0 0, .slice none 0 0], .int .i64 0, .int .i64 0, .int .i64 0, .int .i64 0], []⟩).memory :=
  laidMet_of_run' 8 (by kernel_rfl) (by kernel_rfl)
theorem reads (os : Os) {H : Type} (enc : TypeId × Value → H) : ∃ places, DataW.whole enc Tryz.prog ((laidWorld os).forCall (fun _ _ => 0) ⟨#[], #[.agg #[.slice none 0 0, .slice none 0 0, .slice none 0 0], .int .i64 0, .int .i64 0, .int .i64 0, .int .i64 0], []⟩).memory Tryz.f6.params.toList Rows.topPartsSpec.vars false #[Value.agg #[.slice none 0 0, .slice none 0 0, .slice none 0 0], .int .i64 0, .int .i64 0, .int .i64 0, .int .i64 0].toList 8 = some ([.agg [.nil, .nil, .nil], .lit (.int .i64 0), .lit (.int .i64 0), .lit (.int .i64 0), .lit (.int .i64 0)], [], places) :=
  ⟨[], by kernel_rfl⟩

set_option maxRecDepth 100000 in
set_option maxHeartbeats 4000000 in
theorem contract (H : Type) (enc : TypeId × Value → H) (W : World) (base : Nat) (args : Array Value) (ds gs : List (DataW H)) (before : List MemPlace)
    (hval : ∀ (j : Nat) t v, Tryz.f6.params[j]? = some t → args[j]? = some v → Value.okWide Tryz.prog W .any base t v)
    (hW : DataW.Whole enc Tryz.prog Tryz.f6.params.toList Rows.topPartsSpec.vars false W args.toList ds gs before) (hL : laidMetH Tryz.prog Rows.topPartsRow.laid W) (hS : W.ShapedOpen Tryz.prog) :
    Calls Tryz.prog 6 args W fun e W' => ∃ v, e = .returned v ∧ Rows.topPartsSpec.post enc Tryz.prog Tryz.f6 false true false false W args v W' := by
  have hW' := hW
  obtain ⟨p, q, hA0, hV, rfl, hfz, hnd⟩ := hW
  have hA : DataW.TrodAll enc Tryz.prog W 0 (fun _ => true) true Tryz.f6.params.toList args.toList ds p := hA0
  rw [Tryz.params6] at hA hval
  obtain ⟨v0, vs0, d0, ds0, p0, q0, hargs, rfl, rfl, h0, r0⟩ := trodAll_cons hA
  obtain ⟨v1, vs1, d1, ds1, p1, q1, rfl, rfl, rfl, h1, r1⟩ := trodAll_cons r0
  obtain ⟨v2, vs2, d2, ds2, p2, q2, rfl, rfl, rfl, h2, r2⟩ := trodAll_cons r1
  obtain ⟨v3, vs3, d3, ds3, p3, q3, rfl, rfl, rfl, h3, r3⟩ := trodAll_cons r2
  obtain ⟨v4, vs4, d4, ds4, p4, q4, rfl, rfl, rfl, h4, r4⟩ := trodAll_cons r3
  obtain ⟨rfl, rfl, rfl⟩ := trodAll_nil r4
  obtain rfl : args = #[v0, v1, v2, v3, v4] := by cases args; simp_all
  obtain ⟨rfl, rfl⟩ := trodVars_none hV
  have k0 := h0
  have lt0 : ∀ x ∈ p0, x.block < W.heap.size := by obtain ⟨m, hm⟩ := k0; exact DataW.trod_lt m _ _ _ hm
  obtain ⟨s0, rv0, zv0, lv0, evs0, rfl, hsr0, hsw0⟩ := open_source (hval 0 26 v0 rfl rfl) h0
  obtain ⟨z, rfl, rfl, rfl, wz⟩ := open_int Tryz.underlying3 (hval 1 3 v1 rfl rfl) h1
  obtain ⟨lo, rfl, rfl, rfl, wlo⟩ := open_int Tryz.underlying3 (hval 2 3 v2 rfl rfl) h2
  obtain ⟨mid, rfl, rfl, rfl, wmid⟩ := open_int Tryz.underlying3 (hval 3 3 v3 rfl rfl) h3
  obtain ⟨hi, rfl, rfl, rfl, whi⟩ := open_int Tryz.underlying3 (hval 4 3 v4 rfl rfl) h4
  clear hA0
  refine (topParts_row s0 rv0 zv0 lv0 evs0 z lo mid hi W (wo_of hL hS) hsr0 hsw0 wz wlo wmid whi).mono fun e W' ⟨he, bel⟩ => ?_
  subst he
  exact ⟨_, rfl, _, _, _, [], _, [], hW', trodAll_mk1 (shut_bool Tryz.underlying4 _), (trodAll_cons_mk (Below.trod laidOut (by kernel_rfl) (of_decide_eq_true (by kernel_rfl)) k0 bel lt0) (trodAll_cons_mk (shut_int Tryz.underlying3 wz) (trodAll_cons_mk (shut_int Tryz.underlying3 wlo) (trodAll_cons_mk (shut_int Tryz.underlying3 wmid) (trodAll_cons_mk (shut_int Tryz.underlying3 whi) trodAll_mk0))))), rfl, bel.frame _, fun h => by cases h⟩

set_option maxRecDepth 100000 in
theorem lifted (os : Os) (started : os.Started) (H : Type) (enc : TypeId × Value → H) (F : Stop.Interp) :
    ReturnsInHanded {} Tryz.checked os 6 .any ((OpenSpec.ofChange Rows.topPartsSpec).preRow enc Tryz.prog Tryz.f6 Rows.topPartsRow.domain false Rows.topPartsRow.laid) (((OpenSpec.ofChange Rows.topPartsSpec).at F).post enc Tryz.prog Tryz.f6 false true false false) := by
  obtain ⟨places, hx⟩ := reads os enc
  refine returnsInHanded_of_row (C := Tryz.checked) (s := OpenSpec.ofChange Rows.topPartsSpec) own started (by kernel_rfl) Tryz.func6
    (witness_row_at (enc := enc) (C := Tryz.checked) false (laidWorld os) #[.agg #[.slice none 0 0, .slice none 0 0, .slice none 0 0], .int .i64 0, .int .i64 0, .int .i64 0, .int .i64 0] rfl (by kernel_rfl) (by kernel_rfl) (by kernel_rfl)
      (OpenSpec.preRow_of_cond 8 hx (by kernel_rfl) (fun k hk => by cases hk) (by kernel_rfl) (laid_met os))) ?_
  intro W base args ds gs before hval hW _ _ _ hL hS _
  exact contract H enc W base args ds gs before hval hW hL hS

theorem said : Rows.TopPartsSaid :=
  OpenClaim.holds_of_cond 6 Tryz.f6 rfl rfl rfl rfl rfl rfl rfl ⟨rfl, rfl, rfl, rfl, rfl⟩ rfl rfl rfl rfl rfl (by kernel_rfl) Tryz.func6 (by kernel_rfl)
    (of_decide_eq_true (by kernel_rfl)) (by unfold Func.isWrapper; first | (rw [if_pos (by decide +kernel)]; kernel_rfl) | (rw [if_neg (by decide +kernel)]; exact ⟨rfl, rfl⟩))
    (fun os started H enc _ F => by rw [OpenClaim.pre_eq_preRow]; exact lifted os started H enc F)

theorem plain (f : FuncId) (fn : Func) (hf : Tryz.pinned.checked.prog.funcNamed "solstice/solsticetop.TopParts" = some f) (hfn : Tryz.pinned.checked.prog.funcs[f]? = some fn) :
    false = Tryz.pinned.checked.prog.looks [] ∧ ∀ (j : Nat) t, fn.params[j]? = some t → Tryz.pinned.checked.prog.wantsStandIn t = false := by
  obtain rfl : f = 6 := Option.some.inj ((show Tryz.prog.funcNamed "solstice/solsticetop.TopParts" = some 6 by kernel_rfl).symm.trans hf) |>.symm
  obtain rfl : fn = Tryz.f6 := (Option.some.inj (Tryz.func6.symm.trans hfn)).symm
  refine ⟨by kernel_rfl, fun j t ht => ?_⟩
  rw [Tryz.params6] at ht
  have hm : t ∈ [26, 3] := by
    have := Array.mem_of_getElem? ht
    simp at this ⊢
    omega
  simp only [List.mem_cons, List.not_mem_nil, or_false] at hm
  rcases hm with rfl | rfl
  · exact (show Tryz.prog.wantsStandIn 26 = false by kernel_rfl)
  · exact (show Tryz.prog.wantsStandIn 3 = false by kernel_rfl)

theorem card : Rows.TopPartsCardSaid :=
  Claim7.holds_tied_plain_at .later [] _ _ _ _ said (fun _ h => by cases h) (by kernel_rfl) (fun _ h => by cases h) topParts_row_tie rfl ⟨rfl, rfl⟩ (by kernel_rfl) rfl plain (by kernel_rfl)
end Go.Proofs.YtolgigaolffenaaGreatDoor.topParts
