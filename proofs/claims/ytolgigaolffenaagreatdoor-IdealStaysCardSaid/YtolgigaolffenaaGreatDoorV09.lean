/- IdealStays: the walk. -/
import Derived.Test.YtolgigaolffenaaGreatDoorQ01
import Derived.Test.YtolgigaolffenaaGreatDoorQ02
import Derived.Test.YtolgigaolffenaaGreatDoorQ03
import Derived.Test.YtolgigaolffenaaGreatDoorQ04
import Derived.Test.YtolgigaolffenaaGreatDoorQ05
import Derived.Test.YtolgigaolffenaaGreatDoorQ06
import Derived.Test.YtolgigaolffenaaGreatDoorQ07
import Derived.Test.YtolgigaolffenaaGreatDoorQ08
import Derived.Test.YtolgigaolffenaaGreatDoorQ09
import Derived.Test.YtolgigaolffenaaGreatDoorQ10
import Derived.Test.YtolgigaolffenaaGreatDoorQ11
import Derived.Test.YtolgigaolffenaaGreatDoorQ12
import Derived.Test.YtolgigaolffenaaGreatDoorQ13
import Derived.Test.YtolgigaolffenaaGreatDoorQ14
import Derived.Test.YtolgigaolffenaaGreatDoorQ15
import Derived.Test.YtolgigaolffenaaGreatDoorQ16
import Derived.Test.YtolgigaolffenaaGreatDoorQ17
import Derived.Test.YtolgigaolffenaaGreatDoorQ18
import Derived.Test.YtolgigaolffenaaGreatDoorQ19
import Derived.Test.YtolgigaolffenaaGreatDoorQ20
import Derived.Test.YtolgigaolffenaaGreatDoorQ21
import Derived.Test.YtolgigaolffenaaGreatDoorQ22
import Derived.Test.YtolgigaolffenaaGreatDoorQ23
import Derived.Test.YtolgigaolffenaaGreatDoorQ24
import Derived.Test.YtolgigaolffenaaGreatDoorQ25
import Derived.Test.YtolgigaolffenaaGreatDoorQ26
import Derived.Test.YtolgigaolffenaaGreatDoorQ27
import Derived.Test.YtolgigaolffenaaGreatDoorQ29
import Derived.Test.YtolgigaolffenaaGreatDoorQ32
import Derived.Test.YtolgigaolffenaaGreatDoorQ36
import Derived.Test.YtolgigaolffenaaGreatDoorV08
import Derived.Test.YtolgigaolffenaaGreatDoorCards
import Derived.Test.YtolgigaolffenaaGreatDoorTie
import Derived.ProofKit
import Derived.OpenShut
import Derived.ShutString
import Derived.ChangeOld
import Derived.LaidMore
import Derived.Stop.LaidErr
import Derived.Deep.DeepHandedRow
import Derived.Lib.LaidTab
import Derived.Lib.SmallJoins

namespace Go.Proofs.YtolgigaolffenaaGreatDoor
open Go.RowKit Go.Shelf

theorem srcRules_nl (s : Src.S) (rv zv lv : Value) (evs : List Value) (name : ByteArray) (nl : Nat) (hn : (Src.ofName name s.rules).length = nl) (w : World) (hR : Src.SrcR w w.heap.size s rv zv lv evs) (hL : s.rules.length ≤ 4096) :
    Calls Tryz.prog 18 #[.agg #[rv, zv, lv], .string name] w fun e w' => ∃ v, e = .returned v ∧ Below w.heap.size w w' ∧ w'.ownsRow w.heap.size 75 11 v nl ((Src.ofName name s.rules).flatMap Ru.R.cells) := by
  subst hn
  exact srcRules_any s rv zv lv evs name w hR hL
theorem ocAll_any (rules : List Ru.R) (ru : ByteArray) (A : Option Addr) (n c : Nat) (w : World) (hn : (Src.ofName ru rules).length = n) (hR : Reads w w.heap.size 11 A n ((Src.ofName ru rules).flatMap Ru.R.cells)) (hr : Eg.RulesOk rules) (hW : Wo w) :
    Calls Tryz.prog 17 #[.slice A n c, .int .i64 1800, .int .i64 2110] w fun e w' => Below w.heap.size w w' ∧ ∃ v, e = .returned (.tuple #[v, .int .i64 0]) ∧ w'.ownsRow w.heap.size 62 5 v (Ln.ocAll rules ru).length ((Ln.ocAll rules ru).flatMap Oc.E.occ) := by
  subst hn
  unfold Ln.ocAll
  obtain ⟨lo, hlo⟩ : ∃ q : Int, 1800 = q := ⟨_, rfl⟩
  obtain ⟨hi, hhi⟩ : ∃ q : Int, 2110 = q := ⟨_, rfl⟩
  rw [hlo, hhi]
  refine (ocOfW_any _ A c lo hi w hR (hr.of ru).ok hW (hr.of ru).len (by omega) (by omega)).mono ?_
  rintro e w' ⟨hb', ⟨hbad, _⟩ | ⟨_, v, rfl, ho⟩⟩
  · exact absurd hbad (by omega)
  · exact ⟨hb', v, rfl, ho⟩
set_option maxHeartbeats 16000000 in
set_option maxRecDepth 200000 in
theorem idealStays_any (s : Src.S) (name : ByteArray) (t later : Int) (rv zv lv : Value) (evs : List Value) (w : World) (hR : Src.SrcR w w.heap.size s rv zv lv evs) (hw : Src.Wide s) (hW : Wo w) (hA : Wa w) (hnm : name.size ≤ maxLen) (ht : -9223372036854775808 ≤ t ∧ t < 9223372036854775808) (hla : 0 ≤ later ∧ later < 4294967296) :
    Calls Tryz.prog 3 #[.agg #[rv, zv, lv], .string name, .int .i64 t, .int .u32 later] w fun e w' => e = .returned (.bool true) ∧ Below w.heap.size w w' := by
  have hcc : ∀ x ∈ s.zones, ∀ e ∈ x.2, 0 ≤ e.u.c := fun x hx e he => ((hw.zones x hx).2 e he).1
  have hsz : Src.Few s → Vd.Sz s := fun hf => ⟨⟨by have := hf.nr; omega, by have := hf.nz; omega, by have := hf.nl; omega⟩, fun x hx => by have := (hf.zones x hx).1; omega, hw.smw⟩
  have hwc : ∀ r ∈ s.rules, 0 ≤ r.c := fun r hr => (hw.rules r hr).1
  have HNe0 := Lib.hid fun W (hb : Below w.heap.size w W) => near16_some s rv zv lv evs 2100 W (hR.call hb) hw (by omega)
  have HNm := Lib.hid fun (hf : Src.Few s) x t' (hx : x.size ≤ maxLen) (h1 : -9223372036854775808 ≤ t' ∧ t' < 9223372036854775808) W (hb : Below w.heap.size w W) => idNamed_any s x t' rv zv lv evs W (hR.call hb) (hsz hf) (hW.below hb) (hA.below hb) hx h1 hcc hwc
  have HAl := Lib.hid fun (hf : Src.Few s) (h1 : ∀ x ∈ Src.names s, Vd.Leads s x) (h2 : Vd.Leads s name) W (hb : Below w.heap.size w W) => linkAliases_any s rv zv lv evs name W (hR.call hb) (hsz hf).nm (hsz hf).lims (by have := hf.nz; omega) (by have := hf.nl; omega) hnm h1 h2
  have HLz := Lib.hid fun (hf : Src.Few s) W (hb : Below w.heap.size w W) => linkZone_any s rv zv lv evs name W (hR.call hb) (hsz hf).nm hnm
  have HEn := Lib.hid fun (hf : Src.Few s) z (h1 : -9223372036854775808 ≤ z ∧ z < 9223372036854775808) W (hb : Below w.heap.size w W) => ends_any s z rv zv lv evs W (hR.call hb) (hsz hf) (hW.below hb) (hA.below hb) h1 hcc
  have HRl := Lib.hid fun (hf : Src.Few s) nm nl (hn : (Src.ofName nm s.rules).length = nl) W (hb : Below w.heap.size w W) => srcRules_nl s rv zv lv evs nm nl hn W (hR.call hb) (hsz hf).lims.rules
  have HRu := Lib.hid fun (hf : Src.Few s) (h : Vd.well s = true) => Eg.rules_ok2 h (hsz hf).lims.rules
  have HNn := Lib.hid fun (hf : Src.Few s) (x : ByteArray) (hx : x ∈ Src.names s) => (show x.size ≤ maxLen by
    unfold Src.names at hx
    rcases List.mem_append.1 hx with hx | hx
    · exact (hsz hf).nm.zn x hx
    · exact (hsz hf).nm.ln x hx)
  have hlen : (s.zones.zip evs).length = s.zones.length := by rw [List.length_zip, hR.len]; omega
  have hers := hR.eras
  have hzn : ∀ k x, (s.zones.zip evs)[k]? = some x → s.zones[k]? = some x.1 ∧ x ∈ s.zones.zip evs := fun k x h => ⟨(List.getElem?_zip_eq_some.1 h).1, List.mem_of_getElem? h⟩
  obtain ⟨rA, rc, rfl, _⟩ := hR.rules
  obtain ⟨zA, zc, rfl, hz1, hzc, hrz⟩ := hR.zones
  obtain ⟨lA, lc, rfl, _⟩ := hR.links
  obtain ⟨n1, hn1⟩ : ∃ n, s.rules.length = n := ⟨_, rfl⟩
  obtain ⟨n2, hn2⟩ : ∃ n, s.zones.length = n := ⟨_, rfl⟩
  obtain ⟨n3, hn3⟩ : ∃ n, s.links.length = n := ⟨_, rfl⟩
  rw [hn1, hn2, hn3] at HNe0 HNm HAl HLz HEn HRl
  rw [hn2] at hlen hrz
  rw [hn1, hn2, hn3]
  obtain ⟨W1, hW1⟩ : ∃ W, w.alloc (.cells #[.slice rA n1 rc, .slice zA n2 zc, .slice lA n3 lc] 26) = W := ⟨_, rfl⟩
  have hb1 : Below w.heap.size w W1 := by rw [← hW1]; exact (Below.refl _ _).alloc (Nat.le_refl _) _
  have hA1 : At W1 w.heap.size [.slice rA n1 rc, .slice zA n2 zc, .slice lA n3 lc] := by rw [← hW1]; exact At.new _ _ _
  have HLv := Lib.hid (lives17 W1 (hW.below hb1) (hA.below hb1))
  have HA1 := Lib.hid hA1
  have HB1 := Lib.hid hb1
  have HW1 := Lib.hid hW1
  have HWo := Lib.hid hW
  have HWc := Lib.hid hwc
  have HN2 := Lib.hid hn2
  have HLen := Lib.hid hlen
  have HErs := Lib.hid hers
  have HZn := Lib.hid hzn
  have HRz := Lib.hid hrz
  have HNs := Lib.hid hnm
  obtain ⟨D, hD⟩ : ∃ x, later % 40000000 = x := ⟨_, rfl⟩
  have hD2 : 0 ≤ D ∧ D < 40000000 := by omega
  have hD3 : later.tmod 40000000 = D := by rw [Int.tmod_eq_emod_of_nonneg hla.1]; exact hD
  have hD4 : IntKind.u32.wrap D = D := by rw [IntKind.wrap_u32]; omega
  have hD5 : IntKind.i64.wrap D = D := by rw [IntKind.wrap_i64]; omega
  clear hn1 hn2 hn3 hb1 hA1 hW1 hR hw hW hA hcc hsz hwc hlen hers hzn hrz hnm
  go_enter Tryz.func3, Tryz.ntmps3
  go_wp2_with fail
  rw [HW1.out]
  refine HLv.out.mono ?_
  rintro e w2 ⟨rfl, hb2⟩
  have HA2 := Lib.hid (HA1.out.call hb2)
  have HB2 := Lib.hid (HB1.out.trans (hb2.mono HB1.out.size))
  obtain ⟨b0, b1, b2, _⟩ := HA2.out.three
  have zz := HA2.out.lt
  clear hb2
  have HNe := Lib.hid (HNe0.out w2 HB2.out)
  go_wp2_with fail
  refine HNe.out.mono ?_
  rintro e w3 ⟨he, hb3⟩
  have HA3 := Lib.hid (HA2.out.call hb3)
  have HB3 := Lib.hid (HB2.out.trans (hb3.mono HB2.out.size))
  clear hb3 b0 b1 b2 zz HNe
  obtain ⟨b0, b1, b2, _⟩ := HA3.out.three
  have zz := HA3.out.lt
  rcases he with rfl | ⟨rfl, hfew⟩
  · go_wp2
    go_ret
    exact ⟨rfl, HB3.out⟩
  have hc : 4070908800 < t ∨ (¬ 4070908800 < t ∧ t < -4070908800) ∨ (¬ 4070908800 < t ∧ ¬ t < -4070908800 ∧ (1000 : Int) < (name.size : Int)) ∨ (¬ 4070908800 < t ∧ ¬ t < -4070908800 ∧ ¬ (1000 : Int) < (name.size : Int)) := by omega
  rcases hc with k1 | ⟨k1, k2⟩ | ⟨k1, k2, k3⟩ | ⟨k1, k2, k3⟩
  · go_wp2
    go_ret
    exact ⟨rfl, HB3.out⟩
  · go_wp2
    go_ret
    exact ⟨rfl, HB3.out⟩
  · go_wp2
    go_ret
    exact ⟨rfl, HB3.out⟩
  have hT1 := Ln.inT_near (show -4070908800 ≤ t by omega) (show t ≤ 4110908800 by omega)
  have hT2 := Ln.inT_near (show -4070908800 ≤ t + D by omega) (show t + D ≤ 4110908800 by omega)
  have hu1 : IntKind.i64.wrap (t + D) = t + D := by rw [IntKind.wrap_i64]; omega
  have hu2 : wrap64 (t + D) = t + D := by unfold wrap64; omega
  rcases Ln.named_cases s name with ⟨er, her, hall⟩ | ⟨k, x, hwe, hld, hwk, hzk, hall⟩
  · have qer : (er != 0) = true := by simpa using her
    have HC1 : Hid (∀ W, Below w.heap.size w W → Calls Tryz.prog 12 #[.agg #[.slice rA n1 rc, .slice zA n2 zc, .slice lA n3 lc], .string name, .int .i64 t] W fun e w' => e = .returned (.tuple #[.agg #[.int .i64 0, .bool false, .string ⟨#[]⟩], .int .i64 er]) ∧ Below W.heap.size W w') := fun W hb => by
      have h := HNm.out hfew name t HNs.out (by omega) W hb
      rw [hall t hT1] at h
      exact h
    have HC2 : Hid (∀ W, Below w.heap.size w W → Calls Tryz.prog 12 #[.agg #[.slice rA n1 rc, .slice zA n2 zc, .slice lA n3 lc], .string name, .int .i64 (t + D)] W fun e w' => e = .returned (.tuple #[.agg #[.int .i64 0, .bool false, .string ⟨#[]⟩], .int .i64 er]) ∧ Below W.heap.size W w') := fun W hb => by
      have h := HNm.out hfew name (t + D) HNs.out (by omega) W hb
      rw [hall (t + D) hT2] at h
      exact h
    clear hall
    go_wp2_with fail
    refine (HC1.out w3 HB3.out).mono ?_
    rintro e w4 ⟨rfl, hb4⟩
    have HA4 := Lib.hid (HA3.out.call hb4)
    have HB4 := Lib.hid (HB3.out.trans (hb4.mono HB3.out.size))
    obtain ⟨V4, hV4⟩ : ∃ X, w4.alloc (.cells #[.int .i64 0, .bool false, .string ⟨#[]⟩] 31) = X := ⟨_, rfl⟩
    have hbV4 : Below w4.heap.size w4 V4 := by rw [← hV4]; exact (Below.refl _ _).alloc (Nat.le_refl _) _
    have HBV4 := Lib.hid (HB4.out.trans (hbV4.mono HB4.out.size))
    have HXV4 := Lib.hid (show At V4 w4.heap.size [.int .i64 0, .bool false, .string ⟨#[]⟩] from by rw [← hV4]; exact At.new _ _ _)
    have HEV4 := Lib.hid hV4
    have HAV4 := Lib.hid (HA4.out.call hbV4)
    clear hb4 b0 b1 b2 zz hV4 hbV4
    obtain ⟨b0, b1, b2, _⟩ := HA4.out.three
    have zz := HA4.out.lt
    go_wp2_with fail
    rw [HEV4.out]
    refine (HC2.out V4 HBV4.out).mono ?_
    rintro e w5 ⟨rfl, hb5⟩
    have HB5 := Lib.hid (HBV4.out.trans (hb5.mono HBV4.out.size))
    have HA5 := Lib.hid (HAV4.out.call hb5)
    have HX5 := Lib.hid (HXV4.out.call hb5)
    obtain ⟨V5, hV5⟩ : ∃ X, w5.alloc (.cells #[.int .i64 0, .bool false, .string ⟨#[]⟩] 31) = X := ⟨_, rfl⟩
    have hbV5 : Below w5.heap.size w5 V5 := by rw [← hV5]; exact (Below.refl _ _).alloc (Nat.le_refl _) _
    have HBV5 := Lib.hid (HB5.out.trans (hbV5.mono HB5.out.size))
    have HXV5 := Lib.hid (show At V5 w5.heap.size [.int .i64 0, .bool false, .string ⟨#[]⟩] from by rw [← hV5]; exact At.new _ _ _)
    have HEV5 := Lib.hid hV5
    have HAV5 := Lib.hid (HA5.out.call hbV5)
    have HXa := Lib.hid (HX5.out.call hbV5)
    clear hb5 b0 b1 b2 zz hV5 hbV5
    obtain ⟨b0, b1, b2, _⟩ := HA5.out.three
    have zz := HA5.out.lt
    obtain ⟨c0, c1, c2, _⟩ := HX5.out.three
    have zx := HX5.out.lt
    have hq : ∀ W, (Op.equalIn 10000 31 (.agg #[.int .i64 0, .bool false, .string ⟨#[]⟩]) (.agg #[.int .i64 0, .bool false, .string ⟨#[]⟩])).run Tryz.prog W = .ok true W := fun W => by kernel_rfl
    go_wp2
    go_ret
    rw [HEV5.out]
    exact ⟨rfl, HBV5.out⟩
  obtain ⟨SA, hSA⟩ : ∃ q, Ln.stAt s.rules x.2 t = q := ⟨_, rfl⟩
  obtain ⟨SB, hSB⟩ : ∃ q, Ln.stAt s.rules x.2 (t + D) = q := ⟨_, rfl⟩
  have HC1 : Hid (∀ W, Below w.heap.size w W → Calls Tryz.prog 12 #[.agg #[.slice rA n1 rc, .slice zA n2 zc, .slice lA n3 lc], .string name, .int .i64 t] W fun e w' => e = .returned (.tuple #[.agg #[.int .i64 SA.off, .bool SA.dst, .string SA.ab], .int .i64 0]) ∧ Below W.heap.size W w') := fun W hb => by
    have h := HNm.out hfew name t HNs.out (by omega) W hb
    rw [hall name t hT1 hwk, hSA] at h
    exact h
  have HC2 : Hid (∀ W, Below w.heap.size w W → Calls Tryz.prog 12 #[.agg #[.slice rA n1 rc, .slice zA n2 zc, .slice lA n3 lc], .string name, .int .i64 (t + D)] W fun e w' => e = .returned (.tuple #[.agg #[.int .i64 SB.off, .bool SB.dst, .string SB.ab], .int .i64 0]) ∧ Below W.heap.size W w') := fun W hb => by
    have h := HNm.out hfew name (t + D) HNs.out (by omega) W hb
    rw [hall name (t + D) hT2 hwk, hSB] at h
    exact h
  have HCn : Hid (∀ y W, y ∈ Src.names s → (Lk.walk s y).2 = (Lk.walk s name).2 → Below w.heap.size w W → Calls Tryz.prog 12 #[.agg #[.slice rA n1 rc, .slice zA n2 zc, .slice lA n3 lc], .string y, .int .i64 t] W fun e w' => e = .returned (.tuple #[.agg #[.int .i64 SA.off, .bool SA.dst, .string SA.ab], .int .i64 0]) ∧ Below W.heap.size W w') := fun y W hy hy2 hb => by
    have h := HNm.out hfew y t (HNn.out hfew y hy) (by omega) W hb
    rw [hall y t hT1 (by rw [hy2]; exact hwk), hSA] at h
    exact h
  have HC3 := Lib.hid fun W hb => HAl.out hfew (Vd.well_leads hwe) hld W hb
  go_wp2_with fail
  refine (HC1.out w3 HB3.out).mono ?_
  rintro e w4 ⟨rfl, hb4⟩
  have HA4 := Lib.hid (HA3.out.call hb4)
  have HB4 := Lib.hid (HB3.out.trans (hb4.mono HB3.out.size))
  obtain ⟨V4, hV4⟩ : ∃ X, w4.alloc (.cells #[.int .i64 SA.off, .bool SA.dst, .string SA.ab] 31) = X := ⟨_, rfl⟩
  have hbV4 : Below w4.heap.size w4 V4 := by rw [← hV4]; exact (Below.refl _ _).alloc (Nat.le_refl _) _
  have HBV4 := Lib.hid (HB4.out.trans (hbV4.mono HB4.out.size))
  have HXV4 := Lib.hid (show At V4 w4.heap.size [.int .i64 SA.off, .bool SA.dst, .string SA.ab] from by rw [← hV4]; exact At.new _ _ _)
  have HEV4 := Lib.hid hV4
  have HAV4 := Lib.hid (HA4.out.call hbV4)
  clear hb4 b0 b1 b2 zz hV4 hbV4
  obtain ⟨b0, b1, b2, _⟩ := HA4.out.three
  have zz := HA4.out.lt
  go_wp2_with fail
  rw [HEV4.out]
  refine (HC2.out V4 HBV4.out).mono ?_
  rintro e w5 ⟨rfl, hb5⟩
  have HB5 := Lib.hid (HBV4.out.trans (hb5.mono HBV4.out.size))
  have HA5 := Lib.hid (HAV4.out.call hb5)
  have HX5 := Lib.hid (HXV4.out.call hb5)
  obtain ⟨V5, hV5⟩ : ∃ X, w5.alloc (.cells #[.int .i64 SB.off, .bool SB.dst, .string SB.ab] 31) = X := ⟨_, rfl⟩
  have hbV5 : Below w5.heap.size w5 V5 := by rw [← hV5]; exact (Below.refl _ _).alloc (Nat.le_refl _) _
  have HBV5 := Lib.hid (HB5.out.trans (hbV5.mono HB5.out.size))
  have HXV5 := Lib.hid (show At V5 w5.heap.size [.int .i64 SB.off, .bool SB.dst, .string SB.ab] from by rw [← hV5]; exact At.new _ _ _)
  have HEV5 := Lib.hid hV5
  have HAV5 := Lib.hid (HA5.out.call hbV5)
  have HXa := Lib.hid (HX5.out.call hbV5)
  clear hb5 b0 b1 b2 zz hV5 hbV5
  obtain ⟨b0, b1, b2, _⟩ := HA5.out.three
  have zz := HA5.out.lt
  go_wp2_with fail
  rw [HEV5.out]
  refine (HC3.out V5 HBV5.out).mono ?_
  rintro e w6 ⟨⟨nA, ns, nc, rfl, hnl, hnr, hnn⟩, hb6⟩
  clear hD hD3 hD4 hD5 hu1 hu2
  obtain ⟨m, hm⟩ : ∃ m, ns.length = m := ⟨_, rfl⟩
  rw [hm] at hnl hnr
  rw [hm]
  have HB6 := Lib.hid (HBV5.out.trans (hb6.mono HBV5.out.size))
  have HA6 := Lib.hid (HAV5.out.call hb6)
  have HXa6 := Lib.hid (HXa.out.call hb6)
  have HXb6 := Lib.hid (HXV5.out.call hb6)
  have HNr := Lib.hid hnr
  have HNq := Lib.hid hnn
  have HM := Lib.hid hm
  have HHall := Lib.hid hall
  clear hb6 b0 b1 b2 zz hnr hnn hm hall HC1 HC2 HC3
  go_wp2_with fail
  go_loopw [85] (fun i wr => ∃ j : Nat, j ≤ m ∧ i = .int .i64 (j : Int) ∧ Hid (Below w6.heap.size w6 wr)) (fun i _ => m - (intOf i).toNat)
  case atStart => exact ⟨0, Nat.zero_le _, rfl, Below.refl _ _⟩
  case round =>
    obtain ⟨j, hj, rfl, HB⟩ := hrel
    have HAr := Lib.hid (HA6.out.call HB.out)
    have HXar := Lib.hid (HXa6.out.call HB.out)
    have HXbr := Lib.hid (HXb6.out.call HB.out)
    have HBr := Lib.hid (HB6.out.trans (HB.out.mono HB6.out.size))
    by_cases hlt : j < m
    · obtain ⟨y, hy⟩ : ∃ y, ns[j]? = some y := ⟨_, List.getElem?_eq_getElem (by rw [HM.out]; exact hlt)⟩
      obtain ⟨ad, u1, rfl, hab, hu, hcu⟩ := (HNr.out.below HB.out).at_ hlt
      have hu2 : u1 = .string y := by
        rw [List.getElem?_map, hy] at hu
        exact (Option.some.inj hu).symm
      rw [hu2] at hcu
      obtain ⟨hyn, hyw⟩ := HNq.out y (List.mem_of_getElem? hy)
      have HCy := Lib.hid (HCn.out y wr hyn hyw HBr.out)
      have q1 : (0 : Int) ≤ (j : Int) := by omega
      have q2 : (j : Int) < (m : Int) := by omega
      obtain ⟨b0, b1, b2, _⟩ := HAr.out.three
      have zz := HAr.out.lt
      clear hu hu2 hy hyn hyw
      go_wp2_with fail
      refine HCy.out.mono ?_
      rintro e w7 ⟨rfl, hb7⟩
      have HB7 := Lib.hid (HB.out.trans (hb7.mono HB.out.size))
      have HB8 := Lib.hid (HB7.out.alloc HB7.out.size (.cells #[.int .i64 SA.off, .bool SA.dst, .string SA.ab] 31))
      obtain ⟨c0, c1, c2, _⟩ := (HXar.out.call hb7).three
      have zx := (HXar.out.call hb7).lt
      have hq := state_yes SA
      clear hb7 b0 b1 b2 zz hcu
      go_wp2
      go_roundw
      case rel => exact ⟨j + 1, by omega, by go_num, HB8.out⟩
      case measure => simp [intOf]; omega
    · have q2 : ¬ (j : Int) < (m : Int) := by omega
      obtain ⟨b0, b1, b2, _⟩ := HAr.out.three
      have zz := HAr.out.lt
      obtain ⟨c0, c1, c2, _⟩ := HXar.out.three
      have zx := HXar.out.lt
      obtain ⟨d0, d1, d2, _⟩ := HXbr.out.three
      have zy := HXbr.out.lt
      by_cases hss : SA = SB
      · subst hss
        have hq := state_yes SA
        go_wp2
        go_ret
        exact ⟨rfl, HBr.out⟩
      have hq := state_no hss
      have hk : k < n2 := by
        rw [← HN2.out]
        exact (List.getElem?_eq_some_iff.1 hzk).1
      have HC4 := Lib.hid (HLz.out hfew wr HBr.out)
      rw [hwk] at HC4
      go_wp2_with fail
      refine HC4.out.mono ?_
      rintro e w8 ⟨rfl, hb8⟩
      have HB8 := Lib.hid (HBr.out.trans (hb8.mono HBr.out.size))
      have HA8 := Lib.hid (HAr.out.call hb8)
      have hn2b : n2 ≤ 12 := by rw [← HN2.out]; exact hfew.nz
      have HC5 := Lib.hid (HEn.out hfew (k : Int) (by omega) w8 HB8.out)
      clear hb8 b0 b1 b2 zz c0 c1 c2 zx d0 d1 d2 zy hq q2 HC4
      obtain ⟨b0, b1, b2, _⟩ := HA8.out.three
      have zz := HA8.out.lt
      go_wp2_with fail
      refine HC5.out.mono ?_
      rintro e w9 ⟨hb9, h9⟩
      have HB9 := Lib.hid (HB8.out.trans (hb9.mono HB8.out.size))
      have HA9 := Lib.hid (HA8.out.call hb9)
      clear hb9 b0 b1 b2 zz HC5
      have hzk2 : Eg.zoneAt s (k : Int) = some x := by
        unfold Eg.zoneAt
        rw [if_pos (by omega)]
        exact hzk
      rcases h9 with ⟨hno, _⟩ | ⟨_, hno, _⟩ | ⟨x', v, _, hx', rfl, hown⟩
      · rw [hwe] at hno
        cases hno
      · rw [hzk2] at hno
        cases hno
      rw [hzk2] at hx'
      obtain rfl := Option.some.inj hx'
      obtain ⟨adz, x1, rfl, hab, Hx1, HL⟩ := Ix.reads_cells (enc := Src.zc) (m := 2) (fun _ => rfl) HLen.out HRz.out hk
      obtain ⟨hzk3, hzm⟩ := HZn.out k x1 Hx1.out
      obtain rfl : x1.1 = x := by rw [hzk3] at hzk; exact Option.some.inj hzk
      obtain ⟨eA, ec, he2, hmec, hec, hre⟩ := HErs.out x1 hzm
      obtain ⟨zb, hzb⟩ : ∃ t, Src.bts x1.1.1 = t := ⟨_, rfl⟩
      have hRu := HRu.out hfew hwe
      have hzo := Eg.zone_ok hwe (List.mem_of_getElem? hzk3)
      have hstay := Ln.stays hRu hzo (show -4070908800 ≤ t by omega) (show t ≤ t + D by omega) (by omega) (by rw [hSA, hSB]; exact hss)
      obtain ⟨es, hes⟩ : ∃ l, x1.1.2 = l := ⟨_, rfl⟩
      rw [hes] at he2 hre hzo hmec hown hstay
      obtain ⟨m0, hm0⟩ : ∃ m0, es.length = m0 + 1 := ⟨es.length - 1, by have := hzo.len.1; omega⟩
      have hm63 : m0 ≤ 63 := by have := hzo.len.2; omega
      rw [hm0] at he2 hre hmec
      unfold maxLen at hec
      obtain ⟨L, hL⟩ : ∃ L, Eg.ends s.rules es = L := ⟨_, rfl⟩
      have hLl : L.length = m0 := by rw [← hL, Eg.ends_len, hm0]; rfl
      rw [hL] at hown hstay
      rw [hLl] at hown
      obtain ⟨vA, vc, rfl, hv1, hv2⟩ := own_slice_cap hown
      have hRv := Reads.of_own hown
      unfold maxLen at hv2
      have HHo : Hid (∀ W t, Below w9.heap.size w9 W → Calls Tryz.prog 16 #[.slice vA m0 vc, .int .i64 t] W fun r w' => r = .returned (.int .i64 (Ln.hold L t : Int)) ∧ Below W.heap.size W w') := fun W t hb => holds_any L t vA m0 vc W hLl (by omega) ((hRv.below hb).more hb.size)
      have HZc : Hid (∀ W, Below w.heap.size w W → W.cell? (adz.add (k * 2)) = some (.string zb) ∧ W.cell? ⟨(adz.add (k * 2)).block, (adz.add (k * 2)).off + 1, none⟩ = some (.slice eA (m0 + 1) ec)) := fun W hb => by
        have hg := hb.block (adz.add (k * 2)).block (by rw [block_of_add]; exact hab)
        exact ⟨(World.cell?_of_block hg).trans (by rw [← hzb]; exact HL.out 0 _ rfl), (World.cell?_of_block (by exact hg)).trans (by rw [← he2]; exact HL.out 1 _ rfl)⟩
      have hhl : Ln.hold L t ≤ m0 := by rw [← hLl]; exact Ln.hold_le L t
      obtain ⟨h1, hh1⟩ : ∃ h, Ln.hold L t = h := ⟨_, rfl⟩
      obtain ⟨h2, hh2⟩ : ∃ h, Ln.hold L (t + D) = h := ⟨_, rfl⟩
      rw [hh1] at hstay hhl
      rw [hh2] at hstay
      have HC6 := Lib.hid (HHo.out w9 t (Below.refl _ _))
      have HC7 := Lib.hid fun W hb => HHo.out W (t + D) hb
      rw [hh1] at HC6
      rw [hh2] at HC7
      have HRe := Lib.hid hre
      have HM0 := Lib.hid hm0
      have HSt := Lib.hid hstay
      have HRk := Lib.hid hRu
      have q1 : (0 : Int) ≤ (k : Int) := by omega
      have q2 : ¬ (k : Int) < 0 := by omega
      have q3 : (k : Int) < (n2 : Int) := by omega
      have q4 : ¬ (n2 : Int) ≤ (k : Int) := by omega
      have q5 : decide (n2 ≤ k) = false := by rw [decide_eq_false_iff_not]; omega
      have p1 : (0 : Int) ≤ (h1 : Int) := by omega
      have p2 : (h1 : Int) < ((m0 : Int) + 1) := by omega
      clear hzk hzk2 hzk3 hx' hown hRv Hx1 HL hzm he2 hre hzb hes hm0 hL hLl hh1 hh2 hRu hzo hstay hSA hSB hss hmec
      obtain ⟨b0, b1, b2, _⟩ := HA9.out.three
      have zz := HA9.out.lt
      go_wp2_with fail
      refine HC6.out.mono ?_
      rintro e wa ⟨rfl, hba⟩
      have HBa := Lib.hid hba
      clear hba
      go_wp2_with fail
      refine (HC7.out wa HBa.out).mono ?_
      rintro e wb ⟨rfl, hbb⟩
      have HBb := Lib.hid (HB9.out.trans ((HBa.out.trans (hbb.mono HBa.out.size)).mono HB9.out.size))
      have HAb := Lib.hid (HA9.out.call (HBa.out.trans (hbb.mono HBa.out.size)))
      clear hbb b0 b1 b2 zz q4 HC6 HC7 HBa
      rcases HSt.out with ⟨hne, hlt2⟩ | ⟨heq, e, he, hk2, hstd, o, hoM, ho1, ho2⟩
      · have r1 : ((h1 : Int) != (h2 : Int)) = true := by
          simp only [bne_iff_ne, ne_eq]
          omega
        have r2 : (h1 : Int) < (h2 : Int) := by omega
        go_wp2
        go_ret
        exact ⟨rfl, HBb.out⟩
      subst heq
      have hin := HRe.out.below HBb.out
      obtain ⟨ade, xe, rfl, habe, Hxe, HLe⟩ := Ix.reads_cells (enc := Er.E.cells) (m := 13) (fun _ => rfl) HM0.out hin (show h1 < m0 + 1 by omega)
      obtain rfl : xe = e := by
        have := Hxe.out
        rw [he] at this
        exact (Option.some.inj this).symm
      obtain ⟨std, ek, esv, ru, fm, en, ⟨y, mo, dk, dn, dd, sc, cc⟩⟩ := xe
      obtain rfl : ek = 2 := hk2
      simp only at hstd hoM ho1 ho2
      have y0 : wb.cell? (ade.add (h1 * 13)) = some (.int .i64 std) := HLe.out 0 _ rfl
      have y1 : wb.cell? ⟨(ade.add (h1 * 13)).block, (ade.add (h1 * 13)).off + 1, none⟩ = some (.int .u8 2) := HLe.out 1 _ rfl
      have y2 : wb.cell? ⟨(ade.add (h1 * 13)).block, (ade.add (h1 * 13)).off + 2, none⟩ = some (.int .i64 esv) := HLe.out 2 _ rfl
      have y3 : wb.cell? ⟨(ade.add (h1 * 13)).block, (ade.add (h1 * 13)).off + 3, none⟩ = some (.string ru) := HLe.out 3 _ rfl
      have y4 : wb.cell? ⟨(ade.add (h1 * 13)).block, (ade.add (h1 * 13)).off + 4, none⟩ = some (.string fm) := HLe.out 4 _ rfl
      have y5 : wb.cell? ⟨(ade.add (h1 * 13)).block, (ade.add (h1 * 13)).off + 5, none⟩ = some (.bool en) := HLe.out 5 _ rfl
      have y6 : wb.cell? ⟨(ade.add (h1 * 13)).block, (ade.add (h1 * 13)).off + 6, none⟩ = some (.int .i64 y) := HLe.out 6 _ rfl
      have y7 : wb.cell? ⟨(ade.add (h1 * 13)).block, (ade.add (h1 * 13)).off + 7, none⟩ = some (.int .i64 mo) := HLe.out 7 _ rfl
      have y8 : wb.cell? ⟨(ade.add (h1 * 13)).block, (ade.add (h1 * 13)).off + 8, none⟩ = some (.int .u8 dk) := HLe.out 8 _ rfl
      have y9 : wb.cell? ⟨(ade.add (h1 * 13)).block, (ade.add (h1 * 13)).off + 9, none⟩ = some (.int .i64 dn) := HLe.out 9 _ rfl
      have y10 : wb.cell? ⟨(ade.add (h1 * 13)).block, (ade.add (h1 * 13)).off + 10, none⟩ = some (.int .i64 dd) := HLe.out 10 _ rfl
      have y11 : wb.cell? ⟨(ade.add (h1 * 13)).block, (ade.add (h1 * 13)).off + 11, none⟩ = some (.int .i64 sc) := HLe.out 11 _ rfl
      have y12 : wb.cell? ⟨(ade.add (h1 * 13)).block, (ade.add (h1 * 13)).off + 12, none⟩ = some (.int .u8 cc) := HLe.out 12 _ rfl
      have hins := Ln.ocAll_ok (std := std) ru HRk.out HWc.out hstd
      obtain ⟨nl, hnl2⟩ : ∃ n, (Src.ofName ru s.rules).length = n := ⟨_, rfl⟩
      have HRl2 := Lib.hid fun W' hb => HRl.out hfew ru nl hnl2 W' hb
      have hof := fun W' A c (hb : Below w.heap.size w W') hr => ocAll_any s.rules ru A nl c W' hnl2 hr HRk.out (HWo.out.below hb)
      obtain ⟨oc, hoc⟩ : ∃ q, Ln.ocAll s.rules ru = q := ⟨_, rfl⟩
      rw [hoc] at hins hoM
      simp only [hoc] at hof
      have HOf := Lib.hid hof
      have HIns := Lib.hid hins
      obtain ⟨no, hno⟩ : ∃ n, oc.length = n := ⟨_, rfl⟩
      simp only [hno] at HOf
      have HNo := Lib.hid hno
      have HHit : Hid (∃ o ∈ oc, t < Oc.ti std o ∧ Oc.ti std o ≤ t + D) := ⟨o, hoM, ho1, ho2⟩
      obtain ⟨u0, u1⟩ := HZc.out wb HBb.out
      obtain ⟨b0, b1, b2, _⟩ := HAb.out.three
      have zz := HAb.out.lt
      obtain ⟨Vb, hVb⟩ : ∃ X, wb.alloc (.cells #[.int .i64 std, .int .u8 2, .int .i64 esv, .string ru, .string fm, .bool en, .int .i64 y, .int .i64 mo, .int .u8 dk, .int .i64 dn, .int .i64 dd, .int .i64 sc, .int .u8 cc] 53) = X := ⟨_, rfl⟩
      have hbVb : Below wb.heap.size wb Vb := by rw [← hVb]; exact (Below.refl _ _).alloc (Nat.le_refl _) _
      have HBVb := Lib.hid (HBb.out.trans (hbVb.mono HBb.out.size))
      have HXVb := Lib.hid (show At Vb wb.heap.size [.int .i64 std, .int .u8 2, .int .i64 esv, .string ru, .string fm, .bool en, .int .i64 y, .int .i64 mo, .int .u8 dk, .int .i64 dn, .int .i64 dd, .int .i64 sc, .int .u8 cc] from by rw [← hVb]; exact At.new _ _ _)
      have HEVb := Lib.hid hVb
      have HAv := Lib.hid (HAb.out.call hbVb)
      have hab2 : (ade.add (h1 * 13)).block < wb.heap.size := by rw [block_of_add]; exact Nat.lt_of_lt_of_le habe HBb.out.size
      clear hVb hbVb hoc hof hins hno hnl2 hoM ho1 ho2 hstd he Hxe HLe hin
      go_wp2_with fail
      rw [HEVb.out]
      refine (HRl2.out Vb HBVb.out).mono ?_
      rintro e wc ⟨v, rfl, hbc, hoc⟩
      obtain ⟨rlA, rlc, rfl, _⟩ := own_slice hoc
      have HBc := Lib.hid (HBVb.out.trans (hbc.mono HBVb.out.size))
      have HXc := Lib.hid (HXVb.out.call hbc)
      have HCf := Lib.hid (HOf.out wc rlA rlc HBc.out (Reads.of_own hoc))
      clear hbc hoc b0 b1 b2 zz u0 u1 y0 y1 y2 y3 y4 y5 y6 y7 y8 y9 y10 y11 y12
      go_wp2_with fail
      refine HCf.out.mono ?_
      rintro e wd ⟨hbd, v, rfl, hod⟩
      obtain ⟨oA, oc9, rfl, hod1, hod2⟩ := own_slice_cap hod
      have HBd := Lib.hid (HBc.out.trans (hbd.mono HBc.out.size))
      have HXd := Lib.hid (HXc.out.call hbd)
      have HRo := Lib.hid (Reads.of_own hod)
      unfold maxLen at hod2
      clear hbd hod
      go_wp2_with fail
      go_loopw [170] (fun i wr => ∃ j : Nat, j ≤ no ∧ i = .int .i64 (j : Int) ∧ Hid (∀ o ∈ oc.take j, ¬ (t < Oc.ti std o ∧ Oc.ti std o ≤ t + D)) ∧ Hid (Below wd.heap.size wd wr)) (fun i _ => no - (intOf i).toNat)
      case atStart => exact ⟨0, Nat.zero_le _, rfl, (fun o ho => by simp at ho), Below.refl _ _⟩
      case round =>
        obtain ⟨j, hj, rfl, HNone, HBq⟩ := hrel
        have HXq := Lib.hid (HXd.out.call HBq.out)
        have HBq2 := Lib.hid (HBd.out.trans (HBq.out.mono HBd.out.size))
        by_cases hlt : j < no
        · obtain ⟨ado, o, rfl, habo, Ho, HLo⟩ := Ix.reads_cells (enc := Oc.E.occ) (m := 5) (fun _ => rfl) HNo.out (HRo.out.below HBq.out) hlt
          obtain ⟨hoc0, hoi⟩ := HIns.out o (List.mem_of_getElem? Ho.out)
          have htk : oc.take (j + 1) = oc.take j ++ [o] := by rw [List.take_add_one, Ho.out]; rfl
          obtain ⟨ti, hti⟩ : ∃ q, Oc.ti std o = q := ⟨_, rfl⟩
          rw [hti] at hoi
          have HNext : Hid (¬ (t < ti ∧ ti ≤ t + D) → ∀ o ∈ oc.take (j + 1), ¬ (t < Oc.ti std o ∧ Oc.ti std o ≤ t + D)) := fun h o' ho' => by
            rw [htk] at ho'
            rcases List.mem_append.1 ho' with ho' | ho'
            · exact HNone.out o' ho'
            · rw [List.mem_singleton.1 ho', hti]
              exact h
          obtain ⟨on, oc_, osv, ob, ol, op, oy⟩ := o
          simp only at hoc0 hoi
          have y0 : wr.cell? (ado.add (j * 5)) = some (.int .i64 on) := HLo.out 0 _ rfl
          have y1 : wr.cell? ⟨(ado.add (j * 5)).block, (ado.add (j * 5)).off + 1, none⟩ = some (.int .u8 oc_) := HLo.out 1 _ rfl
          have y2 : wr.cell? ⟨(ado.add (j * 5)).block, (ado.add (j * 5)).off + 2, none⟩ = some (.int .i64 osv) := HLo.out 2 _ rfl
          have y3 : wr.cell? ⟨(ado.add (j * 5)).block, (ado.add (j * 5)).off + 3, none⟩ = some (.int .i64 ob) := HLo.out 3 _ rfl
          have y4 : wr.cell? ⟨(ado.add (j * 5)).block, (ado.add (j * 5)).off + 4, none⟩ = some (.string ol) := HLo.out 4 _ rfl
          have HIn := Lib.hid fun W => instant_any on oc_ std ob W hoc0
          rw [hoi] at HIn
          have HB9q := Lib.hid (HBq.out.alloc HBq.out.size (.cells #[.int .i64 on, .int .u8 oc_, .int .i64 osv, .int .i64 ob, .string ol] 62))
          have HB9w := Lib.hid (HBd.out.trans (HB9q.out.mono HBd.out.size))
          have e0 := HXq.out.cell 0 _ rfl
          have ze := HXq.out.lt
          have r1 : (0 : Int) ≤ (j : Int) := by omega
          have r2 : (j : Int) < (no : Int) := by omega
          clear hti hoi htk Ho HLo
          go_wp2_with fail
          refine (HIn.out _).mono ?_
          rintro e wf ⟨rfl, rfl⟩
          have hcs : ¬ t < ti ∨ (t < ti ∧ ¬ ti ≤ t + D) ∨ (t < ti ∧ ti ≤ t + D) := by omega
          rcases hcs with s1 | ⟨s1, s2⟩ | ⟨s1, s2⟩
          · go_wp2
            go_roundw
            case rel => exact ⟨j + 1, by omega, by go_num, HNext.out (by omega), HB9q.out⟩
            case measure => simp [intOf]; omega
          · go_wp2
            go_roundw
            case rel => exact ⟨j + 1, by omega, by go_num, HNext.out (by omega), HB9q.out⟩
            case measure => simp [intOf]; omega
          · go_wp2
            go_ret
            exact ⟨rfl, HB9w.out⟩
        · exfalso
          obtain ⟨o, ho, h⟩ := HHit.out
          exact HNone.out o (by rw [List.take_of_length_le (by rw [HNo.out]; omega)]; exact ho) h
end Go.Proofs.YtolgigaolffenaaGreatDoor

/- IdealStays at a row's arguments. -/
namespace Go.Proofs.YtolgigaolffenaaGreatDoor
open Go.RowKit

theorem u32_range {x : Int} (h : (Lit.int .u32 x).wf = true) : 0 ≤ x ∧ x < 4294967296 := by
  have k : 0 ≤ x ∧ x ≤ 4294967295 := by simpa [Lit.wf, IntKind.min, IntKind.max, IntKind.signed, IntKind.bits] using h
  omega
theorem idealStays_row (s : Src.S) (rv zv lv : Value) (evs : List Value) (name : ByteArray) (t later : Int) (w : World) (hT : Wo w ∧ Wa w) (hR : Src.SrcR w w.heap.size s rv zv lv evs) (hw : Src.Wide s) (hnm : name.size ≤ maxLen) (ht : (Lit.int .i64 t).wf = true) (hl : (Lit.int .u32 later).wf = true) :
    Calls Tryz.prog 3 #[.agg #[rv, zv, lv], .string name, .int .i64 t, .int .u32 later] w fun e w' => e = .returned (.bool true) ∧ Below w.heap.size w w' :=
  idealStays_any s name t later rv zv lv evs w hR hw hT.1 hT.2 hnm (by have := i64_range ht; omega) (u32_range hl)
end Go.Proofs.YtolgigaolffenaaGreatDoor

/-
  IdealStays: whatever comes in, the law returns true and each argument reads as it did.
  Conditions: the listed package-level tables read as the program's text lays them (the card ties them to it).
-/
namespace Go.Proofs.YtolgigaolffenaaGreatDoor.idealStays
open Go.ChangeShapes Go.WideShapes Go.ChangeAt Go.RowKit Go.Joins
open Go.ChangeMaps (open_string shut_string)

theorem own : ownKnob Tryz.prog.godebug = none := by kernel_rfl
theorem laidOut : laidOutB Tryz.prog = true := by kernel_rfl
theorem g_places : Tryz.prog.globalNamed "solstice/abbr.places" = some 1 := by kernel_rfl
theorem t_places : (Tryz.prog.globals[1]?).map (·.type) = some 272 := by kernel_rfl
theorem g_lens : Tryz.prog.globalNamed "solstice/civil.lengths" = some 0 := by kernel_rfl
theorem t_lens : (Tryz.prog.globals[0]?).map (·.type) = some 222 := by kernel_rfl

theorem wo_of {W : World} (h : laidMetH Tryz.prog Rows.idealStaysRow.laid W) (hS : W.ShapedOpen Tryz.prog) : Wo W ∧ Wa W := by
  have h0 : laidMet Tryz.prog Rows.idealStaysRow.laid W := h
  have h1 := h0.tail
  have x_lens : Lib.TabIs Tryz.prog W "solstice/civil.lengths" .i64 Cv.lens := Lib.tabIs_of_head g_lens t_lens Tryz.underlying222 Tryz.underlying3 (by kernel_rfl) (by kernel_rfl) h0
  have x_places := strs_of_head (ls := [[37, 115], [37, 122]]) (rest := []) g_places t_places Tryz.underlying272 Tryz.underlying9 (by kernel_rfl) (by kernel_rfl) h1
  exact ⟨⟨fun k hk => x_lens.cell g_lens k hk, Tryz.laysM145.s1_3 W hS⟩, ⟨x_places 0 _ rfl, x_places 1 _ rfl, Tryz.laysM145.s1_3 W hS⟩⟩

noncomputable def laidWorld (os : Os) : World := World.doorLaid Tryz.prog 4000 os
theorem laid_met (os : Os) : laidMet Tryz.prog Rows.idealStaysRow.laid ((laidWorld os).forCall (fun _ _ => 0) ⟨#[], #[.agg #[.slice none 0 0, .slice none 0 0, .slice none 0 0], .string ⟨#[]⟩, .int .i64 0, .int .u32 0], []⟩).memory :=
  laidMet_of_run' 8 (by kernel_rfl) (by kernel_rfl)
theorem reads (os : Os) {H : Type} (enc : TypeId × Value → H) : ∃ places, DataW.whole enc Tryz.prog ((laidWorld os).forCall (fun _ _ => 0) ⟨#[], #[.agg #[.slice none 0 0, .slice none 0 0, .slice none 0 0], .string ⟨#[]⟩, .int .i64 0, .int .u32 0], []⟩).memory Tryz.f3.params.toList Rows.idealStaysSpec.vars false #[Value.agg #[.slice none 0 0, .slice none 0 0, .slice none 0 0], .string ⟨#[]⟩, .int .i64 0, .int .u32 0].toList 8 = some ([.agg [.nil, .nil, .nil], .lit (.string []), .lit (.int .i64 0), .lit (.int .u32 0)], [], places) :=
  ⟨[], by kernel_rfl⟩

set_option maxRecDepth 100000 in
set_option maxHeartbeats 4000000 in
theorem contract (H : Type) (enc : TypeId × Value → H) (W : World) (base : Nat) (args : Array Value) (ds gs : List (DataW H)) (before : List MemPlace)
    (hval : ∀ (j : Nat) t v, Tryz.f3.params[j]? = some t → args[j]? = some v → Value.okWide Tryz.prog W .any base t v)
    (hW : DataW.Whole enc Tryz.prog Tryz.f3.params.toList Rows.idealStaysSpec.vars false W args.toList ds gs before) (hL : laidMetH Tryz.prog Rows.idealStaysRow.laid W) (hS : W.ShapedOpen Tryz.prog) :
    Calls Tryz.prog 3 args W fun e W' => ∃ v, e = .returned v ∧ Rows.idealStaysSpec.post enc Tryz.prog Tryz.f3 false true false false W args v W' := by
  have hW' := hW
  obtain ⟨p, q, hA0, hV, rfl, hfz, hnd⟩ := hW
  have hA : DataW.TrodAll enc Tryz.prog W 0 (fun _ => true) true Tryz.f3.params.toList args.toList ds p := hA0
  rw [Tryz.params3] at hA hval
  obtain ⟨v0, vs0, d0, ds0, p0, q0, hargs, rfl, rfl, h0, r0⟩ := trodAll_cons hA
  obtain ⟨v1, vs1, d1, ds1, p1, q1, rfl, rfl, rfl, h1, r1⟩ := trodAll_cons r0
  obtain ⟨v2, vs2, d2, ds2, p2, q2, rfl, rfl, rfl, h2, r2⟩ := trodAll_cons r1
  obtain ⟨v3, vs3, d3, ds3, p3, q3, rfl, rfl, rfl, h3, r3⟩ := trodAll_cons r2
  obtain ⟨rfl, rfl, rfl⟩ := trodAll_nil r3
  obtain rfl : args = #[v0, v1, v2, v3] := by cases args; simp_all
  obtain ⟨rfl, rfl⟩ := trodVars_none hV
  have k0 := h0
  have lt0 : ∀ x ∈ p0, x.block < W.heap.size := by obtain ⟨m, hm⟩ := k0; exact DataW.trod_lt m _ _ _ hm
  obtain ⟨s0, rv0, zv0, lv0, evs0, rfl, hsr0, hsw0⟩ := open_source (hval 0 26 v0 rfl rfl) h0
  obtain ⟨name, rfl, rfl, rfl, wname⟩ := open_string Tryz.underlying9 (hval 1 9 v1 rfl rfl) h1
  obtain ⟨t, rfl, rfl, rfl, wt⟩ := open_int Tryz.underlying2 (hval 2 2 v2 rfl rfl) h2
  obtain ⟨later, rfl, rfl, rfl, wlater⟩ := open_int Tryz.underlying27 (hval 3 27 v3 rfl rfl) h3
  clear hA0
  refine (idealStays_row s0 rv0 zv0 lv0 evs0 name t later W (wo_of hL hS) hsr0 hsw0 wname wt wlater).mono fun e W' ⟨he, bel⟩ => ?_
  subst he
  exact ⟨_, rfl, _, _, _, [], _, [], hW', trodAll_mk1 (shut_bool Tryz.underlying4 _), (trodAll_cons_mk (Below.trod laidOut (by kernel_rfl) (of_decide_eq_true (by kernel_rfl)) k0 bel lt0) (trodAll_cons_mk (shut_string Tryz.underlying9 wname) (trodAll_cons_mk (shut_int Tryz.underlying2 wt) (trodAll_cons_mk (shut_int Tryz.underlying27 wlater) trodAll_mk0)))), rfl, bel.frame _, fun h => by cases h⟩

set_option maxRecDepth 100000 in
theorem lifted (os : Os) (started : os.Started) (H : Type) (enc : TypeId × Value → H) (F : Stop.Interp) :
    ReturnsInHanded {} Tryz.checked os 3 .any ((OpenSpec.ofChange Rows.idealStaysSpec).preRow enc Tryz.prog Tryz.f3 Rows.idealStaysRow.domain false Rows.idealStaysRow.laid) (((OpenSpec.ofChange Rows.idealStaysSpec).at F).post enc Tryz.prog Tryz.f3 false true false false) := by
  obtain ⟨places, hx⟩ := reads os enc
  refine returnsInHanded_of_row (C := Tryz.checked) (s := OpenSpec.ofChange Rows.idealStaysSpec) own started (by kernel_rfl) Tryz.func3
    (witness_row_at (enc := enc) (C := Tryz.checked) false (laidWorld os) #[.agg #[.slice none 0 0, .slice none 0 0, .slice none 0 0], .string ⟨#[]⟩, .int .i64 0, .int .u32 0] rfl (by kernel_rfl) (by kernel_rfl) (by kernel_rfl)
      (OpenSpec.preRow_of_cond 8 hx (by kernel_rfl) (fun k hk => by cases hk) (by kernel_rfl) (laid_met os))) ?_
  intro W base args ds gs before hval hW _ _ _ hL hS _
  exact contract H enc W base args ds gs before hval hW hL hS

theorem said : Rows.IdealStaysSaid :=
  OpenClaim.holds_of_cond 3 Tryz.f3 rfl rfl rfl rfl rfl rfl rfl ⟨rfl, rfl, rfl, rfl, rfl⟩ rfl rfl rfl rfl rfl (by kernel_rfl) Tryz.func3 (by kernel_rfl)
    (of_decide_eq_true (by kernel_rfl)) (by unfold Func.isWrapper; first | (rw [if_pos (by decide +kernel)]; kernel_rfl) | (rw [if_neg (by decide +kernel)]; exact ⟨rfl, rfl⟩))
    (fun os started H enc _ F => by rw [OpenClaim.pre_eq_preRow]; exact lifted os started H enc F)

theorem plain (f : FuncId) (fn : Func) (hf : Tryz.pinned.checked.prog.funcNamed "solstice/solsticelaw17.IdealStays" = some f) (hfn : Tryz.pinned.checked.prog.funcs[f]? = some fn) :
    false = Tryz.pinned.checked.prog.looks [] ∧ ∀ (j : Nat) t, fn.params[j]? = some t → Tryz.pinned.checked.prog.wantsStandIn t = false := by
  obtain rfl : f = 3 := Option.some.inj ((show Tryz.prog.funcNamed "solstice/solsticelaw17.IdealStays" = some 3 by kernel_rfl).symm.trans hf) |>.symm
  obtain rfl : fn = Tryz.f3 := (Option.some.inj (Tryz.func3.symm.trans hfn)).symm
  refine ⟨by kernel_rfl, fun j t ht => ?_⟩
  rw [Tryz.params3] at ht
  have hm : t ∈ [26, 9, 2, 27] := by
    have := Array.mem_of_getElem? ht
    simp at this ⊢
    first | omega | (rcases this with h | h | h | h <;> simp [h]) | (rcases this with h | h | h <;> simp [h]) | (rcases this with h | h | h | h | h <;> simp [h])
  simp only [List.mem_cons, List.not_mem_nil, or_false] at hm
  rcases hm with rfl | rfl | rfl | rfl
  · exact (show Tryz.prog.wantsStandIn 26 = false by kernel_rfl)
  · exact (show Tryz.prog.wantsStandIn 9 = false by kernel_rfl)
  · exact (show Tryz.prog.wantsStandIn 2 = false by kernel_rfl)
  · exact (show Tryz.prog.wantsStandIn 27 = false by kernel_rfl)

theorem card : Rows.IdealStaysCardSaid :=
  Claim7.holds_tied_plain_at .later [] _ _ _ _ said (fun _ h => by cases h) (by kernel_rfl) (fun _ h => by cases h) idealStays_row_tie rfl ⟨rfl, rfl⟩ (by kernel_rfl) rfl plain (by kernel_rfl)
end Go.Proofs.YtolgigaolffenaaGreatDoor.idealStays
