/- print.Text of any source. -/
import Derived.Test.YtlhoggalhjadgaaGreatDoorK35
import Derived.Test.YtlhoggalhjadgaaGreatDoorK37
import Derived.Test.YtlhoggalhjadgaaGreatDoorN01
import Derived.Test.YtlhoggalhjadgaaGreatDoorK31
import Derived.Test.YtlhoggalhjadgaaGreatDoorCards
import Derived.Test.YtlhoggalhjadgaaGreatDoorTie
import Derived.ProofKit
import Derived.OpenShut
import Derived.ShutString
import Derived.ChangeOld
import Derived.LaidMore
import Derived.Stop.LaidErr
import Derived.Deep.DeepHandedRow
import Derived.Lib.LaidTab
import Derived.Lib.SmallJoins

namespace Go.Proofs.YtlhoggalhjadgaaGreatDoor
open Go.RowKit

namespace Pr
open Go.Proofs.YtlhoggalhjadgaaGreatDoor.Src
theorem nzs_le : ∀ zs : List (Txt × List Er.E), (∀ z ∈ zs, z.2.length ≤ 64) → nzs zs ≤ 450 * zs.length
  | [], _ => Nat.le_refl _
  | z :: zs, h => by
    have h1 := nzs_le zs fun x hx => h x (List.mem_cons_of_mem _ hx)
    have h2 := nz_small z
    have h3 := h z List.mem_cons_self
    show nz z + nzs zs ≤ _
    rw [List.length_cons]
    omega
theorem rk_len {s : S} (h : Rk s) (ho : s.op = false) : (text s).length ≤ 40000000 := by
  have hz := h.zones.2
  rw [ho] at hz
  have h1 := flat_len (lns s) (lns_ok h ho)
  have h2 := nzs_le s.zones fun z hz' => (zones_done _ hz z hz').1.2.1
  have h3 := h.rules.1
  have h4 := h.zones.1
  have h5 := h.links.1
  have h6 : (text s).length = ((lns s).flatMap ltn).length := rfl
  rw [nw_lns] at h1
  unfold ns at h1
  omega
end Pr
set_option maxHeartbeats 8000000 in
set_option maxRecDepth 100000 in
theorem prText_long (s : Src.S) (rv zv lv : Value) (evs : List Value) (w : World) (hW : We w) (hR : Src.SrcR w w.heap.size s rv zv lv evs) (hs : Pr.Rk s) (ho : s.op = false) (hz : 1048576 < (Pr.text s).length) :
    Calls Tryz.prog 8 #[.agg #[rv, zv, lv]] w fun e w' => e = .returned (.tuple #[.string ⟨#[]⟩, .int .i64 6]) ∧ Below w.heap.size w w' := by
  have hzW := Pr.rk_len hs ho
  have hrt := Pr.rk_rt hs ho
  have hC := fun W hw hr => srcCheck_any s rv zv lv evs W hw hr (Src.right_lims hrt) (Src.right_sm hrt ho)
  rw [Src.right_srcB hrt ho, if_pos rfl] at hC
  have hRo : ∀ r ∈ s.rules, Pr.RkR r := hs.rules.2
  have hZo : ∀ z ∈ s.zones, Src.Base Src.own Pr.RkE z ∧ Src.Done Src.own z := by have := hs.zones.2; rw [ho] at this; exact Pr.zones_done _ this
  have hLo : ∀ k ∈ s.links, Ru.name k.1 = true ∧ Ru.name k.2 = true := hs.links.2
  have hpt := Pr.text_parts s
  have hrn := fun k r h => Pr.rulesT_next (s := s) (k := k) (r := r) h
  have hzn := fun k r h => Pr.zonesT_next (s := s) (k := k) (z := r) h
  have hln := fun k r h => Pr.linksT_next (s := s) (k := k) (r := r) h
  have hrl := Pr.rulesT_le s
  have hzl := Pr.zonesT_le s
  have hll := Pr.linksT_le s
  have hr0 : Pr.rulesT s 0 = [] := by unfold Pr.rulesT; rw [List.take_zero]; rfl
  have hz0 : Pr.zonesT s 0 = [] := by unfold Pr.zonesT; rw [List.take_zero]; rfl
  have hl0 : Pr.linksT s 0 = [] := by unfold Pr.linksT; rw [List.take_zero]; rfl
  have hRR := hR
  obtain ⟨⟨rA, rc, hrv, hr1, hr2, hr3⟩, ⟨zA, zc, hzv, hz1, hz2, hz3⟩, ⟨lA, lc, hlv, hl1, hl2, hl3⟩, hlen, hers⟩ := hR
  obtain ⟨nr, hnr⟩ : ∃ n, s.rules.length = n := ⟨_, rfl⟩
  obtain ⟨nz, hnz⟩ : ∃ n, s.zones.length = n := ⟨_, rfl⟩
  obtain ⟨nl, hnl⟩ : ∃ n, s.links.length = n := ⟨_, rfl⟩
  have hzp : (s.zones.zip evs).length = nz := by rw [List.length_zip, hlen, hnz]; omega
  rw [hnr] at hr1 hr3 hrv hpt hrl
  rw [hnz] at hz1 hz3 hzv hpt hzl
  rw [hnl] at hl1 hl3 hlv hpt hll
  subst hrv hzv hlv
  obtain ⟨TX, hTX⟩ : ∃ t, Pr.text s = t := ⟨_, rfl⟩
  rw [hTX] at hpt hz hzW
  unfold maxLen at hr2 hz2 hl2
  have HNr := Lib.hid hnr
  have HNz := Lib.hid hzp
  have HNl := Lib.hid hnl
  have HRr := Lib.hid hr3
  have HRz := Lib.hid hz3
  have HRl := Lib.hid hl3
  have HEr := Lib.hid hers
  have HRo := Lib.hid hRo
  have HZo := Lib.hid hZo
  have HLo := Lib.hid hLo
  have HPt := Lib.hid hpt
  have HRn := Lib.hid hrn
  have HZn := Lib.hid hzn
  have HLn := Lib.hid hln
  have HRle := Lib.hid hrl
  have HZle := Lib.hid hzl
  have HLle := Lib.hid hll
  have HZ := Lib.hid hz
  have hpl : (Pr.rulesT s nr).length + (Pr.zonesT s nz).length + (Pr.linksT s nl).length ≤ 40000000 := by
    have := congrArg List.length hpt
    rw [List.length_append, List.length_append] at this
    omega
  have HPl := Lib.hid hpl
  have HR0 := Lib.hid hr0
  have HZ0 := Lib.hid hz0
  have HL0 := Lib.hid hl0
  have HW := Lib.hid hW
  obtain ⟨RT, hRT⟩ : ∃ f, Pr.rulesT s = f := ⟨_, rfl⟩
  obtain ⟨ZT, hZT⟩ : ∃ f, Pr.zonesT s = f := ⟨_, rfl⟩
  obtain ⟨LT, hLT⟩ : ∃ f, Pr.linksT s = f := ⟨_, rfl⟩
  rw [hRT] at HPt HRn HRle HPl HR0
  rw [hZT] at HPt HZn HZle HPl HZ0
  rw [hLT] at HPt HLn HLle HPl HL0
  have HB0 := Lib.hid ((Below.refl w.heap.size w).alloc (Nat.le_refl _) (.cells #[.slice rA nr rc, .slice zA nz zc, .slice lA nl lc] 26))
  have HA0 := Lib.hid (At.new w #[.slice rA nr rc, .slice zA nz zc, .slice lA nl lc] 26)
  have HC := Lib.hid (hC _ (hW.a.below HB0.out) ((hRR.below HB0.out).more HB0.out.size))
  clear hC hRo hZo hLo hpt hrn hzn hln hrl hzl hll hnr hnz hnl hzp hr3 hz3 hl3 hers hRR hs ho hz hzW hpl hrt hlen hW hr0 hz0 hl0 hTX hRT hZT hLT
  obtain ⟨h, hh⟩ : ∃ h, w.heap.size = h := ⟨_, rfl⟩
  go_enter Tryz.func8, Tryz.ntmps8
  go_wp2_with fail
  refine HC.out.mono ?_
  rintro e w1 ⟨rfl, hb⟩
  have HA1 := Lib.hid (HA0.out.call hb)
  have HB1 := Lib.hid (below_then HB0.out hb)
  clear hb HA0 HB0 HC
  rw [hh] at HA1
  have HH := Lib.hid hh
  clear hh
  obtain ⟨b, hbb⟩ : ∃ b, w1.heap.size = b := ⟨_, rfl⟩
  obtain ⟨w2, hw2⟩ : ∃ x, w1.alloc (.cells #[.pointer none, .slice none 0 0] 66) = x := ⟨_, rfl⟩
  have HI0 := Lib.hid (show Pr.IsB w2 b [] by rw [← hw2, ← hbb]; exact Lib.IsBuilderF.of (Lib.fresh_isBuilder _ _ w1))
  have HB2 := Lib.hid (show Below w.heap.size w w2 by rw [← hw2]; exact HB1.out.alloc HB1.out.size _)
  have HA2 := Lib.hid (show At w2 h [.slice rA nr rc, .slice zA nz zc, .slice lA nl lc] by rw [← hw2]; exact HA1.out.alloc _ _)
  have hhb : h < b := by rw [← hbb]; exact HA1.out.lt
  have HwB := Lib.hid (show w.heap.size ≤ b by rw [← hbb]; exact HB1.out.size)
  obtain ⟨a0, a1, a2, _⟩ := HA2.out.three
  go_wp2
  clear a0 a1 a2
  go_loopw [23] (fun i wr => TRel b nr RT w2 i wr) (fun i _ => nr - (intOf i).toNat)
  case atStart => exact ⟨0, Nat.zero_le _, rfl, (by rw [HR0.out]; exact HI0.out), Below.refl _ _⟩
  case round =>
    obtain ⟨k, hk, rfl, HI, HB⟩ := hrel
    have HBw := Lib.hid (HB2.out.trans (HB.out.mono HwB.out))
    by_cases hlt : k < nr
    · have q3 : (0 : Int) ≤ (k : Int) := by omega
      have q4 : (k : Int) < (nr : Int) := by omega
      obtain ⟨ad, x, rfl, hab, Hx, HL0⟩ := Ix.reads_cells (enc := Ru.R.cells) (m := 11) (fun _ => rfl) HNr.out (HRr.out.below HBw.out) hlt
      have hro := HRo.out x (List.mem_of_getElem? Hx.out)
      have HRu := Lib.hid fun W hw => prRule_ok x W hw hro.1 hro.2
      have HNx := Lib.hid (HRn.out k x Hx.out)
      obtain ⟨Y, hY⟩ : ∃ Y, Sc.line (Pr.ofRule x).2 = Y := ⟨_, rfl⟩
      rw [hY] at HRu HNx
      obtain ⟨nm, fr, tt, mo, rk, rn, rd, rs, rc0, sv, lt⟩ := x
      unfold Ru.R.v at HRu
      simp only at HRu
      have x0 : wr.cell? (ad.add (k * 11)) = some (.string nm) := HL0.out 0 _ rfl
      have x1 : wr.cell? ⟨(ad.add (k * 11)).block, (ad.add (k * 11)).off + 1, none⟩ = some (.int .i64 fr) := HL0.out 1 _ rfl
      have x2 : wr.cell? ⟨(ad.add (k * 11)).block, (ad.add (k * 11)).off + 2, none⟩ = some (.int .i64 tt) := HL0.out 2 _ rfl
      have x3 : wr.cell? ⟨(ad.add (k * 11)).block, (ad.add (k * 11)).off + 3, none⟩ = some (.int .i64 mo) := HL0.out 3 _ rfl
      have x4 : wr.cell? ⟨(ad.add (k * 11)).block, (ad.add (k * 11)).off + 4, none⟩ = some (.int .u8 rk) := HL0.out 4 _ rfl
      have x5 : wr.cell? ⟨(ad.add (k * 11)).block, (ad.add (k * 11)).off + 5, none⟩ = some (.int .i64 rn) := HL0.out 5 _ rfl
      have x6 : wr.cell? ⟨(ad.add (k * 11)).block, (ad.add (k * 11)).off + 6, none⟩ = some (.int .i64 rd) := HL0.out 6 _ rfl
      have x7 : wr.cell? ⟨(ad.add (k * 11)).block, (ad.add (k * 11)).off + 7, none⟩ = some (.int .i64 rs) := HL0.out 7 _ rfl
      have x8 : wr.cell? ⟨(ad.add (k * 11)).block, (ad.add (k * 11)).off + 8, none⟩ = some (.int .u8 rc0) := HL0.out 8 _ rfl
      have x9 : wr.cell? ⟨(ad.add (k * 11)).block, (ad.add (k * 11)).off + 9, none⟩ = some (.int .i64 sv) := HL0.out 9 _ rfl
      have x10 : wr.cell? ⟨(ad.add (k * 11)).block, (ad.add (k * 11)).off + 10, none⟩ = some (.string lt) := HL0.out 10 _ rfl
      clear hro hY
      go_wp2_with fail
      refine (HRu.out _ (HW.out.below (HBw.out.alloc HBw.out.size _)).c).mono ?_
      rintro e w3 ⟨rfl, hb⟩
      have HI3 := Lib.hid ((HI.out.call ((Below.refl wr.heap.size wr).alloc (Nat.le_refl _) (.cells #[.string nm, .int .i64 fr, .int .i64 tt, .int .i64 mo, .int .u8 rk, .int .i64 rn, .int .i64 rd, .int .i64 rs, .int .u8 rc0, .int .i64 sv, .string lt] 47))).call hb)
      have HB3 := Lib.hid ((HB.out.alloc (own_lt HI.out) (.cells #[.string nm, .int .i64 fr, .int .i64 tt, .int .i64 mo, .int .u8 rk, .int .i64 rn, .int .i64 rd, .int .i64 rs, .int .u8 rc0, .int .i64 sv, .string lt] 47)).trans (hb.mono (by have := HI.out.lt; simp; omega)))
      clear hb x0 x1 x2 x3 x4 x5 x6 x7 x8 x9 x10
      have hle : (RT k).length + (Pr.flat [Y]).length ≤ 140737488355327 := by
        have h1 := HRle.out (k + 1)
        rw [HNx.out, List.length_append] at h1
        have h2 := HPl.out
        omega
      have HLe := Lib.hid hle
      clear hle
      go_wp2_with fail
      refine (put_any b w3.heap.size 1 1 (RT k) [Y] _ rfl (by decide) (HI3.out.call ((Below.refl w3.heap.size w3).alloc (Nat.le_refl _) _)) (Pr.lines_new w3 Y) HLe.out).mono ?_
      rintro e w4 ⟨rfl, hi, hb⟩
      rw [← HNx.out] at hi
      have HI4 := Lib.hid hi
      have HB4 := Lib.hid ((HB3.out.alloc (own_lt HI3.out) (.cells #[.string Y] 9)).trans hb)
      clear hi hb
      go_wp2
      go_roundw
      case rel => exact ⟨k + 1, by omega, by go_num, HI4.out, HB4.out⟩
      case measure => simp [intOf]; omega
    · have q4 : ¬ (k : Int) < (nr : Int) := by omega
      have hkn : nr = k := by omega
      subst hkn
      obtain ⟨a0, a1, a2, _⟩ := (HA2.out.below HB.out hhb).three
      go_wp2
      clear a0 a1 a2
      go_loopw [42] (fun i wr => TRel b nz (fun k => RT nr ++ ZT k) w2 i wr) (fun i _ => nz - (intOf i).toNat)
      case atStart => exact ⟨0, Nat.zero_le _, rfl, (by show Pr.IsB wr b (RT nr ++ ZT 0); rw [HZ0.out, List.append_nil]; exact HI.out), HB.out⟩
      case round =>
        obtain ⟨k, hk, rfl, HI, HB⟩ := hrel
        have HBw := Lib.hid (HB2.out.trans (HB.out.mono HwB.out))
        by_cases hlt : k < nz
        · have q3 : (0 : Int) ≤ (k : Int) := by omega
          have q4 : (k : Int) < (nz : Int) := by omega
          obtain ⟨ad, x, rfl, hab, Hx, HL0⟩ := Ix.reads_cells (enc := Src.zc) (m := 2) (fun _ => rfl) HNz.out (HRz.out.below HBw.out) hlt
          obtain ⟨z, ev⟩ := x
          have hxz : s.zones[k]? = some z := (List.getElem?_zip_eq_some.1 Hx.out).1
          have hzo := HZo.out z (List.mem_of_getElem? hxz)
          have hrow := (HEr.out (z, ev) (List.mem_of_getElem? Hx.out)).below HBw.out
          have hwrs := HBw.out.size
          obtain ⟨eA, ec, he, hen⟩ : ∃ A c, ev = .slice A z.2.length c ∧ z.2.length = z.2.length := by obtain ⟨A, c, e, _⟩ := hrow; exact ⟨A, c, e, rfl⟩
          have HZe := Lib.hid fun W hw hr => prZone_ok z ev W hw hzo.1 hzo.2 hr
          have HNx := Lib.hid (HZn.out k z hxz)
          have hzl : (Pr.zl z).length = z.2.length := by unfold Pr.zl; rw [List.length_map]; exact Pr.ofZone_len z
          obtain ⟨Y, hY⟩ : ∃ Y, Pr.zl z = Y := ⟨_, rfl⟩
          obtain ⟨en, hen⟩ : ∃ n, z.2.length = n := ⟨_, rfl⟩
          obtain ⟨xn, hxn⟩ : ∃ y, Src.bts z.1 = y := ⟨_, rfl⟩
          simp only at hrow
          rw [hY] at HNx hzl
          rw [hen] at hzl hrow he
          have HZl := Lib.hid hzl
          have HEn := Lib.hid (show en ≤ 1000000 by have := hzo.1.2.1; rw [← hen]; omega)
          have x0 : wr.cell? (ad.add (k * 2)) = some (.string xn) := by rw [← hxn]; exact HL0.out 0 _ rfl
          have x1 : wr.cell? ⟨(ad.add (k * 2)).block, (ad.add (k * 2)).off + 1, none⟩ = some (.slice eA en ec) := by rw [← he]; exact HL0.out 1 _ rfl
          simp only [hY, hen, hxn] at HZe
          subst he
          have HRow := Lib.hid hrow
          clear hzo hY hxn hxz hrow hzl hen
          go_wp2_with fail
          refine (HZe.out _ (HW.out.below (HBw.out.alloc HBw.out.size _)) ((HRow.out.below ((Below.refl w.heap.size wr).alloc hwrs _)).more (by simp; omega))).mono ?_
          rintro e w3 ⟨g, c, rfl, hln, hb⟩
          have HI3 := Lib.hid ((HI.out.call ((Below.refl wr.heap.size wr).alloc (Nat.le_refl _) (.cells #[.string xn, .slice eA en ec] 53))).call hb)
          have HB3 := Lib.hid ((HB.out.alloc (own_lt HI.out) (.cells #[.string xn, .slice eA en ec] 53)).trans (hb.mono (by have := HI.out.lt; simp; omega)))
          have HLn := Lib.hid hln
          clear hb hln x0 x1
          have hle : (RT nr ++ ZT k).length + (Pr.flat Y).length ≤ 140737488355327 := by
            have h1 := HZle.out (k + 1)
            rw [HNx.out, List.length_append] at h1
            have h2 := HPl.out
            rw [List.length_append]
            omega
          have HLe := Lib.hid hle
          clear hle
          go_wp2_with fail
          refine (put_any b g en c (RT nr ++ ZT k) Y w3 HZl.out HEn.out HI3.out HLn.out HLe.out).mono ?_
          rintro e w4 ⟨rfl, hi, hb⟩
          rw [List.append_assoc, ← HNx.out] at hi
          have HI4 := Lib.hid hi
          have HB4 := Lib.hid (HB3.out.trans hb)
          clear hi hb
          go_wp2
          go_roundw
          case rel => exact ⟨k + 1, by omega, by go_num, HI4.out, HB4.out⟩
          case measure => simp [intOf]; omega
        · have q4 : ¬ (k : Int) < (nz : Int) := by omega
          have hkn : nz = k := by omega
          subst hkn
          obtain ⟨a0, a1, a2, _⟩ := (HA2.out.below HB.out hhb).three
          go_wp2
          clear a0 a1 a2
          go_loopw [60] (fun i wr => TRel b nl (fun k => RT nr ++ ZT nz ++ LT k) w2 i wr) (fun i _ => nl - (intOf i).toNat)
          case atStart => exact ⟨0, Nat.zero_le _, rfl, (by show Pr.IsB wr b (RT nr ++ ZT nz ++ LT 0); rw [HL0.out, List.append_nil]; exact HI.out), HB.out⟩
          case round =>
            obtain ⟨k, hk, rfl, HI, HB⟩ := hrel
            have HBw := Lib.hid (HB2.out.trans (HB.out.mono HwB.out))
            by_cases hlt : k < nl
            · have q3 : (0 : Int) ≤ (k : Int) := by omega
              have q4 : (k : Int) < (nl : Int) := by omega
              obtain ⟨ad, x, rfl, hab, Hx, HL0⟩ := Ix.reads_cells (enc := Src.lc) (m := 2) (fun _ => rfl) HNl.out (HRl.out.below HBw.out) hlt
              have hlo := HLo.out x (List.mem_of_getElem? Hx.out)
              have HRu := Lib.hid fun W hw => prLink_ok x W hw hlo.1 hlo.2
              have HNx := Lib.hid (HLn.out k x Hx.out)
              obtain ⟨Y, hY⟩ : ∃ Y, Sc.line (Pr.ofLink x).2 = Y := ⟨_, rfl⟩
              rw [hY] at HRu HNx
              unfold Src.lv at HRu
              obtain ⟨xa, hxa⟩ : ∃ y, Src.bts x.1 = y := ⟨_, rfl⟩
              obtain ⟨xb, hxb⟩ : ∃ y, Src.bts x.2 = y := ⟨_, rfl⟩
              have x0 : wr.cell? (ad.add (k * 2)) = some (.string xa) := by rw [← hxa]; exact HL0.out 0 _ rfl
              have x1 : wr.cell? ⟨(ad.add (k * 2)).block, (ad.add (k * 2)).off + 1, none⟩ = some (.string xb) := by rw [← hxb]; exact HL0.out 1 _ rfl
              rw [hxa, hxb] at HRu
              clear hlo hY hxa hxb
              go_wp2_with fail
              refine (HRu.out _ (HW.out.below (HBw.out.alloc HBw.out.size _)).a).mono ?_
              rintro e w3 ⟨rfl, hb⟩
              have HI3 := Lib.hid ((HI.out.call ((Below.refl wr.heap.size wr).alloc (Nat.le_refl _) (.cells #[.string xa, .string xb] 56))).call hb)
              have HB3 := Lib.hid ((HB.out.alloc (own_lt HI.out) (.cells #[.string xa, .string xb] 56)).trans (hb.mono (by have := HI.out.lt; simp; omega)))
              clear hb x0 x1
              have hle : (RT nr ++ ZT nz ++ LT k).length + (Pr.flat [Y]).length ≤ 140737488355327 := by
                have h1 := HLle.out (k + 1)
                rw [HNx.out, List.length_append] at h1
                have h2 := HPl.out
                rw [List.length_append, List.length_append]
                omega
              have HLe := Lib.hid hle
              clear hle
              go_wp2_with fail
              refine (put_any b w3.heap.size 1 1 (RT nr ++ ZT nz ++ LT k) [Y] _ rfl (by decide) (HI3.out.call ((Below.refl w3.heap.size w3).alloc (Nat.le_refl _) _)) (Pr.lines_new w3 Y) HLe.out).mono ?_
              rintro e w4 ⟨rfl, hi, hb⟩
              rw [List.append_assoc, ← HNx.out] at hi
              have HI4 := Lib.hid hi
              have HB4 := Lib.hid ((HB3.out.alloc (own_lt HI3.out) (.cells #[.string Y] 9)).trans hb)
              clear hi hb
              go_wp2
              go_roundw
              case rel => exact ⟨k + 1, by omega, by go_num, HI4.out, HB4.out⟩
              case measure => simp [intOf]; omega
            · have q4 : ¬ (k : Int) < (nl : Int) := by omega
              have hkn : nl = k := by omega
              subst hkn
              have HIe := Lib.hid HI.out
              have hln : (Lib.byteCells (RT nr ++ ZT nz ++ LT nl)).length = TX.length := by rw [Lib.byteCells_length, ← HPt.out]
              have q5 : (1048576 : Int) < (TX.length : Int) := by have := HZ.out; omega
              have HLen := Lib.hid fun W h => Tryz.Builder_Len_f b b (Lib.byteCells (RT nr ++ ZT nz ++ LT nl)) W h
              rw [hln] at HLen
              have HBe := Lib.hid HBw.out
              clear hln
              go_wp2_with fail
              refine (HLen.out wr HIe.out).mono ?_
              rintro e w5 ⟨rfl, rfl⟩
              go_wp2
              go_ret2
              exact ⟨rfl, HBe.out⟩
set_option maxHeartbeats 2000000 in
set_option maxRecDepth 100000 in
theorem prText_badW (s : Src.S) (rv zv lv : Value) (evs : List Value) (w : World) (hW : Wa w) (hR : Src.SrcR w w.heap.size s rv zv lv evs) (hw : Src.Wide s) (hbad : ¬ (Src.Lims s ∧ Src.srcB s = true)) :
    Calls Tryz.prog 8 #[.agg #[rv, zv, lv]] w fun e w' => e = .returned (.tuple #[.string ⟨#[]⟩, .int .i64 2]) ∧ Below w.heap.size w w' := by
  have HB0 := Lib.hid ((Below.refl w.heap.size w).alloc (Nat.le_refl _) (.cells #[rv, zv, lv] 26))
  have HC := Lib.hid (srcCheck_all s rv zv lv evs _ (hW.below HB0.out) ((hR.below HB0.out).more HB0.out.size) hw)
  obtain ⟨⟨rA, rc, rfl, _⟩, ⟨zA, zc, rfl, _⟩, ⟨lA, lc, rfl, _⟩, _, _⟩ := hR
  have HBad := Lib.hid hbad
  clear hW hw hbad
  go_enter Tryz.func8, Tryz.ntmps8
  go_wp2_with fail
  refine HC.out.mono ?_
  rintro e w1 ⟨k, rfl, hb, hk⟩
  have HB1 := Lib.hid (below_then HB0.out hb)
  rcases hk with ⟨_, h⟩ | ⟨rfl, _⟩
  · exact absurd h HBad.out
  clear hb HB0 HC
  go_wp2
  go_ret2
  exact ⟨rfl, HB1.out⟩
/-- print.Text, whatever comes in. -/
theorem prText_all (s : Src.S) (rv zv lv : Value) (evs : List Value) (w : World) (hW : We w) (hR : Src.SrcR w w.heap.size s rv zv lv evs) (hw : Src.Wide s) :
    Calls Tryz.prog 8 #[.agg #[rv, zv, lv]] w fun e w' => ∃ T Y, e = .returned (.tuple #[.string T, .int .i64 Y]) ∧ Below w.heap.size w w' ∧ ((Y = 0 ∧ Pr.Rk s ∧ T = Src.bts (Pr.text s)) ∨ Y ≠ 0) := by
  by_cases h : Src.Lims s ∧ Src.srcB s = true
  · have hk := Pr.srcB_rk h.2 hw h.1
    by_cases hz : (Pr.text s).length ≤ 1048576
    · exact (prText_ok s rv zv lv evs w hW hR hk hw.op hz).mono fun e w' ⟨he, hb⟩ => ⟨_, 0, he, hb, .inl ⟨rfl, hk, rfl⟩⟩
    · exact (prText_long s rv zv lv evs w hW hR hk hw.op (by omega)).mono fun e w' ⟨he, hb⟩ => ⟨_, 6, he, hb, .inr (by decide)⟩
  · exact (prText_badW s rv zv lv evs w hW.a hR hw h).mono fun e w' ⟨he, hb⟩ => ⟨_, 2, he, hb, .inr (by decide)⟩
end Go.Proofs.YtlhoggalhjadgaaGreatDoor

/- The walk of the law TopNoted. -/
namespace Go.Proofs.YtlhoggalhjadgaaGreatDoor
open Go.RowKit

namespace Src
theorem same_self (s : S) : sameB s s = true := (sameB_iff s s).2 ⟨rfl, rfl, rfl⟩
end Src
theorem We.q {w : World} (h : We w) : Wq w := ⟨h.c.p, h.a⟩
theorem take_snoc {l : List UInt8} {k : Nat} {c : UInt8} (h : l[k]? = some c) : l.take (k + 1) = l.take k ++ [c] := by
  rw [List.take_add_one, h]
  rfl
def OutRel (note T : ByteArray) (v i : Value) : Prop :=
  ∃ (k : Nat) (B : ByteArray), k ≤ T.size ∧ i = .int .i64 k ∧ v = .string B ∧ Hid (tl B = Pr.dec (tl note) ((tl T).take k))
set_option maxHeartbeats 8000000 in
set_option maxRecDepth 100000 in
theorem topNoted_any (s : Src.S) (rv zv lv : Value) (evs : List Value) (note : ByteArray) (w : World) (hW : We w) (hR : Src.SrcR w w.heap.size s rv zv lv evs) (hw : Src.Wide s) (hnl : note.size ≤ maxLen) :
    Calls Tryz.prog 5 #[.agg #[rv, zv, lv], .string note] w fun e w' => e = .returned (.bool true) ∧ Below w.heap.size w w' := by
  have hop := hw.op
  have HL := Lib.hid fun W hw => begins6_any W hw
  have HSm := Lib.hid fun W hr => few_any s rv zv lv evs W hr hw
  have HPT := Lib.hid fun W hw' hr => prText_all s rv zv lv evs W hw' hr hw
  have HSs := Lib.hid fun rv' zv' lv' evs' W hr hr' => srcSame_any s s rv' zv' lv' rv zv lv evs' evs W hr hr'
  rw [Src.same_self] at HSs
  have HOp := Lib.hid hop
  have HW := Lib.hid hW
  have HA0 := Lib.hid (At.new w #[rv, zv, lv] 26)
  have HB0 := Lib.hid ((Below.refl w.heap.size w).alloc (Nat.le_refl _) (.cells #[rv, zv, lv] 26))
  have HR0 := Lib.hid ((hR.below HB0.out).more HB0.out.size)
  obtain ⟨h, hh⟩ : ∃ h, w.heap.size = h := ⟨_, rfl⟩
  unfold maxLen at hnl
  clear hop hW hw hR
  go_enter Tryz.func5, Tryz.ntmps5
  go_wp2_with fail
  refine (HL.out _ (HW.out.below HB0.out)).mono ?_
  rintro e w1 ⟨rfl, hb⟩
  have HA1 := Lib.hid (HA0.out.call hb)
  have HR1 := Lib.hid (HR0.out.call hb)
  have HB1 := Lib.hid (below_then HB0.out hb)
  clear hb HA0 HB0 HR0
  rw [hh] at HA1
  have HH := Lib.hid hh
  clear hh
  obtain ⟨a0, a1, a2, _⟩ := HA1.out.three
  go_wp2_with fail
  refine (HPT.out _ (HW.out.below HB1.out) HR1.out).mono ?_
  rintro e w2 ⟨T, Y, rfl, hb, hcase⟩
  have HCase := Lib.hid hcase
  have HA2 := Lib.hid (HA1.out.call hb)
  have HR2 := Lib.hid (HR1.out.call hb)
  have HB2 := Lib.hid (below_then HB1.out hb)
  clear hb hcase HA1 HR1 HB1 a0 a1 a2
  obtain ⟨a0, a1, a2, _⟩ := HA2.out.three
  go_wp2_with fail
  refine (HSm.out _ HR2.out).mono ?_
  rintro e w3 ⟨he, hb⟩
  have HA3 := Lib.hid (HA2.out.call hb)
  have HR3 := Lib.hid (HR2.out.call hb)
  have HB3 := Lib.hid (below_then HB2.out hb)
  clear hb HA2 HR2 HB2 a0 a1 a2
  rcases he with rfl | ⟨rfl, hfew⟩
  · go_wp2
    go_ret
    exact ⟨rfl, HB3.out⟩
  have HFw := Lib.hid hfew
  clear hfew
  by_cases hY : Y = 0
  case neg =>
    have e1 : (Y != 0) = true := by simpa using hY
    have e2 : (Y == 0) = false := by simpa using hY
    clear hY HCase
    go_wp2
    go_ret
    exact ⟨rfl, HB3.out⟩
  subst hY
  obtain ⟨hrk, hT⟩ : Pr.Rk s ∧ T = Src.bts (Pr.text s) := by
    rcases HCase.out with ⟨_, h1, h2⟩ | h
    · exact ⟨h1, h2⟩
    · exact absurd rfl h
  by_cases q1 : (200 : Int) < (note.size : Int)
  · clear hrk hT HCase
    go_wp2
    go_ret
    exact ⟨rfl, HB3.out⟩
  have hn200 : note.size ≤ 200 := by omega
  have htlT : tl T = Pr.text s := by rw [hT, Pr.tl_bts]
  have hTs : T.size ≤ 100000 := by
    have := Pr.few_text HFw.out hrk HOp.out
    rw [hT]
    exact this
  have HRk := Lib.hid hrk
  have HTl := Lib.hid htlT
  have HDl := Lib.hid (Pr.few_dec HFw.out hrk HOp.out (tl note) (by rw [tl_length]; exact hn200))
  clear hrk hT htlT HCase
  obtain ⟨X1, hX1⟩ : ∃ y, (⟨#[32, 35]⟩ : ByteArray) ++ note = y := ⟨_, rfl⟩
  obtain ⟨X2, hX2⟩ : ∃ y, X1 ++ (⟨#[10, 35, 32]⟩ : ByteArray) = y := ⟨_, rfl⟩
  obtain ⟨X3, hX3⟩ : ∃ y, X2 ++ note = y := ⟨_, rfl⟩
  obtain ⟨X4, hX4⟩ : ∃ y, X3 ++ (⟨#[10, 13, 9, 32]⟩ : ByteArray) = y := ⟨_, rfl⟩
  have z1 : (⟨#[32, 35]⟩ : ByteArray).size = 2 := rfl
  have z2 : (⟨#[10, 35, 32]⟩ : ByteArray).size = 3 := rfl
  have z3 : (⟨#[10, 13, 9, 32]⟩ : ByteArray).size = 4 := rfl
  have y1 : X1.size ≤ 202 := by rw [← hX1, ByteArray.size_append]; omega
  have y2 : X2.size ≤ 205 := by rw [← hX2, ByteArray.size_append]; omega
  have y3 : X3.size ≤ 405 := by rw [← hX3, ByteArray.size_append]; omega
  have y4 : X4.size ≤ 409 := by rw [← hX4, ByteArray.size_append]; omega
  have s1 : ∀ W, (Op.stringOp .add ⟨#[32, 35]⟩ note).run Tryz.prog W = .ok (.string X1) W := fun W => by rw [← hX1]; exact run_string_add_sum W _ _ (by omega)
  have s2 : ∀ W, (Op.stringOp .add X1 ⟨#[10, 35, 32]⟩).run Tryz.prog W = .ok (.string X2) W := fun W => by rw [← hX2]; exact run_string_add_sum W _ _ (by omega)
  have s3 : ∀ W, (Op.stringOp .add X2 note).run Tryz.prog W = .ok (.string X3) W := fun W => by rw [← hX3]; exact run_string_add_sum W _ _ (by omega)
  have s4 : ∀ W, (Op.stringOp .add X3 ⟨#[10, 13, 9, 32]⟩).run Tryz.prog W = .ok (.string X4) W := fun W => by rw [← hX4]; exact run_string_add_sum W _ _ (by omega)
  have HX := Lib.hid (show tl X4 = Pr.D (tl note) by
    rw [← hX4, ← hX3, ← hX2, ← hX1]
    unfold Pr.D tl
    simp only [ByteArray.data_append, Array.toList_append])
  have HS := Lib.hid (And.intro s1 (And.intro s2 (And.intro s3 s4)))
  have HY4 := Lib.hid y4
  clear hX1 hX2 hX3 hX4 z1 z2 z3 y1 y2 y3 y4 s1 s2 s3 s4 HPT HSm HL
  go_wp2
  go_loop [33] (fun i => ∃ k : Nat, k ≤ note.size ∧ i = .int .i64 k ∧ Hid ((10 : UInt8) ∉ (tl note).take k)) (fun i => note.size - (intOf i).toNat)
  case atStart => exact ⟨0, Nat.zero_le _, rfl, (by show (10 : UInt8) ∉ _; simp)⟩
  case round =>
    obtain ⟨k, hk, rfl, HK⟩ := hrel
    by_cases hlt : k < note.size
    · have p1 : (0 : Int) ≤ (k : Int) := by omega
      have p2 : (k : Int) < (note.size : Int) := by omega
      have hget := Dy.tl_get note k hlt
      by_cases h10 : note[k] = 10
      · have e1 : ((note[k].toNat : Int) == 10) = true := by rw [h10]; rfl
        have e2 : (note[k].toNat : Int) = 10 := by rw [h10]; rfl
        clear hget
        go_wp2
        go_ret
        exact ⟨rfl, HB3.out⟩
      · have e2 : ¬ (note[k].toNat : Int) = 10 := fun e => h10 (by
          have : note[k].toNat = 10 := by omega
          exact UInt8.toNat_inj.1 this)
        have e1 : ((note[k].toNat : Int) == 10) = false := by rw [beq_eq_false_iff_ne]; exact e2
        have HK2 := Lib.hid (show (10 : UInt8) ∉ (tl note).take (k + 1) by
          rw [take_snoc hget]
          intro e
          rcases List.mem_append.1 e with e | e
          · exact HK.out e
          · exact h10 (List.mem_singleton.1 e).symm)
        clear hget h10
        go_wp2
        go_round
        case rel => exact ⟨k + 1, by omega, by go_num, HK2.out⟩
        case measure => simp [intOf]; omega
    · have p2 : ¬ (k : Int) < (note.size : Int) := by omega
      have H10 := Lib.hid (show (10 : UInt8) ∉ tl note by
        have := HK.out
        rwa [List.take_of_length_le (by rw [tl_length]; omega)] at this)
      clear HK
      go_wp2
      go_loop [8, 43] (fun v i => OutRel note T v i) (fun _ i => T.size - (intOf i).toNat)
      case atStart => exact ⟨0, ⟨#[]⟩, Nat.zero_le _, rfl, rfl, rfl⟩
      case round =>
        obtain ⟨j, B, hj, rfl, rfl, HJ⟩ := hrel
        have hBs : B.size ≤ 800000 := by
          have h1 := Pr.dec_take (tl note) (tl T) j
          rw [← HJ.out, HTl.out, tl_length] at h1
          have h2 := HDl.out
          omega
        by_cases hlt2 : j < T.size
        · have p3 : (0 : Int) ≤ (j : Int) := by omega
          have p4 : (j : Int) < (T.size : Int) := by omega
          have hget := Dy.tl_get T j hlt2
          by_cases h10 : T[j] = 10
          · have e1 : ((T[j].toNat : Int) == 10) = true := by rw [h10]; rfl
            have e2 : (T[j].toNat : Int) = 10 := by rw [h10]; rfl
            obtain ⟨s1, s2, s3, s4⟩ := HS.out
            have s5 : ∀ W, (Op.stringOp .add B X4).run Tryz.prog W = .ok (.string (B ++ X4)) W := fun W => run_string_add_sum W _ _ (by have := HY4.out; omega)
            have HN := Lib.hid (show tl (B ++ X4) = Pr.dec (tl note) ((tl T).take (j + 1)) by
              rw [take_snoc hget, Pr.dec_app, h10, Pr.dec_nl, ← HJ.out, ← HX.out]
              unfold tl
              rw [ByteArray.data_append, Array.toList_append])
            clear hget h10
            go_wp2
            go_round
            case rel => exact ⟨j + 1, B ++ X4, by omega, by go_num, rfl, HN.out⟩
            case measure => simp [intOf]; omega
          · have e2 : ¬ (T[j].toNat : Int) = 10 := fun e => h10 (by
              have : T[j].toNat = 10 := by omega
              exact UInt8.toNat_inj.1 this)
            have e1 : ((T[j].toNat : Int) == 10) = false := by rw [beq_eq_false_iff_ne]; exact e2
            have wj : IntKind.i64.wrap ((j : Int) + 1) = (j : Int) + 1 := IntWalk.i64_in _ (by omega)
            obtain ⟨P, hP⟩ : ∃ y, T.extract j (j + 1) = y := ⟨_, rfl⟩
            have htlP : tl P = [T[j]] := by
              rw [← hP]
              have : tl (T.extract j (j + 1)) = ((tl T).drop j).take 1 := by simp [tl]
              rw [this, drop_of hget]
              rfl
            have hPs : P.size = 1 := by rw [← tl_length, htlP]; rfl
            have s5 : ∀ W, (Op.stringOp .add B P).run Tryz.prog W = .ok (.string (B ++ P)) W := fun W => run_string_add_sum W _ _ (by omega)
            have HN := Lib.hid (show tl (B ++ P) = Pr.dec (tl note) ((tl T).take (j + 1)) by
              rw [take_snoc hget, Pr.dec_app, ← HJ.out, Pr.dec_one _ _ (by intro e; exact h10 (List.mem_singleton.1 e).symm), ← htlP]
              unfold tl
              rw [ByteArray.data_append, Array.toList_append])
            have p5 : (j : Int) ≤ (j : Int) + 1 := by omega
            have p6 : (j : Int) + 1 ≤ (T.size : Int) := by omega
            clear hget h10 htlP
            go_wp2
            go_round
            case rel => exact ⟨j + 1, B ++ P, by omega, by go_num, rfl, HN.out⟩
            case measure => simp [intOf]; omega
        · have p4 : ¬ (j : Int) < (T.size : Int) := by omega
          have hB : tl B = Pr.dec (tl note) (Pr.text s) := by
            have := HJ.out
            rwa [List.take_of_length_le (by rw [tl_length]; omega), HTl.out] at this
          have hp : Src.parse Src.own (tl B) = .ok s := by
            rw [hB]
            exact Pr.parse_dec s HRk.out HOp.out (tl note) (by rw [tl_length]; exact hn200) H10.out (by have := HDl.out; omega)
          have HP := Lib.hid fun W hw => Lv.call_ok hp W hw (by unfold maxLen; omega)
          clear hB hp
          go_wp2_with fail
          refine (HP.out _ (HW.out.below HB3.out).q).mono ?_
          rintro e w6 ⟨hb, rv6, zv6, lv6, evs6, rfl, hR6⟩
          obtain ⟨C1, i1, rfl, _⟩ := hR6.rules
          obtain ⟨C2, i2, rfl, _⟩ := hR6.zones
          obtain ⟨C3, i3, rfl, _⟩ := hR6.links
          obtain ⟨p1, hp1⟩ : ∃ n, s.rules.length = n := ⟨_, rfl⟩
          obtain ⟨p2, hp2⟩ : ∃ n, s.zones.length = n := ⟨_, rfl⟩
          obtain ⟨p3, hp3⟩ : ∃ n, s.links.length = n := ⟨_, rfl⟩
          rw [hp1, hp2, hp3] at hR6 ⊢
          have HX6 := Lib.hid (((Below.refl w6.heap.size w6).alloc (Nat.le_refl _) (.cells #[.slice C1 p1 i1, .slice C2 p2 i2, .slice C3 p3 i3] 26)).alloc (by simp) (.cells #[.int .i64 0, .int .i64 0, .int .i64 0] 34))
          have HT6 := Lib.hid ((At.new w6 #[.slice C1 p1 i1, .slice C2 p2 i2, .slice C3 p3 i3] 26).allocO (.cells #[.int .i64 0, .int .i64 0, .int .i64 0] 34))
          have HF6 := Lib.hid (show At ((w6.alloc (.cells #[.slice C1 p1 i1, .slice C2 p2 i2, .slice C3 p3 i3] 26)).alloc (.cells #[.int .i64 0, .int .i64 0, .int .i64 0] 34)) (w6.heap.size + 1) [.int .i64 0, .int .i64 0, .int .i64 0] by have := At.new (w6.alloc (.cells #[.slice C1 p1 i1, .slice C2 p2 i2, .slice C3 p3 i3] 26)) #[.int .i64 0, .int .i64 0, .int .i64 0] 34; simpa using this)
          have HA6 := Lib.hid ((HA3.out.call hb).call HX6.out)
          have HR6 := Lib.hid ((HR3.out.call hb).call HX6.out)
          have HV6 := Lib.hid (hR6.call HX6.out)
          have HB6 := Lib.hid (below_then (below_then HB3.out hb) HX6.out)
          clear hb hR6 hp1 hp2 hp3
          obtain ⟨a0, a1, a2, _⟩ := HA6.out.three
          obtain ⟨t0, t1, t2, _⟩ := HT6.out.three
          obtain ⟨f0, f1, f2, _⟩ := HF6.out.three
          go_wp2_with fail
          refine (HSs.out _ _ _ _ _ HV6.out HR6.out).mono ?_
          rintro e w7 ⟨rfl, hb⟩
          have HB7 := Lib.hid (below_then HB6.out hb)
          clear hb a0 a1 a2 t0 t1 t2 f0 f1 f2
          go_wp2
          go_ret
          exact ⟨rfl, HB7.out⟩
end Go.Proofs.YtlhoggalhjadgaaGreatDoor

/-
  TopNoted: whatever comes in, the law returns true and each argument reads as it did.
  Conditions: the listed package-level tables read as the program's text lays them (the card ties them to it).
-/
namespace Go.Proofs.YtlhoggalhjadgaaGreatDoor.topNoted
open Go.ChangeShapes Go.WideShapes Go.ChangeAt Go.RowKit Go.Joins
open Go.ChangeMaps (open_string shut_string)

theorem u8_nonneg {c : Int} (h : (Lit.int .u8 c).wf = true) : 0 ≤ c := by
  have : 0 ≤ c ∧ c ≤ 255 := by simpa [Lit.wf, IntKind.min, IntKind.max, IntKind.signed, IntKind.bits] using h
  exact this.1
theorem own : ownKnob Tryz.prog.godebug = none := by kernel_rfl
theorem laidOut : laidOutB Tryz.prog = true := by kernel_rfl
theorem g_places : Tryz.prog.globalNamed "solstice/abbr.places" = some 1 := by kernel_rfl
theorem t_places : (Tryz.prog.globals[1]?).map (·.type) = some 160 := by kernel_rfl
theorem g_pow : Tryz.prog.globalNamed "internal/strconv.uint64pow10" = some 3 := by kernel_rfl
theorem t_pow : (Tryz.prog.globals[3]?).map (·.type) = some 193 := by kernel_rfl
theorem g_parts : Tryz.prog.globalNamed "solstice/clock.parts" = some 0 := by kernel_rfl
theorem t_parts : (Tryz.prog.globals[0]?).map (·.type) = some 139 := by kernel_rfl

/-- What the program's variables hold where the call begins. -/
theorem wo_of {W : World} (h : laidMetH Tryz.prog Rows.topNotedRow.laid W) (hS : W.ShapedOpen Tryz.prog) : We W := by
  have h0 : laidMet Tryz.prog Rows.topNotedRow.laid W := h
  have h1 := h0.tail
  have h2 := h1.tail
  have h3 := h2.tail
  have h4 := h3.tail
  have h5 := h4.tail
  have x_pow : Lib.TabIs Tryz.prog W "internal/strconv.uint64pow10" .u64 Lib.pow10Tab := Lib.tabIs_of_head g_pow t_pow Tryz.underlying193 Tryz.underlying176 (by kernel_rfl) (by kernel_rfl) h2
  have x_parts : Lib.TabIs Tryz.prog W "solstice/clock.parts" .i64 [3600, 60, 1] := Lib.tabIs_of_head g_parts t_parts Tryz.underlying139 Tryz.underlying2 (by kernel_rfl) (by kernel_rfl) h5
  have x_places := strs_of_head (ls := [[37, 115], [37, 122]]) g_places t_places Tryz.underlying160 Tryz.underlying9 (by kernel_rfl) (by kernel_rfl) h4
  exact ⟨⟨x_parts.cell g_parts 0 (by decide), x_parts.cell g_parts 1 (by decide), x_parts.cell g_parts 2 (by decide), Tryz.laysM145.s1_3 W hS, x_pow⟩, ⟨x_places 0 _ rfl, x_places 1 _ rfl, Tryz.laysM145.s1_3 W hS⟩⟩

noncomputable def laidWorld (os : Os) : World :=
  { World.doorLaid Tryz.prog 4000 os with heap := (World.doorLaid Tryz.prog 4000 os).heap.modify 6 fun
      | .cells _ t frozen => .cells ((Go.Pinned.utf8FirstZ.map fun (z : Nat) => Value.int .u8 (Int.ofNat z)).toArray) t frozen
      | o => o }
theorem laid_met (os : Os) : laidMet Tryz.prog Rows.topNotedRow.laid ((laidWorld os).forCall (fun _ _ => 0) ⟨#[], #[.agg #[.slice none 0 0, .slice none 0 0, .slice none 0 0], .string ⟨#[]⟩], []⟩).memory :=
  laidMet_of_run' 8 (by kernel_rfl) (by kernel_rfl)
theorem reads (os : Os) {H : Type} (enc : TypeId × Value → H) : ∃ places, DataW.whole enc Tryz.prog ((laidWorld os).forCall (fun _ _ => 0) ⟨#[], #[.agg #[.slice none 0 0, .slice none 0 0, .slice none 0 0], .string ⟨#[]⟩], []⟩).memory Tryz.f5.params.toList Rows.topNotedSpec.vars false #[Value.agg #[.slice none 0 0, .slice none 0 0, .slice none 0 0], .string ⟨#[]⟩].toList 8 = some ([.agg [.nil, .nil, .nil], .lit (.string [])], [], places) :=
  ⟨[], by kernel_rfl⟩

set_option maxRecDepth 100000 in
set_option maxHeartbeats 4000000 in
theorem contract (H : Type) (enc : TypeId × Value → H) (W : World) (base : Nat) (args : Array Value) (ds gs : List (DataW H)) (before : List MemPlace)
    (hval : ∀ (j : Nat) t v, Tryz.f5.params[j]? = some t → args[j]? = some v → Value.okWide Tryz.prog W .any base t v)
    (hW : DataW.Whole enc Tryz.prog Tryz.f5.params.toList Rows.topNotedSpec.vars false W args.toList ds gs before) (hL : laidMetH Tryz.prog Rows.topNotedRow.laid W) (hS : W.ShapedOpen Tryz.prog) :
    Calls Tryz.prog 5 args W fun e W' => ∃ v, e = .returned v ∧ Rows.topNotedSpec.post enc Tryz.prog Tryz.f5 false true false false W args v W' := by
  have hW' := hW
  obtain ⟨p, q, hA0, hV, rfl, hfz, hnd⟩ := hW
  have hA : DataW.TrodAll enc Tryz.prog W 0 (fun _ => true) true Tryz.f5.params.toList args.toList ds p := hA0
  rw [Tryz.params5] at hA hval
  obtain ⟨v0, vs0, d0, ds0, p0, q0, hargs, rfl, rfl, h0, r0⟩ := trodAll_cons hA
  obtain ⟨v1, vs1, d1, ds1, p1, q1, rfl, rfl, rfl, h1, r1⟩ := trodAll_cons r0
  obtain ⟨rfl, rfl, rfl⟩ := trodAll_nil r1
  obtain rfl : args = #[v0, v1] := by cases args; simp_all
  obtain ⟨rfl, rfl⟩ := trodVars_none hV
  have k0 := h0
  have lt0 : ∀ x ∈ p0, x.block < W.heap.size := by obtain ⟨m, hm⟩ := k0; exact DataW.trod_lt m _ _ _ hm
  obtain ⟨s0, rv0, zv0, lv0, evs0, rfl, hsr0, hsw0⟩ := open_source (hval 0 26 v0 rfl rfl) h0
  obtain ⟨note, rfl, rfl, rfl, wnote⟩ := open_string Tryz.underlying9 (hval 1 9 v1 rfl rfl) h1
  clear hA0
  refine (topNoted_any s0 rv0 zv0 lv0 evs0 note W (wo_of hL hS) hsr0 hsw0 wnote).mono fun e W' ⟨he, bel⟩ => ?_
  subst he
  exact ⟨_, rfl, _, _, _, [], _, [], hW', trodAll_mk1 (shut_bool Tryz.underlying4 _), (trodAll_cons_mk (Below.trod laidOut (by kernel_rfl) (of_decide_eq_true (by kernel_rfl)) k0 bel lt0) (trodAll_cons_mk (shut_string Tryz.underlying9 wnote) trodAll_mk0)), rfl, bel.frame _, fun h => by cases h⟩

set_option maxRecDepth 100000 in
theorem lifted (os : Os) (started : os.Started) (H : Type) (enc : TypeId × Value → H) (F : Stop.Interp) :
    ReturnsInHanded {} Tryz.checked os 5 .any ((OpenSpec.ofChange Rows.topNotedSpec).preRow enc Tryz.prog Tryz.f5 Rows.topNotedRow.domain false Rows.topNotedRow.laid) (((OpenSpec.ofChange Rows.topNotedSpec).at F).post enc Tryz.prog Tryz.f5 false true false false) := by
  obtain ⟨places, hx⟩ := reads os enc
  refine returnsInHanded_of_row (C := Tryz.checked) (s := OpenSpec.ofChange Rows.topNotedSpec) own started (by kernel_rfl) Tryz.func5
    (witness_row_at (enc := enc) (C := Tryz.checked) false (laidWorld os) #[.agg #[.slice none 0 0, .slice none 0 0, .slice none 0 0], .string ⟨#[]⟩] rfl (by kernel_rfl) (by kernel_rfl) (by kernel_rfl)
      (OpenSpec.preRow_of_cond 8 hx (by kernel_rfl) (fun k hk => by cases hk) (by kernel_rfl) (laid_met os))) ?_
  intro W base args ds gs before hval hW _ _ _ hL hS _
  exact contract H enc W base args ds gs before hval hW hL hS

theorem said : Rows.TopNotedSaid :=
  OpenClaim.holds_of_cond 5 Tryz.f5 rfl rfl rfl rfl rfl rfl rfl ⟨rfl, rfl, rfl, rfl, rfl⟩ rfl rfl rfl rfl rfl (by kernel_rfl) Tryz.func5 (by kernel_rfl)
    (of_decide_eq_true (by kernel_rfl)) (by unfold Func.isWrapper; first | (rw [if_pos (by decide +kernel)]; kernel_rfl) | (rw [if_neg (by decide +kernel)]; exact ⟨rfl, rfl⟩))
    (fun os started H enc _ F => by rw [OpenClaim.pre_eq_preRow]; exact lifted os started H enc F)

/-- No parameter wants a stand-in; the program's own looks are off. -/
theorem plain (f : FuncId) (fn : Func) (hf : Tryz.pinned.checked.prog.funcNamed "solstice/solsticetop.TopNoted" = some f) (hfn : Tryz.pinned.checked.prog.funcs[f]? = some fn) :
    false = Tryz.pinned.checked.prog.looks [] ∧ ∀ (j : Nat) t, fn.params[j]? = some t → Tryz.pinned.checked.prog.wantsStandIn t = false := by
  obtain rfl : f = 5 := Option.some.inj ((show Tryz.prog.funcNamed "solstice/solsticetop.TopNoted" = some 5 by kernel_rfl).symm.trans hf) |>.symm
  obtain rfl : fn = Tryz.f5 := (Option.some.inj (Tryz.func5.symm.trans hfn)).symm
  refine ⟨by kernel_rfl, fun j t ht => ?_⟩
  rw [Tryz.params5] at ht
  have hm : t ∈ [26, 9] := by
    have := Array.mem_of_getElem? ht
    simp at this ⊢
    omega
  simp only [List.mem_cons, List.not_mem_nil, or_false] at hm
  rcases hm with rfl | rfl
  · exact (show Tryz.prog.wantsStandIn 26 = false by kernel_rfl)
  · exact (show Tryz.prog.wantsStandIn 9 = false by kernel_rfl)

/-- The statement: the tied card. -/
theorem card : Rows.TopNotedCardSaid :=
  Claim7.holds_tied_plain_at .later [] _ _ _ _ said (fun _ h => by cases h) (by kernel_rfl) (fun _ h => by cases h) topNoted_row_tie rfl ⟨rfl, rfl⟩ (by kernel_rfl) rfl plain (by kernel_rfl)
end Go.Proofs.YtlhoggalhjadgaaGreatDoor.topNoted
