/- The law's lives: what the document says of one source. -/
import Derived.Test.YtlhoggalhjadgaaGreatDoorK35
import Derived.Test.YtlhoggalhjadgaaGreatDoorK32
import Derived.Test.YtlhoggalhjadgaaGreatDoorK10
import Derived.ProofKit
import Derived.OpenShut
import Derived.Lib.SmallJoins
import Derived.SliceStrings
import Derived.Deep.RegionHeld
import Derived.Deep.Strs
import Derived.Test.YtlhoggalhjadgaaGreatDoorK17
import Derived.Lib.LaidTab

namespace Go.Proofs.YtlhoggalhjadgaaGreatDoor
open Go.RowKit

namespace Lv
def T12 : ByteArray := ⟨([82, 117, 108, 101, 32, 69, 85, 32, 49, 57, 56, 49, 32, 109, 97, 120, 32, 45, 32, 77, 97, 114, 32, 108, 97, 115, 116, 83, 117, 110, 32, 49, 58, 48, 48, 117, 32, 49, 58, 48, 48, 32, 83, 10, 90, 111].append [110, 101, 32, 65, 47, 66, 32, 49, 58, 48, 48, 32, 69, 85, 32, 67, 69, 37, 115, 84, 32, 50, 48, 48, 48, 10, 9, 50, 58, 48, 48, 32, 45, 32, 88, 10, 76, 105, 110, 107, 32, 65, 47, 66, 32, 67, 10]).toArray⟩
theorem p12 : Src.parse Src.own (tl T12) = .ok s1 := by kernel_rfl
theorem itoa_2000 : Lib.itoa 2000 = [50, 48, 48, 48] := by
  unfold Lib.itoa
  rw [if_neg (by decide)]
  rw [Lib.decDigits, dif_neg (by decide), Lib.decDigits, dif_neg (by decide), Lib.decDigits, dif_neg (by decide), Lib.decDigits, dif_pos (by decide)]
  rfl
theorem ck_3600 : (⟨(Ck.text 3600).toArray⟩ : ByteArray) = ⟨#[49, 58, 48, 48]⟩ := by rw [text_eq]; decide +kernel
theorem ck_7200 : (⟨(Ck.text 7200).toArray⟩ : ByteArray) = ⟨#[50, 58, 48, 48]⟩ := by rw [text_eq]; decide +kernel
theorem e1_texts : e1.texts = [⟨#[49, 58, 48, 48]⟩, ⟨#[69, 85]⟩, ⟨#[67, 69, 37, 115, 84]⟩, ⟨#[50, 48, 48, 48]⟩] := by
  have e2 : (⟨(Mo.text 0 0).toArray⟩ : ByteArray) = Mo.u3 := by unfold Mo.text; rw [text_eq]; decide +kernel
  have e3 : (⟨(Dy.text 0 1 0).toArray⟩ : ByteArray) = Mo.u2 := by decide +kernel
  have e4 : textOf Months (1 - 1) = Mo.u1 := by decide +kernel
  have hc : e1.u.count = 1 := by
    unfold Mo.U.count e1
    simp only
    rw [if_pos e2, if_pos e3, if_pos e4]
  unfold Er.E.texts Er.E.front Er.E.mid Mo.U.texts
  rw [hc]
  unfold Mo.U.full e1
  simp only [itoa_2000, ck_3600]
  rfl
theorem e2_texts : e2.texts = [⟨#[50, 58, 48, 48]⟩, ⟨#[45]⟩, ⟨#[88]⟩] := by
  unfold Er.E.texts Er.E.front Er.E.mid e2
  simp only [ck_7200]
  rfl
theorem itoa_1981 : Lib.itoa 1981 = [49, 57, 56, 49] := by
  unfold Lib.itoa
  rw [if_neg (by decide)]
  rw [Lib.decDigits, dif_neg (by decide), Lib.decDigits, dif_neg (by decide), Lib.decDigits, dif_neg (by decide), Lib.decDigits, dif_pos (by decide)]
  rfl
def r1L : List ByteArray := [⟨#[69, 85]⟩, ⟨#[49, 57, 56, 49]⟩, ⟨#[109, 97, 120]⟩, ⟨#[45]⟩, ⟨#[77, 97, 114]⟩, ⟨#[108, 97, 115, 116, 83, 117, 110]⟩, ⟨#[49, 58, 48, 48, 117]⟩, ⟨#[49, 58, 48, 48]⟩, ⟨#[83]⟩]
theorem r1_texts : r1.texts = r1L := by
  have e1 : (⟨(Mo.text 3600 2).toArray⟩ : ByteArray) = ⟨#[49, 58, 48, 48, 117]⟩ := by unfold Mo.text; rw [text_eq]; decide +kernel
  have e2 : (⟨(Ck.text 3600).toArray⟩ : ByteArray) = ⟨#[49, 58, 48, 48]⟩ := by rw [text_eq]; decide +kernel
  unfold Ru.R.texts r1
  simp only [itoa_1981, e1, e2]
  decide +kernel
theorem rule_line : Sc.line (Pr.ofRule r1).2 = ⟨#[82, 117, 108, 101, 32, 69, 85, 32, 49, 57, 56, 49, 32, 109, 97, 120, 32, 45, 32, 77, 97, 114, 32, 108, 97, 115, 116, 83, 117, 110, 32, 49, 58, 48, 48, 117, 32, 49, 58, 48, 48, 32, 83]⟩ := by
  unfold Pr.ofRule
  rw [r1_texts]
  decide +kernel
theorem zone_lines : Pr.zl ([65, 47, 66], [e1, e2]) = [⟨#[90, 111, 110, 101, 32, 65, 47, 66, 32, 49, 58, 48, 48, 32, 69, 85, 32, 67, 69, 37, 115, 84, 32, 50, 48, 48, 48]⟩, ⟨#[9, 50, 58, 48, 48, 32, 45, 32, 88]⟩] := by
  unfold Pr.zl Pr.ofZone Pr.ofEras Pr.ofEra Pr.ofEra1
  simp only [List.map_cons, List.map_nil, e1_texts, e2_texts]
  decide +kernel
theorem text_12 : Src.bts (Pr.text s1) = T12 := by
  unfold Pr.text Pr.lns s1 Pr.ofZone Pr.ofEras Pr.ofEra Pr.ofEra1 Pr.ofRule
  simp only [List.map_cons, List.map_nil, List.flatMap_cons, List.flatMap_nil, r1_texts, e1_texts, e2_texts]
  decide +kernel
theorem link_line : Sc.line (Pr.ofLink ([65], [66])).2 = ⟨#[76, 105, 110, 107, 32, 65, 32, 66]⟩ := by decide +kernel
theorem z_base : Src.Base Src.own Pr.RkE ([65, 47, 66], [e1, e2]) := by
  refine ⟨by decide +kernel, by decide, fun e he => ?_⟩
  simp only [List.mem_cons, List.not_mem_nil, or_false] at he
  rcases he with rfl | rfl
  · exact ⟨e1_ok, by decide⟩
  · exact ⟨e2_ok, by decide⟩
theorem z_done : Src.Done Src.own ([65, 47, 66], [e1, e2]) := ⟨[e1], e2, rfl, fun x hx => by rw [List.mem_singleton] at hx; subst hx; rfl, rfl⟩
theorem s1_zone : Src.ZonesOk Src.own Pr.RkE s1.op s1.zones := ⟨z_base, by rw [if_neg (by decide)]; exact z_done⟩
theorem s1_rk : Pr.Rk s1 := by
  refine ⟨⟨by decide, fun r hr => ?_⟩, ⟨by decide, ?_⟩, ⟨by decide, fun k hk => ?_⟩⟩
  · rw [show s1.rules = [r1] from rfl, List.mem_singleton] at hr
    subst hr
    exact ⟨r1_ok, by decide⟩
  · exact s1_zone
  · rw [show s1.links = [([65, 47, 66], [67])] from rfl, List.mem_singleton] at hk
    subst hk
    exact ⟨by decide +kernel, by decide +kernel⟩
theorem zone_a : Src.zoneB ([65], []) = false := by
  unfold Src.zoneB
  simp
end Lv
theorem lines_reads {w : World} {g : Nat} {ls : List ByteArray} (h : Pr.LinesAt w g ls) : Reads w w.heap.size 1 (some ⟨g, 0, none⟩) ls.length (ls.map Value.string) := by
  obtain ⟨cur, fz, hg, hc⟩ := h
  have hlt : g < w.heap.size := by
    rcases Nat.lt_or_ge g w.heap.size with h | h
    · exact h
    · simp [Array.getElem?_eq_none h] at hg
  refine ⟨by simp, fun _ => ⟨_, rfl, hlt, fun j u hu => ?_⟩⟩
  rw [List.getElem?_map, Option.map_eq_some_iff] at hu
  obtain ⟨s, hs, rfl⟩ := hu
  have e : (⟨g, 0, none⟩ : Addr).add j = ⟨g, j, none⟩ := by
    unfold Addr.add
    rcases Nat.eq_zero_or_pos j with h0 | h0
    · subst h0; rfl
    · simp [show ¬ j = 0 by omega]
  rw [e, Lib.cell_of_heap hg]
  exact hc j s hs
theorem Pr.LinesAt.call {w w' : World} {g : Nat} {ls : List ByteArray} (h : Pr.LinesAt w g ls) (hb : Below w.heap.size w w') : Pr.LinesAt w' g ls := by
  obtain ⟨cur, fz, hg, hc⟩ := h
  have hlt : g < w.heap.size := by
    rcases Nat.lt_or_ge g w.heap.size with h | h
    · exact h
    · simp [Array.getElem?_eq_none h] at hg
  exact ⟨cur, fz, (hb.block g hlt).trans hg, hc⟩
theorem rowR_reads {w : World} {B size n c : Nat} {A : Option Addr} {xs : List Value} (h : Src.RowR w B size n (.slice A n c) xs) : Reads w B size A n xs := by
  obtain ⟨A', c', e, _, _, hr⟩ := h
  injection e with e1 _ e2
  subst e1
  exact hr
set_option maxHeartbeats 4000000 in
set_option maxRecDepth 100000 in
theorem lives12 (w : World) (hW : We w) : Calls Tryz.prog 6 #[] w fun e w' => e = .returned (.bool true) ∧ Below w.heap.size w w' := by
  have hP := fun W hw => Lv.call_ok Lv.p12 W hw (by decide)
  have hT := fun rv zv lv evs W hw hr => prText_ok Lv.s1 rv zv lv evs W hw hr Lv.s1_rk rfl (by
    have h1 := congrArg ByteArray.size Lv.text_12
    have h2 : (Src.bts (Pr.text Lv.s1)).size = (Pr.text Lv.s1).length := rfl
    rw [h2] at h1
    rw [h1]
    decide)
  rw [Lv.text_12] at hT
  unfold Lv.T12 at hP hT
  have HP1 := Lib.hid hP
  have HT := Lib.hid hT
  have hRu := fun W hw => prRule_ok Lv.r1 W hw Lv.r1_ok (by decide)
  rw [Lv.rule_line] at hRu
  have HRu : Hid (∀ W (_ : Wc W), Calls Tryz.prog 13 #[.agg #[.string ⟨#[69, 85]⟩, .int .i64 1981, .int .i64 9999, .int .i64 3, .int .u8 1, .int .i64 0, .int .i64 0, .int .i64 3600, .int .u8 2, .int .i64 3600, .string ⟨#[83]⟩]] W fun e w' => e = .returned (.tuple #[.string ⟨#[82, 117, 108, 101, 32, 69, 85, 32, 49, 57, 56, 49, 32, 109, 97, 120, 32, 45, 32, 77, 97, 114, 32, 108, 97, 115, 116, 83, 117, 110, 32, 49, 58, 48, 48, 117, 32, 49, 58, 48, 48, 32, 83]⟩, .int .i64 0]) ∧ Below W.heap.size W w') := hRu
  have hZ := fun ev W hw hr => prZone_ok ([65, 47, 66], [Lv.e1, Lv.e2]) ev W hw Lv.z_base Lv.z_done hr
  rw [Lv.zone_lines] at hZ
  have HZ : Hid (∀ ev W (_ : We W) (_ : Src.RowR W W.heap.size 13 2 ev ([Lv.e1, Lv.e2].flatMap Er.E.cells)), Calls Tryz.prog 14 #[.agg #[.string ⟨#[65, 47, 66]⟩, ev]] W fun e w' => ∃ g c, e = .returned (.tuple #[.slice (some ⟨g, 0, none⟩) 2 c, .int .i64 0]) ∧ Pr.LinesAt w' g [⟨#[90, 111, 110, 101, 32, 65, 47, 66, 32, 49, 58, 48, 48, 32, 69, 85, 32, 67, 69, 37, 115, 84, 32, 50, 48, 48, 48]⟩, ⟨#[9, 50, 58, 48, 48, 32, 45, 32, 88]⟩] ∧ Below W.heap.size W w') := hZ
  have hK1 := fun W hw => prLink_ok ([65], [66]) W hw (by decide +kernel) (by decide +kernel)
  rw [Lv.link_line] at hK1
  have HK1 : Hid (∀ W (_ : Wa W), Calls Tryz.prog 15 #[.agg #[.string ⟨#[65]⟩, .string ⟨#[66]⟩]] W fun e w' => e = .returned (.tuple #[.string ⟨#[76, 105, 110, 107, 32, 65, 32, 66]⟩, .int .i64 0]) ∧ Below W.heap.size W w') := hK1
  have HK2 : Hid (∀ W (_ : Wa W), Calls Tryz.prog 15 #[.agg #[.string ⟨#[65]⟩, .string ⟨#[]⟩]] W fun e w' => e = .returned (.tuple #[.string ⟨#[]⟩, .int .i64 2]) ∧ Below W.heap.size W w') := fun W hw => prLink_bad ([65], []) W hw (by decide) (by decide) (by decide +kernel)
  have HZ2 : Hid (∀ W (_ : Wa W), Calls Tryz.prog 14 #[.agg #[.string ⟨#[65]⟩, .slice none 0 0]] W fun e w' => e = .returned (.tuple #[.slice none 0 0, .int .i64 2]) ∧ Below W.heap.size W w') := fun W hw => prZone_bad ([65], []) (.slice none 0 0) W hw (by decide) (fun e he => by cases he) Lv.zone_a (Lv.row_nil _ _ _)
  have HW := Lib.hid hW
  clear hW hP hT hRu hZ hK1
  go_enter Tryz.func6, Tryz.ntmps6
  go_wp2_with fail
  refine (HP1.out _ ⟨HW.out.c.p, HW.out.a⟩).mono ?_
  rintro e w1 ⟨hb, rv, zv, lv, evs, rfl, hR⟩
  obtain ⟨ra, rc, za, zc, la, lc, ea, ec, rfl, rfl, rfl, rfl, _, _⟩ := Lv.open_ hR
  have HBx1 := Lib.hid (((Below.refl w1.heap.size w1).alloc (Nat.le_refl _) (.cells #[.slice (some ra) 1 rc, .slice (some za) 1 zc, .slice (some la) 1 lc] 26)).alloc (by simp) (.cells #[.int .i64 0, .int .i64 0, .int .i64 0] 34))
  have HT1 := Lib.hid ((At.new w1 #[.slice (some ra) 1 rc, .slice (some za) 1 zc, .slice (some la) 1 lc] 26).allocO (.cells #[.int .i64 0, .int .i64 0, .int .i64 0] 34))
  have HF1 := Lib.hid (show At ((w1.alloc (.cells #[.slice (some ra) 1 rc, .slice (some za) 1 zc, .slice (some la) 1 lc] 26)).alloc (.cells #[.int .i64 0, .int .i64 0, .int .i64 0] 34)) (w1.heap.size + 1) [.int .i64 0, .int .i64 0, .int .i64 0] by have := At.new (w1.alloc (.cells #[.slice (some ra) 1 rc, .slice (some za) 1 zc, .slice (some la) 1 lc] 26)) #[.int .i64 0, .int .i64 0, .int .i64 0] 34; simpa using this)
  have HR1 := Lib.hid (hR.call HBx1.out)
  have HB1 := Lib.hid (below_then hb HBx1.out)
  clear hb hR
  obtain ⟨t0, t1, t2, _⟩ := HT1.out.three
  go_wp2_with fail
  refine (HT.out _ _ _ _ _ (HW.out.below HB1.out) HR1.out).mono ?_
  rintro e w2 ⟨rfl, hb⟩
  have HT2 := Lib.hid (HT1.out.call hb)
  have HF2 := Lib.hid (HF1.out.call hb)
  have HR2 := Lib.hid (HR1.out.call hb)
  have HB2 := Lib.hid (below_then HB1.out hb)
  clear hb t0 t1 t2 HT1 HF1 HR1 HB1 HBx1
  obtain ⟨t0, t1, t2, _⟩ := HT2.out.three
  obtain ⟨f0, f1, f2, _⟩ := HF2.out.three
  obtain ⟨ra', ee, _, rcell⟩ := (rowR_reads HR2.out.rules).2 (by decide)
  injection ee with ee
  subst ee
  have x0 : w2.cell? ra = some (.string ⟨#[69, 85]⟩) := rcell 0 _ rfl
  have x1 : w2.cell? ⟨ra.block, ra.off + 1, none⟩ = some (.int .i64 1981) := rcell 1 _ rfl
  have x2 : w2.cell? ⟨ra.block, ra.off + 2, none⟩ = some (.int .i64 9999) := rcell 2 _ rfl
  have x3 : w2.cell? ⟨ra.block, ra.off + 3, none⟩ = some (.int .i64 3) := rcell 3 _ rfl
  have x4 : w2.cell? ⟨ra.block, ra.off + 4, none⟩ = some (.int .u8 1) := rcell 4 _ rfl
  have x5 : w2.cell? ⟨ra.block, ra.off + 5, none⟩ = some (.int .i64 0) := rcell 5 _ rfl
  have x6 : w2.cell? ⟨ra.block, ra.off + 6, none⟩ = some (.int .i64 0) := rcell 6 _ rfl
  have x7 : w2.cell? ⟨ra.block, ra.off + 7, none⟩ = some (.int .i64 3600) := rcell 7 _ rfl
  have x8 : w2.cell? ⟨ra.block, ra.off + 8, none⟩ = some (.int .u8 2) := rcell 8 _ rfl
  have x9 : w2.cell? ⟨ra.block, ra.off + 9, none⟩ = some (.int .i64 3600) := rcell 9 _ rfl
  have x10 : w2.cell? ⟨ra.block, ra.off + 10, none⟩ = some (.string ⟨#[83]⟩) := rcell 10 _ rfl
  clear rcell
  go_wp2_with fail
  refine (HRu.out _ (HW.out.below HB2.out).c).mono ?_
  rintro e w3 ⟨rfl, hb⟩
  have HT3 := Lib.hid (HT2.out.call hb)
  have HR3 := Lib.hid (HR2.out.call hb)
  have HB3 := Lib.hid (below_then HB2.out hb)
  clear hb t0 t1 t2 f0 f1 f2 x0 x1 x2 x3 x4 x5 x6 x7 x8 x9 x10 HT2 HF2 HR2 HB2
  obtain ⟨t0, t1, t2, _⟩ := HT3.out.three
  obtain ⟨za', ee, _, zcell⟩ := (rowR_reads HR3.out.zones).2 (by decide)
  injection ee with ee
  subst ee
  have z0 : w3.cell? za = some (.string ⟨#[65, 47, 66]⟩) := zcell 0 _ rfl
  have z1 : w3.cell? ⟨za.block, za.off + 1, none⟩ = some (.slice (some ea) 2 ec) := zcell 1 _ rfl
  have HE3 := Lib.hid (HR3.out.eras (([65, 47, 66], [Lv.e1, Lv.e2]), .slice (some ea) 2 ec) List.mem_cons_self)
  clear zcell
  go_wp2_with fail
  refine (HZ.out _ _ (HW.out.below HB3.out) HE3.out).mono ?_
  rintro e w4 ⟨gz, cz, rfl, hln, hb⟩
  have HL4 := Lib.hid hln
  have HB4 := Lib.hid (below_then HB3.out hb)
  clear hb hln t0 t1 t2 z0 z1 HE3 HT3 HR3 HB3
  go_wp2_with fail
  refine (HK1.out _ (HW.out.below HB4.out).a).mono ?_
  rintro e w5 ⟨rfl, hb⟩
  have HL5 := Lib.hid (HL4.out.call hb)
  have HB5 := Lib.hid (below_then HB4.out hb)
  clear hb HL4 HB4
  go_wp2_with fail
  refine (HK2.out _ (HW.out.below HB5.out).a).mono ?_
  rintro e w6 ⟨rfl, hb⟩
  have HL6 := Lib.hid (HL5.out.call hb)
  have HB6 := Lib.hid (below_then HB5.out hb)
  clear hb HL5 HB5
  go_wp2_with fail
  refine (HZ2.out _ (HW.out.below HB6.out).a).mono ?_
  rintro e w7 ⟨rfl, hb⟩
  have HL7 := Lib.hid (HL6.out.call hb)
  have HB7 := Lib.hid (below_then HB6.out hb)
  clear hb HL6 HB6
  go_wp2_with fail
  refine ((calls_bool (refTexts_any _ _ 2 2 _ _ [⟨#[90, 111, 110, 101, 32, 65, 47, 66, 32, 49, 58, 48, 48, 32, 69, 85, 32, 67, 69, 37, 115, 84, 32, 50, 48, 48, 48]⟩, ⟨#[9, 50, 58, 48, 48, 32, 45, 32, 88]⟩] [⟨#[90, 111, 110, 101, 32, 65, 47, 66, 32, 49, 58, 48, 48, 32, 69, 85, 32, 67, 69, 37, 115, 84, 32, 50, 48, 48, 48]⟩, ⟨#[9, 50, 58, 48, 48, 32, 45, 32, 88]⟩] _ (by decide) (by decide) (lines_reads (HL7.out.call ((Below.refl w7.heap.size w7).alloc (Nat.le_refl _) _))) (er_reads w7 w7.heap.size [⟨#[90, 111, 110, 101, 32, 65, 47, 66, 32, 49, 58, 48, 48, 32, 69, 85, 32, 67, 69, 37, 115, 84, 32, 50, 48, 48, 48]⟩, ⟨#[9, 50, 58, 48, 48, 32, 45, 32, 88]⟩] 9 rfl)) (show _ = true by simp))).mono ?_
  rintro e w8 ⟨rfl, hd⟩
  have HB8 := Lib.hid (below_then (HB7.out.alloc HB7.out.size (.cells #[.string ⟨#[90, 111, 110, 101, 32, 65, 47, 66, 32, 49, 58, 48, 48, 32, 69, 85, 32, 67, 69, 37, 115, 84, 32, 50, 48, 48, 48]⟩, .string ⟨#[9, 50, 58, 48, 48, 32, 45, 32, 88]⟩] 9)) (hd.below _))
  clear hd
  go_wp2
  go_ret
  exact ⟨rfl, HB8.out⟩
end Go.Proofs.YtlhoggalhjadgaaGreatDoor

/- An Until among a row's arguments, opened: its seven cells. -/
namespace Go.Proofs.YtlhoggalhjadgaaGreatDoor
open Go.Deep
open Go.ChangeShapes Go.WideShapes Go.ChangeAt Go.RowKit Go.Joins
theorem byte_nonneg {c : Int} (h : (Lit.int .u8 c).wf = true) : 0 ≤ c := by
  have : 0 ≤ c ∧ c ≤ 255 := by simpa [Lit.wf, IntKind.min, IntKind.max, IntKind.signed, IntKind.bits] using h
  exact this.1
theorem array7 {α : Type} {cs : Array α} (h : cs.size = 7) : ∃ c0 c1 c2 c3 c4 c5 c6, cs = #[c0, c1, c2, c3, c4, c5, c6] := by
  obtain ⟨l⟩ := cs
  match l, h with
  | [c0, c1, c2, c3, c4, c5, c6], _ => exact ⟨c0, c1, c2, c3, c4, c5, c6, rfl⟩
set_option maxRecDepth 100000 in
theorem open_until {H : Type} {enc : TypeId × Value → H} {w : World} {base : Nat} {spare : Nat → Bool} {held : Bool} {r : Reach} {b0 : Nat} {v : Value} {d : DataW H} {p : List MemPlace}
    (hv : Value.okWide Tryz.prog w r b0 60 v) (h : DataW.Trod enc Tryz.prog w base spare held 60 v d p) : ∃ u : Mo.U, v = u.v ∧ 0 ≤ u.c := by
  have q7 : Tryz.prog.cellsOf 60 = 7 := by kernel_rfl
  have q0 : Tryz.prog.cellsOf 3 = 1 := by kernel_rfl
  have q1 : Tryz.prog.cellsOf 42 = 3 := by kernel_rfl
  have q2 : Tryz.prog.cellsOf 45 = 2 := by kernel_rfl
  have q3 : Tryz.prog.cellsOf 40 = 1 := by kernel_rfl
  have q4 : Tryz.prog.cellsOf 2 = 1 := by kernel_rfl
  have q5 : Tryz.prog.cellsOf 43 = 1 := by kernel_rfl
  obtain ⟨cs, rfl, hsz⟩ := okWide_struct Tryz.underlying60 hv
  obtain ⟨c0, c1, c2, c3, c4, c5, c6, rfl⟩ := array7 (hsz.trans q7)
  obtain ⟨fuel, hf⟩ := h
  obtain ⟨y0, y1, y2, y3, n, hx, _, h0, h1, h2, h3⟩ := trod_struct4 Tryz.underlying60 hf
  simp only [q0, q1, q2, Value.cells, List.drop, List.take] at h0 h1 h2 h3
  obtain ⟨a0, a1, a2, n2, _, _, g0, g1, g2⟩ := trod_struct3 Tryz.underlying42 h2
  obtain ⟨b0', b1', n3, _, _, f0, f1⟩ := trod_struct2 Tryz.underlying45 h3
  simp only [q0, q3, q4, q5, List.drop, List.take] at g0 g1 g2 f0 f1
  obtain ⟨y, e0, _, _⟩ := DataW.trod_int Tryz.underlying3 h0
  obtain ⟨m, e1, _, _⟩ := DataW.trod_int Tryz.underlying3 h1
  obtain ⟨k, e2, _, _⟩ := DataW.trod_int Tryz.underlying40 g0
  obtain ⟨nn, e3, _, _⟩ := DataW.trod_int Tryz.underlying3 g1
  obtain ⟨dd, e4, _, _⟩ := DataW.trod_int Tryz.underlying3 g2
  obtain ⟨s, e5, _, _⟩ := DataW.trod_int Tryz.underlying2 f0
  obtain ⟨c, e6, _, wc⟩ := DataW.trod_int Tryz.underlying43 f1
  simp only [List.cons.injEq, and_true] at e0 e1 e2 e3 e4 e5 e6
  subst e0 e1 e2 e3 e4 e5 e6
  exact ⟨⟨y, m, k, nn, dd, s, c⟩, rfl, byte_nonneg wc⟩
set_option maxRecDepth 100000 in
theorem open_strs {H : Type} {enc : TypeId × Value → H} {w : World} {base : Nat} {spare : Nat → Bool} {held : Bool} {r : Reach} {b0 : Nat} {v : Value} {d : DataW H} {p : List MemPlace}
    (hv : Value.okWide Tryz.prog w r b0 48 v) (h : DataW.Trod enc Tryz.prog w base spare held 48 v d p) :
    ∃ (A : Option Addr) (ln lc : Nat) (ss : List ByteArray), v = .slice A ln lc ∧ ln ≤ lc ∧ lc ≤ maxLen ∧ Reads w w.heap.size 1 A ln (ss.map Value.string) ∧ ∀ t ∈ ss, t.size ≤ maxLen := by
  have q0 : Tryz.prog.cellsOf 9 = 1 := by kernel_rfl
  obtain ⟨a0, ln, lc, rfl⟩ := okWide_slice Tryz.underlying48 hv
  obtain ⟨fuel, hf⟩ := h
  rcases open_strings Tryz.underlying48 Tryz.underlying9 q0 hf with ⟨hcs, _⟩ | ⟨a, ln', lc', ss, hcs, _, hl, hm, hz, _, hcell, hsz⟩
  · simp only [Value.cells, List.cons.injEq, Value.slice.injEq, and_true] at hcs
    obtain ⟨rfl, rfl, rfl⟩ := hcs
    exact ⟨none, 0, 0, [], rfl, Nat.le_refl _, Nat.zero_le _, Reads.none_, fun t ht => by cases ht⟩
  · simp only [Value.cells, List.cons.injEq, Value.slice.injEq, and_true] at hcs
    obtain ⟨rfl, rfl, rfl⟩ := hcs
    have hle : ln ≤ ss.length := by rw [hz]; split <;> omega
    refine ⟨some a, ln, lc, ss.take ln, rfl, hl, hm, ⟨by simp; omega, fun hn => ⟨a, rfl, World.block_lt_of_cell? w (a.add 0) (hcell 0 (by omega)), fun j u hj => ?_⟩⟩, fun t ht => hsz t (List.mem_of_mem_take ht)⟩
    have hj' : j < ln := by
      have := (List.getElem?_eq_some_iff.1 hj).1
      simp at this
      omega
    rw [List.getElem?_map, List.getElem?_take_of_lt hj', List.getElem?_eq_getElem (by omega)] at hj
    obtain rfl : Value.string ss[j] = u := by simpa using hj
    rw [hcell j (by omega)]
    simp [List.getD, List.getElem?_eq_getElem (show j < ss.length by omega)]
end Go.Proofs.YtlhoggalhjadgaaGreatDoor

/- A Rule, and an Era, among a row's arguments, opened; a listed table of strings. -/
namespace Go.Proofs.YtlhoggalhjadgaaGreatDoor
open Go.Deep
open Go.ChangeShapes Go.WideShapes Go.ChangeAt Go.RowKit Go.Joins
section
variable {H : Type} {enc : TypeId × Value → H} {P : Program} {w : World} {base : Nat} {spare : Nat → Bool} {held : Bool}
theorem trod_struct8 {t : TypeId} {f0 f1 f2 f3 f4 f5 f6 f7 : Field} {fuel : Nat} {cs : List Value} {x : DataW H × List MemPlace} (ht : P.underlying t = some (.struct #[f0, f1, f2, f3, f4, f5, f6, f7])) (h : DataW.trod enc P w base spare held fuel t cs = some x) :
    ∃ y0 y1 y2 y3 y4 y5 y6 y7 n, DataW.trod enc P w base spare held n f0.type ((cs.drop f0.offset).take (P.cellsOf f0.type)) = some y0 ∧
      DataW.trod enc P w base spare held n f1.type ((cs.drop f1.offset).take (P.cellsOf f1.type)) = some y1 ∧ DataW.trod enc P w base spare held n f2.type ((cs.drop f2.offset).take (P.cellsOf f2.type)) = some y2 ∧
      DataW.trod enc P w base spare held n f3.type ((cs.drop f3.offset).take (P.cellsOf f3.type)) = some y3 ∧ DataW.trod enc P w base spare held n f4.type ((cs.drop f4.offset).take (P.cellsOf f4.type)) = some y4 ∧
      DataW.trod enc P w base spare held n f5.type ((cs.drop f5.offset).take (P.cellsOf f5.type)) = some y5 ∧ DataW.trod enc P w base spare held n f6.type ((cs.drop f6.offset).take (P.cellsOf f6.type)) = some y6 ∧
      DataW.trod enc P w base spare held n f7.type ((cs.drop f7.offset).take (P.cellsOf f7.type)) = some y7 := by
  obtain ⟨xs, n, _, rfl, hl, hlen, hf⟩ := DataW.trod_struct ht h
  match xs, hlen with
  | [y0, y1, y2, y3, y4, y5, y6, y7], _ => exact ⟨y0, y1, y2, y3, y4, y5, y6, y7, n, by simpa using hf 0 f0 rfl, by simpa using hf 1 f1 rfl, by simpa using hf 2 f2 rfl, by simpa using hf 3 f3 rfl, by simpa using hf 4 f4 rfl, by simpa using hf 5 f5 rfl, by simpa using hf 6 f6 rfl, by simpa using hf 7 f7 rfl⟩
theorem trod_struct7 {t : TypeId} {f0 f1 f2 f3 f4 f5 f6 : Field} {fuel : Nat} {cs : List Value} {x : DataW H × List MemPlace} (ht : P.underlying t = some (.struct #[f0, f1, f2, f3, f4, f5, f6])) (h : DataW.trod enc P w base spare held fuel t cs = some x) :
    ∃ y0 y1 y2 y3 y4 y5 y6 n, DataW.trod enc P w base spare held n f0.type ((cs.drop f0.offset).take (P.cellsOf f0.type)) = some y0 ∧
      DataW.trod enc P w base spare held n f1.type ((cs.drop f1.offset).take (P.cellsOf f1.type)) = some y1 ∧ DataW.trod enc P w base spare held n f2.type ((cs.drop f2.offset).take (P.cellsOf f2.type)) = some y2 ∧
      DataW.trod enc P w base spare held n f3.type ((cs.drop f3.offset).take (P.cellsOf f3.type)) = some y3 ∧ DataW.trod enc P w base spare held n f4.type ((cs.drop f4.offset).take (P.cellsOf f4.type)) = some y4 ∧
      DataW.trod enc P w base spare held n f5.type ((cs.drop f5.offset).take (P.cellsOf f5.type)) = some y5 ∧ DataW.trod enc P w base spare held n f6.type ((cs.drop f6.offset).take (P.cellsOf f6.type)) = some y6 := by
  obtain ⟨xs, n, _, rfl, hl, hlen, hf⟩ := DataW.trod_struct ht h
  match xs, hlen with
  | [y0, y1, y2, y3, y4, y5, y6], _ => exact ⟨y0, y1, y2, y3, y4, y5, y6, n, by simpa using hf 0 f0 rfl, by simpa using hf 1 f1 rfl, by simpa using hf 2 f2 rfl, by simpa using hf 3 f3 rfl, by simpa using hf 4 f4 rfl, by simpa using hf 5 f5 rfl, by simpa using hf 6 f6 rfl⟩
end
theorem array11 {α : Type} {cs : Array α} (h : cs.size = 11) : ∃ c0 c1 c2 c3 c4 c5 c6 c7 c8 c9 c10, cs = #[c0, c1, c2, c3, c4, c5, c6, c7, c8, c9, c10] := by
  obtain ⟨l⟩ := cs
  match l, h with
  | [c0, c1, c2, c3, c4, c5, c6, c7, c8, c9, c10], _ => exact ⟨c0, c1, c2, c3, c4, c5, c6, c7, c8, c9, c10, rfl⟩
theorem array13 {α : Type} {cs : Array α} (h : cs.size = 13) : ∃ c0 c1 c2 c3 c4 c5 c6 c7 c8 c9 c10 c11 c12, cs = #[c0, c1, c2, c3, c4, c5, c6, c7, c8, c9, c10, c11, c12] := by
  obtain ⟨l⟩ := cs
  match l, h with
  | [c0, c1, c2, c3, c4, c5, c6, c7, c8, c9, c10, c11, c12], _ => exact ⟨c0, c1, c2, c3, c4, c5, c6, c7, c8, c9, c10, c11, c12, rfl⟩
set_option maxRecDepth 100000 in
theorem open_rule {H : Type} {enc : TypeId × Value → H} {w : World} {base : Nat} {spare : Nat → Bool} {held : Bool} {r : Reach} {b0 : Nat} {v : Value} {d : DataW H} {p : List MemPlace}
    (hv : Value.okWide Tryz.prog w r b0 47 v) (h : DataW.Trod enc Tryz.prog w base spare held 47 v d p) : ∃ r : Ru.R, v = r.v ∧ 0 ≤ r.c ∧ r.nm.size ≤ maxLen ∧ r.lt.size ≤ maxLen := by
  have q11 : Tryz.prog.cellsOf 47 = 11 := by kernel_rfl
  have q0 : Tryz.prog.cellsOf 3 = 1 := by kernel_rfl
  have q1 : Tryz.prog.cellsOf 42 = 3 := by kernel_rfl
  have q2 : Tryz.prog.cellsOf 45 = 2 := by kernel_rfl
  have q3 : Tryz.prog.cellsOf 40 = 1 := by kernel_rfl
  have q4 : Tryz.prog.cellsOf 2 = 1 := by kernel_rfl
  have q5 : Tryz.prog.cellsOf 43 = 1 := by kernel_rfl
  have q6 : Tryz.prog.cellsOf 9 = 1 := by kernel_rfl
  obtain ⟨cs, rfl, hsz⟩ := okWide_struct Tryz.underlying47 hv
  obtain ⟨c0, c1, c2, c3, c4, c5, c6, c7, c8, c9, c10, rfl⟩ := array11 (hsz.trans q11)
  obtain ⟨fuel, hf⟩ := h
  obtain ⟨y0, y1, y2, y3, y4, y5, y6, y7, n, h0, h1, h2, h3, h4, h5, h6, h7⟩ := trod_struct8 Tryz.underlying47 hf
  simp only [q0, q1, q2, q4, q6, Value.cells, List.drop, List.take] at h0 h1 h2 h3 h4 h5 h6 h7
  obtain ⟨a0, a1, a2, n2, _, _, g0, g1, g2⟩ := trod_struct3 Tryz.underlying42 h4
  obtain ⟨b0', b1', n3, _, _, f0, f1⟩ := trod_struct2 Tryz.underlying45 h5
  simp only [q0, q3, q4, q5, List.drop, List.take] at g0 g1 g2 f0 f1
  obtain ⟨nm, e0, _, wn⟩ := DataW.trod_string Tryz.underlying9 h0
  obtain ⟨fr, e1, _, _⟩ := DataW.trod_int Tryz.underlying3 h1
  obtain ⟨tt, e2, _, _⟩ := DataW.trod_int Tryz.underlying3 h2
  obtain ⟨mo, e3, _, _⟩ := DataW.trod_int Tryz.underlying3 h3
  obtain ⟨k, e4, _, _⟩ := DataW.trod_int Tryz.underlying40 g0
  obtain ⟨nn, e5, _, _⟩ := DataW.trod_int Tryz.underlying3 g1
  obtain ⟨dd, e6, _, _⟩ := DataW.trod_int Tryz.underlying3 g2
  obtain ⟨s, e7, _, _⟩ := DataW.trod_int Tryz.underlying2 f0
  obtain ⟨c, e8, _, wc⟩ := DataW.trod_int Tryz.underlying43 f1
  obtain ⟨sv, e9, _, _⟩ := DataW.trod_int Tryz.underlying2 h6
  obtain ⟨lt, e10, _, wl⟩ := DataW.trod_string Tryz.underlying9 h7
  simp only [List.cons.injEq, and_true] at e0 e1 e2 e3 e4 e5 e6 e7 e8 e9 e10
  subst e0 e1 e2 e3 e4 e5 e6 e7 e8 e9 e10
  exact ⟨⟨nm, fr, tt, mo, k, nn, dd, s, c, sv, lt⟩, rfl, byte_nonneg wc, wn, wl⟩
set_option maxRecDepth 100000 in
theorem open_era {H : Type} {enc : TypeId × Value → H} {w : World} {base : Nat} {spare : Nat → Bool} {held : Bool} {r : Reach} {b0 : Nat} {v : Value} {d : DataW H} {p : List MemPlace}
    (hv : Value.okWide Tryz.prog w r b0 62 v) (h : DataW.Trod enc Tryz.prog w base spare held 62 v d p) : ∃ e : Er.E, v = e.v ∧ 0 ≤ e.u.c ∧ e.ru.size ≤ maxLen ∧ e.fm.size ≤ maxLen := by
  have q13 : Tryz.prog.cellsOf 62 = 13 := by kernel_rfl
  have q7 : Tryz.prog.cellsOf 60 = 7 := by kernel_rfl
  have q0 : Tryz.prog.cellsOf 3 = 1 := by kernel_rfl
  have q1 : Tryz.prog.cellsOf 42 = 3 := by kernel_rfl
  have q2 : Tryz.prog.cellsOf 45 = 2 := by kernel_rfl
  have q3 : Tryz.prog.cellsOf 40 = 1 := by kernel_rfl
  have q4 : Tryz.prog.cellsOf 2 = 1 := by kernel_rfl
  have q5 : Tryz.prog.cellsOf 43 = 1 := by kernel_rfl
  have q6 : Tryz.prog.cellsOf 9 = 1 := by kernel_rfl
  have q8 : Tryz.prog.cellsOf 4 = 1 := by kernel_rfl
  have q9 : Tryz.prog.cellsOf 58 = 1 := by kernel_rfl
  obtain ⟨cs, rfl, hsz⟩ := okWide_struct Tryz.underlying62 hv
  obtain ⟨c0, c1, c2, c3, c4, c5, c6, c7, c8, c9, c10, c11, c12, rfl⟩ := array13 (hsz.trans q13)
  obtain ⟨fuel, hf⟩ := h
  obtain ⟨y0, y1, y2, y3, y4, y5, y6, n, h0, h1, h2, h3, h4, h5, h6⟩ := trod_struct7 Tryz.underlying62 hf
  simp only [q4, q6, q7, q8, q9, Value.cells, List.drop, List.take] at h0 h1 h2 h3 h4 h5 h6
  obtain ⟨z0, z1, z2, z3, n1, _, _, i0, i1, i2, i3⟩ := trod_struct4 Tryz.underlying60 h6
  simp only [q0, q1, q2, List.drop, List.take] at i0 i1 i2 i3
  obtain ⟨a0, a1, a2, n2, _, _, g0, g1, g2⟩ := trod_struct3 Tryz.underlying42 i2
  obtain ⟨b0', b1', n3, _, _, f0, f1⟩ := trod_struct2 Tryz.underlying45 i3
  simp only [q0, q3, q4, q5, List.drop, List.take] at g0 g1 g2 f0 f1
  obtain ⟨std, e0, _, _⟩ := DataW.trod_int Tryz.underlying2 h0
  obtain ⟨k, e1, _, _⟩ := DataW.trod_int Tryz.underlying58 h1
  obtain ⟨sv, e2, _, _⟩ := DataW.trod_int Tryz.underlying2 h2
  obtain ⟨ru, e3, _, wr⟩ := DataW.trod_string Tryz.underlying9 h3
  obtain ⟨fm, e4, _, wf⟩ := DataW.trod_string Tryz.underlying9 h4
  obtain ⟨en, e5, _⟩ := DataW.trod_bool Tryz.underlying4 h5
  obtain ⟨y, e6, _, _⟩ := DataW.trod_int Tryz.underlying3 i0
  obtain ⟨m, e7, _, _⟩ := DataW.trod_int Tryz.underlying3 i1
  obtain ⟨dk, e8, _, _⟩ := DataW.trod_int Tryz.underlying40 g0
  obtain ⟨dn, e9, _, _⟩ := DataW.trod_int Tryz.underlying3 g1
  obtain ⟨dd, e10, _, _⟩ := DataW.trod_int Tryz.underlying3 g2
  obtain ⟨s, e11, _, _⟩ := DataW.trod_int Tryz.underlying2 f0
  obtain ⟨c, e12, _, wc⟩ := DataW.trod_int Tryz.underlying43 f1
  simp only [List.cons.injEq, and_true] at e0 e1 e2 e3 e4 e5 e6 e7 e8 e9 e10 e11 e12
  subst e0 e1 e2 e3 e4 e5 e6 e7 e8 e9 e10 e11 e12
  exact ⟨⟨std, k, sv, ru, fm, en, ⟨y, m, dk, dn, dd, s, c⟩⟩, rfl, byte_nonneg wc, wr, wf⟩
/-- A listed table of strings: what its cells hold. -/
theorem strs_of_head {P : Program} {W : World} {name : String} {ls : List (List UInt8)} {rest : List (String × DataW Unit)} {g : Nat} {t e : TypeId} {n : Nat}
    (hg : P.globalNamed name = some g) (hty : (P.globals[g]?).map (·.type) = some t) (ht : P.underlying t = some (.array n e)) (he : P.underlying e = some .string) (hce : P.cellsOf e = 1) (hct : P.cellsOf t = n)
    (h : laidMet P ((name, .agg (ls.map fun l => .lit (.string l))) :: rest) W) : ∀ i l, ls[i]? = some l → W.cell? ⟨g, i, none⟩ = some (.string ⟨l.toArray⟩) := by
  obtain ⟨ps, ⟨g', t', cs, fuel, p, q, hg', ht', hvar, hd, _, _⟩, _⟩ := h
  obtain rfl := Option.some.inj (hg.symm.trans hg')
  obtain rfl := Option.some.inj (hty.symm.trans ht')
  obtain ⟨xs, m, rfl, hx, hl, hxl, hel⟩ := DataW.trod_array ht hd
  intro i l hi
  have hmap : xs.map (·.1) = ls.map fun l => (DataW.lit (.string l)) := by
    have := congrArg Prod.fst hx
    simpa using this.symm
  have hn : i < n := by
    have h1 := congrArg List.length hmap
    have h2 := (List.getElem?_eq_some_iff.1 hi).1
    simp only [List.length_map] at h1
    omega
  have hE := hel i hn
  rw [hce, Nat.mul_one, List.getElem?_eq_getElem (by omega)] at hE
  obtain ⟨s, hc, hd', _⟩ := DataW.trod_string he hE
  have h2 : (xs.map (·.1))[i]? = some xs[i].1 := by simp [List.getElem?_eq_getElem (show i < xs.length by omega)]
  rw [hmap, List.getElem?_map, hi, Option.map_some, hd'] at h2
  simp only [Option.some.injEq, DataW.lit.injEq, Lit.string.injEq] at h2
  have h3 : cs[i]? = some (.string s) := by
    have := congrArg (·[0]?) hc
    simpa [List.getElem?_take, List.getElem?_drop] using this
  have := World.var?_cell hg hvar i
  rw [this]
  rw [h2]
  exact h3
end Go.Proofs.YtlhoggalhjadgaaGreatDoor
