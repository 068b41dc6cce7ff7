/- The walk of the law SourceRight: both texts are read. -/
import Derived.Test.YtmobejhfajnbhaaDoorK46
namespace Go.Proofs.YtmobejhfajnbhaaDoor
open Go.RowKit

theorem cells_one {α : Type} (enc : α → List Value) (h : ∀ x, ∀ v ∈ enc x, v.oneCell' = true) (l : List α) : ∀ v ∈ l.flatMap enc, v.oneCell' = true := by
  intro v hv
  rw [List.mem_flatMap] at hv
  obtain ⟨x, _, hx⟩ := hv
  exact h x v hx
theorem rule_one (l : List Ru.R) : ∀ v ∈ l.flatMap Ru.R.cells, v.oneCell' = true := cells_one _ (fun x v hv => by
  unfold Ru.R.cells at hv
  simp only [List.mem_cons, List.not_mem_nil, or_false] at hv
  rcases hv with rfl | rfl | rfl | rfl | rfl | rfl | rfl | rfl | rfl | rfl | rfl <;> rfl) l
theorem link_one (l : List (Src.Txt × Src.Txt)) : ∀ v ∈ l.flatMap Src.lc, v.oneCell' = true := cells_one _ (fun x v hv => by
  unfold Src.lc at hv
  simp only [List.mem_cons, List.not_mem_nil, or_false] at hv
  rcases hv with rfl | rfl <;> rfl) l
theorem zone_one {w : World} {B : Nat} {s : Src.S} {rv zv lv : Value} {evs : List Value} (h : Src.SrcR w B s rv zv lv evs) : ∀ v ∈ (s.zones.zip evs).flatMap Src.zc, v.oneCell' = true := by
  intro v hv
  rw [List.mem_flatMap] at hv
  obtain ⟨p, hp, hx⟩ := hv
  obtain ⟨A, c, e, _⟩ := h.eras p hp
  unfold Src.zc at hx
  simp only [List.mem_cons, List.not_mem_nil, or_false] at hx
  rcases hx with rfl | rfl
  · rfl
  · rw [e]
    rfl
theorem row_reads {w : World} {B size n c : Nat} {A : Option Addr} {xs : List Value} (h : Src.RowR w B size n (.slice A n c) xs) : Reads w B size A n xs := by
  obtain ⟨A', c', e, _, _, hr⟩ := h
  injection e with e1 _ e2
  subst e1
  exact hr
theorem zip_app {α β : Type} : ∀ (a a' : List α) (b b' : List β), b.length = a.length → (a ++ a').zip (b ++ b') = a.zip b ++ a'.zip b'
  | [], a', [], b', _ => rfl
  | x :: a, a', y :: b, b', h => by
    rw [List.cons_append, List.cons_append, List.zip_cons_cons, List.zip_cons_cons, zip_app a a' b b' (by simpa using h), List.cons_append]
set_option maxHeartbeats 2000000 in
set_option maxRecDepth 100000 in
theorem sourceRight_both (a b : ByteArray) (w : World) (hW : Wq w) (hl : a.size + b.size ≤ 8192) (x x2 : Src.S) (hp : Src.parse Src.own (tl a) = .ok x) (hq : Src.parse Src.own (tl b) = .ok x2) :
    Calls Tryd.prog 5 #[.string a, .string b] w fun e w' => e = .returned (.bool true) ∧ Below w.heap.size w w' := by
  have hRt := Src.right_of (by rw [tl_length]; omega) hp
  have hpb := Src.parse_both Src.own (tl a) (tl b) x (by rw [tl_length, tl_length]; exact hl) hp
  rw [← tl_both, hq] at hpb
  have hpb' : Src.parse Src.own (tl (a ++ ⟨#[10]⟩ ++ b)) = .ok (Src.app x x2) := by rw [hpb]; rfl
  have hRt2 := Src.right_of (by rw [tl_length]; omega) hq
  have hRt3 := Src.right_of (by rw [tl_length]; simp only [ByteArray.size_append, show (⟨#[10]⟩ : ByteArray).size = 1 from rfl]; omega) hpb'
  have HL := Lib.hid fun W hw => lives11 W hw
  have HW := Lib.hid hW
  clear hW
  have HP := Lib.hid fun W hw => Lv.call_ok hp W hw (by unfold maxLen; omega)
  have HQ := Lib.hid fun W hw => Lv.call_ok hq W hw (by unfold maxLen; omega)
  have h1 : (⟨#[10]⟩ : ByteArray).size = 1 := rfl
  have HPQ := Lib.hid fun W hw => Lv.call_ok hpb' W hw (by unfold maxLen; simp only [ByteArray.size_append]; omega)
  have HRt := Lib.hid hRt
  have HRt2 := Lib.hid hRt2
  have HRt3 := Lib.hid hRt3
  have s1 : ∀ W, (Op.stringOp .add a ⟨#[10]⟩).run Tryd.prog W = .ok (.string (a ++ ⟨#[10]⟩)) W := fun W => run_string_add_sum W _ _ (by omega)
  have s2 : ∀ W, (Op.stringOp .add (a ++ ⟨#[10]⟩) b).run Tryd.prog W = .ok (.string (a ++ ⟨#[10]⟩ ++ b)) W := fun W => run_string_add_sum W _ _ (by rw [ByteArray.size_append]; omega)
  have wr : IntKind.i64.wrap ((a.size : Int) + (b.size : Int)) = (a.size : Int) + (b.size : Int) := IntWalk.i64_in _ (by omega)
  have q1 : ¬ (8192 : Int) < (a.size : Int) + (b.size : Int) := by omega
  clear hp hq hpb hpb' hRt hRt2 hRt3 h1
  go_enter Tryd.func5, Tryd.ntmps5
  go_wp2_with fail
  refine (HL.out _ HW.out).mono ?_
  rintro e w1 ⟨rfl, hd⟩
  have HB := Lib.hid hd
  clear hd
  go_wp2_with fail
  refine (HP.out _ (HW.out.below HB.out)).mono ?_
  rintro e w2 ⟨hd, rv, zv, lv, evs, rfl, hR⟩
  obtain ⟨A1, k1, g1, _, _, _⟩ := hR.rules
  obtain ⟨A2, k2, g2, _, _, _⟩ := hR.zones
  obtain ⟨A3, k3, g3, _, _, _⟩ := hR.links
  subst g1 g2 g3
  have HR := Lib.hid hR
  obtain ⟨n1, hn1⟩ : ∃ n, x.rules.length = n := ⟨_, rfl⟩
  obtain ⟨n2, hn2⟩ : ∃ n, x.zones.length = n := ⟨_, rfl⟩
  obtain ⟨n3, hn3⟩ : ∃ n, x.links.length = n := ⟨_, rfl⟩
  rw [hn1, hn2, hn3] at HR ⊢
  have HN := Lib.hid (And.intro hn2 hn3)
  have HN1 := Lib.hid hn1
  have HBx := Lib.hid (((Below.refl w2.heap.size w2).alloc (Nat.le_refl _) (.cells #[.slice A1 n1 k1, .slice A2 n2 k2, .slice A3 n3 k3] 26)).alloc (by simp) (.cells #[.int .i64 0, .int .i64 0, .int .i64 0] 59))
  have HT := Lib.hid ((At.new w2 #[.slice A1 n1 k1, .slice A2 n2 k2, .slice A3 n3 k3] 26).allocO (.cells #[.int .i64 0, .int .i64 0, .int .i64 0] 59))
  have HB2 := Lib.hid (below_then (below_then HB.out hd) HBx.out)
  have HR2 := Lib.hid (HR.out.call HBx.out)
  clear hd hR hn1 hn2 hn3
  go_wp2_with fail
  refine (HQ.out _ (HW.out.below HB2.out)).mono ?_
  rintro e w3 ⟨hd, rv, zv, lv, evs2, rfl, hR⟩
  obtain ⟨B1, j1, g1, _, _, _⟩ := hR.rules
  obtain ⟨B2, j2, g2, _, _, _⟩ := hR.zones
  obtain ⟨B3, j3, g3, _, _, _⟩ := hR.links
  subst g1 g2 g3
  have HS := Lib.hid hR
  obtain ⟨m1, hm1⟩ : ∃ n, x2.rules.length = n := ⟨_, rfl⟩
  obtain ⟨m2, hm2⟩ : ∃ n, x2.zones.length = n := ⟨_, rfl⟩
  obtain ⟨m3, hm3⟩ : ∃ n, x2.links.length = n := ⟨_, rfl⟩
  rw [hm1, hm2, hm3] at HS ⊢
  have HM := Lib.hid (And.intro hm1 (And.intro hm2 hm3))
  have HBy := Lib.hid (((Below.refl w3.heap.size w3).alloc (Nat.le_refl _) (.cells #[.slice B1 m1 j1, .slice B2 m2 j2, .slice B3 m3 j3] 26)).alloc (by simp) (.cells #[.int .i64 0, .int .i64 0, .int .i64 0] 59))
  have HT2 := Lib.hid ((HT.out.call hd).call HBy.out)
  have HU2 := Lib.hid ((At.new w3 #[.slice B1 m1 j1, .slice B2 m2 j2, .slice B3 m3 j3] 26).allocO (.cells #[.int .i64 0, .int .i64 0, .int .i64 0] 59))
  have HS2 := Lib.hid (HS.out.call HBy.out)
  have HB3 := Lib.hid (below_then (below_then HB2.out hd) HBy.out)
  have HR3 := Lib.hid ((HR2.out.call hd).call HBy.out)
  have HG := Lib.hid (show At ((w3.alloc (.cells #[.slice B1 m1 j1, .slice B2 m2 j2, .slice B3 m3 j3] 26)).alloc (.cells #[.int .i64 0, .int .i64 0, .int .i64 0] 59)) (w3.heap.size + 1) [.int .i64 0, .int .i64 0, .int .i64 0] by have := At.new (w3.alloc (.cells #[.slice B1 m1 j1, .slice B2 m2 j2, .slice B3 m3 j3] 26)) #[.int .i64 0, .int .i64 0, .int .i64 0] 59; simpa using this)
  clear hd hR hm1 hm2 hm3
  go_wp2_with fail
  refine (HPQ.out _ (HW.out.below HB3.out)).mono ?_
  rintro e w4 ⟨hd, rv, zv, lv, evs3, rfl, hR⟩
  obtain ⟨C1, i1, g1, _, _, _⟩ := hR.rules
  obtain ⟨C2, i2, g2, _, _, _⟩ := hR.zones
  obtain ⟨C3, i3, g3, _, _, _⟩ := hR.links
  subst g1 g2 g3
  have HV := Lib.hid hR
  obtain ⟨p1, hp1⟩ : ∃ n, (Src.app x x2).rules.length = n := ⟨_, rfl⟩
  obtain ⟨p2, hp2⟩ : ∃ n, (Src.app x x2).zones.length = n := ⟨_, rfl⟩
  obtain ⟨p3, hp3⟩ : ∃ n, (Src.app x x2).links.length = n := ⟨_, rfl⟩
  rw [hp1, hp2, hp3] at HV ⊢
  have HBz := Lib.hid (((Below.refl w4.heap.size w4).alloc (Nat.le_refl _) (.cells #[.slice C1 p1 i1, .slice C2 p2 i2, .slice C3 p3 i3] 26)).alloc (by simp) (.cells #[.int .i64 0, .int .i64 0, .int .i64 0] 59))
  have HU3 := Lib.hid ((HU2.out.call hd).call HBz.out)
  have HX3 := Lib.hid ((At.new w4 #[.slice C1 p1 i1, .slice C2 p2 i2, .slice C3 p3 i3] 26).allocO (.cells #[.int .i64 0, .int .i64 0, .int .i64 0] 59))
  have HS3 := Lib.hid ((HS2.out.call hd).call HBz.out)
  have HV2 := Lib.hid (HV.out.call HBz.out)
  have HT3 := Lib.hid ((HT2.out.call hd).call HBz.out)
  have HB4 := Lib.hid (below_then (below_then HB3.out hd) HBz.out)
  have HR4 := Lib.hid ((HR3.out.call hd).call HBz.out)
  have HG4 := Lib.hid ((HG.out.call hd).call HBz.out)
  have HH := Lib.hid (show At ((w4.alloc (.cells #[.slice C1 p1 i1, .slice C2 p2 i2, .slice C3 p3 i3] 26)).alloc (.cells #[.int .i64 0, .int .i64 0, .int .i64 0] 59)) (w4.heap.size + 1) [.int .i64 0, .int .i64 0, .int .i64 0] by have := At.new (w4.alloc (.cells #[.slice C1 p1 i1, .slice C2 p2 i2, .slice C3 p3 i3] 26)) #[.int .i64 0, .int .i64 0, .int .i64 0] 59; simpa using this)
  clear hd hR hp1 hp2 hp3
  go_wp2_with fail
  obtain ⟨WA, hWA⟩ : ∃ W, (w4.alloc (.cells #[.slice C1 p1 i1, .slice C2 p2 i2, .slice C3 p3 i3] 26)).alloc (.cells #[.int .i64 0, .int .i64 0, .int .i64 0] 59) = W := ⟨_, rfl⟩
  rw [hWA] at HT3 HU3 HX3 HB4 HR4 HS3 HV2 HG4 HH ⊢
  obtain ⟨b5, hb5⟩ : ∃ h, w2.heap.size = h := ⟨_, rfl⟩
  obtain ⟨b7, hb7⟩ : ∃ h, w3.heap.size = h := ⟨_, rfl⟩
  obtain ⟨b9, hb9⟩ : ∃ h, w4.heap.size = h := ⟨_, rfl⟩
  rw [hb5] at HT3 ⊢
  rw [hb7] at HG4 HU3 ⊢
  rw [hb9] at HH HX3 ⊢
  clear hWA hb5 hb7 hb9
  have hLm := Src.right_lims HRt.out.1
  have hn23 : n2 ≤ 1024 ∧ n3 ≤ 4096 := by
    have h1 := hLm.zones
    have h2 := hLm.links
    have h3 := HN.out
    omega
  have wnn : IntKind.i64.wrap ((n2 : Int) + (n3 : Int)) = (n2 : Int) + (n3 : Int) := IntWalk.i64_in _ (by omega)
  have HCk := Lib.hid fun W (hb : Below WA.heap.size WA W) => chk_right HRt.out.1 HRt.out.2 _ _ _ _ W (HW.out.below (below_then HB4.out hb)).a (HR4.out.call hb)
  have HNm := Lib.hid fun W (hb : Below WA.heap.size WA W) => srcNames_any x _ _ _ _ W (HR4.out.call hb) hLm
  rw [HN.out.1, HN.out.2] at HNm
  obtain ⟨t0, t1, t2, _⟩ := HT3.out.three
  clear hLm
  go_region_held3 (fun w' => w'.cell? ⟨b5, 0, none⟩ = some (.slice A1 n1 k1) ∧ w'.cell? ⟨b5, 1, none⟩ = some (.slice A2 n2 k2) ∧ w'.cell? ⟨b5, 2, none⟩ = some (.slice A3 n3 k3)) (first | exact ⟨t0, t1, t2⟩ | exact ⟨by assumption, by assumption, by assumption⟩)
    (first
      | (go_at_call 24; refine (HCk.out _ ((Below.refl WA.heap.size WA).drew)).mono ?_; rintro e v1 ⟨rfl, hbb⟩; have hb1 := below_then ((Below.refl WA.heap.size WA).drew) hbb; obtain ⟨r0, r1, r2, _⟩ := (HT3.out.call hb1).three; clear hbb)
      | (go_at_call 10; refine (HNm.out _ (by assumption)).mono ?_; rintro e v2 ⟨nA, nc, rfl, hbb, _, _, _⟩; have hb2 := below_then (by assumption : Below WA.heap.size WA _) hbb; obtain ⟨z0, z1, z2, _⟩ := (HT3.out.call hb2).three; clear hbb))
  have HB5 := Lib.hid (below_then HB4.out hb2)
  have HG5 := Lib.hid (HG4.out.call hb2)
  have HH5 := Lib.hid (HH.out.call hb2)
  have HT5 := Lib.hid (HT3.out.call hb2)
  have HU5 := Lib.hid (HU3.out.call hb2)
  have HX5 := Lib.hid (HX3.out.call hb2)
  have HR5 := Lib.hid (HR4.out.call hb2)
  have HS5 := Lib.hid (HS3.out.call hb2)
  have HV5 := Lib.hid (HV2.out.call hb2)
  clear hb2 hb1 r0 r1 r2 z0 z1 z2 t0 t1 t2
  obtain ⟨u0, u1, u2, _⟩ := HG5.out.three
  go_wp2_with fail
  --REGION
  have hR5 := HR5.out
  have hS5 := HS5.out
  have e3 : evs.length = x.zones.length := hR5.len
  have e4 : evs2.length = x2.zones.length := hS5.len
  have hLm := Src.right_lims HRt.out.1
  have hLm2 := Src.right_lims HRt2.out.1
  have hb1 : n1 ≤ 4096 := by have h1 := hLm.rules; have h2 := HN1.out; omega
  have hb2 : m1 ≤ 4096 := by have h1 := hLm2.rules; have h2 := HM.out.1; omega
  have hb3 : m2 ≤ 1024 := by have h1 := hLm2.zones; have h2 := HM.out.2.1; omega
  have hb4 : m3 ≤ 4096 := by have h1 := hLm2.links; have h2 := HM.out.2.2; omega
  obtain ⟨hn2, hn3⟩ := hn23
  have h0r := hR5.rules
  have h0z := hR5.zones
  have h0l := hR5.links
  have h1r := hS5.rules
  have h1z := hS5.zones
  have h1l := hS5.links
  rw [HN1.out] at h0r
  rw [HN.out.1] at h0z
  rw [HN.out.2] at h0l
  rw [HM.out.1] at h1r
  rw [HM.out.2.1] at h1z
  rw [HM.out.2.2] at h1l
  have R0 := Lib.hid (row_reads h0r)
  have R1 := Lib.hid (row_reads h0z)
  have R2 := Lib.hid (row_reads h0l)
  have Q0 := Lib.hid (row_reads h1r)
  have Q1 := Lib.hid (row_reads h1z)
  have Q2 := Lib.hid (row_reads h1l)
  have O0 := Lib.hid (rule_one x.rules)
  have O1 := Lib.hid (zone_one hR5)
  have O2 := Lib.hid (link_one x.links)
  have V0 := Lib.hid (rule_one x2.rules)
  have V1 := Lib.hid (zone_one hS5)
  have V2 := Lib.hid (link_one x2.links)
  obtain ⟨i0, i01, i02, i03, i04⟩ := info_parts rule_info
  have HI0 := Lib.hid (And.intro i01 (And.intro i02 (And.intro i03 i04)))
  obtain ⟨i1z, i11, i12, i13, i14⟩ := info_parts zone_info
  have HI1 := Lib.hid (And.intro i11 (And.intro i12 (And.intro i13 i14)))
  obtain ⟨i2l, i21, i22, i23, i24⟩ := info_parts link_info
  have HI2 := Lib.hid (And.intro i21 (And.intro i22 (And.intro i23 i24)))
  clear hR5 hS5 hLm hLm2 h0r h0z h0l h1r h1z h1l i01 i02 i03 i04 i11 i12 i13 i14 i21 i22 i23 i24 u0 u1 u2 e3 e4
  refine Od.wp_region_inv 133 (by kernel_rfl) (by rfl) (by rfl) (Od.ord_of (by kernel_rfl)) (Od.dst_of (by kernel_rfl)) (Al.J v2.drew (Od.slots _) b5 b7 (⟨34, 11, .slice A1 n1 k1, .slice B1 m1 j1, n1, m1, x.rules.flatMap Ru.R.cells, x2.rules.flatMap Ru.R.cells⟩ : Al.Ch) (⟨37, 2, .slice A2 n2 k2, .slice B2 m2 j2, n2, m2, (x.zones.zip evs).flatMap Src.zc, (x2.zones.zip evs2).flatMap Src.zc⟩ : Al.Ch) (⟨89, 2, .slice A3 n3 k3, .slice B3 m3 j3, n3, m3, x.links.flatMap Src.lc, x2.links.flatMap Src.lc⟩ : Al.Ch)) (Al.J.start _ _ _ _ _ _ _) ?step ?fin
  case step =>
    intro i o hi b a' wz hJ hb hdep hdf K hK
    obtain ⟨tm, df⟩ := a'
    simp only at hdf
    subst hdf
    have hi24 : i < 24 := (Array.getElem?_eq_some_iff.1 hi).1
    have hT := (HT5.out.drew ⟨1, rfl⟩).call hJ.below
    have hU := (HU5.out.drew ⟨1, rfl⟩).call hJ.below
    have h5 : tm.getD 5 undef = .pointer (some ⟨b5, 0, none⟩) := hJ.old 5 (by omega) (by omega)
    have h7 : tm.getD 7 undef = .pointer (some ⟨b7, 0, none⟩) := hJ.old 7 (by omega) (by omega)
    have hBz : v2.heap.size ≤ wz.heap.size := hJ.below.size
    have hsplit : i = 0 ∨ i = 1 ∨ i = 2 ∨ i = 3 ∨ i = 4 ∨ i = 5 ∨ i = 6 ∨ i = 7 ∨ i = 8 ∨ i = 9 ∨ i = 10 ∨ i = 11 ∨ i = 12 ∨ i = 13 ∨ i = 14 ∨ i = 15 ∨ i = 16 ∨ i = 17 ∨ i = 18 ∨ i = 19 ∨ i = 20 ∨ i = 21 ∨ i = 22 ∨ i = 23 := by omega
    rcases hsplit with rfl | rfl | rfl | rfl | rfl | rfl | rfl | rfl | rfl | rfl | rfl | rfl | rfl | rfl | rfl | rfl | rfl | rfl | rfl | rfl | rfl | rfl | rfl | rfl
    · have e := Option.some.inj (show some _ = some o from hi)
      subst e
      rw [if_pos (show Region.wanted _ _ = true from rfl)]
      go_simp
      exact hK _ _ (hJ.bs0 hb)
    · have e := Option.some.inj (show some _ = some o from hi)
      subst e
      rw [if_pos (show Region.wanted _ _ = true from rfl)]
      go_simp
      exact hK _ _ hJ.p0
    · have e := Option.some.inj (show some _ = some o from hi)
      subst e
      rw [if_pos (show Region.wanted _ _ = true from rfl)]
      have hp : tm.getD 104 undef = .pointer (some ⟨b5, 0, none⟩) := hJ.l0.p (hdep ⟨1, .data⟩ (by simp) rfl)
      have hc := hT.cell 0 _ rfl
      go_simp
      exact hK _ _ hJ.x0
    · have e := Option.some.inj (show some _ = some o from hi)
      subst e
      rw [if_pos (show Region.wanted _ _ = true from rfl)]
      have hd : b 0 = true := hdep ⟨0, .data⟩ (by simp) rfl
      have hx : tm.getD 105 undef = .slice A1 n1 k1 := hJ.l0.x (hdep ⟨2, .data⟩ (by simp) rfl)
      refine wp_append_any wz (.tmp 103) (.tmp 105) 22 rfl v2.drew.heap.size 34 i0 _ 11 104 Tryd.underlying22 HI0.out.1 HI0.out.2.1 HI0.out.2.2.1 HI0.out.2.2.2 rfl (by decide) _ 0 [] rfl (hJ.own_ap0 hb hd) _ A1 n1 k1 _ hx ((show Reads v2.drew v2.drew.heap.size _ _ _ _ from R0.out).below hJ.below) O0.out (by unfold maxLen; omega) (by omega) hBz ?_
      intro v' w' hown hg hat
      rw [Nat.zero_add, List.nil_append] at hown
      exact hK _ _ (hJ.ap0 hb hd hown hg hat)
    · have e := Option.some.inj (show some _ = some o from hi)
      subst e
      rw [if_pos (show Region.wanted _ _ = true from rfl)]
      go_simp
      exact hK _ _ hJ.q0
    · have e := Option.some.inj (show some _ = some o from hi)
      subst e
      rw [if_pos (show Region.wanted _ _ = true from rfl)]
      have hp : tm.getD 107 undef = .pointer (some ⟨b7, 0, none⟩) := hJ.l0.q (hdep ⟨4, .data⟩ (by simp) rfl)
      have hc := hU.cell 0 _ rfl
      go_simp
      exact hK _ _ hJ.y0
    · have e := Option.some.inj (show some _ = some o from hi)
      subst e
      rw [if_pos (show Region.wanted _ _ = true from rfl)]
      have hd : b 3 = true := hdep ⟨3, .data⟩ (by simp) rfl
      have hx : tm.getD 108 undef = .slice B1 m1 j1 := hJ.l0.y (hdep ⟨5, .data⟩ (by simp) rfl)
      refine wp_append_any wz (.tmp 106) (.tmp 108) 22 rfl v2.drew.heap.size 34 i0 _ 11 104 Tryd.underlying22 HI0.out.1 HI0.out.2.1 HI0.out.2.2.1 HI0.out.2.2.2 rfl (by decide) _ n1 _ rfl (hJ.own_aq0 hb hd) _ B1 m1 j1 _ hx ((show Reads v2.drew v2.drew.heap.size _ _ _ _ from Q0.out).below hJ.below) V0.out (by unfold maxLen; omega) (by omega) hBz ?_
      intro v' w' hown hg hat
      exact hK _ _ (hJ.aq0 hb hd hown hg hat)
    · have e := Option.some.inj (show some _ = some o from hi)
      subst e
      rw [if_pos (show Region.wanted _ _ = true from rfl)]
      go_simp
      exact hK _ _ (hJ.bs1 hb)
    · have e := Option.some.inj (show some _ = some o from hi)
      subst e
      rw [if_pos (show Region.wanted _ _ = true from rfl)]
      go_simp
      exact hK _ _ hJ.p1
    · have e := Option.some.inj (show some _ = some o from hi)
      subst e
      rw [if_pos (show Region.wanted _ _ = true from rfl)]
      have hp : tm.getD 111 undef = .pointer (some ⟨b5, 1, none⟩) := hJ.l1.p (hdep ⟨8, .data⟩ (by simp) rfl)
      have hc := hT.cell 1 _ rfl
      go_simp
      exact hK _ _ hJ.x1
    · have e := Option.some.inj (show some _ = some o from hi)
      subst e
      rw [if_pos (show Region.wanted _ _ = true from rfl)]
      have hd : b 7 = true := hdep ⟨7, .data⟩ (by simp) rfl
      have hx : tm.getD 112 undef = .slice A2 n2 k2 := hJ.l1.x (hdep ⟨9, .data⟩ (by simp) rfl)
      refine wp_append_any wz (.tmp 110) (.tmp 112) 23 rfl v2.drew.heap.size 37 i1z _ 2 40 Tryd.underlying23 HI1.out.1 HI1.out.2.1 HI1.out.2.2.1 HI1.out.2.2.2 rfl (by decide) _ 0 [] rfl (hJ.own_ap1 hb hd) _ A2 n2 k2 _ hx ((show Reads v2.drew v2.drew.heap.size _ _ _ _ from R1.out).below hJ.below) O1.out (by unfold maxLen; omega) (by omega) hBz ?_
      intro v' w' hown hg hat
      rw [Nat.zero_add, List.nil_append] at hown
      exact hK _ _ (hJ.ap1 hb hd hown hg hat)
    · have e := Option.some.inj (show some _ = some o from hi)
      subst e
      rw [if_pos (show Region.wanted _ _ = true from rfl)]
      go_simp
      exact hK _ _ hJ.q1
    · have e := Option.some.inj (show some _ = some o from hi)
      subst e
      rw [if_pos (show Region.wanted _ _ = true from rfl)]
      have hp : tm.getD 114 undef = .pointer (some ⟨b7, 1, none⟩) := hJ.l1.q (hdep ⟨11, .data⟩ (by simp) rfl)
      have hc := hU.cell 1 _ rfl
      go_simp
      exact hK _ _ hJ.y1
    · have e := Option.some.inj (show some _ = some o from hi)
      subst e
      rw [if_pos (show Region.wanted _ _ = true from rfl)]
      have hd : b 10 = true := hdep ⟨10, .data⟩ (by simp) rfl
      have hx : tm.getD 115 undef = .slice B2 m2 j2 := hJ.l1.y (hdep ⟨12, .data⟩ (by simp) rfl)
      refine wp_append_any wz (.tmp 113) (.tmp 115) 23 rfl v2.drew.heap.size 37 i1z _ 2 40 Tryd.underlying23 HI1.out.1 HI1.out.2.1 HI1.out.2.2.1 HI1.out.2.2.2 rfl (by decide) _ n2 _ rfl (hJ.own_aq1 hb hd) _ B2 m2 j2 _ hx ((show Reads v2.drew v2.drew.heap.size _ _ _ _ from Q1.out).below hJ.below) V1.out (by unfold maxLen; omega) (by omega) hBz ?_
      intro v' w' hown hg hat
      exact hK _ _ (hJ.aq1 hb hd hown hg hat)
    · have e := Option.some.inj (show some _ = some o from hi)
      subst e
      rw [if_pos (show Region.wanted _ _ = true from rfl)]
      go_simp
      exact hK _ _ (hJ.bs2 hb)
    · have e := Option.some.inj (show some _ = some o from hi)
      subst e
      rw [if_pos (show Region.wanted _ _ = true from rfl)]
      go_simp
      exact hK _ _ hJ.p2
    · have e := Option.some.inj (show some _ = some o from hi)
      subst e
      rw [if_pos (show Region.wanted _ _ = true from rfl)]
      have hp : tm.getD 118 undef = .pointer (some ⟨b5, 2, none⟩) := hJ.l2.p (hdep ⟨15, .data⟩ (by simp) rfl)
      have hc := hT.cell 2 _ rfl
      go_simp
      exact hK _ _ hJ.x2
    · have e := Option.some.inj (show some _ = some o from hi)
      subst e
      rw [if_pos (show Region.wanted _ _ = true from rfl)]
      have hd : b 14 = true := hdep ⟨14, .data⟩ (by simp) rfl
      have hx : tm.getD 119 undef = .slice A3 n3 k3 := hJ.l2.x (hdep ⟨16, .data⟩ (by simp) rfl)
      refine wp_append_any wz (.tmp 117) (.tmp 119) 24 rfl v2.drew.heap.size 89 i2l _ 2 32 Tryd.underlying24 HI2.out.1 HI2.out.2.1 HI2.out.2.2.1 HI2.out.2.2.2 rfl (by decide) _ 0 [] rfl (hJ.own_ap2 hb hd) _ A3 n3 k3 _ hx ((show Reads v2.drew v2.drew.heap.size _ _ _ _ from R2.out).below hJ.below) O2.out (by unfold maxLen; omega) (by omega) hBz ?_
      intro v' w' hown hg hat
      rw [Nat.zero_add, List.nil_append] at hown
      exact hK _ _ (hJ.ap2 hb hd hown hg hat)
    · have e := Option.some.inj (show some _ = some o from hi)
      subst e
      rw [if_pos (show Region.wanted _ _ = true from rfl)]
      go_simp
      exact hK _ _ hJ.q2
    · have e := Option.some.inj (show some _ = some o from hi)
      subst e
      rw [if_pos (show Region.wanted _ _ = true from rfl)]
      have hp : tm.getD 121 undef = .pointer (some ⟨b7, 2, none⟩) := hJ.l2.q (hdep ⟨18, .data⟩ (by simp) rfl)
      have hc := hU.cell 2 _ rfl
      go_simp
      exact hK _ _ hJ.y2
    · have e := Option.some.inj (show some _ = some o from hi)
      subst e
      rw [if_pos (show Region.wanted _ _ = true from rfl)]
      have hd : b 17 = true := hdep ⟨17, .data⟩ (by simp) rfl
      have hx : tm.getD 122 undef = .slice B3 m3 j3 := hJ.l2.y (hdep ⟨19, .data⟩ (by simp) rfl)
      refine wp_append_any wz (.tmp 120) (.tmp 122) 24 rfl v2.drew.heap.size 89 i2l _ 2 32 Tryd.underlying24 HI2.out.1 HI2.out.2.1 HI2.out.2.2.1 HI2.out.2.2.2 rfl (by decide) _ n3 _ rfl (hJ.own_aq2 hb hd) _ B3 m3 j3 _ hx ((show Reads v2.drew v2.drew.heap.size _ _ _ _ from Q2.out).below hJ.below) V2.out (by unfold maxLen; omega) (by omega) hBz ?_
      intro v' w' hown hg hat
      exact hK _ _ (hJ.aq2 hb hd hown hg hat)
    · have e := Option.some.inj (show some _ = some o from hi)
      subst e
      rw [if_pos (show Region.wanted _ _ = true from rfl)]
      have h6 := hdep ⟨6, .data⟩ (by simp) rfl
      have h13 := hdep ⟨13, .data⟩ (by simp) rfl
      have h20 := hdep ⟨20, .data⟩ (by simp) rfl
      obtain ⟨P1, q1', g1, _, _⟩ := own_slice_cap (hJ.full0 h6)
      obtain ⟨P2, q2', g2, _, _⟩ := own_slice_cap (hJ.full1 h13)
      obtain ⟨P3, q3', g3, _, _⟩ := own_slice_cap (hJ.full2 h20)
      have g1 : tm.getD 109 undef = .slice P1 (n1 + m1) q1' := g1
      have g2 : tm.getD 116 undef = .slice P2 (n2 + m2) q2' := g2
      have g3 : tm.getD 123 undef = .slice P3 (n3 + m3) q3' := g3
      have hbl := hJ.build h6 h13 h20
      have e : (Value.agg #[Od.slots ⟨tm, []⟩ 109, Od.slots ⟨tm, []⟩ 116, Od.slots ⟨tm, []⟩ 123]) = .agg #[.slice P1 (n1 + m1) q1', .slice P2 (n2 + m2) q2', .slice P3 (n3 + m3) q3'] := by
        unfold Od.slots
        simp only [g1, g2, g3]
      rw [e] at hbl
      have g1' : tm[109]?.getD undef = .slice P1 (n1 + m1) q1' := by rw [← Array.getD_eq_getD_getElem?]; exact g1
      have g2' : tm[116]?.getD undef = .slice P2 (n2 + m2) q2' := by rw [← Array.getD_eq_getD_getElem?]; exact g2
      have g3' : tm[123]?.getD undef = .slice P3 (n3 + m3) q3' := by rw [← Array.getD_eq_getD_getElem?]; exact g3
      go_simp
      exact hK _ _ hbl
    · have e := Option.some.inj (show some _ = some o from hi)
      subst e
      rw [if_pos (show Region.wanted _ _ = true from rfl)]
      go_simp
      exact hK _ _ (hJ.alloc_ hb)
    · have e := Option.some.inj (show some _ = some o from hi)
      subst e
      rw [if_pos (show Region.wanted _ _ = true from rfl)]
      have h21 := hdep ⟨21, .data⟩ (by simp) rfl
      have h22 := hdep ⟨22, .data⟩ (by simp) rfl
      obtain ⟨⟨h6, h13, h20⟩, h124⟩ := hJ.bd h21
      obtain ⟨P1, q1', g1, _, _⟩ := own_slice_cap (hJ.full0 h6)
      obtain ⟨P2, q2', g2, _, _⟩ := own_slice_cap (hJ.full1 h13)
      obtain ⟨P3, q3', g3, _, _⟩ := own_slice_cap (hJ.full2 h20)
      have g1 : tm.getD 109 undef = .slice P1 (n1 + m1) q1' := g1
      have g2 : tm.getD 116 undef = .slice P2 (n2 + m2) q2' := g2
      have g3 : tm.getD 123 undef = .slice P3 (n3 + m3) q3' := g3
      have h124 : tm.getD 124 undef = .agg #[.slice P1 (n1 + m1) q1', .slice P2 (n2 + m2) q2', .slice P3 (n3 + m3) q3'] := by
        have : tm.getD 124 undef = .agg #[tm.getD 109 undef, tm.getD 116 undef, tm.getD 123 undef] := h124
        rw [g1, g2, g3] at this
        exact this
      obtain ⟨g, hg1, hg2, hg3, _⟩ := hJ.al h22
      rw [hb, if_neg (by decide)] at hg3
      have h13' : tm.getD 13 undef = .pointer (some ⟨g, 0, none⟩) := hg1
      have hst := hJ.store_ h21 hb hg1 h22
      have s1 : Od.slots ⟨tm, []⟩ 109 = .slice P1 (n1 + m1) q1' := g1
      have s2 : Od.slots ⟨tm, []⟩ 116 = .slice P2 (n2 + m2) q2' := g2
      have s3 : Od.slots ⟨tm, []⟩ 123 = .slice P3 (n3 + m3) q3' := g3
      rw [s1, s2, s3] at hst
      obtain ⟨z0, z1, z2, y0', y1', y2'⟩ := hg3.three
      go_simp
      exact hK undef _ hst
  case fin =>
    intro a' wz hJ hN hdf
    obtain ⟨g, hg1, hg2, hg3, _⟩ := hJ.al (by rfl)
    rw [if_pos (show decide (23 < Array.size _) = true by rfl)] at hg3
    have hr0 := hJ.full0 (by rfl)
    have hr1 := hJ.full1 (by rfl)
    have hr2 := hJ.full2 (by rfl)
    obtain ⟨P1, q1', g1, _, _⟩ := own_slice_cap hr0
    obtain ⟨P2, q2', g2, _, _⟩ := own_slice_cap hr1
    obtain ⟨P3, q3', g3, _, _⟩ := own_slice_cap hr2
    rw [g1, g2, g3] at hg3
    rw [g1] at hr0
    rw [g2] at hr1
    rw [g3] at hr2
    have h9 : a'.tmps.getD 9 undef = .pointer (some ⟨b9, 0, none⟩) := hJ.old 9 (by omega) (by omega)
    have h10 : a'.tmps.getD 10 undef = .pointer (some ⟨b9 + 1, 0, none⟩) := hJ.old 10 (by omega) (by omega)
    have h13 : a'.tmps.getD 13 undef = .pointer (some ⟨g, 0, none⟩) := hg1
    have HX6 := Lib.hid ((HX5.out.drew ⟨1, rfl⟩).call hJ.below)
    have HH6 := Lib.hid ((HH5.out.drew ⟨1, rfl⟩).call hJ.below)
    have HGg := Lib.hid hg3
    have HB6 := Lib.hid (below_then HB5.out ((Below.refl v2.heap.size v2).drew.trans (show Below v2.heap.size v2.drew wz from hJ.below)))
    have hbz : Below v2.heap.size v2 wz := (Below.refl v2.heap.size v2).drew.trans (show Below v2.heap.size v2.drew wz from hJ.below)
    have HV6 := Lib.hid (HV5.out.call hbz)
    have hR6 := HR5.out.call hbz
    have hS6 := HS5.out.call hbz
    have hAll : Src.SrcR wz wz.heap.size ⟨x.rules ++ x2.rules, x.zones ++ x2.zones, x.links ++ x2.links, false⟩ (.slice P1 (n1 + m1) q1') (.slice P2 (n2 + m2) q2') (.slice P3 (n3 + m3) q3') (evs ++ evs2) := by
      have w0 := Src.RowR.of_own hr0
      have w1 := Src.RowR.of_own hr1
      have w2 := Src.RowR.of_own hr2
      simp only at w0 w1 w2
      refine ⟨?_, ?_, ?_, by simp [hR6.len, hS6.len], ?_⟩
      · simp only [List.length_append, HN1.out, HM.out.1, List.flatMap_append]
        exact w0
      · simp only [List.length_append, HN.out.1, HM.out.2.1]
        rw [zip_app _ _ _ _ hR6.len, List.flatMap_append]
        exact w1
      · simp only [List.length_append, HN.out.2, HM.out.2.2, List.flatMap_append]
        exact w2
      · intro p hp
        have hp' : p ∈ x.zones.zip evs ++ x2.zones.zip evs2 := by
          rw [← zip_app _ _ _ _ hR6.len]
          exact hp
        rcases List.mem_append.1 hp' with hp | hp
        · exact hR6.eras p hp
        · exact hS6.eras p hp
    have HSm := Lib.hid (calls_bool (srcSame_any (Src.app x x2) _ _ _ _ _ _ _ _ _ wz HV6.out hAll) (show _ = true from (Src.sameB_iff _ _).2 ⟨rfl, rfl, rfl⟩))
    have ef : a' = { tmps := ((List.range 133).map fun i => a'.tmps.getD i undef).toArray, defers := [] } := Sc.frame_of 133 a' hN hdf
    obtain ⟨u, hu⟩ : ∃ u : Nat → Value, (fun i => a'.tmps.getD i undef) = u := ⟨_, rfl⟩
    rw [hu] at ef
    have e9 : u 9 = .pointer (some ⟨b9, 0, none⟩) := by rw [← hu]; exact h9
    have e10 : u 10 = .pointer (some ⟨b9 + 1, 0, none⟩) := by rw [← hu]; exact h10
    have e13 : u 13 = .pointer (some ⟨g, 0, none⟩) := by rw [← hu]; exact h13
    have ef2 : a' = { tmps := #[u 0, u 1, u 2, u 3, u 4, u 5, u 6, u 7, u 8, u 9, u 10, u 11, u 12, u 13, u 14, u 15, u 16, u 17, u 18, u 19, u 20, u 21, u 22, u 23, u 24, u 25, u 26, u 27, u 28, u 29, u 30, u 31, u 32, u 33, u 34, u 35, u 36, u 37, u 38, u 39, u 40, u 41, u 42, u 43, u 44, u 45, u 46, u 47, u 48, u 49, u 50, u 51, u 52, u 53, u 54, u 55, u 56, u 57, u 58, u 59, u 60, u 61, u 62, u 63, u 64, u 65, u 66, u 67, u 68, u 69, u 70, u 71, u 72, u 73, u 74, u 75, u 76, u 77, u 78, u 79, u 80, u 81, u 82, u 83, u 84, u 85, u 86, u 87, u 88, u 89, u 90, u 91, u 92, u 93, u 94, u 95, u 96, u 97, u 98, u 99, u 100, u 101, u 102, u 103, u 104, u 105, u 106, u 107, u 108, u 109, u 110, u 111, u 112, u 113, u 114, u 115, u 116, u 117, u 118, u 119, u 120, u 121, u 122, u 123, u 124, u 125, u 126, u 127, u 128, u 129, u 130, u 131, u 132], defers := [] } := ef
    rw [e9, e10, e13] at ef2
    rw [ef2]
    obtain ⟨t0, t1, t2, _⟩ := HX6.out.three
    obtain ⟨y0, y1, y2, _⟩ := HH6.out.three
    obtain ⟨z0, z1, z2, _⟩ := HGg.out.three
    clear hJ hg1 hg3 hr0 hr1 hr2 g1 g2 g3 h9 h10 h13 hbz hR6 hS6 hAll ef ef2 hu e9 e10 e13 hN hdf
    go_wp2_with fail
    refine HSm.out.mono ?_
    rintro e v3 ⟨rfl, hd⟩
    have HB7 := Lib.hid (below_then HB6.out hd)
    clear hd
    go_wp2
    go_ret
    exact ⟨rfl, HB7.out⟩
end Go.Proofs.YtmobejhfajnbhaaDoor
