/- DiffBack: the walk. -/
import Derived.Test.YtjobhjemnmleaaaGreatDoorQ49
set_option maxRecDepth 200000
set_option maxHeartbeats 32000000
namespace Go.Proofs.YtjobhjemnmleaaaGreatDoor
open Go.RowKit
namespace Df
theorem ChRet.self {s : Src.S} {lo hi : Int} {w w' : World} {e : Ending} (h : ChRet s s lo hi w e w') : ∃ A c er, e = .returned (.tuple #[.slice A 0 c, .int .i64 er]) ∧ Below w.heap.size w w' := by
 obtain ⟨hb, ⟨_, rfl⟩ | ⟨_, _, _, rfl⟩ | ⟨_, _, _, v, rfl, ho⟩⟩ := h
 ·exact ⟨none, 0, 2, rfl, hb⟩
 ·exact ⟨none, 0, 1, rfl, hb⟩
 ·rw [changes_self] at ho;obtain ⟨A, c, rfl, _, _⟩ := own_slice_cap ho;exact ⟨A, c, 0, rfl, hb⟩
def BkAt (M : List Ch) (g : Nat) (xn : ByteArray) (xf : Int) (U : World) (wx : World) : Prop := ∃ (bw : Int) (W : World), W = wx ∧ At wx g [.string xn, .int .i64 bw, .int .i64 xf] ∧ (⟨xn, bw, xf⟩ : Ch) ∈ M ∧ Below U.heap.size U wx
end Df
theorem diffBack_any (s t : Src.S) (lo hi tt : Int) (rv zv lv rv2 zv2 lv2 : Value) (evs evs2 : List Value) (w : World) (hR : Src.SrcR w w.heap.size s rv zv lv evs) (hR2 : Src.SrcR w w.heap.size t rv2 zv2 lv2 evs2) (hw : Src.Wide s) (hw2 : Src.Wide t) (hW : Wo w) (hA : Wa w)
  (hlo : -9223372036854775808 ≤ lo ∧ lo < 9223372036854775808) (hhi : -9223372036854775808 ≤ hi ∧ hi < 9223372036854775808) (htt : -9223372036854775808 ≤ tt ∧ tt < 9223372036854775808) :
  Calls Tryz.prog 3 #[.agg #[rv, zv, lv], .agg #[rv2, zv2, lv2], .int .i64 lo, .int .i64 hi, .int .i64 tt] w fun e w' => e = .returned (.bool true) ∧ Below w.heap.size w w' := by
 have hcc : ∀ x ∈ s.zones, ∀ e ∈ x.2, 0 ≤ e.u.c := fun x hx e he => ((hw.zones x hx).2 e he).1
 have hwc : ∀ r ∈ s.rules, 0 ≤ r.c := fun r hr => (hw.rules r hr).1
 have hcc2 : ∀ x ∈ t.zones, ∀ e ∈ x.2, 0 ≤ e.u.c := fun x hx e he => ((hw2.zones x hx).2 e he).1
 have hwc2 : ∀ r ∈ t.rules, 0 ≤ r.c := fun r hr => (hw2.rules r hr).1
 have hsz : Src.Few s → Vd.Sz s := fun hf => ⟨⟨by have := hf.nr; omega, by have := hf.nz; omega, by have := hf.nl; omega⟩, fun x hx => by have := (hf.zones x hx).1; omega, hw.smw⟩
 have hsz2 : Src.Few t → Vd.Sz t := fun hf => ⟨⟨by have := hf.nr; omega, by have := hf.nz; omega, by have := hf.nl; omega⟩, fun x hx => by have := (hf.zones x hx).1; omega, hw2.smw⟩
 have HNe1 := Lib.hid fun W (hb : Below w.heap.size w W) => near27_some s rv zv lv evs lo hi W (hR.call hb) hw hlo hhi
 have HNe2 := Lib.hid fun W (hb : Below w.heap.size w W) => near27_some t rv2 zv2 lv2 evs2 lo hi W (hR2.call hb) hw2 hlo hhi
 have HW1 := Lib.hid fun (hf : Src.Few s) W (hb : Below w.heap.size w W) => vdWell_any s _ _ _ evs W (hR.call hb) (hsz hf) (hW.below hb) (hA.below hb)
 have HW2 := Lib.hid fun (hf : Src.Few t) W (hb : Below w.heap.size w W) => vdWell_any t _ _ _ evs2 W (hR2.call hb) (hsz2 hf) (hW.below hb) (hA.below hb)
 have HC12 := Lib.hid fun (hf : Src.Few s) (hf2 : Src.Few t) W (hb : Below w.heap.size w W) => dfChanges_any s t lo hi _ _ _ _ _ _ evs evs2 W (hR.call hb) (hR2.call hb) (hsz hf) (hsz2 hf2) (hW.below hb) (hA.below hb) hlo hhi hcc hwc hcc2 hwc2
 have HC21 := Lib.hid fun (hf : Src.Few s) (hf2 : Src.Few t) W (hb : Below w.heap.size w W) => dfChanges_any t s lo hi _ _ _ _ _ _ evs2 evs W (hR2.call hb) (hR.call hb) (hsz2 hf2) (hsz hf) (hW.below hb) (hA.below hb) hlo hhi hcc2 hwc2 hcc hwc
 have HC11 := Lib.hid fun (hf : Src.Few s) W (hb : Below w.heap.size w W) => dfChanges_any s s lo hi _ _ _ _ _ _ evs evs W (hR.call hb) (hR.call hb) (hsz hf) (hsz hf) (hW.below hb) (hA.below hb) hlo hhi hcc hwc hcc hwc
 have HNm := Lib.hid fun (hf : Src.Few s) (hf2 : Src.Few t) W (hb : Below w.heap.size w W) => dfNames_any s t _ _ _ _ _ _ evs evs2 W (hR.call hb) (hR2.call hb) (hsz hf).lims (hsz2 hf2).lims (hsz hf).names (hsz2 hf2).names
 have HI1 := Lib.hid fun (hf : Src.Few s) x (hx : x.size ≤ maxLen) W (hb : Below w.heap.size w W) => idNamed_any s x tt rv zv lv evs W (hR.call hb) (hsz hf) (hW.below hb) (hA.below hb) hx htt hcc hwc
 have HI2 := Lib.hid fun (hf : Src.Few t) x (hx : x.size ≤ maxLen) W (hb : Below w.heap.size w W) => idNamed_any t x tt rv2 zv2 lv2 evs2 W (hR2.call hb) (hsz2 hf) (hW.below hb) (hA.below hb) hx htt hcc2 hwc2
 have HNs : Hid (Src.Few s → Src.Few t → ∀ x ∈ Df.names s t, x.size ≤ maxLen) := fun hf hf2 x hx => by
  rcases Df.mem_names.1 hx with q | q
  ·exact (hsz hf).names x q
  ·exact (hsz2 hf2).names x q
 obtain ⟨rA, rc, rfl, _⟩ := hR.rules;obtain ⟨zA, zc, rfl, _⟩ := hR.zones;obtain ⟨lA, lc, rfl, _⟩ := hR.links;obtain ⟨rA2, rc2, rfl, _⟩ := hR2.rules;obtain ⟨zA2, zc2, rfl, _⟩ := hR2.zones;obtain ⟨lA2, lc2, rfl, _⟩ := hR2.links;obtain ⟨n1, hn1⟩ : ∃ n, s.rules.length = n := ⟨_, rfl⟩
 obtain ⟨n2, hn2⟩ : ∃ n, s.zones.length = n := ⟨_, rfl⟩
 obtain ⟨n3, hn3⟩ : ∃ n, s.links.length = n := ⟨_, rfl⟩
 obtain ⟨m1, hm1'⟩ : ∃ n, t.rules.length = n := ⟨_, rfl⟩
 obtain ⟨m2, hm2'⟩ : ∃ n, t.zones.length = n := ⟨_, rfl⟩
 obtain ⟨m3, hm3'⟩ : ∃ n, t.links.length = n := ⟨_, rfl⟩
 rw [hn1, hn2, hn3] at HNe1 HW1 HC11 HI1;rw [hm1', hm2', hm3'] at HNe2 HW2 HI2;rw [hn1, hn2, hn3, hm1', hm2', hm3'] at HC12 HC21 HNm;rw [hn1, hn2, hn3, hm1', hm2', hm3'];clear hn1 hn2 hn3 hm1' hm2' hm3';obtain ⟨V1, hV1⟩ : ∃ X, ((w.alloc (.cells #[.slice rA n1 rc, .slice zA n2 zc, .slice lA n3 lc] 26)).alloc (.cells #[.slice rA2 m1 rc2, .slice zA2 m2 zc2, .slice lA2 m3 lc2] 26)) = X := ⟨_, rfl⟩
 obtain ⟨gSa, hgSa⟩ : ∃ q, w.heap.size = q := ⟨_, rfl⟩
 have hbn : Below w.heap.size w V1 := by rw [← hV1]; exact ((Below.refl _ _).alloc (Nat.le_refl _) _).alloc (by first | (simp; done) | (simp; omega)) _
 have hASa : At V1 gSa [.slice rA n1 rc, .slice zA n2 zc, .slice lA n3 lc] := by
  have h := ((At.new w #[.slice rA n1 rc, .slice zA n2 zc, .slice lA n3 lc] 26).allocO (.cells #[.slice rA2 m1 rc2, .slice zA2 m2 zc2, .slice lA2 m3 lc2] 26))
  rw [hV1] at h
  try rw [hgSa] at h
  exact h
 have geSa : w.heap.size ≤ gSa := by have := (Below.refl w.heap.size w).size; omega
 have hASb : At V1 (gSa + 1) [.slice rA2 m1 rc2, .slice zA2 m2 zc2, .slice lA2 m3 lc2] := by
  have h := (At.new (w.alloc (.cells #[.slice rA n1 rc, .slice zA n2 zc, .slice lA n3 lc] 26)) #[.slice rA2 m1 rc2, .slice zA2 m2 zc2, .slice lA2 m3 lc2] 26)
  simp only [World.size_alloc] at h;rw [hV1] at h
  try rw [hgSa] at h
  exact h
 have geSb : w.heap.size ≤ (gSa + 1) := by have := (Below.refl w.heap.size w).size; omega
 have neSb_Sa : (gSa + 1) ≠ gSa := by omega
 have neSa_Sb : gSa ≠ (gSa + 1) := by omega
 have hBz := below_then (Below.refl w.heap.size w) hbn;have HB := Lib.hid hBz;clear hBz;have HASa := Lib.hid hASa;have HASb := Lib.hid hASb;have HEV1 := Lib.hid hV1;have HGgSa := Lib.hid hgSa;clear hbn hV1 hgSa hASa hASb;have HLv := Lib.hid (lives46 _ (hW.below HB.out) (hA.below HB.out));clear hR hR2 hw hw2 hW hA hcc hwc hcc2 hwc2 hsz hsz2;go_enter Tryz.func3, Tryz.ntmps3
 go_upto_region 1 with fail
 rw [HEV1.out]
 try rw [HGgSa.out]
 go_wp2_with fail
 refine (HLv.out).mono ?_;rintro e V2 ⟨rfl, hb⟩;have hBz := below_then HB.out hb;clear HB;have HB := Lib.hid hBz;clear hBz;have hAz := HASa.out.call hb;clear HASa;have HASa := Lib.hid hAz;clear hAz;have hAz := HASb.out.call hb;clear HASb;have HASb := Lib.hid hAz;clear hAz;clear hb;have Sa0 := HASa.out.cell 0 _ rfl;have Sa1 := HASa.out.cell 1 _ rfl;have Sa2 := HASa.out.cell 2 _ rfl;have zSa := HASa.out.lt;have Sb0 := HASb.out.cell 0 _ rfl;have Sb1 := HASb.out.cell 1 _ rfl;have Sb2 := HASb.out.cell 2 _ rfl;have zSb := HASb.out.lt;go_wp2_with fail
 clear Sa0 Sa1 Sa2 zSa Sb0 Sb1 Sb2 zSb;refine (HNe1.out _ HB.out).mono ?_;rintro e U3 ⟨he, hb⟩;have hBz := below_then HB.out hb;clear HB;have HB := Lib.hid hBz;clear hBz;have hAz := HASa.out.call hb;clear HASa;have HASa := Lib.hid hAz;clear hAz;have hAz := HASb.out.call hb;clear HASb;have HASb := Lib.hid hAz;clear hAz;clear hb;have Sa0 := HASa.out.cell 0 _ rfl;have Sa1 := HASa.out.cell 1 _ rfl;have Sa2 := HASa.out.cell 2 _ rfl;have zSa := HASa.out.lt;have Sb0 := HASb.out.cell 0 _ rfl;have Sb1 := HASb.out.cell 1 _ rfl;have Sb2 := HASb.out.cell 2 _ rfl;have zSb := HASb.out.lt;rcases he with rfl | ⟨rfl, hf1, hh1, hh2, hh3⟩
 ·go_wp2;go_ret
  exact ⟨rfl, HB.out⟩
 go_wp2_with fail
 clear Sa0 Sa1 Sa2 zSa Sb0 Sb1 Sb2 zSb;refine (HNe2.out _ HB.out).mono ?_;rintro e U4 ⟨he, hb⟩;have hBz := below_then HB.out hb;clear HB;have HB := Lib.hid hBz;clear hBz;have hAz := HASa.out.call hb;clear HASa;have HASa := Lib.hid hAz;clear hAz;have hAz := HASb.out.call hb;clear HASb;have HASb := Lib.hid hAz;clear hAz;clear hb;have Sa0 := HASa.out.cell 0 _ rfl;have Sa1 := HASa.out.cell 1 _ rfl;have Sa2 := HASa.out.cell 2 _ rfl;have zSa := HASa.out.lt;have Sb0 := HASb.out.cell 0 _ rfl;have Sb1 := HASb.out.cell 1 _ rfl;have Sb2 := HASb.out.cell 2 _ rfl;have zSb := HASb.out.lt;rcases he with rfl | ⟨rfl, hf2, _⟩
 ·go_wp2;go_ret
  exact ⟨rfl, HB.out⟩
 clear HNe1 HNe2;have HF1 := Lib.hid hf1;have HF2 := Lib.hid hf2;clear hf1 hf2;obtain ⟨L, hL⟩ : ∃ l, Df.changes s t lo hi = l := ⟨_, rfl⟩
 obtain ⟨M, hM⟩ : ∃ l, Df.changes t s lo hi = l := ⟨_, rfl⟩
 have hLM : L.length = M.length := by rw [← hL, ← hM]; exact Df.changes_len s t lo hi
 have HL := Lib.hid hL;have HM := Lib.hid hM;clear hL hM;go_wp2_with fail
 clear Sa0 Sa1 Sa2 zSa Sb0 Sb1 Sb2 zSb;refine (HC12.out HF1.out HF2.out _ HB.out).mono ?_;intro e U5 hret;have hb := hret.1;have HR1 := Lib.hid hret;clear hret;have hBz := below_then HB.out hb;clear HB;have HB := Lib.hid hBz;clear hBz;have hAz := HASa.out.call hb;clear HASa;have HASa := Lib.hid hAz;clear hAz;have hAz := HASb.out.call hb;clear HASb;have HASb := Lib.hid hAz;clear hAz;clear hb;have Sa0 := HASa.out.cell 0 _ rfl;have Sa1 := HASa.out.cell 1 _ rfl;have Sa2 := HASa.out.cell 2 _ rfl;have zSa := HASa.out.lt;have Sb0 := HASb.out.cell 0 _ rfl;have Sb1 := HASb.out.cell 1 _ rfl;have Sb2 := HASb.out.cell 2 _ rfl;have zSb := HASb.out.lt
 by_cases hwell : Vd.well s = true ∧ Vd.well t = true
 case neg =>
  obtain ⟨rfl, _⟩ := HR1.out.form hwell;have HWl := Lib.hid hwell;clear hwell HR1;go_wp2_with fail
  clear Sa0 Sa1 Sa2 zSa Sb0 Sb1 Sb2 zSb;refine (HC21.out HF1.out HF2.out _ HB.out).mono ?_;intro e U6 hret;obtain ⟨rfl, hb⟩ := hret.form (fun q => HWl.out ⟨q.2, q.1⟩);clear hret;have hBz := below_then HB.out hb;clear HB;have HB := Lib.hid hBz;clear hBz;have hAz := HASa.out.call hb;clear HASa;have HASa := Lib.hid hAz;clear hAz;have hAz := HASb.out.call hb;clear HASb;have HASb := Lib.hid hAz;clear hAz;clear hb;have Sa0 := HASa.out.cell 0 _ rfl;have Sa1 := HASa.out.cell 1 _ rfl;have Sa2 := HASa.out.cell 2 _ rfl;have zSa := HASa.out.lt;have Sb0 := HASb.out.cell 0 _ rfl;have Sb1 := HASb.out.cell 1 _ rfl;have Sb2 := HASb.out.cell 2 _ rfl;have zSb := HASb.out.lt;go_wp2_with fail
  clear Sa0 Sa1 Sa2 zSa Sb0 Sb1 Sb2 zSb;refine (HC11.out HF1.out _ HB.out).mono ?_;intro e U7 hret;obtain ⟨A3, c3, er, rfl, hb⟩ := hret.self;clear hret;have hBz := below_then HB.out hb;clear HB;have HB := Lib.hid hBz;clear hBz;have hAz := HASa.out.call hb;clear HASa;have HASa := Lib.hid hAz;clear hAz;have hAz := HASb.out.call hb;clear HASb;have HASb := Lib.hid hAz;clear hAz;clear hb;have Sa0 := HASa.out.cell 0 _ rfl;have Sa1 := HASa.out.cell 1 _ rfl;have Sa2 := HASa.out.cell 2 _ rfl;have zSa := HASa.out.lt;have Sb0 := HASb.out.cell 0 _ rfl;have Sb1 := HASb.out.cell 1 _ rfl;have Sb2 := HASb.out.cell 2 _ rfl;have zSb := HASb.out.lt;have HWa := Lib.hid (HW1.out HF1.out U7 HB.out);go_wp2_with fail
  clear Sa0 Sa1 Sa2 zSa Sb0 Sb1 Sb2 zSb;refine HWa.out.mono ?_;rintro e U8 ⟨rfl, hb⟩;have hBz := below_then HB.out hb;clear HB;have HB := Lib.hid hBz;clear hBz;have hAz := HASa.out.call hb;clear HASa;have HASa := Lib.hid hAz;clear hAz;have hAz := HASb.out.call hb;clear HASb;have HASb := Lib.hid hAz;clear hAz;clear hb;have Sa0 := HASa.out.cell 0 _ rfl;have Sa1 := HASa.out.cell 1 _ rfl;have Sa2 := HASa.out.cell 2 _ rfl;have zSa := HASa.out.lt;have Sb0 := HASb.out.cell 0 _ rfl;have Sb1 := HASb.out.cell 1 _ rfl;have Sb2 := HASb.out.cell 2 _ rfl;have zSb := HASb.out.lt;cases hx : Vd.well s with
  | false =>
   go_wp2;go_ret
   exact ⟨rfl, HB.out⟩
  | true =>
   have hy : Vd.well t = false := by
    cases hq : Vd.well t
    ·rfl
    ·exact absurd ⟨hx, hq⟩ HWl.out
   have HWb := HW2.out HF2.out U8 HB.out;rw [hy] at HWb;have HWb := Lib.hid HWb;clear hx hy;go_wp2_with fail
   refine HWb.out.mono ?_;rintro e U9 ⟨rfl, hb⟩;have HBz := Lib.hid (below_then HB.out hb);clear hb;go_wp2;go_ret
   exact ⟨rfl, HBz.out⟩
 obtain ⟨hws, hwt⟩ := hwell
 by_cases hin : Ln.InY lo hi
 case neg =>
  obtain ⟨rfl, _⟩ := HR1.out.range hws hwt hin;have HWl := Lib.hid (And.intro hws (And.intro hwt hin));clear hws hwt hin HR1;go_wp2_with fail
  clear Sa0 Sa1 Sa2 zSa Sb0 Sb1 Sb2 zSb;refine (HC21.out HF1.out HF2.out _ HB.out).mono ?_;intro e U6 hret;obtain ⟨rfl, hb⟩ := hret.range HWl.out.2.1 HWl.out.1 HWl.out.2.2;clear hret;have hBz := below_then HB.out hb;clear HB;have HB := Lib.hid hBz;clear hBz;have hAz := HASa.out.call hb;clear HASa;have HASa := Lib.hid hAz;clear hAz;have hAz := HASb.out.call hb;clear HASb;have HASb := Lib.hid hAz;clear hAz;clear hb;have Sa0 := HASa.out.cell 0 _ rfl;have Sa1 := HASa.out.cell 1 _ rfl;have Sa2 := HASa.out.cell 2 _ rfl;have zSa := HASa.out.lt;have Sb0 := HASb.out.cell 0 _ rfl;have Sb1 := HASb.out.cell 1 _ rfl;have Sb2 := HASb.out.cell 2 _ rfl;have zSb := HASb.out.lt;go_wp2_with fail
  clear Sa0 Sa1 Sa2 zSa Sb0 Sb1 Sb2 zSb;refine (HC11.out HF1.out _ HB.out).mono ?_;intro e U7 hret;obtain ⟨A3, c3, er, rfl, hb⟩ := hret.self;clear hret;have hBz := below_then HB.out hb;clear HB;have HB := Lib.hid hBz;clear hBz;have hAz := HASa.out.call hb;clear HASa;have HASa := Lib.hid hAz;clear hAz;have hAz := HASb.out.call hb;clear HASb;have HASb := Lib.hid hAz;clear hAz;clear hb;have Sa0 := HASa.out.cell 0 _ rfl;have Sa1 := HASa.out.cell 1 _ rfl;have Sa2 := HASa.out.cell 2 _ rfl;have zSa := HASa.out.lt;have Sb0 := HASb.out.cell 0 _ rfl;have Sb1 := HASb.out.cell 1 _ rfl;have Sb2 := HASb.out.cell 2 _ rfl;have zSb := HASb.out.lt;go_wp2;go_ret
  exact ⟨rfl, HB.out⟩
 obtain ⟨A1, c1, rfl, ho, _⟩ := HR1.out.list hws hwt hin;rw [HL.out] at ho ⊢;have HO1 := Lib.hid ho;have HWs := Lib.hid hws;have HWt := Lib.hid hwt;have HIn := Lib.hid hin;obtain ⟨nl, hnl⟩ : ∃ n, L.length = n := ⟨_, rfl⟩
 rw [hnl] at hLM ⊢;have hn64 : nl ≤ 64 := by
  have h1 := List.length_filterMap_le (Df.ch s t lo hi) (Df.names s t);have h2 := Df.names_len s t;have h3 := HF1.out;have h4 := HF2.out;have h5 := h3.nz;have h6 := h3.nl;have h7 := h4.nz;have h8 := h4.nl;unfold Src.names Src.zoneNames Src.linkNames at h2;simp only [List.length_append, List.length_map] at h2;have e : (Df.changes s t lo hi).length = nl := by rw [HL.out]; exact hnl
  unfold Df.changes at e;omega
 have HNl := Lib.hid hnl;have HNm2 := Lib.hid hLM.symm;clear hws hwt hin HR1 hnl hLM ho;go_wp2_with fail
 clear Sa0 Sa1 Sa2 zSa Sb0 Sb1 Sb2 zSb;refine (HC21.out HF1.out HF2.out _ HB.out).mono ?_;intro e U6 hret;obtain ⟨A2, c2, rfl, ho, hb⟩ := hret.list HWt.out HWs.out HIn.out;rw [HM.out] at ho ⊢;rw [HNm2.out];have ho1 := own_below HO1.out hb;clear HO1 hret;have HO1 := Lib.hid ho1;have HO2 := Lib.hid ho;clear ho1 ho;have hBz := below_then HB.out hb;clear HB;have HB := Lib.hid hBz;clear hBz;have hAz := HASa.out.call hb;clear HASa;have HASa := Lib.hid hAz;clear hAz;have hAz := HASb.out.call hb;clear HASb;have HASb := Lib.hid hAz;clear hAz;clear hb;have Sa0 := HASa.out.cell 0 _ rfl;have Sa1 := HASa.out.cell 1 _ rfl;have Sa2 := HASa.out.cell 2 _ rfl;have zSa := HASa.out.lt;have Sb0 := HASb.out.cell 0 _ rfl;have Sb1 := HASb.out.cell 1 _ rfl;have Sb2 := HASb.out.cell 2 _ rfl;have zSb := HASb.out.lt;go_wp2_with fail
 clear Sa0 Sa1 Sa2 zSa Sb0 Sb1 Sb2 zSb;refine (HC11.out HF1.out _ HB.out).mono ?_;intro e U7 hret;obtain ⟨A3, c3, rfl, _, hb⟩ := hret.list HWs.out HWs.out HIn.out;rw [Df.changes_self];have ho1 := own_below HO1.out hb;have ho2 := own_below HO2.out hb;clear HO1 HO2 hret;rw [HNl.out] at ho1;rw [HNm2.out] at ho2;have HRL := Lib.hid (Reads.of_own ho1);have HRM := Lib.hid (Reads.of_own ho2);clear ho1 ho2;have hBz := below_then HB.out hb;clear HB;have HB := Lib.hid hBz;clear hBz;have hAz := HASa.out.call hb;clear HASa;have HASa := Lib.hid hAz;clear hAz;have hAz := HASb.out.call hb;clear HASb;have HASb := Lib.hid hAz;clear hAz;clear hb;have Sa0 := HASa.out.cell 0 _ rfl;have Sa1 := HASa.out.cell 1 _ rfl;have Sa2 := HASa.out.cell 2 _ rfl;have zSa := HASa.out.lt;have Sb0 := HASb.out.cell 0 _ rfl;have Sb1 := HASb.out.cell 1 _ rfl;have Sb2 := HASb.out.cell 2 _ rfl;have zSb := HASb.out.lt;obtain ⟨fr, hfr⟩ : ∃ q, Oc.D lo * 86400 = q := ⟨_, rfl⟩
 obtain ⟨te, hte⟩ : ∃ q, Oc.D (hi + 1) * 86400 = q := ⟨_, rfl⟩
 have hy := HIn.out;unfold Ln.InY at hy;obtain ⟨y1, y2, y3, y4⟩ := hy;have e1 : Ln.begin_ lo = (fr, 0) := by unfold Ln.begin_; rw [if_pos (by omega), hfr]
 have e2 : Ln.begin_ (hi + 1) = (te, 0) := by unfold Ln.begin_; rw [if_pos (by omega), hte]
 have HBf := Lib.hid (fun W => e1 ▸ lnBegin_any lo W);have HBt := Lib.hid (fun W => e2 ▸ lnBegin_any (hi + 1) W);have HFr := Lib.hid hfr;have HTe := Lib.hid hte;have w2' : IntKind.i64.wrap (hi + 1) = hi + 1 := by rw [IntKind.wrap_i64]; omega
 clear hfr hte e1 e2 y4 hh3;go_wp2_with fail
 refine (HBf.out _).mono ?_;rintro e _ ⟨rfl, rfl⟩;go_wp2_with fail
 refine (HBt.out _).mono ?_;rintro e _ ⟨rfl, rfl⟩;clear w2' y1 y2 y3 hh1 hh2 HBf HBt;have HX : Hid (∀ x ∈ L, x.back ∈ M ∧ ((x.why = 3 ∨ x.why = 12) ∨ (x.why = 0 ∧ ¬ x.fr < fr ∧ ¬ te ≤ x.fr))) := fun x hx => by
  have h1 : x ∈ Df.changes s t lo hi := by rw [HL.out]; exact hx
  refine ⟨by rw [← HM.out]; exact Df.changes_back h1, ?_⟩;rcases Df.ch_says HWs.out HWt.out (by have := HF1.out.nr; omega) (by have := HF2.out.nr; omega) HIn.out h1 with q | ⟨q1, q2, q3⟩
  ·exact .inl q
  ·rw [HFr.out] at q2;rw [HTe.out] at q3;exact .inr ⟨q1, by omega, by omega⟩
 have HX2 : Hid (∀ x ∈ L, (x.why = 3 ∨ x.why = 12) ∨ x.why = 0) := fun x hx => (HX.out x hx).2.imp id (fun q => q.1)
 go_wp2_with fail
 go_loopw [135] (fun i wr => ∃ k : Nat, k ≤ nl ∧ i = .int .i64 (k : Int) ∧ Hid (Below U7.heap.size U7 wr)) (fun i _ => nl - (intOf i).toNat)
 case atStart => exact ⟨0, Nat.zero_le _, rfl, Below.refl _ _⟩
 case round =>
  obtain ⟨k, hk, rfl, HBr⟩ := hrel
  by_cases hlt : k < nl
  case pos =>
   obtain ⟨ad, x, rfl, _, Hx, HLx⟩ := Ix.reads_cells (enc := Df.Ch.cells) (m := 3) (fun _ => rfl) HNl.out (HRL.out.below HBr.out) hlt;have hxx := HX.out x (List.mem_of_getElem? Hx.out);obtain ⟨xn, xw, xf⟩ := x;have c0 : wr.cell? (ad.add (k * 3)) = some (.string xn) := HLx.out 0 _ rfl;have c1 : wr.cell? ⟨(ad.add (k * 3)).block, (ad.add (k * 3)).off + 1, none⟩ = some (.int .i64 xw) := HLx.out 1 _ rfl;have c2 : wr.cell? ⟨(ad.add (k * 3)).block, (ad.add (k * 3)).off + 2, none⟩ = some (.int .i64 xf) := HLx.out 2 _ rfl;have q1 : (0 : Int) ≤ (k : Int) := by omega
   have q2 : (k : Int) < (nl : Int) := by omega
   have hmem := hxx.1;have hsay := hxx.2;simp only at hsay;have HMem := Lib.hid hmem;clear hxx hmem Hx HLx;obtain ⟨Vr1, hVr1⟩ : ∃ X, ((wr.alloc (.cells #[.string xn, .int .i64 xw, .int .i64 xf] 37)).alloc (.cells #[.string xn, .int .i64 xw, .int .i64 xf] 37)) = X := ⟨_, rfl⟩
   obtain ⟨gX, hgX⟩ : ∃ q, wr.heap.size = q := ⟨_, rfl⟩
   have hbn : Below wr.heap.size wr Vr1 := by rw [← hVr1]; exact ((Below.refl _ _).alloc (Nat.le_refl _) _).alloc (by first | (simp; done) | (simp; omega)) _
   have hAX : At Vr1 gX [.string xn, .int .i64 xw, .int .i64 xf] := by
    have h := ((At.new wr #[.string xn, .int .i64 xw, .int .i64 xf] 37).allocO (.cells #[.string xn, .int .i64 xw, .int .i64 xf] 37))
    rw [hVr1] at h
    try rw [hgX] at h
    exact h
   have geX : wr.heap.size ≤ gX := by have := (Below.refl wr.heap.size wr).size; omega
   have hAY : At Vr1 (gX + 1) [.string xn, .int .i64 xw, .int .i64 xf] := by
    have h := (At.new (wr.alloc (.cells #[.string xn, .int .i64 xw, .int .i64 xf] 37)) #[.string xn, .int .i64 xw, .int .i64 xf] 37)
    simp only [World.size_alloc] at h;rw [hVr1] at h
    try rw [hgX] at h
    exact h
   have geY : wr.heap.size ≤ (gX + 1) := by have := (Below.refl wr.heap.size wr).size; omega
   have neY_X : (gX + 1) ≠ gX := by omega
   have neX_Y : gX ≠ (gX + 1) := by omega
   have hBz := below_then (Below.refl wr.heap.size wr) hbn;have HB := Lib.hid hBz;clear hBz;have HAX := Lib.hid hAX;have HAY := Lib.hid hAY;have HEVr1 := Lib.hid hVr1;have HGgX := Lib.hid hgX;clear hbn hVr1 hgX hAX hAY;have X0 := HAX.out.cell 0 _ rfl;have fX0 := HAX.out.free 0 _ rfl;have X1 := HAX.out.cell 1 _ rfl;have fX1 := HAX.out.free 1 _ rfl;have X2 := HAX.out.cell 2 _ rfl;have fX2 := HAX.out.free 2 _ rfl;have zX := HAX.out.lt;have Y0 := HAY.out.cell 0 _ rfl;have fY0 := HAY.out.free 0 _ rfl;have Y1 := HAY.out.cell 1 _ rfl;have fY1 := HAY.out.free 1 _ rfl;have Y2 := HAY.out.cell 2 _ rfl;have fY2 := HAY.out.free 2 _ rfl;have zY := HAY.out.lt;go_upto_region 20 with fail
   rw [HEVr1.out]
   try rw [HGgX.out]
   clear c0 c1 c2;have HYs := Lib.hid (HAY.out.set 1 (.int .i64 12));have HYt := Lib.hid (HAY.out.set 1 (.int .i64 3));have HBi0 := Lib.hid (below_then HBr.out HB.out);have hgy : U7.heap.size ≤ gX + 1 := by have := HBr.out.size; have := geY; omega
   go_upto_block 2 with fail
   go_cut [] (fun wx => Df.BkAt M (gX + 1) xn xf U7 wx)
   case first =>
    rcases hsay with (rfl | rfl) | ⟨rfl, hs1, hs2⟩
    ·go_wp2;go_meet
     exact ⟨12, _, rfl, HYs.out, HMem.out, HBi0.out.setCell (p := ⟨gX + 1, 1, none⟩) hgy _⟩
    ·go_wp2;go_meet
     exact ⟨3, _, rfl, HYt.out, HMem.out, HBi0.out.setCell (p := ⟨gX + 1, 1, none⟩) hgy _⟩
    ·go_wp2;go_meet
     exact ⟨0, _, rfl, HAY.out, HMem.out, HBi0.out⟩
   case rest =>
    obtain ⟨bw, wz, hwz, hay, hbm, hbi⟩ := hcut;subst hwz;clear X0 fX0 X1 fX1 X2 fX2 zX Y0 fY0 Y1 fY1 Y2 fY2 zY;clear HYs HYt HBi0 hsay HMem HAX HAY HB;have HAY := Lib.hid hay;have HBk := Lib.hid hbm;have HBi := Lib.hid hbi;clear hay hbm hbi;go_wp2_with fail
    go_loopw [24, 162] (fun f i wi => ∃ (j : Nat) (q : Bool), j ≤ nl ∧ i = .int .i64 (j : Int) ∧ f = .bool q ∧ Hid (q = (M.take j).any fun y => decide (y = ⟨xn, bw, xf⟩)) ∧ Hid (Below wz.heap.size wz wi)) (fun _ i _ => nl - (intOf i).toNat)
    case atStart => exact ⟨0, false, Nat.zero_le _, rfl, rfl, rfl, Below.refl _ _⟩
    case round =>
     obtain ⟨j, q, hj, rfl, rfl, HQ, HBj⟩ := hrel
     by_cases hlj : j < nl
     case pos =>
      obtain ⟨bd, y, rfl, _, Hy, HLy⟩ := Ix.reads_cells (enc := Df.Ch.cells) (m := 3) (fun _ => rfl) HNm2.out (HRM.out.below (below_then HBi.out HBj.out)) hlj;have hnx := Df.any_next (p := fun y => decide (y = ⟨xn, bw, xf⟩)) Hy.out;rw [← HQ.out] at hnx;obtain ⟨yn, yw, yf⟩ := y;have d0 : wr.cell? (bd.add (j * 3)) = some (.string yn) := HLy.out 0 _ rfl;have d1 : wr.cell? ⟨(bd.add (j * 3)).block, (bd.add (j * 3)).off + 1, none⟩ = some (.int .i64 yw) := HLy.out 1 _ rfl;have d2 : wr.cell? ⟨(bd.add (j * 3)).block, (bd.add (j * 3)).off + 2, none⟩ = some (.int .i64 yf) := HLy.out 2 _ rfl;have p1 : (0 : Int) ≤ (j : Int) := by omega
      have p2 : (j : Int) < (nl : Int) := by omega
      have HBn := Lib.hid (HBj.out.alloc HBj.out.size (.cells #[.string yn, .int .i64 yw, .int .i64 yf] 37));have hYj := HAY.out.call HBj.out;obtain ⟨v0, v1, v2, _⟩ := hYj.three;have zv := hYj.lt;clear Hy HLy;cases q with
      | true =>
       rw [Bool.true_or] at hnx;have HNx := Lib.hid hnx;clear hnx;go_wp2;go_roundw
       case rel => exact ⟨j + 1, true, by omega, by go_num, rfl, HNx.out.symm, HBn.out⟩
       case measure => simp [intOf]; omega
      | false =>
       rw [Bool.false_or] at hnx
       by_cases hyb : (⟨yn, yw, yf⟩ : Df.Ch) = ⟨xn, bw, xf⟩
       ·rw [decide_eq_true hyb] at hnx;have HNx := Lib.hid hnx;have hcm := fun W => change_yes (⟨xn, bw, xf⟩ : Df.Ch) W
        obtain ⟨rfl, rfl, rfl⟩ := Df.Ch.mk.inj hyb;clear hnx hyb;go_wp2;go_roundw
        case rel => exact ⟨j + 1, true, by omega, by go_num, rfl, HNx.out.symm, HBn.out⟩
        case measure => simp [intOf]; omega
       ·rw [decide_eq_false hyb] at hnx;have HNx := Lib.hid hnx;have hcm := fun W => change_no hyb W
        clear hnx hyb;go_wp2;go_roundw
        case rel => exact ⟨j + 1, false, by omega, by go_num, rfl, HNx.out.symm, HBn.out⟩
        case measure => simp [intOf]; omega
     case neg =>
      have p2 : ¬ (j : Int) < (nl : Int) := by omega
      obtain rfl : q = true := by
       rw [HQ.out, List.take_of_length_le (by rw [HNm2.out]; omega), List.any_eq_true];exact ⟨_, HBk.out, by simp⟩
      have HBo := Lib.hid (below_then HBi.out HBj.out);go_wp2;go_roundw
      case rel => exact ⟨k + 1, by omega, by go_num, HBo.out⟩
      case measure => simp [intOf]; omega
  case neg =>
   have q2 : ¬ (k : Int) < (nl : Int) := by omega
   clear HX;have HBw := Lib.hid (below_then HB.out HBr.out);have hA1 := HASa.out.call HBr.out;have hB1 := HASb.out.call HBr.out;clear HASa HASb HB;have HASa := Lib.hid hA1;have HASb := Lib.hid hB1;clear hA1 hB1;have hc : (tt < fr) ∨ (¬ tt < fr ∧ te ≤ tt) ∨ (¬ tt < fr ∧ ¬ te ≤ tt) := by omega
   rcases hc with t1 | ⟨t1, t2⟩ | ⟨t1, t2⟩
   ·go_wp2;go_ret
    exact ⟨rfl, HBw.out⟩
   ·go_wp2;go_ret
    exact ⟨rfl, HBw.out⟩
   have HTt : Hid (Oc.D lo * 86400 ≤ tt ∧ tt < Oc.D (hi + 1) * 86400) := by
    refine ⟨?_, ?_⟩
    ·rw [HFr.out]; omega
    ·rw [HTe.out]; omega
   skip
   obtain ⟨a0, a1, a2, _⟩ := HASa.out.three;obtain ⟨b0, b1, b2, _⟩ := HASb.out.three;have za := HASa.out.lt;have zb := HASb.out.lt;go_wp2_with fail
   refine (HNm.out HF1.out HF2.out wr HBw.out).mono ?_;rintro e v1 ⟨nv, rfl, hb, ho⟩;obtain ⟨N, hN⟩ : ∃ l, Df.names s t = l := ⟨_, rfl⟩
   rw [hN] at ho;obtain ⟨nn, hnn⟩ : ∃ n, N.length = n := ⟨_, rfl⟩
   rw [hnn] at ho;have hn64' : nn ≤ 64 := by
    have h2 := Df.names_len s t;have h3 := HF1.out;have h4 := HF2.out;have h5 := h3.nz;have h6 := h3.nl;have h7 := h4.nz;have h8 := h4.nl;unfold Src.names Src.zoneNames Src.linkNames at h2;simp only [List.length_append, List.length_map] at h2;rw [hN, hnn] at h2;omega
   obtain ⟨nA, nc, rfl, _, _⟩ := own_slice_cap ho;have HRN := Lib.hid (Reads.of_own ho);have HNN := Lib.hid hN;have HNn := Lib.hid hnn;have HBv := Lib.hid (below_then HBw.out hb);have HRv := Lib.hid ((HRL.out.below (below_then HBr.out hb)).more (below_then HBr.out hb).size);have hA1 := HASa.out.call hb;have hB1 := HASb.out.call hb;clear HASa HASb;have HASa := Lib.hid hA1;have HASb := Lib.hid hB1;clear hA1 hB1 hb ho hN hnn a0 a1 a2 b0 b1 b2 za zb HNm HRL HRM HBr HBw q2;go_wp2_with fail
   go_loopw [188] (fun i wr => ∃ k : Nat, k ≤ nn ∧ i = .int .i64 (k : Int) ∧ Hid (Below v1.heap.size v1 wr)) (fun i _ => nn - (intOf i).toNat)
   case atStart => exact ⟨0, Nat.zero_le _, rfl, Below.refl _ _⟩
   case round =>
    obtain ⟨k, hk, rfl, HBr⟩ := hrel
    by_cases hlt : k < nn
    case neg =>
     have q2 : ¬ (k : Int) < (nn : Int) := by omega
     have HBz := Lib.hid (below_then HBv.out HBr.out);go_wp2;go_ret
     exact ⟨rfl, HBz.out⟩
    obtain ⟨ad, x', rfl, _, hx', cx⟩ := (HRN.out.below HBr.out).at_ hlt;obtain ⟨x, hx⟩ : ∃ y, N[k]? = some y := ⟨_, List.getElem?_eq_getElem (by rw [HNn.out]; exact hlt)⟩
    have hxe : x' = .string x := by
     rw [List.getElem?_map, hx] at hx';exact (Option.some.inj hx').symm
    rw [hxe] at cx;have hxm : x ∈ Df.names s t := by rw [HNN.out]; exact List.mem_of_getElem? hx
    have hxs := HNs.out HF1.out HF2.out x hxm;have HXm := Lib.hid hxm;have q1 : (0 : Int) ≤ (k : Int) := by omega
    have q2 : (k : Int) < (nn : Int) := by omega
    have HBk := Lib.hid (below_then HBv.out HBr.out);have HRk := Lib.hid ((HRv.out.below HBr.out).more HBr.out.size);have HAk := Lib.hid (HASa.out.call HBr.out);have HBbk := Lib.hid (HASb.out.call HBr.out);obtain ⟨wk, hwk⟩ : ∃ q, wr = q := ⟨_, rfl⟩
    rw [hwk] at HBr HBk HRk HAk HBbk cx ⊢;clear hx hx' hxe hxm hwk;go_wp2_with fail
    clear cx
    trace_state
    go_loopw [29, 194] (fun f i wi => ∃ (j : Nat) (q : Bool), j ≤ nl ∧ i = .int .i64 (j : Int) ∧ f = .bool q ∧ Hid (q = (L.take j).any (Df.hit x tt)) ∧ Hid (Below wk.heap.size wk wi)) (fun _ i _ => nl - (intOf i).toNat)
    case atStart => exact ⟨0, false, Nat.zero_le _, rfl, rfl, rfl, Below.refl _ _⟩
    case round =>
     obtain ⟨j, q, hj, rfl, rfl, HQ, HBj⟩ := hrel
     by_cases hlj : j < nl
     case pos =>
      obtain ⟨bd, y, rfl, _, Hy, HLy⟩ := Ix.reads_cells (enc := Df.Ch.cells) (m := 3) (fun _ => rfl) HNl.out (HRk.out.below HBj.out) hlj;have hnx := Df.any_next (p := Df.hit x tt) Hy.out;rw [← HQ.out] at hnx;have hym := HX2.out y (List.mem_of_getElem? Hy.out);obtain ⟨yn, yw, yf⟩ := y;unfold Df.hit at hnx;simp only at hnx hym;have d0 : wr.cell? (bd.add (j * 3)) = some (.string yn) := HLy.out 0 _ rfl;have d1 : wr.cell? ⟨(bd.add (j * 3)).block, (bd.add (j * 3)).off + 1, none⟩ = some (.int .i64 yw) := HLy.out 1 _ rfl;have d2 : wr.cell? ⟨(bd.add (j * 3)).block, (bd.add (j * 3)).off + 2, none⟩ = some (.int .i64 yf) := HLy.out 2 _ rfl;have p1 : (0 : Int) ≤ (j : Int) := by omega
      have p2 : (j : Int) < (nl : Int) := by omega
      have HBn := Lib.hid (HBj.out.alloc HBj.out.size (.cells #[.string yn, .int .i64 yw, .int .i64 yf] 37));clear Hy HLy;cases q with
      | true =>
       rw [Bool.true_or] at hnx;have HNx := Lib.hid hnx;clear hnx;go_wp2;go_roundw
       case rel => exact ⟨j + 1, true, by omega, by go_num, rfl, HNx.out.symm, HBn.out⟩
       case measure => simp [intOf]; omega
      | false =>
       rw [Bool.false_or] at hnx;have hcs : (yn ≠ x) ∨ (yn = x ∧ (yw = 3 ∨ yw = 12)) ∨ (yn = x ∧ yw = 0 ∧ yf ≤ tt) ∨ (yn = x ∧ yw = 0 ∧ ¬ yf ≤ tt) := by
        by_cases h1 : yn = x
        ·rcases hym with h2 | h2
         ·exact .inr (.inl ⟨h1, h2⟩)
         ·by_cases h3 : yf ≤ tt
          ·exact .inr (.inr (.inl ⟨h1, h2, h3⟩))
          ·exact .inr (.inr (.inr ⟨h1, h2, h3⟩))
        ·exact .inl h1
       clear hym;rcases hcs with h1 | ⟨rfl, h2⟩ | ⟨rfl, rfl, h3⟩ | ⟨rfl, rfl, h3⟩
       ·have hs : (yn.toList == x.toList) = false := by
         rw [beq_eq_false_iff_ne];exact fun h => h1 ((Ln.tl_iff yn x).1 h)
        rw [decide_eq_false h1, Bool.false_and] at hnx;have HNx := Lib.hid hnx;clear hnx h1;go_wp2;go_roundw
        case rel => exact ⟨j + 1, false, by omega, by go_num, rfl, HNx.out.symm, HBn.out⟩
        case measure => simp [intOf]; omega
       ·have hs : (yn.toList == yn.toList) = true := by simp
        have h4 : (yw != 0) = true := by rw [bne_iff_ne]; omega
        have h5 : yw ≠ 0 := by omega
        rw [decide_eq_true rfl, decide_eq_true h5, Bool.true_or, Bool.and_self] at hnx;have HNx := Lib.hid hnx;clear hnx h2 h5;go_wp2;go_roundw
        case rel => exact ⟨j + 1, true, by omega, by go_num, rfl, HNx.out.symm, HBn.out⟩
        case measure => simp [intOf]; omega
       ·have hs : (yn.toList == yn.toList) = true := by simp
        rw [decide_eq_true rfl, decide_eq_true h3, Bool.or_true, Bool.and_self] at hnx;have HNx := Lib.hid hnx;clear hnx;go_wp2;go_roundw
        case rel => exact ⟨j + 1, true, by omega, by go_num, rfl, HNx.out.symm, HBn.out⟩
        case measure => simp [intOf]; omega
       ·have hs : (yn.toList == yn.toList) = true := by simp
        rw [decide_eq_true rfl, decide_eq_false h3] at hnx;have HNx : Hid ((L.take (j + 1)).any (Df.hit yn tt) = false) := by
         show _ = _
         rw [show (L.take (j + 1)).any (Df.hit yn tt) = _ from hnx];rfl
        clear hnx;go_wp2;go_roundw
        case rel => exact ⟨j + 1, false, by omega, by go_num, rfl, HNx.out.symm, HBn.out⟩
        case measure => simp [intOf]; omega
     case neg =>
      have p2 : ¬ (j : Int) < (nl : Int) := by omega
      have hqe : q = L.any (Df.hit x tt) := by
       rw [HQ.out, List.take_of_length_le (by rw [HNl.out]; omega)]
      have HBo := Lib.hid (below_then HBr.out HBj.out);cases q with
      | true =>
       clear hqe;go_wp2;go_roundw
       case rel => exact ⟨k + 1, by omega, by go_num, HBo.out⟩
       case measure => simp [intOf]; omega
      | false =>
       have hun := Df.not_hit hqe.symm;obtain ⟨pa, pb, h1, h2, h3, h4⟩ := Df.same_at HWs.out HWt.out (by have := HF1.out.nr; omega) (by have := HF2.out.nr; omega) HIn.out HXm.out HTt.out.1 HTt.out.2 (fun y hy => hun y (by rw [← HL.out]; exact hy));have hi1 := fun W hb => HI1.out HF1.out x hxs W hb
       have hi2 := fun W hb => HI2.out HF2.out x hxs W hb
       simp only [h1] at hi1;simp only [h2] at hi2;obtain ⟨po, pd, pn⟩ := pa;obtain ⟨qo, qd, qn⟩ := pb;obtain rfl : po = qo := h3;obtain rfl : pd = qd := h4;unfold Ln.AtRet Ln.St.v at hi1 hi2;simp only at hi1 hi2;have HJ1 := Lib.hid hi1;have HJ2 := Lib.hid hi2;have hAj := HAk.out.call HBj.out;have hBj := HBbk.out.call HBj.out;have HBw := Lib.hid (below_then HBk.out HBj.out);have HAj := Lib.hid hAj;have HBbj := Lib.hid hBj;obtain ⟨a0, a1, a2, _⟩ := hAj.three;have za := hAj.lt;clear hqe hun h1 h2 hi1 hi2 hAj hBj;go_wp2_with fail
       refine (HJ1.out wr HBw.out).mono ?_;rintro e v2 ⟨rfl, hb⟩;clear a0 a1 a2 za;have HBx := Lib.hid (below_then HBw.out hb);have HBy := Lib.hid (below_then HBo.out hb);have hBj := HBbj.out.call hb;obtain ⟨gs, hgs⟩ : ∃ q, v2.heap.size = q := ⟨_, rfl⟩
       obtain ⟨v3, hv3⟩ : ∃ X, v2.alloc (.cells #[.int .i64 po, .bool pd, .string pn] 41) = X := ⟨_, rfl⟩
       have hb3 : Below v2.heap.size v2 v3 := by rw [← hv3]; exact (Below.refl _ _).alloc (Nat.le_refl _) _
       have HS3 : Hid (At v3 gs [.int .i64 po, .bool pd, .string pn]) := by
        show At _ _ _
        rw [← hv3, ← hgs];exact At.new _ _ _
       have hBj3 := hBj.call hb3;have HBx3 := Lib.hid (below_then HBx.out hb3);have HBy3 := Lib.hid (below_then HBy.out hb3);have HE3 := Lib.hid hv3;have HG3 := Lib.hid hgs;obtain ⟨b0, b1, b2, _⟩ := hBj3.three;have zb := hBj3.lt;clear hb hBj hb3 hv3 hgs hBj3;go_upto_region 50 with fail
       rw [HE3.out]
       try rw [HG3.out]
       go_wp2_with fail
       refine (HJ2.out v3 HBx3.out).mono ?_;rintro e v4 ⟨rfl, hb⟩;clear b0 b1 b2 zb;have hS4 := HS3.out.call hb;have HBy4 := Lib.hid ((below_then HBy3.out hb).alloc (below_then HBy3.out hb).size (.cells #[.int .i64 po, .bool pd, .string qn] 41));obtain ⟨c0, c1, c2, _⟩ := hS4.three;have zc := hS4.lt;clear hb hS4;go_wp2;go_roundw
       case rel => exact ⟨k + 1, by omega, by go_num, HBy4.out⟩
       case measure => simp [intOf]; omega
end Go.Proofs.YtjobhjemnmleaaaGreatDoor
namespace Go.Proofs.YtjobhjemnmleaaaGreatDoor
open Go.RowKit
theorem diffBack_row (s : Src.S) (rv zv lv : Value) (evs : List Value) (t : Src.S) (rv2 zv2 lv2 : Value) (evs2 : List Value) (lo hi tt : Int) (w : World) (hT : Wo w ∧ Wa w) (hR : Src.SrcR w w.heap.size s rv zv lv evs) (hw : Src.Wide s) (hR2 : Src.SrcR w w.heap.size t rv2 zv2 lv2 evs2) (hw2 : Src.Wide t) (hlo : (Lit.int .i64 lo).wf = true) (hhi : (Lit.int .i64 hi).wf = true) (htt : (Lit.int .i64 tt).wf = true) :
  Calls Tryz.prog 3 #[.agg #[rv, zv, lv], .agg #[rv2, zv2, lv2], .int .i64 lo, .int .i64 hi, .int .i64 tt] w fun e w' => e = .returned (.bool true) ∧ Below w.heap.size w w' :=
 diffBack_any s t lo hi tt rv zv lv rv2 zv2 lv2 evs evs2 w hR hR2 hw hw2 hT.1 hT.2 (by have := i64_range hlo; omega) (by have := i64_range hhi; omega) (by have := i64_range htt; omega)
end Go.Proofs.YtjobhjemnmleaaaGreatDoor
