/- line.Of. -/
import Derived.Test.YtjobhjemnmleaaaGreatDoorQ41
import Derived.Test.YtjobhjemnmleaaaGreatDoorQ39
set_option maxRecDepth 100000
set_option maxHeartbeats 8000000
namespace Go.Proofs.YtjobhjemnmleaaaGreatDoor
open Go.RowKit Go.Shelf
theorem own_none {w : World} {base n c : Nat} {e : TypeId} {size : Nat} {A : Option Addr} {xs : List Value} (h : w.ownsRow base e size (.slice A n c) n xs) : A = none → c = 0 := by
 intro ha;subst ha;rcases h.2 with hn | ⟨g, cap, cur, hv, _⟩
 ·simp_all
 ·simp_all
theorem lnOf_any (s : Src.S) (z lo hi : Int) (rv zv lv : Value) (evs : List Value) (w : World) (hR : Src.SrcR w w.heap.size s rv zv lv evs) (hS : Vd.Sz s) (hW : Wo w) (hA : Wa w) (hz : -9223372036854775808 ≤ z ∧ z < 9223372036854775808)
  (hlo : -9223372036854775808 ≤ lo ∧ lo < 9223372036854775808) (hhi : -9223372036854775808 ≤ hi ∧ hi < 9223372036854775808) (hcc : ∀ x ∈ s.zones, ∀ e ∈ x.2, 0 ≤ e.u.c) (hwc : ∀ r ∈ s.rules, 0 ≤ r.c) :
  Calls Tryz.prog 22 #[.agg #[rv, zv, lv], .int .i64 z, .int .i64 lo, .int .i64 hi] w fun e w' => Below w.heap.size w w' ∧ Ln.OfRet s z lo hi w.heap.size e w' := by
 have HRu := Lib.hid (fun h : Vd.well s = true => Eg.rules_ok2 h hS.lims.rules);have HS := Lib.hid hS;have HWc := Lib.hid hwc;have HEn := Lib.hid (fun (W : World) (hR : Src.SrcR W W.heap.size s rv zv lv evs) (hW : Wo W) (hA : Wa W) => ends_any s z rv zv lv evs W hR hS hW hA hz hcc);have HR0 := Lib.hid hR;obtain ⟨rA, rc, rfl, _⟩ := hR.rules;obtain ⟨zA, zc, rfl, _⟩ := hR.zones;obtain ⟨lA, lc, rfl, _⟩ := hR.links;obtain ⟨n1, hn1⟩ : ∃ n, s.rules.length = n := ⟨_, rfl⟩
 obtain ⟨n2, hn2⟩ : ∃ n, s.zones.length = n := ⟨_, rfl⟩
 obtain ⟨n3, hn3⟩ : ∃ n, s.links.length = n := ⟨_, rfl⟩
 rw [hn1, hn2, hn3] at HEn HR0;rw [hn1, hn2, hn3];obtain ⟨W1, hW1⟩ : ∃ W, w.alloc (.cells #[.slice rA n1 rc, .slice zA n2 zc, .slice lA n3 lc] 26) = W := ⟨_, rfl⟩
 have hb1 : Below w.heap.size w W1 := by rw [← hW1]; exact (Below.refl _ _).alloc (Nat.le_refl _) _
 have hA1 : At W1 w.heap.size [.slice rA n1 rc, .slice zA n2 zc, .slice lA n3 lc] := by rw [← hW1]; exact At.new _ _ _
 have HCl := Lib.hid (HEn.out W1 (HR0.out.call hb1) (hW.below hb1) (hA.below hb1));have HWo := Lib.hid hW;have HA1 := Lib.hid hA1;have HB1 := Lib.hid hb1;have HW1 := Lib.hid hW1;obtain ⟨b0, b1, b2, _⟩ := hA1.three;clear hn1 hn2 hn3 hb1 hA1 hW1 hR hS hwc hcc hW hA hz;go_enter Tryz.func22, Tryz.ntmps22
 go_wp2_with fail
 rw [HW1.out];refine HCl.out.mono ?_;rintro e w2 ⟨hb2, (⟨hno, rfl⟩ | ⟨hwe, hno, rfl⟩ | ⟨x, v, hwe, hx, rfl, hown⟩)⟩
 ·have HB2 := Lib.hid (below_then HB1.out hb2);have HF : Hid (Ln.OfRet s z lo hi w.heap.size (.returned (.tuple #[.slice none 0 0, .int .i64 2])) w2) := .inl ⟨hno, rfl⟩;clear hb2 hno b0 b1 b2;go_wp2;go_ret2
  exact ⟨HB2.out, HF.out⟩
 ·have HB2 := Lib.hid (below_then HB1.out hb2);have HF : Hid (Ln.OfRet s z lo hi w.heap.size (.returned (.tuple #[.slice none 0 0, .int .i64 3])) w2) := .inr (.inl ⟨hwe, hno, rfl⟩);clear hb2 hno hwe b0 b1 b2;go_wp2;go_ret2
  exact ⟨HB2.out, HF.out⟩
 have HB2 := Lib.hid (below_then HB1.out hb2);have HA2 := Lib.hid (HA1.out.call hb2);have hz2 := hb2.size;have hz1 := HB1.out.size;obtain ⟨c0, c1, c2, _⟩ := HA2.out.three;have hmem : x ∈ s.zones := by
  unfold Eg.zoneAt at hx;split at hx
  ·exact List.mem_of_getElem? hx
  ·cases hx
 by_cases hin : Ln.InY lo hi
 ·obtain ⟨y1, y2, y3, y4⟩ := hin;have HRu2 := HRu.out hwe;have hzo := Eg.zone_ok hwe hmem;have hz0 : 0 ≤ z := by
   unfold Eg.zoneAt at hx;split at hx
   ·assumption
   ·cases hx
  obtain ⟨kz, rfl⟩ : ∃ k : Nat, z = (k : Int) := ⟨z.toNat, by omega⟩
  have hxk : s.zones[kz]? = some x := by
   unfold Eg.zoneAt at hx;rw [if_pos hz0] at hx;exact hx
  obtain ⟨F1, F2, F3, F4, F5⟩ := Ln.years_in y1 y2 y3;obtain ⟨vA, vc, rfl, hv1, hv2⟩ := own_slice_cap hown;obtain ⟨m0, hm0⟩ : ∃ m0, x.2.length = m0 + 1 := ⟨x.2.length - 1, by have := hzo.len.1; omega⟩
  have hm63 : m0 ≤ 63 := by have := hzo.len.2; omega
  obtain ⟨L, hL⟩ : ∃ L, Eg.ends s.rules x.2 = L := ⟨_, rfl⟩
  have hLl : L.length = m0 := by rw [← hL, Eg.ends_len, hm0]; rfl
  have hN : (Ln.pieces s.rules x.2 L (Oc.D lo * 86400) (Oc.D (hi + 1) * 86400) (m0 + 1)).length ≤ 900000000 := by
   have h1 := Ln.pieces_len (eras := x.2) (ends := L) HRu2.len F2 F3 (by rw [F4, F5]; omega) (m0 + 1);omega
  rw [hL, hLl] at hown hv1 ⊢;obtain ⟨fr, hfr⟩ : ∃ q, Oc.D lo * 86400 = q := ⟨_, rfl⟩
  obtain ⟨te, hte⟩ : ∃ q, Oc.D (hi + 1) * 86400 = q := ⟨_, rfl⟩
  have e1 : Ln.begin_ lo = (fr, 0) := by unfold Ln.begin_; rw [if_pos (by omega), hfr]
  have e2 : Ln.begin_ (hi + 1) = (te, 0) := by unfold Ln.begin_; rw [if_pos (by omega), hte]
  have hlineq : Ln.lineOf s x.2 lo hi = Ln.line s.rules x.2 L fr te := by unfold Ln.lineOf; rw [hL, hfr, hte]
  rw [hfr] at F2 F4 hN;rw [hte] at F3 F5 hN;have HB := Lib.hid (fun W => e1 ▸ lnBegin_any lo W);have HBt := Lib.hid (fun W => e2 ▸ lnBegin_any (hi + 1) W);have HRv := Lib.hid (Reads.of_own hown);have H0c := Lib.hid (own_none hown);have HTime : Hid (∀ e ∈ x.2, IsTime e.std ∧ IsTime e.sv) := fun e he => by
   obtain ⟨h1, _, h3, _⟩ := hzo.ok e he;refine ⟨h1, ?_⟩;rcases h3 with q | q | q
   ·rw [q.2.1]; decide
   ·exact q.2.1
   ·rw [q.2.1]; decide
  have HInY : Hid (Ln.InY lo hi) := ⟨y1, y2, y3, y4⟩
  have w1 : IntKind.i64.wrap (hi - lo) = hi - lo := by rw [IntKind.wrap_i64]; omega
  have w2' : IntKind.i64.wrap (hi + 1) = hi + 1 := by rw [IntKind.wrap_i64]; omega
  have q1 : ¬ lo ≤ 1 := by omega
  have q2 : ¬ 9999 ≤ hi := by omega
  have q3 : ¬ hi < lo := by omega
  have q4 : ¬ 400 ≤ hi - lo := by omega
  have HDraw := Lib.hid fun (gd : Nat) (W : World) (hD : Ln.Dr s (.slice rA n1 rc) (.slice zA n2 zc) (.slice lA n3 lc) evs (kz : Int) vA m0 vc fr te gd W) (hr : Reads W W.heap.size 1 vA m0 (Ln.i64s L)) => lnDraw_any gd s _ _ _ evs kz vA m0 vc fr te L W x hD hxk hm0 (by omega) hLl hv1 (by unfold maxLen at hv2 ⊢; exact hv2) H0c.out hr HTime.out F2 F3 (by omega) (by omega) hN
  have HLq := Lib.hid hlineq;have HZa := Lib.hid hx;have HWe := Lib.hid hwe;have HRu3 := Lib.hid HRu2;have hRb2 := HR0.out.call HB2.out;clear hN hm0 hL hLl hown hfr hte e1 e2 hlineq F1 F2 F3 F4 F5 hx hxk hzo hwe hmem HRu2 y1 y2 y3 y4 b0 b1 b2;go_wp2_with fail
  refine (HB.out w2).mono ?_;rintro e w3 ⟨rfl, rfl⟩;go_wp2_with fail
  refine (HBt.out w2).mono ?_;rintro e w3 ⟨rfl, rfl⟩;obtain ⟨W3, hW3⟩ : ∃ W, w2.alloc (.cells #[.slice rA n1 rc, .slice zA n2 zc, .slice lA n3 lc, .int .i64 (kz : Int), .slice vA m0 vc, .int .i64 fr, .int .i64 te] 155) = W := ⟨_, rfl⟩
  have HW3 := Lib.hid hW3;have hb3 : Below w2.heap.size w2 W3 := by rw [← hW3]; exact (Below.refl _ _).alloc (Nat.le_refl _) _
  have hA3 : At W3 w2.heap.size [.slice rA n1 rc, .slice zA n2 zc, .slice lA n3 lc, .int .i64 (kz : Int), .slice vA m0 vc, .int .i64 fr, .int .i64 te] := by rw [← hW3]; exact At.new _ _ _
  have HB3 := Lib.hid hb3;have hDr : Ln.Dr s (.slice rA n1 rc) (.slice zA n2 zc) (.slice lA n3 lc) evs (kz : Int) vA m0 vc fr te w2.heap.size W3 := ⟨hRb2.call hb3, hA3, HWo.out.below (HB2.out.trans (hb3.mono HB2.out.size)), HRu3.out, HWc.out⟩
  have HCd := Lib.hid (HDraw.out _ W3 hDr ((HRv.out.below hb3).more hb3.size));clear hW3 hb3 hA3 hDr hRb2;go_wp2_with fail
  rw [HW3.out];refine HCd.out.mono ?_;rintro e w4 ⟨⟨v, rfl, ho4⟩, hb4⟩;have hbb := HB2.out.trans (HB3.out.mono HB2.out.size);have hbb4 : Below w.heap.size w w4 := hbb.trans (hb4.mono hbb.size);have HF : Hid (Below w.heap.size w w4 ∧ Ln.OfRet s (kz : Int) lo hi w.heap.size (.returned (.tuple #[v, .int .i64 0])) w4) := ⟨hbb4, .inr (.inr (.inr ⟨x, v, HWe.out, HZa.out, HInY.out, rfl, by rw [HLq.out]; exact Sc.own_mono ho4 hbb.size⟩))⟩
  clear ho4 hb4 hbb hbb4 c0 c1 c2;go_wp2;go_ret2
  exact HF.out
 ·have HB2 := Lib.hid HB2.out;have HF : Hid (Ln.OfRet s z lo hi w.heap.size (.returned (.tuple #[.slice none 0 0, .int .i64 1])) w2) := .inr (.inr (.inl ⟨x, hwe, hx, hin, rfl⟩));clear hwe hx hmem b0 b1 b2;have w1 : 1 < lo → hi < 9999 → lo ≤ hi → IntKind.i64.wrap (hi - lo) = hi - lo := fun h1 h2 h3 => by rw [IntKind.wrap_i64]; omega
  have hc : lo ≤ 1 ∨ (¬ lo ≤ 1 ∧ 9999 ≤ hi) ∨ (¬ lo ≤ 1 ∧ ¬ 9999 ≤ hi ∧ hi < lo) ∨ (¬ lo ≤ 1 ∧ ¬ 9999 ≤ hi ∧ ¬ hi < lo ∧ 400 ≤ hi - lo ∧ IntKind.i64.wrap (hi - lo) = hi - lo) := by
   unfold Ln.InY at hin
   by_cases a : lo ≤ 1
   ·exact .inl a
   ·by_cases b : 9999 ≤ hi
    ·exact .inr (.inl ⟨a, b⟩)
    ·by_cases c : hi < lo
     ·exact .inr (.inr (.inl ⟨a, b, c⟩))
     ·exact .inr (.inr (.inr ⟨a, b, c, by omega, w1 (by omega) (by omega) (by omega)⟩))
  clear w1 hin hown;rcases hc with k1 | ⟨k1, k2⟩ | ⟨k1, k2, k3⟩ | ⟨k1, k2, k3, k4, k5⟩
  all_goals
   go_wp2_with fail
   go_ret2
   exact ⟨HB2.out, HF.out⟩
namespace Df
instance decIn (lo hi : Int) : Decidable (Ln.InY lo hi) := by unfold Ln.InY; exact inferInstance
def out (lo hi : Int) : Bool := !decide (Ln.InY lo hi)
end Df
theorem dfOutside_any (lo hi : Int) (w : World) (hlo : -9223372036854775808 ≤ lo ∧ lo < 9223372036854775808) (hhi : -9223372036854775808 ≤ hi ∧ hi < 9223372036854775808) :
  Calls Tryz.prog 50 #[.int .i64 lo, .int .i64 hi] w fun e w' => e = .returned (.bool (Df.out lo hi)) ∧ w = w' := by
 have hin : Df.out lo hi = false ↔ Ln.InY lo hi := by unfold Df.out; simp
 obtain ⟨X, hX⟩ : ∃ X, Df.out lo hi = X := ⟨_, rfl⟩
 rw [hX] at hin ⊢;have hc : (lo ≤ 1) ∨ (¬ lo ≤ 1 ∧ 9999 ≤ hi) ∨ (¬ lo ≤ 1 ∧ ¬ 9999 ≤ hi ∧ hi < lo) ∨ (¬ lo ≤ 1 ∧ ¬ 9999 ≤ hi ∧ ¬ hi < lo ∧ 400 ≤ hi - lo) ∨ (¬ lo ≤ 1 ∧ ¬ 9999 ≤ hi ∧ ¬ hi < lo ∧ ¬ 400 ≤ hi - lo) := by omega
 unfold Ln.InY at hin;have HT : Hid (¬ (1 < lo ∧ hi < 9999 ∧ lo ≤ hi ∧ hi - lo < 400) → X = true) := fun h => by
  cases X
  ·exact absurd (hin.1 rfl) h
  ·rfl
 have HFa : Hid ((1 < lo ∧ hi < 9999 ∧ lo ≤ hi ∧ hi - lo < 400) → X = false) := hin.2;clear hin hX;rcases hc with p1 | ⟨p1, p2⟩ | ⟨p1, p2, p3⟩ | ⟨p1, p2, p3, p4⟩ | ⟨p1, p2, p3, p4⟩
 ·have HE : Hid (X = true) := HT.out (by omega);go_enter Tryz.func50, Tryz.ntmps50
  go_wp2;go_ret
  exact ⟨by rw [HE.out]; rfl, rfl⟩
 ·have HE : Hid (X = true) := HT.out (by omega);go_enter Tryz.func50, Tryz.ntmps50
  go_wp2;go_ret
  exact ⟨by rw [HE.out]; rfl, rfl⟩
 ·have HE : Hid (X = true) := HT.out (by omega);go_enter Tryz.func50, Tryz.ntmps50
  go_wp2;go_ret
  exact ⟨by rw [HE.out]; rfl, rfl⟩
 ·have HE : Hid (X = true) := HT.out (by omega);go_enter Tryz.func50, Tryz.ntmps50
  go_wp2;go_ret
  exact ⟨by rw [HE.out]; rfl, rfl⟩
 ·have HE : Hid (X = false) := HFa.out (by omega);go_enter Tryz.func50, Tryz.ntmps50
  go_wp2;go_ret
  exact ⟨by rw [HE.out]; rfl, rfl⟩
theorem zones_res {tmps : Array Value} {w : World} {a : Nat} {i j : Int} (h4 : tmps[6]?.getD undef = .pointer (some ⟨a, 0, none⟩)) (h5 : tmps[7]?.getD undef = .int .i64 0) (c0 : w.cell? ⟨a, 0, none⟩ = some (.int .i64 i)) (c1 : w.cell? ⟨a, 1, none⟩ = some (.int .i64 j)) :
  (results Tryz.f53 tmps).run Tryz.prog w = .ok (.tuple #[.agg #[.int .i64 i, .int .i64 j], .int .i64 0]) w := by
 simp [results, Tryz.f53, go_sem, h4, h5, c0, c1]
theorem dfZones_any (s t : Src.S) (rv zv lv rv2 zv2 lv2 : Value) (evs evs2 : List Value) (x : ByteArray) (i j : Int) (w : World) (hR : Src.SrcR w w.heap.size s rv zv lv evs) (hR2 : Src.SrcR w w.heap.size t rv2 zv2 lv2 evs2) (hN : Lk.Nm s) (hN2 : Lk.Nm t) (hx : x.size ≤ maxLen) (h1 : (Lk.walk s x).2 = (i, 0)) (h2 : (Lk.walk t x).2 = (j, 0)) :
  Calls Tryz.prog 53 #[.agg #[rv, zv, lv], .agg #[rv2, zv2, lv2], .string x] w fun e w' => e = .returned (.tuple #[.agg #[.int .i64 i, .int .i64 j], .int .i64 0]) ∧ Below w.heap.size w w' := by
 have HC1 := Lib.hid fun W (hb : Below w.heap.size w W) => linkZone_any s _ _ _ evs x W (hR.call hb) hN hx
 have HC2 := Lib.hid fun W (hb : Below w.heap.size w W) => linkZone_any t _ _ _ evs2 x W (hR2.call hb) hN2 hx
 rw [h1] at HC1;rw [h2] at HC2;clear h1 h2 hN hN2;obtain ⟨rA, rc, rfl, _⟩ := hR.rules;obtain ⟨zA, zc, rfl, _⟩ := hR.zones;obtain ⟨lA, lc, rfl, _⟩ := hR.links;obtain ⟨rA2, rc2, rfl, _⟩ := hR2.rules;obtain ⟨zA2, zc2, rfl, _⟩ := hR2.zones;obtain ⟨lA2, lc2, rfl, _⟩ := hR2.links;obtain ⟨n1, hn1⟩ : ∃ n, s.rules.length = n := ⟨_, rfl⟩
 obtain ⟨n2, hn2⟩ : ∃ n, s.zones.length = n := ⟨_, rfl⟩
 obtain ⟨n3, hn3⟩ : ∃ n, s.links.length = n := ⟨_, rfl⟩
 obtain ⟨m1, hm1'⟩ : ∃ n, t.rules.length = n := ⟨_, rfl⟩
 obtain ⟨m2, hm2'⟩ : ∃ n, t.zones.length = n := ⟨_, rfl⟩
 obtain ⟨m3, hm3'⟩ : ∃ n, t.links.length = n := ⟨_, rfl⟩
 rw [hn1, hn2, hn3] at HC1;rw [hm1', hm2', hm3'] at HC2;rw [hn1, hn2, hn3, hm1', hm2', hm3'];clear hn1 hn2 hn3 hm1' hm2' hm3' hR hR2;obtain ⟨V1, hV1⟩ : ∃ X, (((w.alloc (.cells #[.slice rA n1 rc, .slice zA n2 zc, .slice lA n3 lc] 26)).alloc (.cells #[.slice rA2 m1 rc2, .slice zA2 m2 zc2, .slice lA2 m3 lc2] 26)).alloc (.cells #[.int .i64 0, .int .i64 0] 127)) = X := ⟨_, rfl⟩
 obtain ⟨gA, hgA⟩ : ∃ q, w.heap.size = q := ⟨_, rfl⟩
 have hbn : Below w.heap.size w V1 := by rw [← hV1]; exact (((Below.refl _ _).alloc (Nat.le_refl _) _).alloc (by first | (simp; done) | (simp; omega)) _).alloc (by first | (simp; done) | (simp; omega)) _
 have hAA : At V1 gA [.slice rA n1 rc, .slice zA n2 zc, .slice lA n3 lc] := by
  have h := (((At.new w #[.slice rA n1 rc, .slice zA n2 zc, .slice lA n3 lc] 26).allocO (.cells #[.slice rA2 m1 rc2, .slice zA2 m2 zc2, .slice lA2 m3 lc2] 26)).allocO (.cells #[.int .i64 0, .int .i64 0] 127))
  rw [hV1] at h
  try rw [hgA] at h
  exact h
 have geA : w.heap.size ≤ gA := by have := (Below.refl w.heap.size w).size; omega
 have hAB : At V1 (gA + 1) [.slice rA2 m1 rc2, .slice zA2 m2 zc2, .slice lA2 m3 lc2] := by
  have h := ((At.new (w.alloc (.cells #[.slice rA n1 rc, .slice zA n2 zc, .slice lA n3 lc] 26)) #[.slice rA2 m1 rc2, .slice zA2 m2 zc2, .slice lA2 m3 lc2] 26).allocO (.cells #[.int .i64 0, .int .i64 0] 127))
  simp only [World.size_alloc] at h;rw [hV1] at h
  try rw [hgA] at h
  exact h
 have geB : w.heap.size ≤ (gA + 1) := by have := (Below.refl w.heap.size w).size; omega
 have neB_A : (gA + 1) ≠ gA := by omega
 have neA_B : gA ≠ (gA + 1) := by omega
 have hAX : At V1 (gA + 2) [.int .i64 0, .int .i64 0] := by
  have h := (At.new ((w.alloc (.cells #[.slice rA n1 rc, .slice zA n2 zc, .slice lA n3 lc] 26)).alloc (.cells #[.slice rA2 m1 rc2, .slice zA2 m2 zc2, .slice lA2 m3 lc2] 26)) #[.int .i64 0, .int .i64 0] 127)
  simp only [World.size_alloc] at h;rw [hV1] at h
  try rw [hgA] at h
  exact h
 have geX : w.heap.size ≤ (gA + 2) := by have := (Below.refl w.heap.size w).size; omega
 have neX_A : (gA + 2) ≠ gA := by omega
 have neA_X : gA ≠ (gA + 2) := by omega
 have neX_B : (gA + 2) ≠ (gA + 1) := by omega
 have neB_X : (gA + 1) ≠ (gA + 2) := by omega
 have hBz := below_then (Below.refl w.heap.size w) hbn;have HB := Lib.hid hBz;clear hBz;have HAA := Lib.hid hAA;have HAB := Lib.hid hAB;have HAX := Lib.hid hAX;have HEV1 := Lib.hid hV1;have HGgA := Lib.hid hgA;clear hbn hV1 hgA hAA hAB hAX;have A0 := HAA.out.cell 0 _ rfl;have A1 := HAA.out.cell 1 _ rfl;have A2 := HAA.out.cell 2 _ rfl;have zA := HAA.out.lt;have B0 := HAB.out.cell 0 _ rfl;have B1 := HAB.out.cell 1 _ rfl;have B2 := HAB.out.cell 2 _ rfl;have zB := HAB.out.lt;have X0 := HAX.out.cell 0 _ rfl;have fX0 := HAX.out.free 0 _ rfl;have X1 := HAX.out.cell 1 _ rfl;have fX1 := HAX.out.free 1 _ rfl;have zX := HAX.out.lt;go_enter Tryz.func53, Tryz.ntmps53
 go_upto_region 1 with fail
 rw [HEV1.out]
 try rw [HGgA.out]
 go_wp2_with fail
 clear A0 A1 A2 zA B0 B1 B2 zB X0 fX0 X1 fX1 zX;refine (HC1.out _ HB.out).mono ?_;rintro e V2 ⟨rfl, hb⟩;have hBz := below_then HB.out hb;clear HB;have HB := Lib.hid hBz;clear hBz;have hAz := HAA.out.call hb;clear HAA;have HAA := Lib.hid hAz;clear hAz;have hAz := HAB.out.call hb;clear HAB;have HAB := Lib.hid hAz;clear hAz;have hAz := HAX.out.call hb;clear HAX;have HAX := Lib.hid hAz;clear hAz;clear hb;have B0 := HAB.out.cell 0 _ rfl;have B1 := HAB.out.cell 1 _ rfl;have B2 := HAB.out.cell 2 _ rfl;have zB := HAB.out.lt;have X0 := HAX.out.cell 0 _ rfl;have fX0 := HAX.out.free 0 _ rfl;have X1 := HAX.out.cell 1 _ rfl;have fX1 := HAX.out.free 1 _ rfl;have zX := HAX.out.lt;go_wp2_with fail
 clear B0 B1 B2 zB X0 fX0 X1 fX1 zX;refine (HC2.out _ HB.out).mono ?_;rintro e V3 ⟨rfl, hb⟩;have hBz := below_then HB.out hb;clear HB;have HB := Lib.hid hBz;clear hBz;have hAz := HAA.out.call hb;clear HAA;have HAA := Lib.hid hAz;clear hAz;have hAz := HAB.out.call hb;clear HAB;have HAB := Lib.hid hAz;clear hAz;have hAz := HAX.out.call hb;clear HAX;have HAX := Lib.hid hAz;clear hAz;clear hb;have X0 := HAX.out.cell 0 _ rfl;have fX0 := HAX.out.free 0 _ rfl;have X1 := HAX.out.cell 1 _ rfl;have fX1 := HAX.out.free 1 _ rfl;have zX := HAX.out.lt;go_wp2_with fail
 try rw [HGgA.out]
 have hF := (HAX.out.set 0 (.int .i64 i)).set 1 (.int .i64 j);refine bodyPost_ret (zones_res rfl rfl (hF.cell 0 _ rfl) (hF.cell 1 _ rfl)) rfl ⟨rfl, ?_⟩;have hz := (HB.out.setCell (p := ⟨gA + 2, 0, none⟩) geX (.int .i64 i)).setCell (p := ⟨gA + 2, 1, none⟩) geX (.int .i64 j)
 first | exact hz | (rw [HGgA.out] at hz; exact hz)
theorem cmp_res {tmps : Array Value} {w : World} {a : Nat} {i : Int} {j : Bool} (h4 : tmps[10]?.getD undef = .pointer (some ⟨a, 0, none⟩)) (h5 : tmps[11]?.getD undef = .int .i64 0) (c0 : w.cell? ⟨a, 0, none⟩ = some (.int .i64 i)) (c1 : w.cell? ⟨a, 1, none⟩ = some (.bool j)) :
  (results Tryz.f54 tmps).run Tryz.prog w = .ok (.tuple #[.agg #[.int .i64 i, .bool j], .int .i64 0]) w := by
 simp [results, Tryz.f54, go_sem, h4, h5, c0, c1]
namespace Df
def fp (o : Option Int) : Int × Bool := match o with
 | none => (0, false)
 | some u => (u, true)
theorem fst_fp (o : Option Int) : fst o = .tuple #[.int .i64 (fp o).1, .bool (fp o).2] := by cases o <;> rfl
theorem zoneAt_mem {s : Src.S} {z : Int} {x : Src.Txt × List Er.E} (h : Eg.zoneAt s z = some x) : x ∈ s.zones := by
 unfold Eg.zoneAt at h;split at h
 ·exact List.mem_of_getElem? h
 ·cases h
theorem lines_len {s : Src.S} {eras : List Er.E} {lo hi : Int} (hr : Eg.RulesOk s.rules) (hz : Eg.ZoneOk eras) (h : Ln.InY lo hi) : (Ln.lineOf s eras lo hi).length ≤ 1000000000 := by
 obtain ⟨y1, y2, y3, y4⟩ := h;obtain ⟨F1, F2, F3, F4, F5⟩ := Ln.years_in y1 y2 y3;have h1 := Ln.pieces_len (eras := eras) (ends := Eg.ends s.rules eras) hr.len F2 F3 (by rw [F4, F5]; omega) eras.length;have h2 := Ln.fold_len (Ln.pieces s.rules eras (Eg.ends s.rules eras) (Oc.D lo * 86400) (Oc.D (hi + 1) * 86400) eras.length) [];have h3 := hz.len.2;unfold Ln.lineOf Ln.line;simp only [List.length_nil] at h2;omega
theorem line_ok {s : Src.S} {x : Src.Txt × List Er.E} {lo hi : Int} (hw : Vd.well s = true) (hru : s.rules.length ≤ 4096) (hm : x ∈ s.zones) (h : Ln.InY lo hi) :
  Lo.Right (Ln.lineOf s x.2 lo hi) ∧ (∀ y, (Ln.lineOf s x.2 lo hi)[0]? = some y → y.fr = Oc.D lo * 86400) ∧ (Ln.lineOf s x.2 lo hi).length ≤ 1000000000 := by
 have hRu := Eg.rules_ok2 hw hru;have hzo := Eg.zone_ok hw hm;have hc := Ln.lineOf_cov hRu hzo h;have hlt := (Ln.years_in h.1 h.2.1 h.2.2.1).1;refine ⟨Lo.right_cov hc hlt, fun y hy => ?_, ?_⟩
 ·cases hl : Ln.lineOf s x.2 lo hi with
  | nil => rw [hl] at hy; cases hy
  | cons a l =>
   rw [hl] at hc hy;obtain rfl : a = y := by simpa using hy
   exact hc.1
 ·exact lines_len hRu hzo h
end Df
theorem dfCompare_any (s t : Src.S) (rv zv lv rv2 zv2 lv2 : Value) (evs evs2 : List Value) (i j lo hi : Int) (x y : Src.Txt × List Er.E) (w : World) (hR : Src.SrcR w w.heap.size s rv zv lv evs) (hR2 : Src.SrcR w w.heap.size t rv2 zv2 lv2 evs2) (hS : Vd.Sz s) (hS2 : Vd.Sz t) (hW : Wo w) (hA : Wa w) (hI : Ln.InY lo hi) (hi1 : -9223372036854775808 ≤ i ∧ i < 9223372036854775808) (hj1 : -9223372036854775808 ≤ j ∧ j < 9223372036854775808)
  (hw : Vd.well s = true) (hw2 : Vd.well t = true) (hx : Eg.zoneAt s i = some x) (hy : Eg.zoneAt t j = some y) (hcc : ∀ x ∈ s.zones, ∀ e ∈ x.2, 0 ≤ e.u.c) (hwc : ∀ r ∈ s.rules, 0 ≤ r.c) (hcc2 : ∀ x ∈ t.zones, ∀ e ∈ x.2, 0 ≤ e.u.c) (hwc2 : ∀ r ∈ t.rules, 0 ≤ r.c) :
  Calls Tryz.prog 54 #[.agg #[rv, zv, lv], .agg #[rv2, zv2, lv2], .agg #[.int .i64 i, .int .i64 j], .int .i64 lo, .int .i64 hi] w fun e w' => e = .returned (.tuple #[.agg #[.int .i64 (Df.fp (Df.first (Ln.lineOf s x.2 lo hi) (Ln.lineOf t y.2 lo hi))).1, .bool (Df.fp (Df.first (Ln.lineOf s x.2 lo hi) (Ln.lineOf t y.2 lo hi))).2], .int .i64 0]) ∧ Below w.heap.size w w' := by
 have hb1 := hI.1;have hb2 := hI.2.1;have hb3 := hI.2.2.1;have HC1 := Lib.hid fun W (hb : Below w.heap.size w W) => lnOf_any s i lo hi _ _ _ evs W (hR.call hb) hS (hW.below hb) (hA.below hb) hi1 (by omega) (by omega) hcc hwc
 have HC2 := Lib.hid fun W (hb : Below w.heap.size w W) => lnOf_any t j lo hi _ _ _ evs2 W (hR2.call hb) hS2 (hW.below hb) (hA.below hb) hj1 (by omega) (by omega) hcc2 hwc2
 have HK1 := Lib.hid (Df.line_ok hw hS.lims.rules (Df.zoneAt_mem hx) hI);have HK2 := Lib.hid (Df.line_ok hw2 hS2.lims.rules (Df.zoneAt_mem hy) hI);obtain ⟨l1, hl1⟩ : ∃ l, Ln.lineOf s x.2 lo hi = l := ⟨_, rfl⟩
 obtain ⟨l2, hl2⟩ : ∃ l, Ln.lineOf t y.2 lo hi = l := ⟨_, rfl⟩
 rw [hl1] at HK1;rw [hl2] at HK2;rw [hl1, hl2];obtain ⟨o, ho⟩ : ∃ o, Df.first l1 l2 = o := ⟨_, rfl⟩
 rw [ho];obtain ⟨t1, ht1⟩ : ∃ q, (Df.fp o).1 = q := ⟨_, rfl⟩
 obtain ⟨t2, ht2⟩ : ∃ q, (Df.fp o).2 = q := ⟨_, rfl⟩
 rw [ht1, ht2];have HL1 := Lib.hid hl1;have HL2 := Lib.hid hl2;have HFo := Lib.hid ho;have HT1 := Lib.hid ht1;have HT2 := Lib.hid ht2;clear hl1 hl2 ho ht1 ht2;have HHw := Lib.hid hw;have HHw2 := Lib.hid hw2;have HHx := Lib.hid hx;have HHy := Lib.hid hy;have HI := Lib.hid hI;clear hw hw2 hx hy hI hS hS2 hW hA hcc hcc2 hwc hwc2;obtain ⟨rA, rc, rfl, _⟩ := hR.rules;obtain ⟨zA, zc, rfl, _⟩ := hR.zones;obtain ⟨lA, lc, rfl, _⟩ := hR.links;obtain ⟨rA2, rc2, rfl, _⟩ := hR2.rules;obtain ⟨zA2, zc2, rfl, _⟩ := hR2.zones;obtain ⟨lA2, lc2, rfl, _⟩ := hR2.links;obtain ⟨n1, hn1⟩ : ∃ n, s.rules.length = n := ⟨_, rfl⟩
 obtain ⟨n2, hn2⟩ : ∃ n, s.zones.length = n := ⟨_, rfl⟩
 obtain ⟨n3, hn3⟩ : ∃ n, s.links.length = n := ⟨_, rfl⟩
 obtain ⟨m1, hm1'⟩ : ∃ n, t.rules.length = n := ⟨_, rfl⟩
 obtain ⟨m2, hm2'⟩ : ∃ n, t.zones.length = n := ⟨_, rfl⟩
 obtain ⟨m3, hm3'⟩ : ∃ n, t.links.length = n := ⟨_, rfl⟩
 rw [hn1, hn2, hn3] at HC1;rw [hm1', hm2', hm3'] at HC2;rw [hn1, hn2, hn3, hm1', hm2', hm3'];clear hn1 hn2 hn3 hm1' hm2' hm3' hR hR2;obtain ⟨V1, hV1⟩ : ∃ X, ((((w.alloc (.cells #[.slice rA n1 rc, .slice zA n2 zc, .slice lA n3 lc] 26)).alloc (.cells #[.slice rA2 m1 rc2, .slice zA2 m2 zc2, .slice lA2 m3 lc2] 26)).alloc (.cells #[.int .i64 i, .int .i64 j] 127)).alloc (.cells #[.int .i64 0, .bool false] 131)) = X := ⟨_, rfl⟩
 obtain ⟨gA, hgA⟩ : ∃ q, w.heap.size = q := ⟨_, rfl⟩
 have hbn : Below w.heap.size w V1 := by rw [← hV1]; exact ((((Below.refl _ _).alloc (Nat.le_refl _) _).alloc (by first | (simp; done) | (simp; omega)) _).alloc (by first | (simp; done) | (simp; omega)) _).alloc (by first | (simp; done) | (simp; omega)) _
 have hAA : At V1 gA [.slice rA n1 rc, .slice zA n2 zc, .slice lA n3 lc] := by
  have h := ((((At.new w #[.slice rA n1 rc, .slice zA n2 zc, .slice lA n3 lc] 26).allocO (.cells #[.slice rA2 m1 rc2, .slice zA2 m2 zc2, .slice lA2 m3 lc2] 26)).allocO (.cells #[.int .i64 i, .int .i64 j] 127)).allocO (.cells #[.int .i64 0, .bool false] 131))
  rw [hV1] at h
  try rw [hgA] at h
  exact h
 have geA : w.heap.size ≤ gA := by have := (Below.refl w.heap.size w).size; omega
 have hAB : At V1 (gA + 1) [.slice rA2 m1 rc2, .slice zA2 m2 zc2, .slice lA2 m3 lc2] := by
  have h := (((At.new (w.alloc (.cells #[.slice rA n1 rc, .slice zA n2 zc, .slice lA n3 lc] 26)) #[.slice rA2 m1 rc2, .slice zA2 m2 zc2, .slice lA2 m3 lc2] 26).allocO (.cells #[.int .i64 i, .int .i64 j] 127)).allocO (.cells #[.int .i64 0, .bool false] 131))
  simp only [World.size_alloc] at h;rw [hV1] at h
  try rw [hgA] at h
  exact h
 have geB : w.heap.size ≤ (gA + 1) := by have := (Below.refl w.heap.size w).size; omega
 have neB_A : (gA + 1) ≠ gA := by omega
 have neA_B : gA ≠ (gA + 1) := by omega
 have hAP : At V1 (gA + 2) [.int .i64 i, .int .i64 j] := by
  have h := ((At.new ((w.alloc (.cells #[.slice rA n1 rc, .slice zA n2 zc, .slice lA n3 lc] 26)).alloc (.cells #[.slice rA2 m1 rc2, .slice zA2 m2 zc2, .slice lA2 m3 lc2] 26)) #[.int .i64 i, .int .i64 j] 127).allocO (.cells #[.int .i64 0, .bool false] 131))
  simp only [World.size_alloc] at h;rw [hV1] at h
  try rw [hgA] at h
  exact h
 have geP : w.heap.size ≤ (gA + 2) := by have := (Below.refl w.heap.size w).size; omega
 have neP_A : (gA + 2) ≠ gA := by omega
 have neA_P : gA ≠ (gA + 2) := by omega
 have neP_B : (gA + 2) ≠ (gA + 1) := by omega
 have neB_P : (gA + 1) ≠ (gA + 2) := by omega
 have hAX : At V1 (gA + 3) [.int .i64 0, .bool false] := by
  have h := (At.new (((w.alloc (.cells #[.slice rA n1 rc, .slice zA n2 zc, .slice lA n3 lc] 26)).alloc (.cells #[.slice rA2 m1 rc2, .slice zA2 m2 zc2, .slice lA2 m3 lc2] 26)).alloc (.cells #[.int .i64 i, .int .i64 j] 127)) #[.int .i64 0, .bool false] 131)
  simp only [World.size_alloc] at h;rw [hV1] at h
  try rw [hgA] at h
  exact h
 have geX : w.heap.size ≤ (gA + 3) := by have := (Below.refl w.heap.size w).size; omega
 have neX_A : (gA + 3) ≠ gA := by omega
 have neA_X : gA ≠ (gA + 3) := by omega
 have neX_B : (gA + 3) ≠ (gA + 1) := by omega
 have neB_X : (gA + 1) ≠ (gA + 3) := by omega
 have neX_P : (gA + 3) ≠ (gA + 2) := by omega
 have neP_X : (gA + 2) ≠ (gA + 3) := by omega
 have hBz := below_then (Below.refl w.heap.size w) hbn;have HB := Lib.hid hBz;clear hBz;have HAA := Lib.hid hAA;have HAB := Lib.hid hAB;have HAP := Lib.hid hAP;have HAX := Lib.hid hAX;have HEV1 := Lib.hid hV1;have HGgA := Lib.hid hgA;clear hbn hV1 hgA hAA hAB hAP hAX;have A0 := HAA.out.cell 0 _ rfl;have A1 := HAA.out.cell 1 _ rfl;have A2 := HAA.out.cell 2 _ rfl;have zA := HAA.out.lt;have B0 := HAB.out.cell 0 _ rfl;have B1 := HAB.out.cell 1 _ rfl;have B2 := HAB.out.cell 2 _ rfl;have zB := HAB.out.lt;have P0 := HAP.out.cell 0 _ rfl;have P1 := HAP.out.cell 1 _ rfl;have zP := HAP.out.lt;have X0 := HAX.out.cell 0 _ rfl;have fX0 := HAX.out.free 0 _ rfl;have X1 := HAX.out.cell 1 _ rfl;have fX1 := HAX.out.free 1 _ rfl;have zX := HAX.out.lt;go_enter Tryz.func54, Tryz.ntmps54
 go_upto_region 1 with fail
 rw [HEV1.out]
 try rw [HGgA.out]
 go_wp2_with fail
 clear A0 A1 A2 zA B0 B1 B2 zB P0 P1 zP X0 fX0 X1 fX1 zX;refine (HC1.out _ HB.out).mono ?_;rintro e U2 ⟨hb, hret⟩;rcases hret with ⟨q, _⟩ | ⟨_, q, _⟩ | ⟨x', _, _, q, _⟩ | ⟨x', v, _, hx', _, rfl, ho⟩
 ·rw [HHw.out] at q; cases q
 ·rw [HHx.out] at q; cases q
 ·exact absurd HI.out q
 rw [HHx.out] at hx';obtain rfl := Option.some.inj hx';rw [HL1.out] at ho;obtain ⟨vA, vc, rfl, hvc1, hvc2⟩ := own_slice_cap ho;have HO1 := Lib.hid ho;clear ho hx' HC1 hvc1 hvc2;have hBz := below_then HB.out hb;clear HB;have HB := Lib.hid hBz;clear hBz;have hAz := HAA.out.call hb;clear HAA;have HAA := Lib.hid hAz;clear hAz;have hAz := HAB.out.call hb;clear HAB;have HAB := Lib.hid hAz;clear hAz;have hAz := HAP.out.call hb;clear HAP;have HAP := Lib.hid hAz;clear hAz;have hAz := HAX.out.call hb;clear HAX;have HAX := Lib.hid hAz;clear hAz;clear hb;have B0 := HAB.out.cell 0 _ rfl;have B1 := HAB.out.cell 1 _ rfl;have B2 := HAB.out.cell 2 _ rfl;have zB := HAB.out.lt;have P0 := HAP.out.cell 0 _ rfl;have P1 := HAP.out.cell 1 _ rfl;have zP := HAP.out.lt;have X0 := HAX.out.cell 0 _ rfl;have fX0 := HAX.out.free 0 _ rfl;have X1 := HAX.out.cell 1 _ rfl;have fX1 := HAX.out.free 1 _ rfl;have zX := HAX.out.lt;go_wp2_with fail
 clear B0 B1 B2 zB P0 P1 zP X0 fX0 X1 fX1 zX;refine (HC2.out _ HB.out).mono ?_;rintro e U3 ⟨hb, hret⟩;rcases hret with ⟨q, _⟩ | ⟨_, q, _⟩ | ⟨y', _, _, q, _⟩ | ⟨y', v, _, hy', _, rfl, ho⟩
 ·rw [HHw2.out] at q; cases q
 ·rw [HHy.out] at q; cases q
 ·exact absurd HI.out q
 rw [HHy.out] at hy';obtain rfl := Option.some.inj hy';rw [HL2.out] at ho;obtain ⟨uA, uc, rfl, hvc1, hvc2⟩ := own_slice_cap ho;have HO2 := Lib.hid ho;have HO1b := Lib.hid (own_below HO1.out hb);clear ho hy' HC2 hvc1 hvc2 HO1;have hBz := below_then HB.out hb;clear HB;have HB := Lib.hid hBz;clear hBz;have hAz := HAA.out.call hb;clear HAA;have HAA := Lib.hid hAz;clear hAz;have hAz := HAB.out.call hb;clear HAB;have HAB := Lib.hid hAz;clear hAz;have hAz := HAP.out.call hb;clear HAP;have HAP := Lib.hid hAz;clear hAz;have hAz := HAX.out.call hb;clear HAX;have HAX := Lib.hid hAz;clear hAz;clear hb;have X0 := HAX.out.cell 0 _ rfl;have fX0 := HAX.out.free 0 _ rfl;have X1 := HAX.out.cell 1 _ rfl;have fX1 := HAX.out.free 1 _ rfl;have zX := HAX.out.lt;have hFs := fun W (hb : Below U3.heap.size U3 W) => auFirst_any l1 l2 (Oc.D lo * 86400) vA uA l1.length l2.length vc uc W rfl rfl HK1.out.2.2 HK2.out.2.2 HK1.out.1 HK2.out.1 HK1.out.2.1 HK2.out.2.1 (((Reads.of_own HO1b.out).below hb).more hb.size) (((Reads.of_own HO2.out).below hb).more hb.size)
 simp only [HFo.out] at hFs;unfold Df.FsRet at hFs;rw [Df.fst_fp] at hFs;simp only [HT1.out, HT2.out] at hFs;have HFs := Lib.hid hFs;clear hFs;go_upto_region 8 with fail
 clear X0 fX0 X1 fX1 zX;obtain ⟨V2, hV2⟩ : ∃ X, (U3.alloc (.cells #[.int .i64 0, .bool false] 131)) = X := ⟨_, rfl⟩
 obtain ⟨gF, hgF⟩ : ∃ q, U3.heap.size = q := ⟨_, rfl⟩
 have hbn : Below U3.heap.size U3 V2 := by rw [← hV2]; exact (Below.refl _ _).alloc (Nat.le_refl _) _
 have hAF : At V2 gF [.int .i64 0, .bool false] := by
  have h := (At.new U3 #[.int .i64 0, .bool false] 131)
  rw [hV2] at h
  try rw [hgF] at h
  exact h
 have geF : w.heap.size ≤ gF := by have := HB.out.size; omega
 have neF_A : gF ≠ gA := by have := HAA.out.lt; omega
 have neA_F : gA ≠ gF := by have := HAA.out.lt; omega
 have neF_B : gF ≠ (gA + 1) := by have := HAB.out.lt; omega
 have neB_F : (gA + 1) ≠ gF := by have := HAB.out.lt; omega
 have neF_P : gF ≠ (gA + 2) := by have := HAP.out.lt; omega
 have neP_F : (gA + 2) ≠ gF := by have := HAP.out.lt; omega
 have neF_X : gF ≠ (gA + 3) := by have := HAX.out.lt; omega
 have neX_F : (gA + 3) ≠ gF := by have := HAX.out.lt; omega
 have hBz := below_then HB.out hbn;clear HB;have HB := Lib.hid hBz;clear hBz;have hAz := HAA.out.call hbn;clear HAA;have HAA := Lib.hid hAz;clear hAz;have hAz := HAB.out.call hbn;clear HAB;have HAB := Lib.hid hAz;clear hAz;have hAz := HAP.out.call hbn;clear HAP;have HAP := Lib.hid hAz;clear hAz;have hAz := HAX.out.call hbn;clear HAX;have HAX := Lib.hid hAz;clear hAz;have HAF := Lib.hid hAF;have HEV2 := Lib.hid hV2;have HGgF := Lib.hid hgF;clear hbn hV2 hgF hAF;rw [HEV2.out]
 try rw [HGgF.out]
 have F0 := HAF.out.cell 0 _ rfl;have fF0 := HAF.out.free 0 _ rfl;have F1 := HAF.out.cell 1 _ rfl;have fF1 := HAF.out.free 1 _ rfl;have zF := HAF.out.lt;have X0 := HAX.out.cell 0 _ rfl;have fX0 := HAX.out.free 0 _ rfl;have X1 := HAX.out.cell 1 _ rfl;have fX1 := HAX.out.free 1 _ rfl;have zX := HAX.out.lt;have HFs2 := Lib.hid (HFs.out V2 ((Below.refl _ _).alloc (Nat.le_refl _) _ |> fun h => by rw [HEV2.out] at h; exact h));clear HFs;go_wp2_with fail
 clear F0 fF0 F1 fF1 zF X0 fX0 X1 fX1 zX;refine (HFs2.out).mono ?_;rintro e V3 ⟨rfl, hb⟩;have hBz := below_then HB.out hb;clear HB;have HB := Lib.hid hBz;clear hBz;have hAz := HAA.out.call hb;clear HAA;have HAA := Lib.hid hAz;clear hAz;have hAz := HAB.out.call hb;clear HAB;have HAB := Lib.hid hAz;clear hAz;have hAz := HAP.out.call hb;clear HAP;have HAP := Lib.hid hAz;clear hAz;have hAz := HAX.out.call hb;clear HAX;have HAX := Lib.hid hAz;clear hAz;have hAz := HAF.out.call hb;clear HAF;have HAF := Lib.hid hAz;clear hAz;clear hb;have F0 := HAF.out.cell 0 _ rfl;have fF0 := HAF.out.free 0 _ rfl;have F1 := HAF.out.cell 1 _ rfl;have fF1 := HAF.out.free 1 _ rfl;have zF := HAF.out.lt;have X0 := HAX.out.cell 0 _ rfl;have fX0 := HAX.out.free 0 _ rfl;have X1 := HAX.out.cell 1 _ rfl;have fX1 := HAX.out.free 1 _ rfl;have zX := HAX.out.lt;go_upto_region 9 with fail
 clear F0 fF0 F1 fF1 zF X0 fX0 X1 fX1 zX;obtain ⟨V4, hV4⟩ : ∃ X, V3.setCell ⟨gF, 0, none⟩ (.int .i64 t1) = X := ⟨_, rfl⟩
 have hBz : Below w.heap.size w V4 := by rw [← hV4]; exact HB.out.setCell (p := ⟨gF, 0, none⟩) geF (.int .i64 t1)
 clear HB;have HB := Lib.hid hBz;clear hBz;have hAz : At V4 gF [.int .i64 t1, .bool false] := by rw [← hV4]; exact HAF.out.set 0 (.int .i64 t1)
 clear HAF;have HAF := Lib.hid hAz;clear hAz;have hAz : At V4 gA [.slice rA n1 rc, .slice zA n2 zc, .slice lA n3 lc] := by rw [← hV4]; exact HAA.out.set_other ⟨gF, 0, none⟩ (.int .i64 t1) neF_A
 clear HAA;have HAA := Lib.hid hAz;clear hAz;have hAz : At V4 (gA + 1) [.slice rA2 m1 rc2, .slice zA2 m2 zc2, .slice lA2 m3 lc2] := by rw [← hV4]; exact HAB.out.set_other ⟨gF, 0, none⟩ (.int .i64 t1) neF_B
 clear HAB;have HAB := Lib.hid hAz;clear hAz;have hAz : At V4 (gA + 2) [.int .i64 i, .int .i64 j] := by rw [← hV4]; exact HAP.out.set_other ⟨gF, 0, none⟩ (.int .i64 t1) neF_P
 clear HAP;have HAP := Lib.hid hAz;clear hAz;have hAz : At V4 (gA + 3) [.int .i64 0, .bool false] := by rw [← hV4]; exact HAX.out.set_other ⟨gF, 0, none⟩ (.int .i64 t1) neF_X
 clear HAX;have HAX := Lib.hid hAz;clear hAz;have HEV4 := Lib.hid hV4;clear hV4;rw [HEV4.out];obtain ⟨V5, hV5⟩ : ∃ X, V4.setCell ⟨gF, 1, none⟩ (.bool t2) = X := ⟨_, rfl⟩
 have hBz : Below w.heap.size w V5 := by rw [← hV5]; exact HB.out.setCell (p := ⟨gF, 1, none⟩) geF (.bool t2)
 clear HB;have HB := Lib.hid hBz;clear hBz;have hAz : At V5 gF [.int .i64 t1, .bool t2] := by rw [← hV5]; exact HAF.out.set 1 (.bool t2)
 clear HAF;have HAF := Lib.hid hAz;clear hAz;have hAz : At V5 gA [.slice rA n1 rc, .slice zA n2 zc, .slice lA n3 lc] := by rw [← hV5]; exact HAA.out.set_other ⟨gF, 1, none⟩ (.bool t2) neF_A
 clear HAA;have HAA := Lib.hid hAz;clear hAz;have hAz : At V5 (gA + 1) [.slice rA2 m1 rc2, .slice zA2 m2 zc2, .slice lA2 m3 lc2] := by rw [← hV5]; exact HAB.out.set_other ⟨gF, 1, none⟩ (.bool t2) neF_B
 clear HAB;have HAB := Lib.hid hAz;clear hAz;have hAz : At V5 (gA + 2) [.int .i64 i, .int .i64 j] := by rw [← hV5]; exact HAP.out.set_other ⟨gF, 1, none⟩ (.bool t2) neF_P
 clear HAP;have HAP := Lib.hid hAz;clear hAz;have hAz : At V5 (gA + 3) [.int .i64 0, .bool false] := by rw [← hV5]; exact HAX.out.set_other ⟨gF, 1, none⟩ (.bool t2) neF_X
 clear HAX;have HAX := Lib.hid hAz;clear hAz;have HEV5 := Lib.hid hV5;clear hV5;rw [HEV5.out];have F0 := HAF.out.cell 0 _ rfl;have F1 := HAF.out.cell 1 _ rfl;have zF := HAF.out.lt;have X0 := HAX.out.cell 0 _ rfl;have fX0 := HAX.out.free 0 _ rfl;have X1 := HAX.out.cell 1 _ rfl;have fX1 := HAX.out.free 1 _ rfl;have zX := HAX.out.lt;go_wp2_with fail
 try rw [HGgA.out]
 have hF := (HAX.out.set 0 (.int .i64 t1)).set 1 (.bool t2);refine bodyPost_ret (cmp_res rfl rfl (hF.cell 0 _ rfl) (hF.cell 1 _ rfl)) rfl ⟨rfl, ?_⟩;have hz := (HB.out.setCell (p := ⟨gA + 3, 0, none⟩) geX (.int .i64 t1)).setCell (p := ⟨gA + 3, 1, none⟩) geX (.bool t2)
 first | exact hz | (rw [HGgA.out] at hz; exact hz)
end Go.Proofs.YtjobhjemnmleaaaGreatDoor
namespace Go.Proofs.YtjobhjemnmleaaaGreatDoor
open Go.RowKit
open Go.Maps Go.WideShapes Go.ChangeShapes Go.WideMaps
section
variable {P : Program} (w : World) {ops : Array Oper} {rest : List Oper} {o : Oper} {a : Act} {Q : Exit → Act → World → Prop}
theorem wpList_look_okK (hg : o.guard = none) (m x : Operand) (t k e : TypeId) (hop : o.op = Op.lookup t m x true) (K : Keyed P k) (ht : P.underlying t = some (.map k e)) {z : Value} (hz : ∀ W, (zeroValue e).run P W = .ok z W)
  (b n : Nat) (f : Mp.Fn) (kv : Value) (s : ByteArray) (hkey : keyOf P k kv = some (Mp.kl s)) (hm : a.eval m = .map (some b)) (hx : a.eval x = kv) (h : MapF P k w b n f)
  (hK : wpList P ops Q rest (a.put o.dst (.tuple #[(f s).getD z, .bool (f s).isSome])) w) : wpList P ops Q (o :: rest) a w := by
 obtain ⟨D, hD, hf⟩ := h;refine wpList_lookup_own_ok w hg m x t hop k e K ht Mp.rv (hz w) (.held z) [] rfl b n D hm hD kv (Mp.kl s) hx hkey ?_;intro v ps hv;rw [(hf s).2 z] at hv;have e1 : v = (f s).getD z := by
  unfold Mp.rv at hv
  injection hv with hv
  injection hv with hv _
  injection hv
 rw [e1, (hf s).1];exact hK
theorem wpList_storeK (hg : o.guard = none) (m x v : Operand) (t k e : TypeId) (hop : o.op = Op.mapUpdate t m x v) (K : Keyed P k) (ht : P.underlying t = some (.map k e))
  (b n : Nat) (f : Mp.Fn) (kv : Value) (s : ByteArray) (hkey : keyOf P k kv = some (Mp.kl s)) (hn : n < maxLen) (val : Value) (hm : a.eval m = .map (some b)) (hx : a.eval x = kv) (hv : a.eval v = val) (h : MapF P k w b n f)
  (hK : ∀ w', MapF P k w' b (n + 1) (Mp.put f s val) → w.grownBy w' (some b) → wpList P ops Q rest (a.put o.dst undef) w') : wpList P ops Q (o :: rest) a w := by
 obtain ⟨D, hD, hf⟩ := h;refine wpList_mapUpdate_own w hg m x v t hop k e K ht Mp.rv b n D hm hD hn kv val (Mp.kl s) hx hv hkey (.held val) [] rfl ?_;intro w' hD' hg';exact hK w' (MapF.put_ hD hf hD') hg'
end
theorem two_of {α : Type} : ∀ {l : List α}, l.length = 2 → ∃ a b, l = [a, b]
 | [a, b], _ => ⟨a, b, rfl⟩
end Go.Proofs.YtjobhjemnmleaaaGreatDoor
