/- diff.Changes: what two sources set in unlike ways. -/
import Derived.Test.YtjobhjemnmleaaaGreatDoorQ43
set_option maxRecDepth 100000
set_option maxHeartbeats 16000000
namespace Go.Proofs.YtjobhjemnmleaaaGreatDoor
open Go.RowKit Go.Shelf
attribute [local go_sem] Oper.semAt_some
namespace Df
def ChAt (s t : Src.S) (lo hi : Int) (w0 w8 : World) (gA bA bB bk n : Nat) (sa sb : List Value) (la lb : List ByteArray) (Bn : Nat) (lv : Value) (l : List ByteArray) (v i : Value) (wr : World) : Prop :=
 ∃ (k : Nat) (A : Option Addr) (c : Nat), k ≤ n ∧ i = .int .i64 (k : Int) ∧ v = .slice A (upto s t lo hi k).length c ∧ Cx gA bA bB sa sb la lb Bn lv l wr ∧ wr.ownsRow w8.heap.size 37 3 v (upto s t lo hi k).length ((upto s t lo hi k).flatMap Ch.cells) ∧
  (∃ cnt f, cnt ≤ k ∧ MapF Tryz.prog 127 wr bk cnt f ∧ Memo (pairOf s t lo hi) f) ∧ Below w0.heap.size w0 wr ∧ w8.heap.size ≤ wr.heap.size
section
variable {s t : Src.S} {lo hi : Int} {w0 w8 W w9 : World} {gA bA bB bk n : Nat} {sa sb : List Value} {la lb : List ByteArray} {Bn : Nat} {lv : Value} {l : List ByteArray} {k cnt : Nat} {f : Mp.Fn}
theorem chKeep {A : Option Addr} {c : Nat} (hk : k < n) (hC : Cx gA bA bB sa sb la lb Bn lv l W) (hO : W.ownsRow w8.heap.size 37 3 (.slice A (upto s t lo hi k).length c) (upto s t lo hi k).length ((upto s t lo hi k).flatMap Ch.cells)) (hcnt : cnt ≤ k + 1) (hM : MapF Tryz.prog 127 W bk cnt f) (hMe : Memo (pairOf s t lo hi) f) (hB : Below w0.heap.size w0 W) (hz : w8.heap.size ≤ W.heap.size) (hU : upto s t lo hi (k + 1) = upto s t lo hi k) :
  ChAt s t lo hi w0 w8 gA bA bB bk n sa sb la lb Bn lv l (.slice A (upto s t lo hi k).length c) (.int .i64 ((k : Int) + 1)) W := by
 refine ⟨k + 1, A, c, by omega, by go_num, by rw [hU], hC, by rw [hU]; exact hO, ⟨cnt, f, hcnt, hM, hMe⟩, hB, hz⟩
theorem chPush {v v9 : Value} {x : Ch} (hk : k < n) (hbd : w0.heap.size ≤ w8.heap.size ∧ gA + 1 < w8.heap.size ∧ bA < w8.heap.size ∧ bB < w8.heap.size ∧ bk < w8.heap.size ∧ ∀ g, lv.ownBlock = some g → g < w8.heap.size) (hC : Cx gA bA bB sa sb la lb Bn lv l W) (hO : W.ownsRow w8.heap.size 37 3 v (upto s t lo hi k).length ((upto s t lo hi k).flatMap Ch.cells)) (hcnt : cnt ≤ k + 1) (hM : MapF Tryz.prog 127 W bk cnt f) (hMe : Memo (pairOf s t lo hi) f) (hB : Below w0.heap.size w0 W) (hz : w8.heap.size ≤ W.heap.size)
  (hown : w9.ownsRow w8.heap.size 37 3 v9 ((upto s t lo hi k).length + 1) ((upto s t lo hi k).flatMap Ch.cells ++ x.cells)) (hg : W.grownBy w9 v.ownBlock) (hU : upto s t lo hi (k + 1) = upto s t lo hi k ++ [x]) :
  ChAt s t lo hi w0 w8 gA bA bB bk n sa sb la lb Bn lv l v9 (.int .i64 ((k : Int) + 1)) w9 := by
 obtain ⟨A9, c9, rfl, _, _⟩ := own_slice_cap hown;have hlt := fun j hj => (hO.lt j hj).1
 obtain ⟨h0, h1, h2, h3, h4, h5⟩ := hbd;have hl : (upto s t lo hi (k + 1)).length = (upto s t lo hi k).length + 1 := by rw [hU, List.length_append]; rfl
 have hs := hg.size;refine ⟨k + 1, A9, c9, by omega, by go_num, by rw [hl], hC.grown hg ⟨fun e => by have := hlt _ e; omega, fun e => by have := hlt _ e; omega, fun e => by have := hlt _ e; omega, fun e => by have := hlt _ e; omega, fun g hq e => by have := hlt _ e; have := h5 g hq; omega⟩, ?_,
  ⟨cnt, f, hcnt, hM.kept hg (fun e => by have := hlt _ e.symm; omega), hMe⟩, hB.grown hg hB.size (fun j e => by have := hlt _ e; omega), by omega⟩
 rw [hl, hU, List.flatMap_append];show World.ownsRow _ _ _ _ _ _ (_ ++ (x.cells ++ []))
 rw [List.append_nil];exact hown
end
end Df
namespace ChA
def sl : Nat → Nat
 | 0 => 31
 | 1 => 32
 | 2 => 33
 | 3 => 34
 | 4 => 10
 | _ => 11
def Q (rA : Option Addr) (zA : Option Addr) (lA : Option Addr) (rA2 : Option Addr) (zA2 : Option Addr) (lA2 : Option Addr) (n1 : Nat) (rc : Nat) (n2 : Nat) (zc : Nat) (n3 : Nat) (lc : Nat) (m1 : Nat) (rc2 : Nat) (m2 : Nat) (zc2 : Nat) (m3 : Nat) (lc2 : Nat) (B : Nat) (la : List ByteArray) (lb : List ByteArray) : Nat → Value → World → Prop
 | 0, v, _ => v = .agg #[.slice rA n1 rc, .slice zA n2 zc, .slice lA n3 lc]
 | 1, v, W => ∃ bm n, v = .map (some bm) ∧ MapF Tryz.prog 9 W bm n (Hv.sf la) ∧ B ≤ bm
 | 2, v, _ => v = .agg #[.slice rA2 m1 rc2, .slice zA2 m2 zc2, .slice lA2 m3 lc2]
 | 3, v, W => ∃ bm n, v = .map (some bm) ∧ MapF Tryz.prog 9 W bm n (Hv.sf lb) ∧ B ≤ bm
 | 4, v, W => ∃ bm n, v = .map (some bm) ∧ MapF Tryz.prog 9 W bm n (Hv.sf la) ∧ B ≤ bm
 | 5, v, W => ∃ bm n, v = .map (some bm) ∧ MapF Tryz.prog 9 W bm n (Hv.sf lb) ∧ B ≤ bm
 | _, _, _ => True
theorem Q_mono {rA : Option Addr} {zA : Option Addr} {lA : Option Addr} {rA2 : Option Addr} {zA2 : Option Addr} {lA2 : Option Addr} {n1 : Nat} {rc : Nat} {n2 : Nat} {zc : Nat} {n3 : Nat} {lc : Nat} {m1 : Nat} {rc2 : Nat} {m2 : Nat} {zc2 : Nat} {m3 : Nat} {lc2 : Nat} {B : Nat} {la : List ByteArray} {lb : List ByteArray} : ∀ i v W W', Q rA zA lA rA2 zA2 lA2 n1 rc n2 zc n3 lc m1 rc2 m2 zc2 m3 lc2 B la lb i v W → Below W.heap.size W W' → Q rA zA lA rA2 zA2 lA2 n1 rc n2 zc n3 lc m1 rc2 m2 zc2 m3 lc2 B la lb i v W' := by
 intro _ v W W' h hb;unfold Q at h ⊢;split at h
 all_goals first | exact h | (obtain ⟨bm, n, h1, h2, h3⟩ := h; exact ⟨bm, n, h1, h2.below hb, h3⟩)
theorem sl_inj : ∀ j, j < 6 → ∀ k, k < 6 → sl j = sl k → j = k := by decide +kernel
theorem sl_no : ∀ j, j ∈ [2, 3, 4, 5] → ∀ k, k < 6 → sl k ≠ j := by decide +kernel
end ChA
theorem dfChanges_any (s t : Src.S) (lo hi : Int) (rv zv lv rv2 zv2 lv2 : Value) (evs evs2 : List Value) (w : World) (hR : Src.SrcR w w.heap.size s rv zv lv evs) (hR2 : Src.SrcR w w.heap.size t rv2 zv2 lv2 evs2) (hS : Vd.Sz s) (hS2 : Vd.Sz t) (hW : Wo w) (hA : Wa w)
  (hlo : -9223372036854775808 ≤ lo ∧ lo < 9223372036854775808) (hhi : -9223372036854775808 ≤ hi ∧ hi < 9223372036854775808) (hcc : ∀ x ∈ s.zones, ∀ e ∈ x.2, 0 ≤ e.u.c) (hwc : ∀ r ∈ s.rules, 0 ≤ r.c) (hcc2 : ∀ x ∈ t.zones, ∀ e ∈ x.2, 0 ≤ e.u.c) (hwc2 : ∀ r ∈ t.rules, 0 ≤ r.c) :
  Calls Tryz.prog 13 #[.agg #[rv, zv, lv], .agg #[rv2, zv2, lv2], .int .i64 lo, .int .i64 hi] w (Df.ChRet s t lo hi w) := by
 have hN1 : ∀ x ∈ Src.names s, x.size ≤ maxLen := hS.names;have hN2 : ∀ x ∈ Src.names t, x.size ≤ maxLen := hS2.names;have HW1 := Lib.hid fun W (hb : Below w.heap.size w W) => vdWell_any s _ _ _ evs W (hR.call hb) hS (hW.below hb) (hA.below hb)
 have HW2 := Lib.hid fun W (hb : Below w.heap.size w W) => vdWell_any t _ _ _ evs2 W (hR2.call hb) hS2 (hW.below hb) (hA.below hb)
 have HOut := Lib.hid fun W => dfOutside_any lo hi W hlo hhi
 have HO1 := Lib.hid fun W (hb : Below w.heap.size w W) => dfOf_any s _ _ _ evs W (hR.call hb) hS.lims hN1
 have HO2 := Lib.hid fun W (hb : Below w.heap.size w W) => dfOf_any t _ _ _ evs2 W (hR2.call hb) hS2.lims hN2
 have HNm := Lib.hid fun W (hb : Below w.heap.size w W) => dfNames_any s t _ _ _ _ _ _ evs evs2 W (hR.call hb) (hR2.call hb) hS.lims hS2.lims hN1 hN2
 have HZn := Lib.hid fun x i j (hx : x.size ≤ maxLen) (h1 : (Lk.walk s x).2 = (i, 0)) (h2 : (Lk.walk t x).2 = (j, 0)) W (hb : Below w.heap.size w W) => dfZones_any s t _ _ _ _ _ _ evs evs2 x i j W (hR.call hb) (hR2.call hb) hS.nm hS2.nm hx h1 h2
 have HCm := Lib.hid fun i j x y (hI : Ln.InY lo hi) (h1 : -9223372036854775808 ≤ i ∧ i < 9223372036854775808) (h2 : -9223372036854775808 ≤ j ∧ j < 9223372036854775808) (hw : Vd.well s = true) (hw2 : Vd.well t = true) (hx : Eg.zoneAt s i = some x) (hy : Eg.zoneAt t j = some y) W (hb : Below w.heap.size w W) =>
  dfCompare_any s t _ _ _ _ _ _ evs evs2 i j lo hi x y W (hR.call hb) (hR2.call hb) hS hS2 (hW.below hb) (hA.below hb) hI h1 h2 hw hw2 hx hy hcc hwc hcc2 hwc2
 have HLn : Hid ((Df.names s t).length ≤ 12000) := by
  have h1 := Df.names_len s t;have h2 := hS.lims;have h3 := hS2.lims;show _ ≤ _
  unfold Src.names Src.zoneNames Src.linkNames at h1;simp only [List.length_append, List.length_map] at h1;have := h2.zones;have := h2.links;have := h3.zones;have := h3.links;omega
 have HZl : Hid (s.zones.length ≤ 1024 ∧ t.zones.length ≤ 1024) := ⟨hS.lims.zones, hS2.lims.zones⟩
 have HNs : Hid (∀ x ∈ Df.names s t, x.size ≤ maxLen) := fun x hx => by
  rcases Df.mem_names.1 hx with q | q
  ·exact hN1 x q
  ·exact hN2 x q
 obtain ⟨rA, rc, rfl, _⟩ := hR.rules;obtain ⟨zA, zc, rfl, _⟩ := hR.zones;obtain ⟨lA, lc, rfl, _⟩ := hR.links;obtain ⟨rA2, rc2, rfl, _⟩ := hR2.rules;obtain ⟨zA2, zc2, rfl, _⟩ := hR2.zones;obtain ⟨lA2, lc2, rfl, _⟩ := hR2.links;obtain ⟨n1, hn1⟩ : ∃ n, s.rules.length = n := ⟨_, rfl⟩
 obtain ⟨n2, hn2⟩ : ∃ n, s.zones.length = n := ⟨_, rfl⟩
 obtain ⟨n3, hn3⟩ : ∃ n, s.links.length = n := ⟨_, rfl⟩
 obtain ⟨m1, hm1'⟩ : ∃ n, t.rules.length = n := ⟨_, rfl⟩
 obtain ⟨m2, hm2'⟩ : ∃ n, t.zones.length = n := ⟨_, rfl⟩
 obtain ⟨m3, hm3'⟩ : ∃ n, t.links.length = n := ⟨_, rfl⟩
 rw [hn1, hn2, hn3] at HW1 HO1;rw [hm1', hm2', hm3'] at HW2 HO2;rw [hn1, hn2, hn3, hm1', hm2', hm3'] at HNm HZn HCm;rw [hn1, hn2, hn3, hm1', hm2', hm3'];rw [hn2, hm2'] at HZl;have HN2 := Lib.hid hn2;have HM2 := Lib.hid hm2';clear hn1 hn2 hn3 hm1' hm2' hm3' hR hR2 hS hS2 hW hA hN1 hN2 hcc hwc hcc2 hwc2;obtain ⟨la, hla⟩ : ∃ l, Src.names s = l := ⟨_, rfl⟩
 obtain ⟨lb, hlb⟩ : ∃ l, Src.names t = l := ⟨_, rfl⟩
 rw [hla] at HO1;rw [hlb] at HO2;have HLa := Lib.hid hla;have HLb := Lib.hid hlb;clear hla hlb;obtain ⟨x1, hx1⟩ : ∃ q, Vd.well s = q := ⟨_, rfl⟩
 obtain ⟨x2, hx2⟩ : ∃ q, Vd.well t = q := ⟨_, rfl⟩
 rw [hx1] at HW1;rw [hx2] at HW2;have HX1 := Lib.hid hx1;have HX2 := Lib.hid hx2;clear hx1 hx2;obtain ⟨P, hP⟩ : ∃ P, Df.ChRet s t lo hi w = P := ⟨_, rfl⟩
 rw [hP];have HP := Lib.hid hP;clear hP;obtain ⟨V1, hV1⟩ : ∃ X, ((w.alloc (.cells #[.slice rA n1 rc, .slice zA n2 zc, .slice lA n3 lc] 26)).alloc (.cells #[.slice rA2 m1 rc2, .slice zA2 m2 zc2, .slice lA2 m3 lc2] 26)) = X := ⟨_, rfl⟩
 obtain ⟨gA, hgA⟩ : ∃ q, w.heap.size = q := ⟨_, rfl⟩
 have hbn : Below w.heap.size w V1 := by rw [← hV1]; exact ((Below.refl _ _).alloc (Nat.le_refl _) _).alloc (by first | (simp; done) | (simp; omega)) _
 have hAA : At V1 gA [.slice rA n1 rc, .slice zA n2 zc, .slice lA n3 lc] := by
  have h := ((At.new w #[.slice rA n1 rc, .slice zA n2 zc, .slice lA n3 lc] 26).allocO (.cells #[.slice rA2 m1 rc2, .slice zA2 m2 zc2, .slice lA2 m3 lc2] 26))
  rw [hV1] at h
  try rw [hgA] at h
  exact h
 have geA : w.heap.size ≤ gA := by have := (Below.refl w.heap.size w).size; omega
 have hAB : At V1 (gA + 1) [.slice rA2 m1 rc2, .slice zA2 m2 zc2, .slice lA2 m3 lc2] := by
  have h := (At.new (w.alloc (.cells #[.slice rA n1 rc, .slice zA n2 zc, .slice lA n3 lc] 26)) #[.slice rA2 m1 rc2, .slice zA2 m2 zc2, .slice lA2 m3 lc2] 26)
  simp only [World.size_alloc] at h;rw [hV1] at h
  try rw [hgA] at h
  exact h
 have geB : w.heap.size ≤ (gA + 1) := by have := (Below.refl w.heap.size w).size; omega
 have neB_A : (gA + 1) ≠ gA := by omega
 have neA_B : gA ≠ (gA + 1) := by omega
 have hBz := below_then (Below.refl w.heap.size w) hbn;have HB := Lib.hid hBz;clear hBz;have HAA := Lib.hid hAA;have HAB := Lib.hid hAB;have HEV1 := Lib.hid hV1;have HGgA := Lib.hid hgA;clear hbn hV1 hgA hAA hAB;have A0 := HAA.out.cell 0 _ rfl;have A1 := HAA.out.cell 1 _ rfl;have A2 := HAA.out.cell 2 _ rfl;have zA := HAA.out.lt;have B0 := HAB.out.cell 0 _ rfl;have B1 := HAB.out.cell 1 _ rfl;have B2 := HAB.out.cell 2 _ rfl;have zB := HAB.out.lt;go_enter Tryz.func13, Tryz.ntmps13
 go_upto_region 1 with fail
 rw [HEV1.out]
 try rw [HGgA.out]
 go_wp2_with fail
 clear A0 A1 A2 zA B0 B1 B2 zB;refine (HW1.out _ HB.out).mono ?_;rintro e V2 ⟨rfl, hb⟩;have hBz := below_then HB.out hb;clear HB;have HB := Lib.hid hBz;clear hBz;have hAz := HAA.out.call hb;clear HAA;have HAA := Lib.hid hAz;clear hAz;have hAz := HAB.out.call hb;clear HAB;have HAB := Lib.hid hAz;clear hAz;clear hb;have B0 := HAB.out.cell 0 _ rfl;have B1 := HAB.out.cell 1 _ rfl;have B2 := HAB.out.cell 2 _ rfl;have zB := HAB.out.lt;cases x1 with
 | false =>
  have HF : Hid (P (.returned (.tuple #[.slice none 0 0, .int .i64 2])) V2) := by
   show P _ _
   rw [← HP.out];exact ⟨HB.out, .inl ⟨fun h => (by rw [HX1.out] at h; cases h.1), rfl⟩⟩
  go_wp2;exact HF.out
 | true =>
 go_wp2_with fail
 clear B0 B1 B2 zB;refine (HW2.out _ HB.out).mono ?_;rintro e V3 ⟨rfl, hb⟩;have hBz := below_then HB.out hb;clear HB;have HB := Lib.hid hBz;clear hBz;have hAz := HAA.out.call hb;clear HAA;have HAA := Lib.hid hAz;clear hAz;have hAz := HAB.out.call hb;clear HAB;have HAB := Lib.hid hAz;clear hAz;clear hb;cases x2 with
 | false =>
  have HF : Hid (P (.returned (.tuple #[.slice none 0 0, .int .i64 2])) V3) := by
   show P _ _
   rw [← HP.out];exact ⟨HB.out, .inl ⟨fun h => (by rw [HX2.out] at h; cases h.2), rfl⟩⟩
  go_wp2;exact HF.out
 | true =>
 go_wp2_with fail
 refine (HOut.out _).mono ?_;rintro e _ ⟨rfl, rfl⟩;cases ho : Df.out lo hi with
 | true =>
  have HF : Hid (P (.returned (.tuple #[.slice none 0 0, .int .i64 1])) V3) := by
   show P _ _
   rw [← HP.out];refine ⟨HB.out, .inr (.inl ⟨HX1.out, HX2.out, fun h => ?_, rfl⟩)⟩;unfold Df.out at ho;rw [decide_eq_true h] at ho;cases ho
  clear ho;go_wp2;exact HF.out
 | false =>
 have hI : Ln.InY lo hi := by
  unfold Df.out at ho;simpa using ho
 have HI := Lib.hid hI;clear hI ho;go_wp2_with fail
 refine Od.wp_region_inv 106 (by kernel_rfl) (by rfl) (by rfl) (Od.ord_of (by kernel_rfl)) (Od.dst_of (by kernel_rfl)) (Rg.J 6 ChA.sl (ChA.Q rA zA lA rA2 zA2 lA2 n1 rc n2 zc n3 lc m1 rc2 m2 zc2 m3 lc2 w.heap.size la lb) V3 (Od.slots _)) (Rg.J.start _ _ _ ((Below.refl _ _).drew)) ?stepR ?finR
 case stepR =>
  intro i o hi b' a' wv hJ hb hdep hdf K hK;obtain ⟨tm, df⟩ := a';simp only at hdf;subst hdf;have hiN : i < 6 := (Array.getElem?_eq_some_iff.1 hi).1;have hsplit : i = 0 ∨ i = 1 ∨ i = 2 ∨ i = 3 ∨ i = 4 ∨ i = 5 := by omega
  rcases hsplit with rfl | rfl | rfl | rfl | rfl | rfl
  ·obtain rfl := sji (show some _ = some o from hi);rw [if_pos (show Region.wanted _ _ = true from rfl)];have h4 : tm.getD 4 undef = .pointer (some ⟨gA, 0, none⟩) := (hJ.old 4 (ChA.sl_no 4 (by decide))).trans rfl;have h4' := gdq h4;obtain ⟨a0, a1, a2, _⟩ := (HAA.out.call hJ.below).three;have za := (HAA.out.call hJ.below).lt;go_simp;exact hK _ _ (hJ.put ChA.Q_mono ChA.sl_inj (by decide) rfl)
  ·obtain rfl := sji (show some _ = some o from hi);rw [if_pos (show Region.wanted _ _ = true from rfl)];have v0 : tm.getD 31 undef = .agg #[.slice rA n1 rc, .slice zA n2 zc, .slice lA n3 lc] := hJ.val 0 (by decide) (hdep ⟨0, .data⟩ (by simp) rfl);have v0' := gdq v0;go_simp;refine (HO1.out wv (below_then HB.out hJ.below)).mono ?_;rintro e9 w' ⟨bm, nn, rfl, hM, hge, hbm⟩;exact hK _ _ (hJ.step ChA.Q_mono ChA.sl_inj (by decide) hbm ⟨bm, nn, rfl, hM, Nat.le_trans (below_then HB.out hJ.below).size hge⟩)
  ·obtain rfl := sji (show some _ = some o from hi);rw [if_pos (show Region.wanted _ _ = true from rfl)];have h5 : tm.getD 5 undef = .pointer (some ⟨gA + 1, 0, none⟩) := (hJ.old 5 (ChA.sl_no 5 (by decide))).trans rfl;have h5' := gdq h5;obtain ⟨b0, b1, b2, _⟩ := (HAB.out.call hJ.below).three;have zb := (HAB.out.call hJ.below).lt;go_simp;exact hK _ _ (hJ.put ChA.Q_mono ChA.sl_inj (by decide) rfl)
  ·obtain rfl := sji (show some _ = some o from hi);rw [if_pos (show Region.wanted _ _ = true from rfl)];have v2 : tm.getD 33 undef = .agg #[.slice rA2 m1 rc2, .slice zA2 m2 zc2, .slice lA2 m3 lc2] := hJ.val 2 (by decide) (hdep ⟨2, .data⟩ (by simp) rfl);have v2' := gdq v2;go_simp;refine (HO2.out wv (below_then HB.out hJ.below)).mono ?_;rintro e9 w' ⟨bm, nn, rfl, hM, hge, hbm⟩;exact hK _ _ (hJ.step ChA.Q_mono ChA.sl_inj (by decide) hbm ⟨bm, nn, rfl, hM, Nat.le_trans (below_then HB.out hJ.below).size hge⟩)
  ·obtain rfl := sji (show some _ = some o from hi);rw [if_pos (show Region.wanted _ _ = true from rfl)];obtain ⟨bm1, nm1, v1, hm1, hg1⟩ : ∃ bm n, tm.getD 32 undef = .map (some bm) ∧ MapF Tryz.prog 9 wv bm n (Hv.sf la) ∧ w.heap.size ≤ bm := hJ.val 1 (by decide) (hdep ⟨1, .data⟩ (by simp) rfl);have v1' := (Array.getD_eq_getD_getElem? (xs := tm) (i := 32) (d := undef)).symm.trans v1;go_simp;exact hK _ _ (hJ.put ChA.Q_mono ChA.sl_inj (by decide) ⟨bm1, nm1, rfl, hm1, hg1⟩)
  ·obtain rfl := sji (show some _ = some o from hi);rw [if_pos (show Region.wanted _ _ = true from rfl)];obtain ⟨bm3, nm3, v3, hm3, hg3⟩ : ∃ bm n, tm.getD 34 undef = .map (some bm) ∧ MapF Tryz.prog 9 wv bm n (Hv.sf lb) ∧ w.heap.size ≤ bm := hJ.val 3 (by decide) (hdep ⟨3, .data⟩ (by simp) rfl);have v3' := (Array.getD_eq_getD_getElem? (xs := tm) (i := 34) (d := undef)).symm.trans v3;go_simp;exact hK _ _ (hJ.put ChA.Q_mono ChA.sl_inj (by decide) ⟨bm3, nm3, rfl, hm3, hg3⟩)
 case finR =>
  intro a' W6 hJ hN hdf;have s2 : a'.tmps.getD 2 undef = .int .i64 lo := (hJ.old 2 (ChA.sl_no 2 (by decide))).trans rfl;have s3 : a'.tmps.getD 3 undef = .int .i64 hi := (hJ.old 3 (ChA.sl_no 3 (by decide))).trans rfl;have s4 : a'.tmps.getD 4 undef = .pointer (some ⟨gA, 0, none⟩) := (hJ.old 4 (ChA.sl_no 4 (by decide))).trans rfl;have s5 : a'.tmps.getD 5 undef = .pointer (some ⟨gA + 1, 0, none⟩) := (hJ.old 5 (ChA.sl_no 5 (by decide))).trans rfl;obtain ⟨bm4, nm4, s10, hm4, hg4⟩ : ∃ bm n, a'.tmps.getD 10 undef = .map (some bm) ∧ MapF Tryz.prog 9 W6 bm n (Hv.sf la) ∧ w.heap.size ≤ bm := hJ.val 4 (by decide) (by rfl);obtain ⟨bm5, nm5, s11, hm5, hg5⟩ : ∃ bm n, a'.tmps.getD 11 undef = .map (some bm) ∧ MapF Tryz.prog 9 W6 bm n (Hv.sf lb) ∧ w.heap.size ≤ bm := hJ.val 5 (by decide) (by rfl);have hb9 := hJ.below;have ef : a' = { tmps := ((List.range 106).map fun i => a'.tmps.getD i undef).toArray, defers := [] } := Rg.frame_of 106 a' hN hdf;obtain ⟨u, hu⟩ : ∃ u : Nat → Value, (fun i => a'.tmps.getD i undef) = u := ⟨_, rfl⟩
  rw [hu] at ef;have e2 : u 2 = .int .i64 lo := by rw [← hu]; exact s2
  have e3 : u 3 = .int .i64 hi := by rw [← hu]; exact s3
  have e4 : u 4 = .pointer (some ⟨gA, 0, none⟩) := by rw [← hu]; exact s4
  have e5 : u 5 = .pointer (some ⟨gA + 1, 0, none⟩) := by rw [← hu]; exact s5
  have e10 : u 10 = .map (some bm4) := by rw [← hu]; exact s10
  have e11 : u 11 = .map (some bm5) := by rw [← hu]; exact s11
  have ef2 : a' = { tmps := (u 0 :: u 1 :: u 2 :: u 3 :: u 4 :: u 5 :: u 6 :: u 7 :: u 8 :: u 9 :: u 10 :: u 11 :: u 12 :: u 13 :: u 14 :: u 15 :: u 16 :: u 17 :: u 18 :: u 19 :: u 20 :: u 21 :: u 22 :: u 23 :: u 24 :: u 25 :: u 26 :: u 27 :: u 28 :: u 29 :: u 30 :: u 31 :: u 32 :: u 33 :: u 34 :: u 35 :: u 36 :: u 37 :: u 38 :: u 39 :: u 40 :: u 41 :: u 42 :: u 43 :: u 44 :: u 45 :: u 46 :: u 47 :: u 48 :: u 49 :: u 50 :: u 51 :: u 52 :: u 53 :: u 54 :: u 55 :: u 56 :: u 57 :: u 58 :: u 59 :: u 60 :: u 61 :: u 62 :: u 63 :: u 64 :: u 65 :: u 66 :: u 67 :: u 68 :: u 69 :: u 70 :: u 71 :: u 72 :: u 73 :: u 74 :: u 75 :: u 76 :: u 77 :: u 78 :: u 79 :: u 80 :: u 81 :: u 82 :: u 83 :: u 84 :: u 85 :: u 86 :: u 87 :: u 88 :: u 89 :: u 90 :: u 91 :: u 92 :: u 93 :: u 94 :: u 95 :: u 96 :: u 97 :: u 98 :: u 99 :: u 100 :: u 101 :: u 102 :: u 103 :: u 104 :: u 105 :: [] : List Value).toArray, defers := [] } := ef;rw [e2, e3, e4, e5, e10, e11] at ef2;rw [ef2];clear hJ hN hdf ef ef2 hu e2 s2 e3 s3 e4 s4 e5 s5 e10 s10 e11 s11;have hBz := below_then HB.out hb9;clear HB;have HB := Lib.hid hBz;have hAz := HAA.out.call hb9;clear HAA;have HAA := Lib.hid hAz;have hAz2 := HAB.out.call hb9;clear HAB;have HAB := Lib.hid hAz2;obtain ⟨bk, hbk⟩ : ∃ q, W6.heap.size = q := ⟨_, rfl⟩
  obtain ⟨W7, hW7⟩ : ∃ X, W6.alloc (.map #[] 0) = X := ⟨_, rfl⟩
  have hb7 : Below W6.heap.size W6 W7 := by rw [← hW7]; exact (Below.refl _ _).alloc (Nat.le_refl _) _
  have hMk : MapF Tryz.prog 127 W7 bk 0 (fun _ => none) := by rw [← hW7, ← hbk]; exact MapF.made W6
  have hm4' := hm4.below hb7;have hm5' := hm5.below hb7;have hl4 : bm4 < bk := by rw [← hbk]; exact hm4.lt
  have hl5 : bm5 < bk := by rw [← hbk]; exact hm5.lt
  have hlA : gA + 1 < bk := by rw [← hbk]; exact HAB.out.lt
  have hl7 : bk < W7.heap.size := hMk.lt;have hbkw : w.heap.size ≤ bk := by rw [← hbk]; exact HB.out.size
  have hA7 := HAA.out.call hb7;have hB7 := HAB.out.call hb7;have hb07 := below_then HB.out hb7;have HC7 := Lib.hid (HNm.out W7 hb07);have HE7 := Lib.hid hW7;have HBk := Lib.hid hbk;have HK7 := Lib.hid (And.intro hm4' (And.intro hm5' (And.intro hMk (And.intro hA7 (And.intro hB7 hb07)))));obtain ⟨a0, a1, a2, _⟩ := hA7.three;obtain ⟨b0, b1, b2, _⟩ := hB7.three;have za := hA7.lt;have zb := hB7.lt;have hmk := @run_makeMap Tryz.prog;clear hbk hW7 hb7 hMk hm4' hm5' hm4 hm5 hA7 hB7 hb07 HAA HAB HB hBz hAz hAz2 hb9 hg4 hg5;go_upto_region 7 with fail
  rw [HE7.out, HBk.out];go_wp2_with fail
  refine HC7.out.mono ?_;rintro e w8 ⟨lv, rfl, hb8, ho8⟩;obtain ⟨hm4', hm5', hMk, hA7, hB7, hb07⟩ := HK7.out;obtain ⟨l, hl⟩ : ∃ l, Df.names s t = l := ⟨_, rfl⟩
  rw [hl] at ho8;obtain ⟨n, hn⟩ : ∃ n, l.length = n := ⟨_, rfl⟩
  have hn12 : n ≤ 12000 := by have := HLn.out; rw [hl, hn] at this; exact this
  rw [hn] at ho8;obtain ⟨nA, nc, rfl, _, _⟩ := own_slice_cap ho8;have hb08 := below_then hb07 hb8;have hs8 := hb8.size;have HBd : Hid (w.heap.size ≤ w8.heap.size ∧ gA + 1 < w8.heap.size ∧ bm4 < w8.heap.size ∧ bm5 < w8.heap.size ∧ bk < w8.heap.size ∧ ∀ g, (Value.slice nA n nc).ownBlock = some g → g < w8.heap.size) := ⟨hb08.size, by omega, by omega, by omega, by omega, fun g hg => (ho8.lt g hg).2⟩
  have HNe : Hid (bm4 ≠ bk ∧ bm5 ≠ bk ∧ gA ≠ bk ∧ gA + 1 ≠ bk ∧ w.heap.size ≤ bk) := ⟨by omega, by omega, by omega, by omega, hbkw⟩
  have H0 : Hid (Df.ChAt s t lo hi w w8 gA bm4 bm5 bk n [.slice rA n1 rc, .slice zA n2 zc, .slice lA n3 lc] [.slice rA2 m1 rc2, .slice zA2 m2 zc2, .slice lA2 m3 lc2] la lb W7.heap.size (.slice nA n nc) l (.slice none 0 0) (.int .i64 0) w8) := ⟨0, none, 0, Nat.zero_le _, rfl, rfl, ⟨hA7.call hb8, hB7.call hb8, ⟨_, hm4'.below hb8⟩, ⟨_, hm5'.below hb8⟩, by rw [hn]; exact ho8⟩, World.ownsRow_nil _ _ _ _, ⟨0, _, Nat.le_refl _, hMk.below hb8, Df.Memo.start _⟩, hb08, Nat.le_refl _⟩
  have HL := Lib.hid hl;have HNl := Lib.hid hn;clear hb8 ho8 hm4' hm5' hMk hA7 hB7 hb07 hl hn hb08 hs8 hl4 hl5 hlA hl7 hbkw a0 a1 a2 b0 b1 b2 za zb HK7 HC7 HNm hmk;go_wp2_with fail
  go_loopw [13, 40] (fun v i wr => Df.ChAt s t lo hi w w8 gA bm4 bm5 bk n [.slice rA n1 rc, .slice zA n2 zc, .slice lA n3 lc] [.slice rA2 m1 rc2, .slice zA2 m2 zc2, .slice lA2 m3 lc2] la lb W7.heap.size (.slice nA n nc) l v i wr) (fun _ i _ => n - (intOf i).toNat)
  case atStart => exact H0.out
  case round =>
   obtain ⟨k, A, c, hk, rfl, rfl, hC, hO, ⟨cnt, f, hcn, hM, hMe⟩, hB, hz⟩ := hrel
   by_cases hlt : k < n
   case neg =>
    have q2 : ¬ (k : Int) < (n : Int) := by omega
    have HF : Hid (P (.returned (.tuple #[.slice A (Df.upto s t lo hi k).length c, .int .i64 0])) wr) := by
     show P _ _
     rw [← HP.out];refine ⟨hB, .inr (.inr ⟨HX1.out, HX2.out, HI.out, _, rfl, ?_⟩)⟩;have e : Df.upto s t lo hi k = Df.changes s t lo hi := by
      unfold Df.upto Df.changes;rw [List.take_of_length_le (by rw [HL.out, HNl.out]; omega)]
     rw [e] at hO ⊢;exact Go.Joins.ownsRow_le hO HBd.out.1
    clear hC hO hM hMe hB;go_wp2;exact HF.out
   obtain ⟨x, hx⟩ : ∃ y, l[k]? = some y := ⟨_, List.getElem?_eq_getElem (by rw [HNl.out]; exact hlt)⟩
   have hxn : (Df.names s t)[k]? = some x := by rw [HL.out]; exact hx
   have hxs := HNs.out x (List.mem_of_getElem? hxn);have hxm := Df.mem_names.1 (List.mem_of_getElem? hxn);rw [HLa.out, HLb.out] at hxm;have hUp := Df.upto_next (lo := lo) (hi := hi) hxn;unfold Df.ch at hUp;rw [HLa.out, HLb.out] at hUp;have hrow := hC.row;rw [HNl.out] at hrow;obtain ⟨ad, u1, rfl, hab, hu, hcu⟩ := (Reads.of_own hrow).at_ hlt;have hu2 : u1 = .string x := by
    rw [List.getElem?_map, hx] at hu;exact (Option.some.inj hu).symm
   rw [hu2] at hcu;have q1 : (0 : Int) ≤ (k : Int) := by omega
   have q2 : (k : Int) < (n : Int) := by omega
   obtain ⟨na, hma⟩ := hC.ma;obtain ⟨nb, hmb⟩ := hC.mb;have HH := Lib.hid (dfHas_any lb bm5 nb x wr hxs hmb);have HC := Lib.hid hC;have HO := Lib.hid hO;have HM := Lib.hid hM;have HMe := Lib.hid hMe;have HBw := Lib.hid hB;have HZ := Lib.hid hz;have HUp := Lib.hid hUp;have HXm := Lib.hid hxm;have hul := Df.upto_len s t lo hi k;obtain ⟨U, hU⟩ : ∃ U, Df.upto s t lo hi k = U := ⟨_, rfl⟩
   have HU := Lib.hid hU;rw [hU] at hul ⊢;clear hx hxn hxm hUp hrow hab hu hu2 hma hmb hC hO hM hMe hB hz hU;go_wp2_with fail
   refine HH.out.mono ?_;rintro e U4 ⟨rfl, hb⟩;have hz1 := HC.out.call hb;have hz2 := own_below HO.out hb;have hz3 := HM.out.below hb;have hz4 := below_then HBw.out hb;have hz5 := Nat.le_trans HZ.out hb.size;clear HC HO HM HBw HZ hb;have HC := Lib.hid hz1;have HO := Lib.hid hz2;have HM := Lib.hid hz3;have HBw := Lib.hid hz4;have HZ : Hid (w8.heap.size ≤ U4.heap.size) := hz5;clear hz1 hz2 hz3 hz4 hz5;clear hcu HH;cases hb2 : Hv.has lb x
   case false =>
    have HUq : Hid (Df.upto s t lo hi (k + 1) = Df.upto s t lo hi k ++ [⟨x, 3, 0⟩]) := by
     show _ = _
     rw [HUp.out, hb2, if_pos rfl];rfl
    have hO2 := HO.out;rw [HU.out] at hO2;have HO2 := Lib.hid hO2;have HZ2 := HZ.out;have HAp := fun {ops : Array Oper} {rest : List Oper} {o : Oper} {a : Act} {Q : Exit → Act → World → Prop} hgd ho hs hx h => row_append (ops := ops) (rest := rest) (o := o) (a := a) (Q := Q) 29 37 3 32 _ #[.string x, .int .i64 3, .int .i64 0] Tryz.underlying29 change_info rfl (by decide) rfl (by
     intro u hu;simp at hu
     rcases hu with rfl | rfl | rfl <;> rfl) (by decide) U4 w8.heap.size U.length _ _ 48 51 U4.heap.size rfl HO2.out (by omega) HZ2 hgd ho hs hx h
    clear hO2;go_wp2_with (at_builtin; refine HAp rfl rfl rfl rfl ?_; intro v9 w9 hown9 hb9 hg9 hat9)
    have hown9' := hown9;rw [← HU.out] at hown9';have HF : Hid (Df.ChAt s t lo hi w w8 gA bm4 bm5 bk n [.slice rA n1 rc, .slice zA n2 zc, .slice lA n3 lc] [.slice rA2 m1 rc2, .slice zA2 m2 zc2, .slice lA2 m3 lc2] la lb W7.heap.size (.slice (some ad) n nc) l v9 (.int .i64 ((k : Int) + 1)) w9) := Df.chPush (x := ⟨x, 3, 0⟩) hlt HBd.out HC.out HO.out (Nat.le_succ_of_le hcn) HM.out HMe.out HBw.out HZ.out hown9' (by rw [HU.out]; exact hg9) HUq.out;clear hown9 hown9' hb9 hg9 hat9 HAp HZ2;go_roundw
    case rel => exact HF.out
    case measure => simp [intOf]; omega
   case true =>
    obtain ⟨na, hma⟩ := HC.out.ma;have HH := Lib.hid (dfHas_any la bm4 na x U4 hxs hma);clear hma;go_wp2_with fail
    refine HH.out.mono ?_;rintro e U5 ⟨rfl, hb⟩;have hz1 := HC.out.call hb;have hz2 := own_below HO.out hb;have hz3 := HM.out.below hb;have hz4 := below_then HBw.out hb;have hz5 := Nat.le_trans HZ.out hb.size;clear HC HO HM HBw HZ hb;have HC := Lib.hid hz1;have HO := Lib.hid hz2;have HM := Lib.hid hz3;have HBw := Lib.hid hz4;have HZ : Hid (w8.heap.size ≤ U5.heap.size) := hz5;clear hz1 hz2 hz3 hz4 hz5;clear HH;cases hb1 : Hv.has la x
    case false =>
     have HUq : Hid (Df.upto s t lo hi (k + 1) = Df.upto s t lo hi k ++ [⟨x, 12, 0⟩]) := by
      show _ = _
      rw [HUp.out, hb2, hb1, if_neg (by decide), if_pos rfl];rfl
     have hO2 := HO.out;rw [HU.out] at hO2;have HO2 := Lib.hid hO2;have HZ2 := HZ.out;have HAp := fun {ops : Array Oper} {rest : List Oper} {o : Oper} {a : Act} {Q : Exit → Act → World → Prop} hgd ho hs hx h => row_append (ops := ops) (rest := rest) (o := o) (a := a) (Q := Q) 29 37 3 32 _ #[.string x, .int .i64 12, .int .i64 0] Tryz.underlying29 change_info rfl (by decide) rfl (by
      intro u hu;simp at hu
      rcases hu with rfl | rfl | rfl <;> rfl) (by decide) U5 w8.heap.size U.length _ _ 57 60 U5.heap.size rfl HO2.out (by omega) HZ2 hgd ho hs hx h
     clear hO2;go_wp2_with (at_builtin; refine HAp rfl rfl rfl rfl ?_; intro v9 w9 hown9 hb9 hg9 hat9)
     have hown9' := hown9;rw [← HU.out] at hown9';have HF : Hid (Df.ChAt s t lo hi w w8 gA bm4 bm5 bk n [.slice rA n1 rc, .slice zA n2 zc, .slice lA n3 lc] [.slice rA2 m1 rc2, .slice zA2 m2 zc2, .slice lA2 m3 lc2] la lb W7.heap.size (.slice (some ad) n nc) l v9 (.int .i64 ((k : Int) + 1)) w9) := Df.chPush (x := ⟨x, 12, 0⟩) hlt HBd.out HC.out HO.out (Nat.le_succ_of_le hcn) HM.out HMe.out HBw.out HZ.out hown9' (by rw [HU.out]; exact hg9) HUq.out;clear hown9 hown9' hb9 hg9 hat9 HAp HZ2;go_roundw
     case rel => exact HF.out
     case measure => simp [intOf]; omega
    case true =>
     obtain ⟨i, zi, hwi, hzi, hai, hei⟩ := Df.leads_zone HX1.out (show x ∈ Src.names s by rw [HLa.out]; exact Hv.has_iff.1 hb1);obtain ⟨j, zj, hwj, hzj, haj, hej⟩ := Df.leads_zone HX2.out (show x ∈ Src.names t by rw [HLb.out]; exact Hv.has_iff.1 hb2);have hi1 : i < 100000 := by
      have := (List.getElem?_eq_some_iff.1 hzi).1;have h2 := HZl.out.1;rw [HN2.out] at this;omega
     have hj1 : j < 100000 := by
      have := (List.getElem?_eq_some_iff.1 hzj).1;have h2 := HZl.out.2;rw [HM2.out] at this;omega
     have HUp2 : Hid (Df.upto s t lo hi (k + 1) = Df.upto s t lo hi k ++ ((Df.pairOf s t lo hi (i : Int) (j : Int)).map fun u => (⟨x, 0, u⟩ : Df.Ch)).toList) := by
      show _ = _
      rw [HUp.out, hb2, hb1, if_neg (by decide), if_neg (by decide)];unfold Df.line Df.pairOf;rw [hei, hej, show ((i : Int)).toNat = i by omega, show ((j : Int)).toNat = j by omega, hzi, hzj];rfl
     have HPr : Hid (Df.first (Ln.lineOf s zi.2 lo hi) (Ln.lineOf t zj.2 lo hi) = Df.pairOf s t lo hi (i : Int) (j : Int)) := by
      show _ = _
      unfold Df.pairOf;rw [show ((i : Int)).toNat = i by omega, show ((j : Int)).toNat = j by omega, hzi, hzj];rfl
     have HZs := Lib.hid (HZn.out x (i : Int) (j : Int) hxs hwi hwj U5 HBw.out);have HCs := Lib.hid (HCm.out (i : Int) (j : Int) zi zj HI.out (by omega) (by omega) HX1.out HX2.out hai haj);obtain ⟨o, ho⟩ : ∃ o, Df.pairOf s t lo hi (i : Int) (j : Int) = o := ⟨_, rfl⟩
     rw [HPr.out, ho] at HCs;rw [ho] at HUp2;have HOo := Lib.hid ho;have hir : 0 ≤ (i : Int) ∧ (i : Int) < 100000 := by omega
     have hjr : 0 ≤ (j : Int) ∧ (j : Int) < 100000 := by omega
     have hme := HMe.out (i : Int) (j : Int) hir hjr;rw [ho] at hme;unfold Df.fv at hme;obtain ⟨t1, ht1⟩ : ∃ q, (Df.fp o).1 = q := ⟨_, rfl⟩
     obtain ⟨t2, ht2⟩ : ∃ q, (Df.fp o).2 = q := ⟨_, rfl⟩
     rw [ht1, ht2] at HCs hme;have HO1b : Hid (t2 = true → o = some t1) := fun h => by
      cases o with
      | none => rw [← ht2] at h; cases h
      | some u => rw [← ht1]; rfl
     have HO0 : Hid (t2 = false → o = none) := fun h => by
      cases o with
      | none => rfl
      | some u => rw [← ht2] at h; cases h
     have HFv : Hid (Df.fv o = .agg #[.int .i64 t1, .bool t2]) := by
      show _ = _
      unfold Df.fv;rw [ht1, ht2]
     obtain ⟨ii, hii⟩ : ∃ q : Int, (i : Int) = q := ⟨_, rfl⟩
     obtain ⟨jj, hjj⟩ : ∃ q : Int, (j : Int) = q := ⟨_, rfl⟩
     rw [hii] at HZs HCs hir hme HOo;rw [hjj] at HZs HCs hjr hme HOo;have HIr := Lib.hid hir;have HJr := Lib.hid hjr;have HMz := Lib.hid hme;obtain ⟨a0, a1, a2, _⟩ := HC.out.a.three;obtain ⟨b0, b1, b2, _⟩ := HC.out.b.three;have za := HC.out.a.lt;have zb := HC.out.b.lt;clear hwi hzi hai hei hwj hzj haj hej hi1 hj1 ho ht1 ht2 hii hjj hir hjr hme HUp;go_wp2_with fail
     refine HZs.out.mono ?_;rintro e U6 ⟨rfl, hb⟩;have hz1 := HC.out.call hb;have hz2 := own_below HO.out hb;have hz3 := HM.out.below hb;have hz4 := below_then HBw.out hb;have hz5 := Nat.le_trans HZ.out hb.size;clear HC HO HM HBw HZ hb;have HC := Lib.hid hz1;have HO := Lib.hid hz2;have HM := Lib.hid hz3;have HBw := Lib.hid hz4;have HZ : Hid (w8.heap.size ≤ U6.heap.size) := hz5;clear hz1 hz2 hz3 hz4 hz5;clear a0 a1 a2 b0 b1 b2 za zb HZs;obtain ⟨gp, hgp⟩ : ∃ q, U6.heap.size = q := ⟨_, rfl⟩
     obtain ⟨U7, hU7⟩ : ∃ X, U6.alloc (.cells #[.int .i64 ii, .int .i64 jj] 127) = X := ⟨_, rfl⟩
     have hb : Below U6.heap.size U6 U7 := by rw [← hU7]; exact (Below.refl _ _).alloc (Nat.le_refl _) _
     have HPp : Hid (At U7 gp [.int .i64 ii, .int .i64 jj]) := by
      show At _ _ _
      rw [← hU7, ← hgp];exact At.new _ _ _
     have HE7b := Lib.hid hU7;have HGp := Lib.hid hgp;clear hU7 hgp;have hz1 := HC.out.call hb;have hz2 := own_below HO.out hb;have hz3 := HM.out.below hb;have hz4 := below_then HBw.out hb;have hz5 := Nat.le_trans HZ.out hb.size;clear HC HO HM HBw HZ hb;have HC := Lib.hid hz1;have HO := Lib.hid hz2;have HM := Lib.hid hz3;have HBw := Lib.hid hz4;have HZ : Hid (w8.heap.size ≤ U7.heap.size) := hz5;clear hz1 hz2 hz3 hz4 hz5;have p0 := HPp.out.cell 0 _ rfl;have p1 := HPp.out.cell 1 _ rfl;have zp := HPp.out.lt;go_upto_region 16 with fail
     rw [HE7b.out]
     try rw [HGp.out]
     rcases HMz.out with hmz | hmz
     case inl =>
      have hv1 : (f (Df.pb ii jj)).getD (.agg #[.int .i64 0, .bool false]) = .agg #[.int .i64 0, .bool false] := by rw [hmz]; rfl
      have hv2 : (f (Df.pb ii jj)).isSome = false := by rw [hmz]; rfl
      have HV := Lib.hid (And.intro hv1 hv2);obtain ⟨gf, hgf⟩ : ∃ q, U7.heap.size = q := ⟨_, rfl⟩
      obtain ⟨U8, hU8⟩ : ∃ X, U7.alloc (.cells #[.int .i64 0, .bool false] 131) = X := ⟨_, rfl⟩
      have hb : Below U7.heap.size U7 U8 := by rw [← hU8]; exact (Below.refl _ _).alloc (Nat.le_refl _) _
      have HFf : Hid (At U8 gf [.int .i64 0, .bool false]) := by
       show At _ _ _
       rw [← hU8, ← hgf];exact At.new _ _ _
      have HPq := Lib.hid (HPp.out.call hb);have HE8 := Lib.hid hU8;have HGf := Lib.hid hgf;have hgfw : w8.heap.size ≤ gf := by have := HZ.out; omega
      have HM7 := Lib.hid HM.out;have HO7 := Lib.hid HO.out;clear hU8 hgf hv1 hv2 hmz;have hz1 := HC.out.call hb;have hz2 := own_below HO.out hb;have hz3 := HM.out.below hb;have hz4 := below_then HBw.out hb;have hz5 := Nat.le_trans HZ.out hb.size;clear HC HO HM HBw HZ hb;have HC := Lib.hid hz1;have HO := Lib.hid hz2;have HM := Lib.hid hz3;have HBw := Lib.hid hz4;have HZ : Hid (w8.heap.size ≤ U8.heap.size) := hz5;clear hz1 hz2 hz3 hz4 hz5;go_upto_region 19 with (at_lookup; refine Df.look_pair _ rfl _ _ bk cnt f ii jj HIr.out HJr.out rfl rfl rfl HM7.out _ _ HV.out.1 HV.out.2 ?_)
      rw [HE8.out]
      try rw [HGf.out]
      clear p0 p1 zp;have p0 := HPq.out.cell 0 _ rfl;have p1 := HPq.out.cell 1 _ rfl;have zp := HPq.out.lt;obtain ⟨a0, a1, a2, _⟩ := HC.out.a.three;obtain ⟨b0, b1, b2, _⟩ := HC.out.b.three;have za := HC.out.a.lt;have zb := HC.out.b.lt;go_wp2_with fail
      refine (HCs.out U8 HBw.out).mono ?_;rintro e U9 ⟨rfl, hb⟩;have hF9 := HFf.out.call hb;have hP9 := HPq.out.call hb;have hgo : ∀ g, (Value.slice A (Df.upto s t lo hi k).length c).ownBlock = some g → g ≠ gf := fun g hg => by
       have h1 := (HO7.out.lt g hg).2;have h2 := HGf.out;omega
      have HGo := Lib.hid hgo;clear hgo;have hz1 := HC.out.call hb;have hz2 := own_below HO.out hb;have hz3 := HM.out.below hb;have hz4 := below_then HBw.out hb;have hz5 := Nat.le_trans HZ.out hb.size;clear HC HO HM HBw HZ hb;have HC := Lib.hid hz1;have HO := Lib.hid hz2;have HM := Lib.hid hz3;have HBw := Lib.hid hz4;have HZ : Hid (w8.heap.size ≤ U9.heap.size) := hz5;clear hz1 hz2 hz3 hz4 hz5;clear p0 p1 zp a0 a1 a2 b0 b1 b2 za zb HCs;have f0 := hF9.cell 0 _ rfl;have f1 := hF9.cell 1 _ rfl;have f2 := hF9.free 0 _ rfl;have f3 := hF9.free 1 _ rfl;have zf := hF9.lt;have HF9 := Lib.hid hF9;have HP9 := Lib.hid hP9;clear hF9 hP9;go_upto_region 21 with fail
      obtain ⟨Ua, hUa⟩ : ∃ X, (U9.setCell ⟨gf, 0, none⟩ (.int .i64 t1)).setCell ⟨gf, 1, none⟩ (.bool t2) = X := ⟨_, rfl⟩
      have hFa : At Ua gf [.int .i64 t1, .bool t2] := by rw [← hUa]; exact (HF9.out.set 0 (.int .i64 t1)).set 1 (.bool t2)
      have hnep : gf ≠ gp := by have := HGf.out; have := HPp.out.lt; omega
      have hPa : At Ua gp [.int .i64 ii, .int .i64 jj] := by rw [← hUa]; exact (HP9.out.set_other _ _ hnep).set_other _ _ hnep
      have hga : U9.grownBy (U9.setCell ⟨gf, 0, none⟩ (.int .i64 t1)) (some gf) := Df.set_grown _ _ _;have hgb : (U9.setCell ⟨gf, 0, none⟩ (.int .i64 t1)).grownBy Ua (some gf) := by rw [← hUa]; exact Df.set_grown _ _ _
      have hne : some gf ≠ some gA ∧ some gf ≠ some (gA + 1) ∧ some gf ≠ some bm4 ∧ some gf ≠ some bm5 ∧ ∀ g, (Value.slice (some ad) n nc).ownBlock = some g → some gf ≠ some g := by
       obtain ⟨h0, h1, h2, h3, h4, h5⟩ := HBd.out;refine ⟨fun e => by have := Option.some.inj e; omega, fun e => by have := Option.some.inj e; omega, fun e => by have := Option.some.inj e; omega, fun e => by have := Option.some.inj e; omega, fun g hg e => by have := Option.some.inj e; have := h5 g hg; omega⟩
      have hbkf : some bk ≠ some gf := fun e => by have := Option.some.inj e; have := HBd.out.2.2.2.2.1; omega
      have hz1 := (HC.out.grown hga hne).grown hgb hne;have hz2 := Df.own_kept (Df.own_kept HO.out hga (fun g hg e => HGo.out g hg (Option.some.inj e).symm)) hgb (fun g hg e => HGo.out g hg (Option.some.inj e).symm);have hz3 := (HM.out.kept hga hbkf).kept hgb hbkf;have hgw : w.heap.size ≤ gf := by have := HBd.out.1; omega
      have hz4 : Below w.heap.size w Ua := by rw [← hUa]; exact (HBw.out.setCell (p := ⟨gf, 0, none⟩) hgw _).setCell (p := ⟨gf, 1, none⟩) hgw _
      have hz5 : w8.heap.size ≤ Ua.heap.size := Nat.le_trans HZ.out (Nat.le_trans hga.size hgb.size);have HEa := Lib.hid hUa;clear HC HO HM HBw HZ hga hgb hne hbkf hUa f0 f1 f2 f3 zf hnep hgw;have HC := Lib.hid hz1;have HO := Lib.hid hz2;have HM := Lib.hid hz3;have HBw := Lib.hid hz4;have HZ : Hid (w8.heap.size ≤ Ua.heap.size) := hz5;clear hz1 hz2 hz3 hz4 hz5;rw [HEa.out];have f0 := hFa.cell 0 _ rfl;have f1 := hFa.cell 1 _ rfl;have zf := hFa.lt;have p0 := hPa.cell 0 _ rfl;have p1 := hPa.cell 1 _ rfl;have zp := hPa.lt;have HFa := Lib.hid hFa;have hkm : cnt < maxLen := by unfold maxLen; omega
      have HMa := Lib.hid HM.out;clear hFa hPa;go_upto_region 24 with (at_mapUpdate; refine Df.store_pair _ rfl _ _ _ bk cnt f ii jj HIr.out HJr.out hkm (.agg #[.int .i64 t1, .bool t2]) rfl rfl rfl rfl HMa.out ?_; intro Ub hMb hgb; have HMb := Lib.hid hMb; have HGb := Lib.hid hgb; have f9 := (Df.at_grown HFa.out hgb (fun e => Df.at_ne_map HFa.out HMa.out (Option.some.inj e).symm)); have F9 := Lib.hid f9; clear hMb hgb f9)
      clear f0 f1 zf p0 p1 zp;have hz1 := HC.out.grown HGb.out ⟨fun e => HNe.out.2.2.1 (Option.some.inj e).symm, fun e => HNe.out.2.2.2.1 (Option.some.inj e).symm, fun e => HNe.out.1 (Option.some.inj e).symm, fun e => HNe.out.2.1 (Option.some.inj e).symm, fun g hg e => Df.own_ne_map HC.out.row HM.out (by rw [hg]; exact e.symm)⟩;have hz2 := Df.own_kept HO.out HGb.out (fun g hg e => Df.own_ne_map HO.out HM.out (by rw [hg]; exact e.symm));have hz4 := HBw.out.grown HGb.out HBw.out.size (fun j e => by cases e; exact HNe.out.2.2.2.2);have hz5 := Nat.le_trans HZ.out HGb.out.size;have hz6 := HMe.out.put HIr.out HJr.out;rw [HOo.out, HFv.out] at hz6;clear HC HO HM HBw HZ HMe;have HC := Lib.hid hz1;have HO := Lib.hid hz2;have HM := Lib.hid HMb.out;have HBw := Lib.hid hz4;have HZ : Hid (w8.heap.size ≤ Ub.heap.size) := hz5;have HMe := Lib.hid hz6;clear hz1 hz2 hz4 hz5 hz6;have f0 := F9.out.cell 0 _ rfl;have f1 := F9.out.cell 1 _ rfl;have zf := F9.out.lt;cases t2
      case true =>
       have HUq : Hid (Df.upto s t lo hi (k + 1) = Df.upto s t lo hi k ++ [⟨x, 0, t1⟩]) := by
        show _ = _
        rw [HUp2.out, HO1b.out rfl];rfl
       have hO2 := HO.out;rw [HU.out] at hO2;have HO2 := Lib.hid hO2;have HZ2 := HZ.out;have HAp := fun {ops : Array Oper} {rest : List Oper} {o : Oper} {a : Act} {Q : Exit → Act → World → Prop} hgd ho hs hx h => row_append (ops := ops) (rest := rest) (o := o) (a := a) (Q := Q) 29 37 3 32 _ #[.string x, .int .i64 0, .int .i64 t1] Tryz.underlying29 change_info rfl (by decide) rfl (by
        intro u hu;simp at hu
        rcases hu with rfl | rfl | rfl <;> rfl) (by decide) Ub w8.heap.size U.length _ _ 97 102 Ub.heap.size rfl HO2.out (by omega) HZ2 hgd ho hs hx h
       clear hO2;go_wp2_with (at_builtin; refine HAp rfl rfl rfl rfl ?_; intro v9 w9 hown9 hb9 hg9 hat9)
       have hown9' := hown9;rw [← HU.out] at hown9';have HF : Hid (Df.ChAt s t lo hi w w8 gA bm4 bm5 bk n [.slice rA n1 rc, .slice zA n2 zc, .slice lA n3 lc] [.slice rA2 m1 rc2, .slice zA2 m2 zc2, .slice lA2 m3 lc2] la lb W7.heap.size (.slice (some ad) n nc) l v9 (.int .i64 ((k : Int) + 1)) w9) := Df.chPush (x := ⟨x, 0, t1⟩) hlt HBd.out HC.out HO.out (Nat.succ_le_succ hcn) HM.out HMe.out HBw.out HZ.out hown9' (by rw [HU.out]; exact hg9) HUq.out;clear hown9 hown9' hb9 hg9 hat9 HAp HZ2;go_roundw
       case rel => exact HF.out
       case measure => simp [intOf]; omega
      case false =>
       have HUq : Hid (Df.upto s t lo hi (k + 1) = Df.upto s t lo hi k) := by
        show _ = _
        rw [HUp2.out, HO0.out rfl];simp
       have HF : Hid (Df.ChAt s t lo hi w w8 gA bm4 bm5 bk n [.slice rA n1 rc, .slice zA n2 zc, .slice lA n3 lc] [.slice rA2 m1 rc2, .slice zA2 m2 zc2, .slice lA2 m3 lc2] la lb W7.heap.size (.slice (some ad) n nc) l (.slice A U.length c) (.int .i64 ((k : Int) + 1)) Ub) := by
        show Df.ChAt _ _ _ _ _ _ _ _ _ _ _ _ _ _ _ _ _ _ _ _ _
        rw [← HU.out];exact Df.chKeep hlt HC.out HO.out (Nat.succ_le_succ hcn) HM.out HMe.out HBw.out HZ.out HUq.out
       go_wp2;go_roundw
       case rel => exact HF.out
       case measure => simp [intOf]; omega
     case inr =>
      have hv1 : (f (Df.pb ii jj)).getD (.agg #[.int .i64 0, .bool false]) = .agg #[.int .i64 t1, .bool t2] := by rw [hmz]; rfl
      have hv2 : (f (Df.pb ii jj)).isSome = true := by rw [hmz]; rfl
      have HV := Lib.hid (And.intro hv1 hv2);obtain ⟨gf, hgf⟩ : ∃ q, U7.heap.size = q := ⟨_, rfl⟩
      obtain ⟨U8, hU8⟩ : ∃ X, U7.alloc (.cells #[.int .i64 t1, .bool t2] 131) = X := ⟨_, rfl⟩
      have hb : Below U7.heap.size U7 U8 := by rw [← hU8]; exact (Below.refl _ _).alloc (Nat.le_refl _) _
      have HFf : Hid (At U8 gf [.int .i64 t1, .bool t2]) := by
       show At _ _ _
       rw [← hU8, ← hgf];exact At.new _ _ _
      have HE8 := Lib.hid hU8;have HGf := Lib.hid hgf;have HM7 := Lib.hid HM.out;clear hU8 hgf hv1 hv2 hmz;have hz1 := HC.out.call hb;have hz2 := own_below HO.out hb;have hz3 := HM.out.below hb;have hz4 := below_then HBw.out hb;have hz5 := Nat.le_trans HZ.out hb.size;clear HC HO HM HBw HZ hb;have HC := Lib.hid hz1;have HO := Lib.hid hz2;have HM := Lib.hid hz3;have HBw := Lib.hid hz4;have HZ : Hid (w8.heap.size ≤ U8.heap.size) := hz5;clear hz1 hz2 hz3 hz4 hz5;go_upto_region 19 with (at_lookup; refine Df.look_pair _ rfl _ _ bk cnt f ii jj HIr.out HJr.out rfl rfl rfl HM7.out _ _ HV.out.1 HV.out.2 ?_)
      rw [HE8.out]
      try rw [HGf.out]
      clear p0 p1 zp;have f0 := HFf.out.cell 0 _ rfl;have f1 := HFf.out.cell 1 _ rfl;have zf := HFf.out.lt;cases t2
      case true =>
       have HUq : Hid (Df.upto s t lo hi (k + 1) = Df.upto s t lo hi k ++ [⟨x, 0, t1⟩]) := by
        show _ = _
        rw [HUp2.out, HO1b.out rfl];rfl
       have hO2 := HO.out;rw [HU.out] at hO2;have HO2 := Lib.hid hO2;have HZ2 := HZ.out;have HAp := fun {ops : Array Oper} {rest : List Oper} {o : Oper} {a : Act} {Q : Exit → Act → World → Prop} hgd ho hs hx h => row_append (ops := ops) (rest := rest) (o := o) (a := a) (Q := Q) 29 37 3 32 _ #[.string x, .int .i64 0, .int .i64 t1] Tryz.underlying29 change_info rfl (by decide) rfl (by
        intro u hu;simp at hu
        rcases hu with rfl | rfl | rfl <;> rfl) (by decide) U8 w8.heap.size U.length _ _ 97 102 U8.heap.size rfl HO2.out (by omega) HZ2 hgd ho hs hx h
       clear hO2;go_wp2_with (at_builtin; refine HAp rfl rfl rfl rfl ?_; intro v9 w9 hown9 hb9 hg9 hat9)
       have hown9' := hown9;rw [← HU.out] at hown9';have HF : Hid (Df.ChAt s t lo hi w w8 gA bm4 bm5 bk n [.slice rA n1 rc, .slice zA n2 zc, .slice lA n3 lc] [.slice rA2 m1 rc2, .slice zA2 m2 zc2, .slice lA2 m3 lc2] la lb W7.heap.size (.slice (some ad) n nc) l v9 (.int .i64 ((k : Int) + 1)) w9) := Df.chPush (x := ⟨x, 0, t1⟩) hlt HBd.out HC.out HO.out (Nat.le_succ_of_le hcn) HM.out HMe.out HBw.out HZ.out hown9' (by rw [HU.out]; exact hg9) HUq.out;clear hown9 hown9' hb9 hg9 hat9 HAp HZ2;go_roundw
       case rel => exact HF.out
       case measure => simp [intOf]; omega
      case false =>
       have HUq : Hid (Df.upto s t lo hi (k + 1) = Df.upto s t lo hi k) := by
        show _ = _
        rw [HUp2.out, HO0.out rfl];simp
       have HF : Hid (Df.ChAt s t lo hi w w8 gA bm4 bm5 bk n [.slice rA n1 rc, .slice zA n2 zc, .slice lA n3 lc] [.slice rA2 m1 rc2, .slice zA2 m2 zc2, .slice lA2 m3 lc2] la lb W7.heap.size (.slice (some ad) n nc) l (.slice A U.length c) (.int .i64 ((k : Int) + 1)) U8) := by
        show Df.ChAt _ _ _ _ _ _ _ _ _ _ _ _ _ _ _ _ _ _ _ _ _
        rw [← HU.out];exact Df.chKeep hlt HC.out HO.out (Nat.le_succ_of_le hcn) HM.out HMe.out HBw.out HZ.out HUq.out
       go_wp2;go_roundw
       case rel => exact HF.out
       case measure => simp [intOf]; omega
end Go.Proofs.YtjobhjemnmleaaaGreatDoor
