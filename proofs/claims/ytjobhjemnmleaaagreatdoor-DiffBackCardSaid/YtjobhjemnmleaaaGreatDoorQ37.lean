/- diff.Names: the names of both sources, each one once. -/
import Derived.Test.YtjobhjemnmleaaaGreatDoorQ36
set_option maxRecDepth 100000
set_option maxHeartbeats 4000000
namespace Go.Proofs.YtjobhjemnmleaaaGreatDoor
open Go.RowKit
namespace Df
section
variable {w0 w4 w6 w9 : World} {gs gn bm m : Nat} {acc : List ByteArray} {v v9 : Value} {x : ByteArray}
theorem Nm.put (h : Nm w0 gs gn bm acc v w4) (hord : w0.heap.size ≤ bm ∧ bm < gs ∧ gs < gn) (hm : m ≤ acc.length) (hM4 : MapF Tryz.prog 9 w4 bm m (Hv.sf acc)) (hM6 : MapF Tryz.prog 9 w6 bm (m + 1) (Hv.sf (acc ++ [x]))) (hg6 : w4.grownBy w6 (some bm))
  (hown : w9.ownsRow (gn + 1) 9 1 v9 (acc.length + 1) (acc.map Value.string ++ [.string x])) (hg9 : w6.grownBy w9 v.ownBlock) : Nm w0 gs gn bm (acc ++ [x]) v9 (w9.setCell ⟨gn, 0, none⟩ v9) := by
 have hv := fun j hj => h.row.lt j hj
 have hsz6 := hg6.size;have h1 := at_grown h.seen hg6 (fun e => at_ne_map h.seen hM4 (Option.some.inj e).symm)
 have h2 := at_grown h.var hg6 (fun e => at_ne_map h.var hM4 (Option.some.inj e).symm)
 have hb6 := h.below.grown hg6 h.below.size (fun j e => by cases e; exact hord.1);have hb9 := hb6.grown hg9 hb6.size (fun j e => by have := (hv j e).1; omega);refine ⟨hb9.setCell (p := ⟨gn, 0, none⟩) (by show w0.heap.size ≤ gn; omega) v9, (at_grown h1 hg9 (fun e => by have := (hv gs e).1; omega)).set_other _ _ (by show gn ≠ gs; omega), (at_grown h2 hg9 (fun e => by have := (hv gn e).1; omega)).set 0 v9, ?_, ?_⟩
 ·rw [List.length_append, List.map_append];exact own_set hown v9 (fun e => by have := (hown.lt gn e).1; omega)
 ·exact ⟨m + 1, by rw [List.length_append]; simpa using hm, (hM6.kept hg9 (fun e => by have := (hv bm e.symm).1; omega)).setCell (by show bm ≠ gn; omega) v9⟩
theorem row_put {Bl n : Nat} {lv : Value} {xs : List Value} (hM4 : MapF Tryz.prog 9 w4 bm m (Hv.sf acc)) (hg6 : w4.grownBy w6 (some bm)) (hg9 : w6.grownBy w9 v.ownBlock) (hl : w4.ownsRow Bl 9 1 lv n xs) (hap : ∀ g, lv.ownBlock = some g → gn < g ∧ v.ownBlock ≠ some g) : (w9.setCell ⟨gn, 0, none⟩ v9).ownsRow Bl 9 1 lv n xs :=
 own_set (own_kept (own_kept hl hg6 (fun g hg e => own_ne_map hl hM4 (by rw [hg]; exact e.symm))) hg9 (fun g hg => (hap g hg).2)) v9 (fun e => by have := (hap gn e).1; omega)
def AdAt (w0 : World) (gs gn bm : Nat) (acc l : List ByteArray) (lv : Value) (n Bl : Nat) (w1 : World) (i : Value) (wr : World) : Prop :=
 ∃ (k : Nat) (v : Value), k ≤ n ∧ i = .int .i64 (k : Int) ∧ Nm w0 gs gn bm (add acc (l.take k)) v wr ∧ wr.ownsRow Bl 9 1 lv n (l.map Value.string) ∧ (∀ g, lv.ownBlock = some g → gn < g ∧ v.ownBlock ≠ some g) ∧ w1.heap.size ≤ wr.heap.size
end
theorem add_next {acc l : List ByteArray} {k : Nat} {x : ByteArray} (h : l[k]? = some x) : add acc (l.take (k + 1)) = put (add acc (l.take k)) x := by
 unfold add;rw [Hv.take_next h, List.foldl_append];rfl
end Df
theorem dfAdd_any (w0 : World) (gs gn bm : Nat) (acc l : List ByteArray) (v : Value) (A : Option Addr) (n c Bl : Nat) (w : World) (hN : Df.Nm w0 gs gn bm acc v w) (hord : w0.heap.size ≤ bm ∧ bm < gs ∧ gs < gn) (hl : l.length = n) (hO : w.ownsRow Bl 9 1 (.slice A n c) n (l.map Value.string))
    (hap : ∀ g, (Value.slice A n c).ownBlock = some g → gn < g ∧ v.ownBlock ≠ some g) (hsz : ∀ x ∈ l, x.size ≤ maxLen) (hlen : acc.length + n ≤ 20000) :
    Calls Tryz.prog 58 #[.slice A n c, .pointer (some ⟨gs, 0, none⟩), .pointer (some ⟨gn, 0, none⟩)] w (Df.AdRet w0 gs gn bm (Df.add acc l) w) := by
  have H0 : Hid (Df.AdAt w0 gs gn bm acc l (.slice A n c) n Bl w (.int .i64 0) w) := ⟨0, v, Nat.zero_le _, rfl, hN, hO, hap, Nat.le_refl _⟩
  have HN := Lib.hid hl;have HSz := Lib.hid hsz;have hnn : n ≤ 20000 := by omega
  clear hN hl hO hap hsz;go_enter Tryz.func58, Tryz.ntmps58
  go_wp2;go_loopw [8] (fun i wr => Df.AdAt w0 gs gn bm acc l (.slice A n c) n Bl w i wr) (fun i _ => n - (intOf i).toNat)
  case atStart => exact H0.out
  case round =>
    obtain ⟨k, u, hk, rfl, hN, hO, hap, hws⟩ := hrel
    by_cases hlt : k < n
    · obtain ⟨x, hx⟩ : ∃ y, l[k]? = some y := ⟨_, List.getElem?_eq_getElem (by rw [HN.out]; exact hlt)⟩
      have hxs := HSz.out x (List.mem_of_getElem? hx);obtain ⟨ad, u1, rfl, hab, hu, hcu⟩ := (Reads.of_own hO).at_ hlt;have hu2 : u1 = .string x := by
        rw [List.getElem?_map, hx] at hu;exact (Option.some.inj hu).symm
      rw [hu2] at hcu;have q1 : (0 : Int) ≤ (k : Int) := by omega
      have q2 : (k : Int) < (n : Int) := by omega
      have hnx := Df.add_next (acc := acc) hx;have hal : (Df.add acc (l.take k)).length ≤ 20000 := by
        have h1 := Df.add_len (l := l.take k) (acc := acc);rw [List.length_take] at h1;omega
      obtain ⟨a2, ha2⟩ : ∃ a, Df.add acc (l.take k) = a := ⟨_, rfl⟩
      rw [ha2] at hN hnx hal;obtain ⟨m, hm, hM⟩ := hN.map;have HH := Lib.hid (dfHas_any a2 bm m x wr hxs hM);have s0 := hN.seen.cell 0 _ rfl;have zs := hN.seen.lt;have HNm := Lib.hid hN;have HO := Lib.hid hO;have HAp := Lib.hid hap;have HNx := Lib.hid hnx;clear hu hx hab hu2 hN hO hap ha2 hnx hM;go_wp2_with fail
      refine HH.out.mono ?_;rintro e w4 ⟨rfl, hb4⟩;have hN4 := HNm.out.call hb4;have HO4 := Lib.hid (Df.own_call HO.out hb4);have hws4 : w.heap.size ≤ w4.heap.size := Nat.le_trans hws hb4.size;clear hb4 s0 zs hcu HH HO hws;cases hq : Hv.has a2 x with
      | true =>
        have HF : Hid (Df.AdAt w0 gs gn bm acc l (.slice (some ad) n c) n Bl w (.int .i64 ((k : Int) + 1)) w4) := ⟨k + 1, u, by omega, by go_num, by rw [HNx.out]; unfold Df.put; rw [if_pos hq]; exact hN4, HO4.out, HAp.out, hws4⟩
        clear hN4 hq;go_wp2;go_roundw
        case rel => exact HF.out
        case measure => simp [intOf]; omega
      | false =>
        have hput : Df.put a2 x = a2 ++ [x] := by
          unfold Df.put;rw [if_neg (by rw [hq]; decide)]
        have HNx2 : Hid (Df.add acc (l.take (k + 1)) = a2 ++ [x]) := by show _ = _; rw [HNx.out, hput]
        obtain ⟨m4, hm4, hM4⟩ := hN4.map;have hkm : m4 < maxLen := by unfold maxLen; omega
        have s0 := hN4.seen.cell 0 _ rfl;have zs := hN4.seen.lt;have HM4 := Lib.hid hM4;have HN4 := Lib.hid hN4;have HM := Lib.hid hm4;clear hM4 hN4 hq hput hm4;go_wp2_with (first
          | (at_mapUpdate
             refine Df.store_set _ rfl _ _ _ bm m4 _ x hxs hkm rfl rfl rfl rfl HM4.out ?_;intro w6 hM6 hg6;have hV6 := Df.at_grown HN4.out.var hg6 (fun e => Df.at_ne_map HN4.out.var HM4.out (Option.some.inj e).symm)
             have n0 := hV6.cell 0 _ rfl;have zn := hV6.lt;have HR6 := Lib.hid (Df.own_kept HN4.out.row hg6 (fun g hg e => Df.own_ne_map HN4.out.row HM4.out (by rw [hg]; exact e.symm)));have hB6 : gn + 1 ≤ w6.heap.size := zn;have HM6 := Lib.hid hM6;have HG6 := Lib.hid hg6;have HAp2 := fun {ops : Array Oper} {rest : List Oper} {o : Oper} {a : Act} {Q : Exit → Act → World → Prop} hgd ho hs hx h => row_append (ops := ops) (rest := rest) (o := o) (a := a) (Q := Q) 38 9 1 16 _ #[.string x] Tryz.underlying38 str_info rfl (by decide) rfl (by
               intro u hu;simp at hu
               subst hu;rfl) (by decide) w6 (gn + 1) a2.length _ u 19 21 w6.heap.size rfl HR6.out (by omega) hB6 hgd ho hs hx h
             clear hM6 hg6 hV6)
          | (at_builtin
             refine HAp2 rfl rfl rfl rfl ?_;intro v9 w9 hown9 hb9 hg9 hat9;obtain ⟨A9, c9, rfl, hc91, hc92⟩ := own_slice_cap hown9;have hV9 := Df.at_grown (Df.at_grown HN4.out.var HG6.out (fun e => Df.at_ne_map HN4.out.var HM4.out (Option.some.inj e).symm)) hg9 (fun e => by have := (HR6.out.lt gn e).1; omega)
             have n9 := hV9.free 0 _ rfl;have m9 := hV9.cell 0 _ rfl;have z9 := hV9.lt;have HO9 := Lib.hid hown9;have HG9 := Lib.hid hg9;have HT9 := Lib.hid hat9;have HZ9 := hb9.size;clear hown9 hb9 hg9 hat9 hV9 HAp2 n0 zn))
        go_roundw
        case rel =>
          have hM4' := HM4.out;refine ⟨k + 1, .slice A9 (a2.length + 1) c9, by omega, by go_num, ?_, Df.row_put hM4' HG6.out HG9.out HO4.out HAp.out, fun g hg => ⟨(HAp.out g hg).1, fun e => ?_⟩, ?_⟩
          · rw [HNx2.out]
            exact HN4.out.put hord HM.out hM4' HM6.out HG6.out HO9.out HG9.out
          · rcases HT9.out with q | q
            · rw [q] at e
              exact (HAp.out g hg).2 e
            · rw [q] at e
              have h1 := (HO4.out.lt g hg).2;have h2 := HG6.out.size;have h3 := Option.some.inj e;omega
          · have h2 := HG6.out.size
            show w.heap.size ≤ (w9.setCell _ _).heap.size
            rw [heap_set];omega
        case measure => simp [intOf]; omega
    · have q2 : ¬ (k : Int) < (n : Int) := by omega
      have HE : Hid (Df.AdRet w0 gs gn bm (Df.add acc l) w (.returned (.tuple #[])) wr) := ⟨rfl, ⟨u, by rw [List.take_of_length_le (by rw [HN.out]; omega)] at hN; exact hN⟩, hws⟩
      clear hN hO hap;go_wp2;refine bodyPost_ret (results_none rfl _ _ _) rfl ?_;exact HE.out
namespace Df
def NmsRet (l : List ByteArray) (w : World) (e : Ending) (w' : World) : Prop := ∃ v, e = .returned v ∧ Below w.heap.size w w' ∧ w'.ownsRow w.heap.size 9 1 v l.length (l.map Value.string)
end Df
theorem dfNames_any (s t : Src.S) (rv zv lv rv2 zv2 lv2 : Value) (evs evs2 : List Value) (w : World) (hR : Src.SrcR w w.heap.size s rv zv lv evs) (hR2 : Src.SrcR w w.heap.size t rv2 zv2 lv2 evs2) (hL : Src.Lims s) (hL2 : Src.Lims t) (hsz : ∀ x ∈ Src.names s, x.size ≤ maxLen) (hsz2 : ∀ x ∈ Src.names t, x.size ≤ maxLen) :
  Calls Tryz.prog 16 #[.agg #[rv, zv, lv], .agg #[rv2, zv2, lv2]] w (Df.NmsRet (Df.names s t) w) := by
 have HC1 := Lib.hid fun W (hb : Below w.heap.size w W) => srcNames_own s _ _ _ evs W (hR.call hb) hL
 have HC2 := Lib.hid fun W (hb : Below w.heap.size w W) => srcNames_own t _ _ _ evs2 W (hR2.call hb) hL2
 have hl1 : s.zones.length + s.links.length = (Src.names s).length := by simp [Src.names, Src.zoneNames, Src.linkNames]
 have hl2 : t.zones.length + t.links.length = (Src.names t).length := by simp [Src.names, Src.zoneNames, Src.linkNames]
 have hm1 : (Src.names s).length ≤ 6000 := by have := hL.zones; have := hL.links; omega
 have hm2 : (Src.names t).length ≤ 6000 := by have := hL2.zones; have := hL2.links; omega
 rw [hl1] at HC1;rw [hl2] at HC2;clear hl1 hl2 hL hL2;unfold Df.names;obtain ⟨l1, hl1⟩ : ∃ l, Src.names s = l := ⟨_, rfl⟩
 obtain ⟨l2, hl2⟩ : ∃ l, Src.names t = l := ⟨_, rfl⟩
 rw [hl1] at hsz hm1 HC1;rw [hl2] at hsz2 hm2 HC2;rw [hl1, hl2];obtain ⟨rA, rc, rfl, _⟩ := hR.rules;obtain ⟨zA, zc, rfl, _⟩ := hR.zones;obtain ⟨lA, lc, rfl, _⟩ := hR.links;obtain ⟨rA2, rc2, rfl, _⟩ := hR2.rules;obtain ⟨zA2, zc2, rfl, _⟩ := hR2.zones;obtain ⟨lA2, lc2, rfl, _⟩ := hR2.links;obtain ⟨n1, hn1⟩ : ∃ n, s.rules.length = n := ⟨_, rfl⟩
 obtain ⟨n2, hn2⟩ : ∃ n, s.zones.length = n := ⟨_, rfl⟩
 obtain ⟨n3, hn3⟩ : ∃ n, s.links.length = n := ⟨_, rfl⟩
 obtain ⟨m1, hm1'⟩ : ∃ n, t.rules.length = n := ⟨_, rfl⟩
 obtain ⟨m2, hm2'⟩ : ∃ n, t.zones.length = n := ⟨_, rfl⟩
 obtain ⟨m3, hm3'⟩ : ∃ n, t.links.length = n := ⟨_, rfl⟩
 rw [hn1, hn2, hn3] at HC1;rw [hm1', hm2', hm3'] at HC2;rw [hn1, hn2, hn3, hm1', hm2', hm3'];clear hn1 hn2 hn3 hm1' hm2' hm3' hR hR2 hl1 hl2;have hmk := @run_makeMap Tryz.prog
 -- the walk
 obtain ⟨V1, hV1⟩ : ∃ X, ((w.alloc (.cells #[.slice rA n1 rc, .slice zA n2 zc, .slice lA n3 lc] 26)).alloc (.cells #[.slice rA2 m1 rc2, .slice zA2 m2 zc2, .slice lA2 m3 lc2] 26)) = X := ⟨_, rfl⟩
 obtain ⟨gA, hgA⟩ : ∃ q, w.heap.size = q := ⟨_, rfl⟩
 have hbn : Below w.heap.size w V1 := by rw [← hV1]; exact ((Below.refl _ _).alloc (Nat.le_refl _) _).alloc (by first | (simp; done) | (simp; omega)) _
 have hAA : At V1 gA [.slice rA n1 rc, .slice zA n2 zc, .slice lA n3 lc] := by
  have h := (At.new w #[.slice rA n1 rc, .slice zA n2 zc, .slice lA n3 lc] 26).allocO (.cells #[.slice rA2 m1 rc2, .slice zA2 m2 zc2, .slice lA2 m3 lc2] 26);rw [hV1] at h
  try rw [hgA] at h
  exact h
 have geA : w.heap.size ≤ gA := by have := (Below.refl w.heap.size w).size; omega
 have hAB : At V1 (gA + 1) [.slice rA2 m1 rc2, .slice zA2 m2 zc2, .slice lA2 m3 lc2] := by
  have h := (At.new (w.alloc (.cells #[.slice rA n1 rc, .slice zA n2 zc, .slice lA n3 lc] 26)) #[.slice rA2 m1 rc2, .slice zA2 m2 zc2, .slice lA2 m3 lc2] 26)
  simp only [World.size_alloc] at h;rw [hV1] at h
  try rw [hgA] at h
  exact h
 have geB : w.heap.size ≤ (gA + 1) := by have := (Below.refl w.heap.size w).size; omega
 have neB_A : (gA + 1) ≠ gA := by omega
 have neA_B : gA ≠ (gA + 1) := by omega
 have hBz := below_then (Below.refl w.heap.size w) hbn;have HB := Lib.hid hBz;clear hBz;have HAA := Lib.hid hAA;have HAB := Lib.hid hAB;have HEV1 := Lib.hid hV1;have HGgA := Lib.hid hgA;clear hbn hV1 hgA hAA hAB;have HWa := HEV1;obtain ⟨W2, hW2⟩ : ∃ X, ((V1.alloc (.map #[] 0)).alloc (.cells #[.map (some V1.heap.size)] 123)).alloc (.cells #[.slice none 0 0] 38) = X := ⟨_, rfl⟩
 obtain ⟨bm, hbm⟩ : ∃ q, V1.heap.size = q := ⟨_, rfl⟩
 have hgb : gA + 2 = bm := by
  have h := congrArg (fun x : World => x.heap.size) HEV1.out;simp only [World.size_alloc] at h;have := HGgA.out;omega
 have hb2 : Below V1.heap.size V1 W2 := by rw [← hW2]; exact (((Below.refl _ _).alloc (Nat.le_refl _) _).alloc (by simp) _).alloc (by simp; omega) _
 have hM2 : MapF Tryz.prog 9 W2 bm 0 (Hv.sf []) := by
  rw [← hW2, ← hbm];exact (((MapF.made V1).alloc _).alloc _)
 have hS2 : At W2 (bm + 1) [.map (some bm)] := by
  have h := (At.new (V1.alloc (.map #[] 0)) #[.map (some V1.heap.size)] 123).allocO (.cells #[.slice none 0 0] 38);rw [hW2, World.size_alloc, hbm] at h;exact h
 have hV2 : At W2 (bm + 2) [.slice none 0 0] := by
  have h := At.new ((V1.alloc (.map #[] 0)).alloc (.cells #[.map (some V1.heap.size)] 123)) #[.slice none 0 0] 38;rw [hW2, World.size_alloc, World.size_alloc, hbm] at h;exact h
 have hgw : w.heap.size ≤ bm := by rw [← hbm]; exact HB.out.size
 obtain ⟨gs, hgs⟩ : ∃ q, bm + 1 = q := ⟨_, rfl⟩
 obtain ⟨gn, hgn⟩ : ∃ q, gs + 1 = q := ⟨_, rfl⟩
 rw [hgs] at hS2;rw [show bm + 2 = gn by omega] at hV2;have HGs := Lib.hid hgs;have HGn := Lib.hid hgn;have HOrd : Hid (V1.heap.size ≤ bm ∧ bm < gs ∧ gs < gn) := ⟨by omega, by omega, by omega⟩
 have hN2 : Df.Nm V1 gs gn bm [] (.slice none 0 0) W2 := ⟨hb2, hS2, hV2, World.ownsRow_nil _ _ _ _, ⟨0, Nat.le_refl _, hM2⟩⟩
 have HN2 := Lib.hid hN2;have HE2 := Lib.hid hW2;have HBm := Lib.hid hbm;have HGb := Lib.hid hgb;have HSz := Lib.hid hsz;have HSz2 := Lib.hid hsz2;clear hsz hsz2 hgs hgn hgw hW2 hbm hb2 hM2 hS2 hV2 hN2 hgb;obtain ⟨a0, a1, a2, _⟩ := HAA.out.three;obtain ⟨b0, b1, b2, _⟩ := HAB.out.three;have za := HAA.out.lt;have zb := HAB.out.lt;go_enter Tryz.func16, Tryz.ntmps16
 go_upto_region 1 with fail
 rw [HEV1.out]
 try rw [HGgA.out]
 go_upto_region 4 with fail
 rw [HE2.out, HBm.out, HGs.out, HGn.out];clear a0 a1 a2 b0 b1 b2 za zb;obtain ⟨a0, a1, a2, _⟩ := (HAA.out.call HN2.out.below).three;have za := (HAA.out.call HN2.out.below).lt;go_wp2_with fail
 refine (HC1.out W2 (below_then HB.out HN2.out.below)).mono ?_;rintro e w3 ⟨A, c, rfl, hb3, _, _, hO⟩;have hN3 := HN2.out.call hb3;have HD1 := Lib.hid (dfAdd_any V1 gs gn bm [] l1 _ A l1.length c W2.heap.size w3 hN3 HOrd.out rfl hO (fun g hg => by
  have h1 := (hO.lt g hg).1;have h2 := HN2.out.var.lt;exact ⟨by omega, by intro q; cases q⟩) HSz.out (by simp; omega))
 clear hb3 hN3 hO a0 a1 a2 za HC1;go_wp2_with fail
 refine HD1.out.mono ?_;rintro e w4 ⟨rfl, ⟨v4, hN4⟩, hs4⟩;have HN4 := Lib.hid hN4;clear hN4 hs4 HD1;obtain ⟨b0, b1, b2, _⟩ := (HAB.out.call HN4.out.below).three;have zb := (HAB.out.call HN4.out.below).lt;go_wp2_with fail
 refine (HC2.out w4 (below_then HB.out HN4.out.below)).mono ?_;rintro e w5 ⟨A2, c2, rfl, hb5, _, _, hO⟩;have hN5 := HN4.out.call hb5;have HD2 := Lib.hid (dfAdd_any V1 gs gn bm (Df.add [] l1) l2 _ A2 l2.length c2 w4.heap.size w5 hN5 HOrd.out rfl hO (fun g hg => by
  have h1 := (hO.lt g hg).1;have h2 := HN4.out.var.lt;refine ⟨by omega, fun q => ?_⟩;have := (HN4.out.row.lt g q).2;omega) HSz2.out (by have := Df.add_len (l := l1) (acc := []); simp only [List.length_nil] at this; omega))
 clear hb5 hN5 hO b0 b1 b2 zb HC2;go_wp2_with fail
 refine HD2.out.mono ?_;rintro e w6 ⟨rfl, ⟨v6, hN6⟩, hs6⟩;obtain ⟨A6, c6, rfl, _, _⟩ := own_slice_cap hN6.row;have d0 := hN6.var.cell 0 _ rfl;have zd := hN6.var.lt;have HF : Hid (Df.NmsRet (Df.add (Df.add [] l1) l2) w (.returned (.slice A6 (Df.add (Df.add [] l1) l2).length c6)) w6) := ⟨_, rfl, below_then HB.out hN6.below, Go.Joins.ownsRow_le hN6.row (by have := HB.out.size; have := HOrd.out; omega)⟩
 clear hN6 hs6 HD2;go_wp2;go_ret
 exact HF.out
end Go.Proofs.YtjobhjemnmleaaaGreatDoor
namespace Go.Proofs.YtjobhjemnmleaaaGreatDoor
open Go.RowKit
namespace Ln
theorem take_more {α : Type} {l m : List α} {k : Nat} {a : α} (h : l.take k = m.take k) (h1 : l[k]? = some a) (h2 : m[k]? = some a) : l.take (k + 1) = m.take (k + 1) := by
 rw [List.take_add_one, List.take_add_one, h, h1, h2]
def spSame (a b : Sp) : Bool := decide (a.fr = b.fr) && (decide (a.off = b.off) && decide (a.dst = b.dst))
theorem spSame_iff (a b : Sp) : spSame a b = true ↔ a = b := by
 obtain ⟨x, y, z⟩ := a;obtain ⟨x', y', z'⟩ := b;simp only [spSame, Bool.and_eq_true, decide_eq_true_eq, Sp.mk.injEq]
theorem and_if {p : Prop} [Decidable p] {q : Bool} {w : World} {R : Result Bool} (h : R = .ok q w) : (if p then R else .ok false w) = .ok (decide p && q) w := by
 by_cases hp : p
 ·rw [if_pos hp, h, decide_eq_true hp, Bool.true_and]
 ·rw [if_neg hp, decide_eq_false hp, Bool.false_and]
theorem last_if (p : Prop) [Decidable p] (w : World) : (if p then (.ok true w : Result Bool) else .ok false w) = .ok (decide p) w := by
 by_cases hp : p
 ·rw [if_pos hp, decide_eq_true hp]
 ·rw [if_neg hp, decide_eq_false hp]
end Ln
theorem span_same (a b : Ln.Sp) (w : World) : (Op.equalIn 10000 164 (.agg #[.int .i64 a.fr, .int .i64 a.off, .bool a.dst]) (.agg #[.int .i64 b.fr, .int .i64 b.off, .bool b.dst])).run Tryz.prog w = .ok (Ln.spSame a b) w := by
 obtain ⟨x, y, z⟩ := a;obtain ⟨x', y', z'⟩ := b;unfold Ln.spSame;simp only;go_simp
 iterate 2 refine Ln.and_if ?_
 exact Ln.last_if _ _
end Go.Proofs.YtjobhjemnmleaaaGreatDoor
namespace Go.Proofs.YtjobhjemnmleaaaGreatDoor
open Go.RowKit
namespace Lo
open Ln
structure Right (l : List Sp) : Prop where
 ne : l ≠ []
 up : ∀ (k : Nat) (x y : Sp), l[k]? = some x → l[k + 1]? = some y → x.fr < y.fr ∧ alike x y = false
theorem right_cov {f : Int → Int × Bool} {te c : Int} {l : List Sp} (h : Cov f te c l) (hlt : c < te) : Right l :=
 ⟨fun e => by
  rw [e] at h;have : c = te := h;omega, fun k x y hx hy => ⟨(Cov.two h k x y hx hy).1, (Cov.two h k x y hx hy).2.1⟩⟩
end Lo
end Go.Proofs.YtjobhjemnmleaaaGreatDoor
