/- valid.finder.disorder: eras that do not end behind the one ahead. -/
import Derived.Test.YtjobhjemnmleaaaGreatDoorQ25
set_option maxRecDepth 100000
set_option maxHeartbeats 8000000
namespace Go.Proofs.YtjobhjemnmleaaaGreatDoor
open Go.RowKit
namespace Vd
def ds1 (zn : ByteArray) (st : Int × Bool × List Fl) (e : Er.E) : Int × Bool × List Fl :=
 if e.en then (if (Mo.nom e.u.k e.u.n e.u.d e.u.y e.u.m e.u.s e.u.c).2 = 0 then ((Mo.nom e.u.k e.u.n e.u.d e.u.y e.u.m e.u.s e.u.c).1, true, if st.2.1 = true ∧ (Mo.nom e.u.k e.u.n e.u.d e.u.y e.u.m e.u.s e.u.c).1 ≤ st.1 then st.2.2 ++ [(10, zn)] else st.2.2) else (st.1, st.2.1, st.2.2 ++ [(10, zn)])) else st
theorem ds1_no {zn : ByteArray} {st : Int × Bool × List Fl} {e : Er.E} (h : e.en = false) : ds1 zn st e = st := by unfold ds1; rw [h]; rfl
theorem ds1_bad {zn : ByteArray} {la : Int} {eb : Bool} {fs : List Fl} {e : Er.E} (h : e.en = true) {a b : Int} (hn : Mo.nom e.u.k e.u.n e.u.d e.u.y e.u.m e.u.s e.u.c = (a, b)) (hb : ¬ b = 0) : ds1 zn (la, eb, fs) e = (la, eb, fs ++ [(10, zn)]) := by unfold ds1; rw [h, hn]; simp [hb]
theorem ds1_late {zn : ByteArray} {la : Int} {fs : List Fl} {e : Er.E} (h : e.en = true) {a : Int} (hn : Mo.nom e.u.k e.u.n e.u.d e.u.y e.u.m e.u.s e.u.c = (a, 0)) (hb : a ≤ la) : ds1 zn (la, true, fs) e = (a, true, fs ++ [(10, zn)]) := by unfold ds1; rw [h, hn]; simp [hb]
theorem ds1_well {zn : ByteArray} {la : Int} {eb : Bool} {fs : List Fl} {e : Er.E} (h : e.en = true) {a : Int} (hn : Mo.nom e.u.k e.u.n e.u.d e.u.y e.u.m e.u.s e.u.c = (a, 0)) (hb : eb = true → ¬ a ≤ la) : ds1 zn (la, eb, fs) e = (a, true, fs) := by
 unfold ds1;rw [h, hn];cases eb with
 | false => simp
 | true => simp [hb rfl]
def ds (zn : ByteArray) (es : List Er.E) : Int × Bool × List Fl := es.foldl (ds1 zn) (0, false, [])
theorem ds_next {zn : ByteArray} {es : List Er.E} {j : Nat} {x : Er.E} (h : es[j]? = some x) : ds zn (es.take (j + 1)) = ds1 zn (ds zn (es.take j)) x := by
 unfold ds;rw [List.take_add_one, h, List.foldl_append];rfl
theorem ds1_len (zn : ByteArray) (st : Int × Bool × List Fl) (e : Er.E) : (ds1 zn st e).2.2.length ≤ st.2.2.length + 1 := by
 unfold ds1;split
 ·split
  ·simp only;split <;> simp
  ·simp
 ·omega
theorem ds_len (zn : ByteArray) : ∀ (es : List Er.E) (st : Int × Bool × List Fl), (es.foldl (ds1 zn) st).2.2.length ≤ st.2.2.length + es.length
 | [], st => by simp
 | e :: es, st => by
  have h1 := ds1_len zn st e;have h2 := ds_len zn es (ds1 zn st e);rw [List.foldl_cons, List.length_cons];omega
def dz (z : Src.Txt × List Er.E) : List Fl := (ds (Src.bts z.1) z.2).2.2
def EsAt (zn : ByteArray) (es : List Er.E) (n : Nat) (rv zv lv : Value) (B g : Nat) (fl : List Fl) (v0 : Value) (w0 : World) (zk : Nat) (ev : Value) (a b i : Value) (wr : World) : Prop :=
 ∃ j u la eb fs, j ≤ n ∧ i = .int .i64 (j : Int) ∧ a = .int .i64 la ∧ b = .bool eb ∧ ds zn (es.take j) = (la, eb, fs) ∧ Fd rv zv lv B g (fl ++ fs) u wr ∧ Kp g v0 u w0 wr ∧ At wr zk [.string zn, ev] ∧ zk ≠ g ∧ u.ownBlock ≠ some zk
def DsAt {α : Type} (h : α → List Fl) (l : List α) (n : Nat) (rv zv lv : Value) (B g : Nat) (fl : List Fl) (v0 : Value) (w0 : World) (i : Value) (wr : World) : Prop :=
 ∃ k v, k ≤ n ∧ i = .int .i64 (k : Int) ∧ Fd rv zv lv B g (fl ++ (l.take k).flatMap h) v wr ∧ Kp g v0 v w0 wr
def WoB (B : Nat) (w : World) : Prop := ∀ W, Below B w W → Wo W
theorem WoB.then_ {B : Nat} {w w' : World} (h : WoB B w) (hb : Below B w w') : WoB B w' := fun W k => h W (hb.trans k)
end Vd
theorem vdDisorder_any (s : Src.S) (rv zv lv v : Value) (evs : List Value) (B g : Nat) (fl : List Vd.Fl) (w : World) (hF : Vd.Fd rv zv lv B g fl v w) (hR : Src.SrcR w B s rv zv lv evs) (hB : B ≤ g) (hL : Src.Lims s) (hE : ∀ z ∈ s.zones, z.2.length ≤ 100) (hfl : fl.length ≤ 300000) (hWo : Vd.WoB B w) :
  Calls Tryz.prog 98 #[.pointer (some ⟨g, 0, none⟩)] w (Vd.Ret rv zv lv B g fl (s.zones.flatMap Vd.dz) v w) := by
 have hgl := hF.at_.lt;have hvb := hF.base;have hlen : (s.zones.zip evs).length = s.zones.length := by rw [List.length_zip, hR.len]; omega
 have hers := hR.eras;obtain ⟨zA, zc, rfl, _, hzc, hrz⟩ := hR.zones;have a1 := hF.at_.cell 1 _ rfl;have L2 := hL.zones;have hzn : ∀ k x, (s.zones.zip evs)[k]? = some x → s.zones[k]? = some x.1 ∧ x ∈ s.zones.zip evs := fun k x h => ⟨(List.getElem?_zip_eq_some.1 h).1, List.mem_of_getElem? h⟩
 have hmz : ∀ k, ((s.zones.take k).flatMap Vd.dz).length ≤ k * 100 := fun k => Nat.le_trans (Vd.flat_len Vd.dz 100 _ (fun z hz => Nat.le_trans (Vd.ds_len _ z.2 _) (by have := hE z (List.mem_of_mem_take hz); simpa using this))) (by rw [List.length_take]; exact Nat.mul_le_mul_right _ (Nat.min_le_left _ _))
 obtain ⟨n2, hn2⟩ : ∃ n, s.zones.length = n := ⟨_, rfl⟩
 rw [hn2] at hrz L2 hF a1 hlen ⊢;unfold maxLen at hzc;have HN2 := Lib.hid hn2;have HRz := Lib.hid hrz;have HLen := Lib.hid hlen;have HErs := Lib.hid hers;have HZn := Lib.hid hzn;have HE := Lib.hid hE;have HF0 := Lib.hid hF;have HVb := Lib.hid hvb;have HMz := Lib.hid hmz;have HWo := Lib.hid hWo;clear hF hR hvb hn2 hrz hlen hers hzn hE hmz hL hWo;go_enter Tryz.func98, Tryz.ntmps98
 go_wp2_with fail
 clear a1;go_loopw [17] (fun i wr => Vd.DsAt Vd.dz s.zones n2 rv (.slice zA n2 zc) lv B g fl v w i wr) (fun i _ => n2 - (intOf i).toNat)
 case atStart => exact ⟨0, v, Nat.zero_le _, rfl, by simpa using HF0.out, Vd.Kp.refl _ _ _⟩
 case round =>
  obtain ⟨k, u, hk, rfl, hF, hK⟩ := hrel
  by_cases hlt : k < n2
  ·have q1 : (0 : Int) ≤ (k : Int) := by omega
   have q3 : (k : Int) < (n2 : Int) := by omega
   have hBw := hK.base hB HVb.out (by omega);obtain ⟨adz, x, rfl, hab, Hx, HL⟩ := Ix.reads_cells (enc := Src.zc) (m := 2) (fun _ => rfl) HLen.out (HRz.out.below hBw) hlt;obtain ⟨hzk, hzm⟩ := HZn.out k x Hx.out;obtain ⟨eA, ec, he2, _, hec, hre⟩ := HErs.out x hzm;have hmem : x.1 ∈ s.zones := List.mem_of_getElem? hzk;obtain ⟨zb, hzb⟩ : ∃ t, Src.bts x.1.1 = t := ⟨_, rfl⟩
   obtain ⟨es, hes⟩ : ∃ l, x.1.2 = l := ⟨_, rfl⟩
   obtain ⟨me, hme⟩ : ∃ l, es.length = l := ⟨_, rfl⟩
   have hm100 : me ≤ 100 := by rw [← hme, ← hes]; exact HE.out _ hmem
   have hdz : Vd.dz x.1 = (Vd.ds zb es).2.2 := by unfold Vd.dz; rw [hes, hzb]
   rw [hes, hme] at he2 hre;have c0 : wr.cell? (adz.add (k * 2)) = some (.string zb) := by rw [← hzb]; exact HL.out 0 _ rfl
   have c1 : wr.cell? ⟨(adz.add (k * 2)).block, (adz.add (k * 2)).off + 1, none⟩ = some (.slice eA me ec) := by rw [← he2]; exact HL.out 1 _ rfl
   have hnx := Vd.flat_next Vd.dz hzk;rw [hdz] at hnx;have hfk := HMz.out k;have hBa := (Below.refl wr.heap.size wr).alloc (Nat.le_refl _) (.cells #[.string zb, .slice eA me ec] 117);have hgk : g < wr.heap.size := hF.at_.lt;have huk : ∀ q, u.ownBlock = some q → q < wr.heap.size := fun q hq => (hF.row.lt q hq).2
   have hAz := At.new wr #[.string zb, .slice eA me ec] 117;obtain ⟨zk, hzk2⟩ : ∃ q, wr.heap.size = q := ⟨_, rfl⟩
   have hA : Hid (Vd.EsAt zb es me rv (.slice (some adz) n2 zc) lv B g (fl ++ (s.zones.take k).flatMap Vd.dz) v w zk (.slice eA me ec) (.int .i64 0) (.bool false) (.int .i64 0) (wr.alloc (.cells #[.string zb, .slice eA me ec] 117))) := ⟨0, u, 0, false, [], Nat.zero_le _, rfl, rfl, rfl, rfl, by simpa using hF.kept hBa, hK.then_ hBa, by rw [← hzk2]; exact hAz, by omega, fun e => by have := huk zk e; omega⟩
   have HMe := Lib.hid hme;have HRe := Lib.hid hre;have HNx := Lib.hid hnx;unfold maxLen at hec;clear hF hK hBw hBa Hx HL hzk hzm he2 hre hmem hzb hes hme hdz hnx hgk huk hAz;go_wp2;clear hzk2;go_loopw [4, 5, 24] (fun a b i wr => Vd.EsAt zb es me rv (.slice (some adz) n2 zc) lv B g (fl ++ (s.zones.take k).flatMap Vd.dz) v w zk (.slice eA me ec) a b i wr) (fun _ _ i _ => me - (intOf i).toNat)
   case atStart => exact hA.out
   case round =>
    clear hA c0 c1;obtain ⟨j, u, la, eb, fs, hj, rfl, rfl, rfl, hds, hF, hK, hA, hzg, huz⟩ := hrel
    by_cases hlt3 : j < me
    ·have q4 : (0 : Int) ≤ (j : Int) := by omega
     have q5 : (j : Int) < (me : Int) := by omega
     have hBw := hK.base hB HVb.out (by omega);obtain ⟨ad, x, rfl, hab, Hx, HLe⟩ := Ix.reads_cells (enc := Er.E.cells) (m := 13) (fun _ => rfl) HMe.out (HRe.out.below hBw) hlt3;have hnj := Vd.ds_next (zn := zb) Hx.out;rw [hds] at hnj;have hjl : fs.length ≤ j := by
      have h1 := Vd.ds_len zb (es.take j) (0, false, []);rw [show (es.take j).foldl (Vd.ds1 zb) (0, false, []) = (la, eb, fs) from hds, List.length_take] at h1;simp only [List.length_nil] at h1;omega
     have HWr := Lib.hid (HWo.out.then_ hBw);have hBg : B ≤ wr.heap.size := by have := hF.at_.lt; omega
     -- what holds of a world in which all that lay here stays
     have HQ : Hid (∀ w2, Below wr.heap.size wr w2 → Wo w2 ∧ w2.cell? ⟨zk, 0, none⟩ = some (.string zb) ∧ w2.cell? ⟨zk, 1, none⟩ = some (.slice (some ad) me ec) ∧ Hid (∀ la' eb', Vd.ds1 zb (la, eb, fs) x = (la', eb', fs) → Vd.EsAt zb es me rv (.slice (some adz) n2 zc) lv B g (fl ++ (s.zones.take k).flatMap Vd.dz) v w zk (.slice (some ad) me ec) (.int .i64 la') (.bool eb') (.int .i64 ((j : Int) + 1)) w2) ∧
       Hid (Calls Tryz.prog 134 #[.pointer (some ⟨g, 0, none⟩), .int .i64 10, .string zb] w2 fun e w3 => (∃ y, e = .returned y) ∧ Hid (∀ la' eb', Vd.ds1 zb (la, eb, fs) x = (la', eb', fs ++ [(10, zb)]) → Vd.EsAt zb es me rv (.slice (some adz) n2 zc) lv B g (fl ++ (s.zones.take k).flatMap Vd.dz) v w zk (.slice (some ad) me ec) (.int .i64 la') (.bool eb') (.int .i64 ((j : Int) + 1)) w3))) := by
      intro w2 hb2;have hF2 := hF.kept hb2;have hK2 := hK.then_ hb2;have hA2 := hA.call hb2;refine ⟨HWr.out w2 (hb2.mono hBg), hA2.cell 0 _ rfl, hA2.cell 1 _ rfl, ?_, ?_⟩
      ·intro la' eb' hx;exact ⟨j + 1, u, la', eb', fs, by omega, by simp, rfl, rfl, by rw [hnj, hx], hF2, hK2, hA2, hzg, huz⟩
      ·refine (vdPut_any _ _ _ u B g _ 10 zb w2 hF2 (by rw [List.length_append, List.length_append]; omega) (by have := hb2.size; omega)).mono ?_;rintro e w3 ⟨he, v3, hF3, hK3⟩;refine ⟨he, ?_⟩;intro la' eb' hx;have hzl := hA2.lt;exact ⟨j + 1, v3, la', eb', fs ++ [(10, zb)], by omega, by simp, rfl, rfl, by rw [hnj, hx], by rw [← List.append_assoc]; exact hF3, hK2.trans hK3, hK3.at_ hA2 hzg huz, hzg, (hK3.same zk hzl hzg huz).2⟩
     obtain ⟨std, ek, esv, ru, fm, en, ⟨y, m, dk, dn, dd, sc, cc⟩⟩ := x;have y0 : wr.cell? (ad.add (j * 13)) = some (.int .i64 std) := HLe.out 0 _ rfl;have y1 : wr.cell? ⟨(ad.add (j * 13)).block, (ad.add (j * 13)).off + 1, none⟩ = some (.int .u8 ek) := HLe.out 1 _ rfl;have y2 : wr.cell? ⟨(ad.add (j * 13)).block, (ad.add (j * 13)).off + 2, none⟩ = some (.int .i64 esv) := HLe.out 2 _ rfl;have y3 : wr.cell? ⟨(ad.add (j * 13)).block, (ad.add (j * 13)).off + 3, none⟩ = some (.string ru) := HLe.out 3 _ rfl;have y4 : wr.cell? ⟨(ad.add (j * 13)).block, (ad.add (j * 13)).off + 4, none⟩ = some (.string fm) := HLe.out 4 _ rfl;have y5 : wr.cell? ⟨(ad.add (j * 13)).block, (ad.add (j * 13)).off + 5, none⟩ = some (.bool en) := HLe.out 5 _ rfl;have y6 : wr.cell? ⟨(ad.add (j * 13)).block, (ad.add (j * 13)).off + 6, none⟩ = some (.int .i64 y) := HLe.out 6 _ rfl;have y7 : wr.cell? ⟨(ad.add (j * 13)).block, (ad.add (j * 13)).off + 7, none⟩ = some (.int .i64 m) := HLe.out 7 _ rfl;have y8 : wr.cell? ⟨(ad.add (j * 13)).block, (ad.add (j * 13)).off + 8, none⟩ = some (.int .u8 dk) := HLe.out 8 _ rfl;have y9 : wr.cell? ⟨(ad.add (j * 13)).block, (ad.add (j * 13)).off + 9, none⟩ = some (.int .i64 dn) := HLe.out 9 _ rfl;have y10 : wr.cell? ⟨(ad.add (j * 13)).block, (ad.add (j * 13)).off + 10, none⟩ = some (.int .i64 dd) := HLe.out 10 _ rfl;have y11 : wr.cell? ⟨(ad.add (j * 13)).block, (ad.add (j * 13)).off + 11, none⟩ = some (.int .i64 sc) := HLe.out 11 _ rfl;have y12 : wr.cell? ⟨(ad.add (j * 13)).block, (ad.add (j * 13)).off + 12, none⟩ = some (.int .u8 cc) := HLe.out 12 _ rfl
     have hBa := (Below.refl wr.heap.size wr).alloc (Nat.le_refl _) (.cells #[.int .i64 std, .int .u8 ek, .int .i64 esv, .string ru, .string fm, .bool en, .int .i64 y, .int .i64 m, .int .u8 dk, .int .i64 dn, .int .i64 dd, .int .i64 sc, .int .u8 cc] 191);clear hF hK hA hBw hnj hds Hx HLe hfk hjl HWr;cases en with
     | false =>
      have HN5 := Lib.hid ((HQ.out _ hBa).2.2.2.1.out la eb (Vd.ds1_no rfl));clear HQ hBa;go_wp2;go_roundw
      case rel => exact HN5.out
      case measure => simp [intOf]; omega
     | true =>
      have hBu := hBa.alloc hBa.size (.cells #[.int .i64 y, .int .i64 m, .int .u8 dk, .int .i64 dn, .int .i64 dd, .int .i64 sc, .int .u8 cc] 188);obtain ⟨na, nb, hn⟩ : ∃ a b, Mo.nom dk dn dd y m sc cc = (a, b) := ⟨_, _, rfl⟩
      have HNm := Lib.hid (nominal_any y m dk dn dd sc cc _ (HQ.out _ hBu).1);rw [hn] at HNm;have HBu := Lib.hid hBu;clear hBa hBu;go_wp2_with fail
      refine HNm.out.mono ?_;rintro e w2 ⟨rfl, hb⟩;have hb2 := below_then HBu.out hb;obtain ⟨_, z0, z1, HN5, HP⟩ := HQ.out w2 hb2;clear HQ HNm HBu hb hb2
      by_cases hnb : nb = 0
      ·subst hnb;have hw := Vd.ds1_well (zn := zb) (la := la) (eb := eb) (fs := fs) (e := ⟨std, ek, esv, ru, fm, true, ⟨y, m, dk, dn, dd, sc, cc⟩⟩) rfl hn
       by_cases hlate : na ≤ la
       ·cases eb with
        | false =>
         have HN6 := Lib.hid (HN5.out _ _ (hw (fun e => by cases e)));clear HN5 HP hw hn;go_wp2;go_roundw
         case rel => exact HN6.out
         case measure => simp [intOf]; omega
        | true =>
         have hl := Vd.ds1_late (zn := zb) (la := la) (fs := fs) (e := ⟨std, ek, esv, ru, fm, true, ⟨y, m, dk, dn, dd, sc, cc⟩⟩) rfl hn hlate;have HL2 := Lib.hid hl;clear HN5 hw hn hl;go_wp2_with fail
         refine HP.out.mono ?_;rintro e w3 ⟨⟨y9, rfl⟩, hN6⟩;have HN6 := Lib.hid (hN6.out _ _ HL2.out);clear hN6 HP HL2 z0 z1;go_wp2;go_roundw
         case rel => exact HN6.out
         case measure => simp [intOf]; omega
       ·have HN6 := Lib.hid (HN5.out _ _ (hw (fun _ => hlate)));clear HN5 HP hw hn;cases eb <;>
        ·go_wp2;go_roundw
         case rel => exact HN6.out
         case measure => simp [intOf]; omega
      ·have hl := Vd.ds1_bad (zn := zb) (la := la) (eb := eb) (fs := fs) (e := ⟨std, ek, esv, ru, fm, true, ⟨y, m, dk, dn, dd, sc, cc⟩⟩) rfl hn hnb;have hnb0 : (nb == 0) = false := by rw [beq_eq_false_iff_ne]; exact hnb
       have HL2 := Lib.hid hl;clear HN5 hn hl;go_wp2_with fail
       refine HP.out.mono ?_;rintro e w3 ⟨⟨y9, rfl⟩, hN6⟩;have HN6 := Lib.hid (hN6.out _ _ HL2.out);clear hN6 HP HL2 z0 z1;go_wp2;go_roundw
       case rel => exact HN6.out
       case measure => simp [intOf]; omega
    ·have hjm : j = me := by omega
     subst hjm;have q5 : ¬ (j : Int) < (j : Int) := by omega
     have HN5 : Hid (Vd.DsAt Vd.dz s.zones n2 rv (.slice (some adz) n2 zc) lv B g fl v w (.int .i64 ((k : Int) + 1)) wr) := by
      refine ⟨k + 1, u, by omega, by simp, ?_, hK⟩;rw [List.take_of_length_le (by rw [HMe.out]; exact Nat.le_refl _)] at hds;rw [HNx.out, ← List.append_assoc, hds];exact hF
     clear hF hK hA;go_wp2;go_roundw
     case rel => exact HN5.out
     case measure => simp [intOf]; omega
  ·have hkz : k = n2 := by omega
   subst hkz;have q3 : ¬ (k : Int) < (k : Int) := by omega
   have HE9 : Hid (Vd.Ret rv (.slice zA k zc) lv B g fl (s.zones.flatMap Vd.dz) v w (.returned (.tuple #[])) wr) := ⟨⟨_, rfl⟩, u, by rw [← Vd.flat_all _ HN2.out]; exact hF, hK⟩
   clear hF hK;go_wp2;refine bodyPost_ret (results_none rfl _ _ _) rfl ?_;exact HE9.out
end Go.Proofs.YtjobhjemnmleaaaGreatDoor
namespace Go.Proofs.YtjobhjemnmleaaaGreatDoor
open Go.RowKit
namespace Vd
abbrev Em := ByteArray → Option Int
def ke (K : Em) : Mp.Fn := fun t => (K t).map fun e => Value.int .i64 e
def em (K : Em) (s : ByteArray) (e : Int) : Em := fun t => if t = s then some e else K t
theorem ke_put (K : Em) (s : ByteArray) (e : Int) : Mp.put (ke K) s (.int .i64 e) = ke (em K s e) := by
 funext t
 unfold Mp.put ke em
 by_cases h : t = s
 ·simp [h]
 ·simp [h]
def ems (K : Em) (l : List ByteArray) (e : Int) : Em := l.foldl (fun K n => em K n e) K
theorem ems_next (K : Em) {l : List ByteArray} {k : Nat} {x : ByteArray} (e : Int) (h : l[k]? = some x) : ems K (l.take (k + 1)) e = em (ems K (l.take k) e) x e := by
 unfold ems;rw [List.take_add_one, h, List.foldl_append];rfl
def asq (s : Src.S) (K : Em) (T : ByteArray) : Int × Em :=
 match K T with
 | some e => (e, K)
 | none => ((Lk.walk s T).2.2, ems (em K T (Lk.walk s T).2.2) (Lk.walk s T).1 (Lk.walk s T).2.2)
theorem asq_some {s : Src.S} {K : Em} {T : ByteArray} {e : Int} (h : K T = some e) : asq s K T = (e, K) := by unfold asq; rw [h]
theorem asq_none {s : Src.S} {K : Em} {T : ByteArray} (h : K T = none) : asq s K T = ((Lk.walk s T).2.2, ems (em K T (Lk.walk s T).2.2) (Lk.walk s T).1 (Lk.walk s T).2.2) := by unfold asq; rw [h]
def as1 (s : Src.S) (st : Em × List Fl) (l : Src.Txt × Src.Txt) : Em × List Fl :=
  (if ((asq s st.1 (Src.bts l.1)).2 (Src.bts l.2)).isSome then (asq s st.1 (Src.bts l.1)).2 else em (asq s st.1 (Src.bts l.1)).2 (Src.bts l.2) (asq s st.1 (Src.bts l.1)).1,
   if (asq s st.1 (Src.bts l.1)).1 = 0 then st.2 else st.2 ++ [((asq s st.1 (Src.bts l.1)).1, Src.bts l.2)])
def K0 (s : Src.S) : Em := ems (fun _ => none) (Lk.zn s) 0
def asl (s : Src.S) (l : List (Src.Txt × Src.Txt)) : Em × List Fl := l.foldl (as1 s) (K0 s, [])
theorem asl_next {s : Src.S} {l : List (Src.Txt × Src.Txt)} {j : Nat} {x : Src.Txt × Src.Txt} (h : l[j]? = some x) : asl s (l.take (j + 1)) = as1 s (asl s (l.take j)) x := by
 unfold asl;rw [List.take_add_one, h, List.foldl_append];rfl
theorem as1_len (s : Src.S) (st : Em × List Fl) (l : Src.Txt × Src.Txt) : (as1 s st l).2.length ≤ st.2.length + 1 := by
 unfold as1;simp only;split
 ·omega
 ·simp
theorem asl_len (s : Src.S) : ∀ (l : List (Src.Txt × Src.Txt)) (st : Em × List Fl), (l.foldl (as1 s) st).2.length ≤ st.2.length + l.length
 | [], st => by simp
 | e :: es, st => by
  have h1 := as1_len s st e;have h2 := asl_len s es (as1 s st e);rw [List.foldl_cons, List.length_cons];omega
theorem walk_len (s : Src.S) (x : ByteArray) : (Lk.walk s x).1.length ≤ s.links.length + 1 := Lk.find_len _ _ _ _ _ _
theorem walk_size (s : Src.S) (x : ByteArray) (hx : x.size ≤ maxLen) (hN : Lk.Nm s) : ∀ y ∈ (Lk.walk s x).1, y.size ≤ maxLen := Lk.find_size _ _ _ _ _ _ hx (fun y hy => by
 unfold Lk.tg at hy;obtain ⟨k, hk, rfl⟩ := List.mem_map.1 hy;exact (hN.l k hk).1)
def KsAt (w0 : World) (bm : Nat) (l : List ByteArray) (n : Nat) (i : Value) (wr : World) : Prop :=
 ∃ k, k ≤ n ∧ i = .int .i64 (k : Int) ∧ Below w0.heap.size w0 wr ∧ MapF Tryz.prog 9 wr bm k (ke (ems (fun _ => none) (l.take k) 0))
def LsAt (s : Src.S) (n : Nat) (rv zv lv : Value) (B g : Nat) (fl : List Fl) (v0 : Value) (w0 : World) (bm : Nat) (i : Value) (wr : World) : Prop :=
 ∃ k v m K fs, k ≤ n ∧ i = .int .i64 (k : Int) ∧ asl s (s.links.take k) = (K, fs) ∧ Fd rv zv lv B g (fl ++ fs) v wr ∧ Kp g v0 v w0 wr ∧ MapF Tryz.prog 9 wr bm m (ke K) ∧ m ≤ 2000 + k * 5000
def LmAt (why : Int) (K : Em) (rv zv lv : Value) (B g : Nat) (fl : List Fl) (v0 : Value) (w0 : World) (bm k lb : Nat) (cs : List Value) (b : Value) (wr : World) : Prop :=
 ∃ v m, b = .int .i64 why ∧ Fd rv zv lv B g fl v wr ∧ Kp g v0 v w0 wr ∧ MapF Tryz.prog 9 wr bm m (ke K) ∧ m ≤ 2000 + k * 5000 + 4900 ∧ At wr lb cs ∧ lb ≠ g ∧ v.ownBlock ≠ some lb ∧ lb ≠ bm
def NsAt (W4 : World) (bm n : Nat) (K : Em) (l : List ByteArray) (e : Int) (L : Nat) (i : Value) (wr : World) : Prop :=
 ∃ j, j ≤ L ∧ i = .int .i64 (j : Int) ∧ MapF Tryz.prog 9 wr bm (n + j) (ke (ems K (l.take j) e)) ∧ W4.grownBy wr (some bm)
end Vd
theorem zero_errno (W : World) : (zeroValue 30).run Tryz.prog W = .ok (.int .i64 0) W := by kernel_rfl
theorem store_err (w : World) {ops : Array Oper} {rest : List Oper} {o : Oper} {a : Act} {Q : Exit → Act → World → Prop} (hg : o.guard = none) (m x v : Operand) (b n : Nat) (K : Vd.Em) (s : ByteArray) (hs : s.size ≤ maxLen) (hn : n < maxLen) (e : Int) (hop : o.op = Op.mapUpdate 253 m x v)
  (hm : a.eval m = .map (some b)) (hx : a.eval x = .string s) (hv : a.eval v = .int .i64 e) (h : MapF Tryz.prog 9 w b n (Vd.ke K))
  (hK : ∀ w', MapF Tryz.prog 9 w' b (n + 1) (Vd.ke (Vd.em K s e)) → w.grownBy w' (some b) → wpList Tryz.prog ops Q rest (a.put o.dst undef) w') : wpList Tryz.prog ops Q (o :: rest) a w := by
 refine wpList_store w hg m x v 253 9 30 hop Tryz.underlying9 Tryz.underlying253 b n _ s hs hn _ hm hx hv h ?_;intro w' hM hg';rw [Vd.ke_put] at hM;exact hK w' hM hg'
theorem look_err (w : World) {ops : Array Oper} {rest : List Oper} {o : Oper} {a : Act} {Q : Exit → Act → World → Prop} (hg : o.guard = none) (m x : Operand) (b n : Nat) (K : Vd.Em) (s : ByteArray) (hs : s.size ≤ maxLen) (hop : o.op = Op.lookup 253 m x true)
  (hm : a.eval m = .map (some b)) (hx : a.eval x = .string s) (h : MapF Tryz.prog 9 w b n (Vd.ke K)) (r : Option Int) (hr : K s = r)
  (hK : wpList Tryz.prog ops Q rest (a.put o.dst (.tuple #[.int .i64 (r.getD 0), .bool r.isSome])) w) : wpList Tryz.prog ops Q (o :: rest) a w := by
 subst hr;refine wpList_look_ok w hg m x 253 9 30 hop Tryz.underlying9 Tryz.underlying253 zero_errno b n _ s hs hm hx h ?_;have e1 : (Vd.ke K s).getD (.int .i64 0) = .int .i64 ((K s).getD 0) := by unfold Vd.ke; cases K s <;> rfl
 have e2 : (Vd.ke K s).isSome = (K s).isSome := by unfold Vd.ke; cases K s <;> rfl
 rw [e1, e2];exact hK
end Go.Proofs.YtjobhjemnmleaaaGreatDoor
