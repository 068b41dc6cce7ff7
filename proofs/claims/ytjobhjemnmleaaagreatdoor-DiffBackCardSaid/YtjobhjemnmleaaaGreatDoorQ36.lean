/- ideal.Named. -/
import Derived.Test.YtjobhjemnmleaaaGreatDoorQ35
set_option maxRecDepth 100000
set_option maxHeartbeats 8000000
namespace Go.Proofs.YtjobhjemnmleaaaGreatDoor
open Go.RowKit Go.Shelf
theorem Lk.find_bd (zn ln tg : List ByteArray) : ∀ (f : Nat) (K : Lk.Kn) (x : ByteArray), (∀ y e, K y = some e → 0 ≤ e.1 ∧ e.1 ≤ zn.length) → 0 ≤ (Lk.find zn ln tg f K x).2.1 ∧ (Lk.find zn ln tg f K x).2.1 ≤ zn.length
 | 0, K, x, _ => ⟨Int.le_refl _, by show (0 : Int) ≤ _; omega⟩
 | f + 1, K, x, hK => by
  unfold Lk.find;split
  ·rename_i e he
   exact hK _ _ he
  ·split
   ·rename_i i hi
    have := (List.getElem?_eq_some_iff.1 (Lk.first_some hi)).1;exact ⟨by show (0 : Int) ≤ (i : Int); omega, by show (i : Int) ≤ _; omega⟩
   ·split
    ·exact ⟨Int.le_refl _, by show (0 : Int) ≤ _; omega⟩
    ·refine Lk.find_bd zn ln tg f _ _ ?_;intro y e he;unfold Lk.mark at he;split at he
     ·cases he
      exact ⟨Int.le_refl _, by show (0 : Int) ≤ _; omega⟩
     ·exact hK _ _ he
theorem walk_bd (s : Src.S) (name : ByteArray) (h : s.zones.length ≤ 1024) : 0 ≤ (Lk.walk s name).2.1 ∧ (Lk.walk s name).2.1 < 9223372036854775808 := by
 have h1 := Lk.find_bd (Lk.zn s) (Lk.ln s) (Lk.tg s) (s.links.length + 1) (fun _ => none) name (fun _ _ e => by cases e);have h2 : (Lk.zn s).length = s.zones.length := by unfold Lk.zn; rw [List.length_map]
 unfold Lk.walk;omega
theorem idNamed_any (s : Src.S) (name : ByteArray) (t : Int) (rv zv lv : Value) (evs : List Value) (w : World) (hR : Src.SrcR w w.heap.size s rv zv lv evs) (hS : Vd.Sz s) (hW : Wo w) (hA : Wa w) (hnm : name.size ≤ maxLen) (ht : -9223372036854775808 ≤ t ∧ t < 9223372036854775808)
  (hcc : ∀ x ∈ s.zones, ∀ e ∈ x.2, 0 ≤ e.u.c) (hwc : ∀ r ∈ s.rules, 0 ≤ r.c) :
  Calls Tryz.prog 17 #[.agg #[rv, zv, lv], .string name, .int .i64 t] w (Ln.AtRet (Ln.namedT s name t) w) := by
 have hzb := walk_bd s name hS.lims.zones;have HVd := Lib.hid fun (W : World) (hR : Src.SrcR W W.heap.size s rv zv lv evs) (hW : Wo W) (hA : Wa W) => vdWell_any s rv zv lv evs W hR hS hW hA
 have HLk := Lib.hid fun (W : World) (hR : Src.SrcR W W.heap.size s rv zv lv evs) => linkZone_any s rv zv lv evs name W hR hS.nm hnm
 have HAt := Lib.hid fun (W : World) (hR : Src.SrcR W W.heap.size s rv zv lv evs) (hW : Wo W) (hA : Wa W) => idAt_any s (Lk.walk s name).2.1 t rv zv lv evs W hR hS hW hA (by omega) ht hcc hwc
 have HR0 := Lib.hid hR;obtain ⟨rA, rc, rfl, _⟩ := hR.rules;obtain ⟨zA, zc, rfl, _⟩ := hR.zones;obtain ⟨lA, lc, rfl, _⟩ := hR.links;obtain ⟨n1, hn1⟩ : ∃ n, s.rules.length = n := ⟨_, rfl⟩
 obtain ⟨n2, hn2⟩ : ∃ n, s.zones.length = n := ⟨_, rfl⟩
 obtain ⟨n3, hn3⟩ : ∃ n, s.links.length = n := ⟨_, rfl⟩
 rw [hn1, hn2, hn3] at HVd HLk HAt HR0;rw [hn1, hn2, hn3];obtain ⟨Z, hZ⟩ : ∃ Z, Ln.namedT s name t = Z := ⟨_, rfl⟩
 rw [hZ];unfold Ln.namedT at hZ;obtain ⟨z0, hz0⟩ : ∃ z, (Lk.walk s name).2.1 = z := ⟨_, rfl⟩
 obtain ⟨y0, hy0⟩ : ∃ z, (Lk.walk s name).2.2 = z := ⟨_, rfl⟩
 rw [hz0] at HAt hZ;rw [hz0, hy0] at HLk;rw [hy0] at hZ;obtain ⟨X, hX⟩ : ∃ X, Ln.atT s z0 t = X := ⟨_, rfl⟩
 rw [hX] at HAt hZ;obtain ⟨bw, hbw⟩ : ∃ b, Vd.well s = b := ⟨_, rfl⟩
 rw [hbw] at HVd hZ;obtain ⟨W1, hW1⟩ : ∃ W, (w.alloc (.cells #[.slice rA n1 rc, .slice zA n2 zc, .slice lA n3 lc] 26)).alloc (.cells #[.int .i64 0, .bool false, .string ⟨#[]⟩] 41) = W := ⟨_, rfl⟩
 have hb1 : Below w.heap.size w W1 := by rw [← hW1]; exact ((Below.refl w.heap.size w).alloc (Nat.le_refl _) _).alloc (by simp) _
 have hA1 : At W1 w.heap.size [.slice rA n1 rc, .slice zA n2 zc, .slice lA n3 lc] := by rw [← hW1]; exact (At.new _ _ _).allocO _
 have hX1 : At W1 (w.heap.size + 1) [.int .i64 0, .bool false, .string ⟨#[]⟩] := by
  rw [← hW1];have h := At.new (w.alloc (.cells #[.slice rA n1 rc, .slice zA n2 zc, .slice lA n3 lc] 26)) #[Value.int .i64 0, .bool false, .string ⟨#[]⟩] 41;rw [World.size_alloc] at h;exact h
 have HWo := Lib.hid hW;have HWa := Lib.hid hA;have HA1 := Lib.hid hA1;have HX1 := Lib.hid hX1;have HB1 := Lib.hid hb1;have HW1 := Lib.hid hW1;have HZ := Lib.hid hZ;have hzw := hb1.size;have HC1 := Lib.hid (HVd.out W1 (HR0.out.call hb1) (hW.below hb1) (hA.below hb1));obtain ⟨b0, b1, b2, _⟩ := hA1.three;clear hn1 hn2 hn3 hb1 hA1 hX1 hW1 hR hS hwc hcc hW hA hZ hX hbw hz0 hy0 hnm ht hzb;go_enter Tryz.func17, Tryz.ntmps17
 go_wp2_with fail
 rw [HW1.out];refine HC1.out.mono ?_;rintro e w2 ⟨rfl, hb2⟩;have HB2 := Lib.hid (HB1.out.trans (hb2.mono HB1.out.size));have HX2 := Lib.hid (HX1.out.call hb2);have HA2 := Lib.hid (HA1.out.call hb2);clear hb2 b0 b1 b2;cases bw with
 | false =>
  have HEz : Hid (Z = (Ln.St.zero, 2)) := by
   show Z = _
   rw [← HZ.out, if_pos rfl]
  clear HZ;obtain ⟨y0, y1, y2, g0, g1, g2⟩ := HX2.out.three;have zY := HX2.out.lt;go_wp2_with fail
  have hF := ((HX2.out.set 0 (.int .i64 0)).set 1 (.bool false)).set 2 (.string ⟨#[]⟩);rw [HEz.out];refine bodyPost_ret (named_results (s := Ln.St.zero) rfl rfl (hF.cell 0 _ rfl) (hF.cell 1 _ rfl) (hF.cell 2 _ rfl)) rfl ⟨rfl, ?_⟩;exact ((HB2.out.setCell (p := ⟨w.heap.size + 1, 0, none⟩) (by show _ ≤ w.heap.size + 1; omega) _).setCell (p := ⟨w.heap.size + 1, 1, none⟩) (by show _ ≤ w.heap.size + 1; omega) _).setCell (p := ⟨w.heap.size + 1, 2, none⟩) (by show _ ≤ w.heap.size + 1; omega) _
 | true =>
  obtain ⟨a0, a1, a2, _⟩ := HA2.out.three;have zA2 := HA2.out.lt;have HC2 := Lib.hid (HLk.out w2 (HR0.out.call HB2.out));go_wp2_with fail
  refine HC2.out.mono ?_;rintro e w3 ⟨rfl, hb3⟩;have HB3 := Lib.hid (HB2.out.trans (hb3.mono HB2.out.size));have HX3 := Lib.hid (HX2.out.call hb3);have HA3 := Lib.hid (HA2.out.call hb3);clear hb3 a0 a1 a2 zA2
  by_cases hy : y0 = 0
  ·subst hy;have HEz : Hid (Z = X) := by
    show Z = _
    rw [← HZ.out, if_neg (by decide), if_neg (by decide)]
   clear HZ;obtain ⟨a0, a1, a2, _⟩ := HA3.out.three;have zA3 := HA3.out.lt;obtain ⟨y0, y1, y2, g0, g1, g2⟩ := HX3.out.three;have HC3 := Lib.hid (HAt.out w3 (HR0.out.call HB3.out) (HWo.out.below HB3.out) (HWa.out.below HB3.out));go_wp2_with fail
   refine HC3.out.mono ?_;rintro e w4 ⟨rfl, hb4⟩;have HB4 := Lib.hid (HB3.out.trans (hb4.mono HB3.out.size));have HX4 := Lib.hid (HX3.out.call hb4);clear hb4 a0 a1 a2 zA3 y0 y1 y2 g0 g1 g2;obtain ⟨y0, y1, y2, g0, g1, g2⟩ := HX4.out.three;have zY := HX4.out.lt;obtain ⟨⟨so, sd, sa⟩, xe⟩ := X;unfold Ln.St.v;simp only;go_wp2_with fail
   have hF := ((HX4.out.set 0 (.int .i64 so)).set 1 (.bool sd)).set 2 (.string sa);rw [HEz.out];refine bodyPost_ret (named_results (s := ⟨so, sd, sa⟩) rfl rfl (hF.cell 0 _ rfl) (hF.cell 1 _ rfl) (hF.cell 2 _ rfl)) rfl ⟨rfl, ?_⟩;exact ((HB4.out.setCell (p := ⟨w.heap.size + 1, 0, none⟩) (by show _ ≤ w.heap.size + 1; omega) _).setCell (p := ⟨w.heap.size + 1, 1, none⟩) (by show _ ≤ w.heap.size + 1; omega) _).setCell (p := ⟨w.heap.size + 1, 2, none⟩) (by show _ ≤ w.heap.size + 1; omega) _
  ·have HEz : Hid (Z = (Ln.St.zero, y0)) := by
    show Z = _
    rw [← HZ.out, if_neg (by decide), if_pos hy]
   have qy : (y0 != 0) = true := by simpa using hy
   clear HZ;obtain ⟨x0, x1, x2, g0, g1, g2⟩ := HX3.out.three;have zY := HX3.out.lt;go_wp2_with fail
   have hF := ((HX3.out.set 0 (.int .i64 0)).set 1 (.bool false)).set 2 (.string ⟨#[]⟩);rw [HEz.out];refine bodyPost_ret (named_results (s := Ln.St.zero) rfl rfl (hF.cell 0 _ rfl) (hF.cell 1 _ rfl) (hF.cell 2 _ rfl)) rfl ⟨rfl, ?_⟩;exact ((HB3.out.setCell (p := ⟨w.heap.size + 1, 0, none⟩) (by show _ ≤ w.heap.size + 1; omega) _).setCell (p := ⟨w.heap.size + 1, 1, none⟩) (by show _ ≤ w.heap.size + 1; omega) _).setCell (p := ⟨w.heap.size + 1, 2, none⟩) (by show _ ≤ w.heap.size + 1; omega) _
open Go.RowKit
namespace Ln
theorem lineOf_cov {s : Src.S} {eras : List Er.E} (hr : Eg.RulesOk s.rules) (hz : Eg.ZoneOk eras) {lo hi : Int} (h : InY lo hi) : Cov (st s.rules eras (Eg.ends s.rules eras)) (Oc.D (hi + 1) * 86400) (Oc.D lo * 86400) (lineOf s eras lo hi) := by
 obtain ⟨h1, h2, h3, _⟩ := h;obtain ⟨k1, k2, k3, _⟩ := years_in h1 h2 h3;exact line_cov (hz.fit hr) (by rw [Eg.ends_len]; have := hz.len.1; omega) k1 k2 k3
end Ln
end Go.Proofs.YtjobhjemnmleaaaGreatDoor
namespace Go.Proofs.YtjobhjemnmleaaaGreatDoor
open Go.RowKit
namespace Ln
theorem Cov.two {f : Int → Int × Bool} {te : Int} : ∀ {A : List Sp} {c : Int}, Cov f te c A → ∀ (k : Nat) (x y : Sp), A[k]? = some x → A[k + 1]? = some y → x.fr < y.fr ∧ alike x y = false ∧ f (y.fr - 1) = (x.off, x.dst)
 | [], _, _, k, x, y, hx, _ => by cases hx
 | a :: A, c, ⟨h0, d, h1, h2, h3, h4, h5⟩, 0, x, y, hx, hy => by
  obtain rfl : a = x := by simpa using hx
  cases A with
  | nil => cases hy
  | cons b A =>
   obtain rfl : b = y := by simpa using hy
   obtain ⟨k0, _⟩ := h4;exact ⟨by omega, h5 b rfl, h3 _ (by omega) (by omega)⟩
 | a :: A, c, ⟨h0, d, h1, h2, h3, h4, _⟩, k + 1, x, y, hx, hy => Cov.two h4 k x y (by simpa using hx) (by simpa using hy)
theorem stAt_st (rules : List Ru.R) (eras : List Er.E) (t : Int) : ((stAt rules eras t).off, (stAt rules eras t).dst) = st rules eras (Eg.ends rules eras) t := by
 unfold stAt stIn st setAt;simp only;rw [savedAt_one]
 congr 1
 rw [Bool.eq_iff_iff];simp
theorem atT_of {s : Src.S} {z t : Int} {x : Src.Txt × List Er.E} (hw : Vd.well s = true) (hx : Eg.zoneAt s z = some x) (ht : InT t) : atT s z t = (stAt s.rules x.2 t, 0) := by
 unfold atT;rw [if_neg (by rw [hw]; decide), hx];simp only;rw [if_pos ht]
end Ln
end Go.Proofs.YtjobhjemnmleaaaGreatDoor
namespace Go.Proofs.YtjobhjemnmleaaaGreatDoor
open Go.RowKit
namespace Ln
end Ln
end Go.Proofs.YtjobhjemnmleaaaGreatDoor
namespace Go.Proofs.YtjobhjemnmleaaaGreatDoor
open Go.RowKit
namespace Lk
def Ds (s : Src.S) : Nat → ByteArray → Nat → Prop
 | 0, x, p => first (zn s) x = some p
 | n + 1, x, p => first (zn s) x = none ∧ ∃ j, first (ln s) x = some j ∧ Ds s n ((tg s).getD j ⟨#[]⟩) p
theorem ds_good {s : Src.S} : ∀ {n : Nat} {x : ByteArray} {p : Nat}, Ds s n x p → Vd.Good s n x
 | 0, _, _, h => List.mem_of_getElem? (first_some h)
 | _ + 1, _, _, ⟨h, j, hj, hd⟩ => ⟨first_none.1 h, j, hj, ds_good hd⟩
theorem good_ds {s : Src.S} : ∀ {n : Nat} {x : ByteArray}, Vd.Good s n x → ∃ p, Ds s n x p
 | 0, x, h => by
  cases hf : first (zn s) x with
  | none => exact absurd h (first_none.1 hf)
  | some p => exact ⟨p, hf⟩
 | n + 1, x, ⟨h, j, hj, hg⟩ => by
  obtain ⟨p, hp⟩ := good_ds hg;exact ⟨p, first_none.2 h, j, hj, hp⟩
theorem ds_same {s : Src.S} : ∀ {n : Nat} {x : ByteArray} {p q : Nat}, Ds s n x p → Ds s n x q → p = q
 | 0, _, _, _, h, k => by
  unfold Ds at h k;rw [h] at k;exact Option.some.inj k
 | n + 1, _, _, _, ⟨_, j, hj, h⟩, ⟨_, i, hi, k⟩ => by
  rw [hj] at hi;cases hi
  exact ds_same h k
def KT (s : Src.S) (K : Kn) : Prop := ∀ y e, K y = some e → ∃ m q, Ds s m y q ∧ e = ((q : Int), 0)
theorem KT.none (s : Src.S) : KT s (fun _ => Option.none) := fun _ _ e => by cases e
theorem find_ds {s : Src.S} : ∀ (n f : Nat) (K : Kn) (x : ByteArray) (p : Nat), Ds s n x p → n < f → (∀ m y e, m ≤ n → Vd.Good s m y → K y = some e → ∃ q, Ds s m y q ∧ e = ((q : Int), 0)) →
  (find (zn s) (ln s) (tg s) f K x).2 = ((p : Int), 0) ∧ ∀ y ∈ (find (zn s) (ln s) (tg s) f K x).1, ∃ m, Ds s m y p
 | 0, f + 1, K, x, p, h, _, hK => by
  cases hk : K x with
  | some e =>
   obtain ⟨q, hq, rfl⟩ := hK 0 x e (Nat.le_refl _) (ds_good h) hk;rw [find, hk, ds_same h hq];exact ⟨rfl, fun y hy => by cases hy⟩
  | none =>
   have h' : first (zn s) x = some p := h;rw [find, hk];simp only [h'];exact ⟨trivial, fun y hy => ⟨0, by rw [List.mem_singleton.1 hy]; exact h⟩⟩
 | n + 1, f + 1, K, x, p, h, hf, hK => by
  cases hk : K x with
  | some e =>
   obtain ⟨q, hq, rfl⟩ := hK (n + 1) x e (Nat.le_refl _) (ds_good h) hk;rw [find, hk, ds_same h hq];exact ⟨rfl, fun y hy => by cases hy⟩
  | none =>
   have hgx := ds_good h;obtain ⟨hz, j, hj, hd⟩ := h;rw [find, hk];simp only [hz, hj];have ih := find_ds n f (mark K x loop) ((tg s).getD j ⟨#[]⟩) p hd (by omega) (fun m y e hm hy he => by
    have hne : y ≠ x := fun e => by
     rw [e] at hy;have := Vd.good_one hy hgx;omega
    unfold mark at he;rw [if_neg hne] at he;exact hK m y e (by omega) hy he)
   refine ⟨ih.1, fun y hy => ?_⟩;rcases List.mem_cons.1 hy with rfl | hy
   ·exact ⟨n + 1, hz, j, hj, hd⟩
   ·exact ih.2 y hy
theorem find_kt {s : Src.S} {K : Kn} (hK : KT s K) {x : ByteArray} {n p : Nat} (h : Ds s n x p) :
  (find (zn s) (ln s) (tg s) (s.links.length + 1) K x).2 = ((p : Int), 0) ∧ KT s (marks K (find (zn s) (ln s) (tg s) (s.links.length + 1) K x).1 (find (zn s) (ln s) (tg s) (s.links.length + 1) K x).2) := by
 have hl := Vd.good_le (ds_good h);have k := find_ds n (s.links.length + 1) K x p h (by omega) (fun m y e _ hy he => by
  obtain ⟨m', q, hq, rfl⟩ := hK y e he;have := Vd.good_one hy (ds_good hq);subst this;exact ⟨q, hq, rfl⟩)
 refine ⟨k.1, fun y e he => ?_⟩
 by_cases hm : y ∈ (find (zn s) (ln s) (tg s) (s.links.length + 1) K x).1
 ·rw [marks_in hm, k.1] at he;obtain ⟨m, hd⟩ := k.2 y hm;exact ⟨m, p, hd, (Option.some.inj he).symm⟩
 ·rw [marks_out hm] at he;exact hK y e he
theorem leads_ds {s : Src.S} {x : ByteArray} (h : Vd.Leads s x) : ∃ n p, Ds s n x p := by
 obtain ⟨n, hn⟩ := h;obtain ⟨p, hp⟩ := good_ds hn;exact ⟨n, p, hp⟩
theorem walk_ds {s : Src.S} {x : ByteArray} {n p : Nat} (h : Ds s n x p) : (walk s x).2 = ((p : Int), 0) := (find_kt (KT.none s) h).1
end Lk
end Go.Proofs.YtjobhjemnmleaaaGreatDoor
namespace Go.Proofs.YtjobhjemnmleaaaGreatDoor
open Go.RowKit
theorem Lk.ds_lt {s : Src.S} : ∀ {n : Nat} {x : ByteArray} {p : Nat}, Lk.Ds s n x p → p < s.zones.length
 | 0, _, _, h => by
  have := Lk.first_lt h;unfold Lk.zn at this
  rwa [List.length_map] at this
 | _ + 1, _, _, ⟨_, _, _, h⟩ => Lk.ds_lt h
namespace Ln
theorem tl_iff (a b : ByteArray) : a.toList = b.toList ↔ a = b := by
 refine ⟨fun h => ?_, fun h => by rw [h]⟩;rw [ByteArray.toList_eq, ByteArray.toList_eq] at h;exact ByteArray.ext (Array.ext' h)
end Ln
end Go.Proofs.YtjobhjemnmleaaaGreatDoor
namespace Go.Proofs.YtjobhjemnmleaaaGreatDoor
open Go.RowKit
namespace Hv
theorem bl {a w : World} (h : Below a.heap.size a w) (o : Obj) : Below a.heap.size a (w.alloc o) := h.alloc h.size o
theorem bl1 (w : World) (o : Obj) : Below w.heap.size w (w.alloc o) := bl (Below.refl _ _) o
theorem take_next {α : Type} {l : List α} {i : Nat} {x : α} (h : l[i]? = some x) : l.take (i + 1) = l.take i ++ [x] := by
 rw [List.take_add_one, h];rfl
def has (a : List ByteArray) (k : ByteArray) : Bool := a.any fun x => decide (x = k)
theorem has_iff {a : List ByteArray} {k : ByteArray} : has a k = true ↔ k ∈ a := by
 unfold has;rw [List.any_eq_true];constructor
 ·rintro ⟨x, hx, h⟩;rw [← of_decide_eq_true h];exact hx
 ·exact fun h => ⟨k, h, by simp⟩
def sf (l : List ByteArray) : Mp.Fn := fun s => if has l s = true then some (.agg #[]) else none
theorem sf_put (l : List ByteArray) (s : ByteArray) : Mp.put (sf l) s (.agg #[]) = sf (l ++ [s]) := by
 funext t
 unfold Mp.put sf
 by_cases h : t = s
 ·subst h;rw [if_pos rfl, if_pos (has_iff.2 (List.mem_append_right _ (List.mem_singleton.2 rfl)))]
 ·rw [if_neg h]
  by_cases h2 : t ∈ l
  ·rw [if_pos (has_iff.2 h2), if_pos (has_iff.2 (List.mem_append_left _ h2))]
  ·rw [if_neg (fun q => h2 (has_iff.1 q)), if_neg (fun q => by
    rcases List.mem_append.1 (has_iff.1 q) with q | q
    ·exact h2 q
    ·exact h (List.mem_singleton.1 q))]
theorem sf_get (l : List ByteArray) (s : ByteArray) : (sf l s).getD (.agg #[]) = .agg #[] ∧ (sf l s).isSome = has l s := by
 unfold sf
 by_cases h : has l s = true
 ·rw [if_pos h, h]; exact ⟨rfl, rfl⟩
 ·rw [if_neg h];cases hq : has l s with
  | true => exact absurd hq h
  | false => exact ⟨rfl, rfl⟩
theorem zero_unit (W : World) : (zeroValue 138).run Tryz.prog W = .ok (.agg #[]) W := by kernel_rfl
end Hv
end Go.Proofs.YtjobhjemnmleaaaGreatDoor
namespace Go.Proofs.YtjobhjemnmleaaaGreatDoor
open Go.RowKit
namespace Df
def first : List Ln.Sp → List Ln.Sp → Option Int
 | [], [] => none
 | [], y :: _ => some y.fr
 | x :: _, [] => some x.fr
 | x :: a, y :: b => if x = y then first a b else some (min x.fr y.fr)
theorem first_comm : ∀ a b : List Ln.Sp, first a b = first b a
 | [], [] => rfl
 | [], _ :: _ => rfl
 | _ :: _, [] => rfl
 | x :: a, y :: b => by
  unfold first
  by_cases h : x = y
  ·rw [if_pos h, if_pos h.symm, first_comm a b]
  ·rw [if_neg h, if_neg (fun k => h k.symm), Int.min_comm]
theorem first_self : ∀ a : List Ln.Sp, first a a = none
 | [] => rfl
 | x :: a => by
  unfold first;rw [if_pos rfl, first_self a]
def Says (f g : Int → Int × Bool) (c te : Int) : Option Int → Prop
 | none => ∀ t, c ≤ t → t < te → f t = g t
 | some u => c ≤ u ∧ u < te ∧ ∀ t, c ≤ t → t < u → f t = g t
theorem Says.more {f g : Int → Int × Bool} {c d te : Int} {o : Option Int} (hcd : c ≤ d) (h : Says f g d te o) (k : ∀ t, c ≤ t → t < d → f t = g t) : Says f g c te o := by
 cases o with
 | none => exact fun t h1 h2 => if q : t < d then k t h1 q else h t (by omega) h2
 | some u => exact ⟨Int.le_trans hcd h.1, h.2.1, fun t h1 h2 => if q : t < d then k t h1 q else h.2.2 t (by omega) h2⟩
theorem first_cov {f g : Int → Int × Bool} {te : Int} : ∀ {a b : List Ln.Sp} {c : Int}, Ln.Cov f te c a → Ln.Cov g te c b → Says f g c te (first a b)
 | [], [], c, h, _ => fun t h1 h2 => by
  have : c = te := h;omega
 | [], y :: b, c, h, ⟨_, d, h1, h2, _⟩ => by
  have : c = te := h;omega
 | x :: a, [], c, ⟨_, d, h1, h2, _⟩, h => by
  have : c = te := h;omega
 | x :: a, y :: b, c, ⟨ha, d, h1, h2, h3, h4, h5⟩, ⟨hb, e, k1, k2, k3, k4, k5⟩ => by
  unfold first
  by_cases hxy : x = y
  ·rw [if_pos hxy];subst hxy;have hs (t : Int) (g1 : c ≤ t) (g2 : t < min d e) : f t = g t := by rw [h3 t g1 (by omega), k3 t g1 (by omega)]
   by_cases hde : d = e
   ·subst hde;exact (first_cov h4 k4).more (by omega) fun t g1 g2 => hs t g1 (by omega)
   ·by_cases hlt : d < e
    ·cases a with
     | nil =>
      have : d = te := h4;omega
     | cons x' a =>
      have hx : x'.fr = d := h4.1;cases b with
      | nil => exact ⟨by omega, by omega, fun t g1 g2 => hs t g1 (by omega)⟩
      | cons y' b =>
       have hy : y'.fr = e := k4.1;have hne : x' ≠ y' := fun q => hde (by rw [← hx, ← hy, q])
       have e1 : first (x' :: a) (y' :: b) = some (min x'.fr y'.fr) := by rw [first, if_neg hne]
       rw [e1];exact ⟨by omega, by omega, fun t g1 g2 => hs t g1 (by omega)⟩
    ·cases b with
     | nil =>
      have : e = te := k4;omega
     | cons y' b =>
      have hy : y'.fr = e := k4.1;cases a with
      | nil => exact ⟨by omega, by omega, fun t g1 g2 => hs t g1 (by omega)⟩
      | cons x' a =>
       have hx : x'.fr = d := h4.1;have hne : x' ≠ y' := fun q => hde (by rw [← hx, ← hy, q])
       have e1 : first (x' :: a) (y' :: b) = some (min x'.fr y'.fr) := by rw [first, if_neg hne]
       rw [e1];exact ⟨by omega, by omega, fun t g1 g2 => hs t g1 (by omega)⟩
  ·rw [if_neg hxy];exact ⟨by omega, by omega, fun t g1 g2 => by omega⟩
def put (acc : List ByteArray) (n : ByteArray) : List ByteArray := if Hv.has acc n = true then acc else acc ++ [n]
def add (acc l : List ByteArray) : List ByteArray := l.foldl put acc
def names (a b : Src.S) : List ByteArray := add (add [] (Src.names a)) (Src.names b)
theorem mem_put {acc : List ByteArray} {n x : ByteArray} : x ∈ put acc n ↔ x ∈ acc ∨ x = n := by
 unfold put;split
 ·rename_i h
  exact ⟨.inl, fun q => by
   rcases q with q | rfl
   ·exact q
   ·exact Hv.has_iff.1 h⟩
 ·simp
theorem mem_add {x : ByteArray} : ∀ {l acc : List ByteArray}, x ∈ add acc l ↔ x ∈ acc ∨ x ∈ l
 | [], acc => by simp [add]
 | n :: l, acc => by
  have := mem_add (x := x) (l := l) (acc := put acc n);show x ∈ add (put acc n) l ↔ _
  rw [this, mem_put, List.mem_cons, or_assoc]
theorem put_nodup {acc : List ByteArray} {n : ByteArray} (h : acc.Nodup) : (put acc n).Nodup := by
 unfold put;split
 ·exact h
 ·rename_i hn
  rw [List.nodup_append];exact ⟨h, by simp, fun x hx y hy => by
   rw [List.mem_singleton] at hy;rintro rfl;rw [hy] at hx;exact hn (Hv.has_iff.2 hx)⟩
theorem add_nodup : ∀ {l acc : List ByteArray}, acc.Nodup → (add acc l).Nodup
 | [], _, h => h
 | _ :: l, _, h => add_nodup (l := l) (put_nodup h)
theorem mem_names {a b : Src.S} {x : ByteArray} : x ∈ names a b ↔ x ∈ Src.names a ∨ x ∈ Src.names b := by
 unfold names;rw [mem_add, mem_add];simp
theorem names_nodup (a b : Src.S) : (names a b).Nodup := add_nodup (add_nodup List.nodup_nil)
theorem add_len : ∀ {l acc : List ByteArray}, (add acc l).length ≤ acc.length + l.length
 | [], _ => Nat.le_refl _
 | n :: l, acc => by
  have h := add_len (l := l) (acc := put acc n);have k : (put acc n).length ≤ acc.length + 1 := by
   unfold put;split <;> simp
  show (add (put acc n) l).length ≤ _
  rw [List.length_cons];omega
theorem names_len (a b : Src.S) : (names a b).length ≤ (Src.names a).length + (Src.names b).length := by
 have h1 := add_len (l := Src.names a) (acc := []);have h2 := add_len (l := Src.names b) (acc := add [] (Src.names a));unfold names;simp only [List.length_nil] at h1;omega
structure Ch where
 nm : ByteArray
 why : Int
 fr : Int
instance decCh : DecidableEq Ch := fun a b => decidable_of_iff (a.nm = b.nm ∧ a.why = b.why ∧ a.fr = b.fr) (by cases a; cases b; simp)
def Ch.cells (c : Ch) : List Value := [.string c.nm, .int .i64 c.why, .int .i64 c.fr]
def eras (s : Src.S) (n : ByteArray) : List Er.E := ((s.zones[(Lk.walk s n).2.1.toNat]?).getD (⟨[], []⟩)).2
def line (s : Src.S) (lo hi : Int) (n : ByteArray) : List Ln.Sp := Ln.lineOf s (eras s n) lo hi
def ch (a b : Src.S) (lo hi : Int) (n : ByteArray) : Option Ch :=
 if Hv.has (Src.names b) n = false then some ⟨n, 3, 0⟩ else if Hv.has (Src.names a) n = false then some ⟨n, 12, 0⟩ else (first (line a lo hi n) (line b lo hi n)).map fun t => ⟨n, 0, t⟩
def changes (a b : Src.S) (lo hi : Int) : List Ch := (names a b).filterMap (ch a b lo hi)
def Ch.back (c : Ch) : Ch := { c with why := if c.why = 3 then 12 else if c.why = 12 then 3 else c.why }
theorem ch_back {a b : Src.S} {lo hi : Int} {n : ByteArray} (h : n ∈ Src.names a ∨ n ∈ Src.names b) : ch b a lo hi n = (ch a b lo hi n).map Ch.back := by
 unfold ch;cases h1 : Hv.has (Src.names a) n
 ·have h2 : Hv.has (Src.names b) n = true := Hv.has_iff.2 (h.resolve_left fun q => by rw [Hv.has_iff.2 q] at h1; cases h1);rw [h2];rfl
 ·cases h2 : Hv.has (Src.names b) n
  ·rfl
  ·simp only [Bool.true_eq_false, if_false];rw [first_comm, Option.map_map]
   congr 1
theorem perm_one {a b : Src.S} : (names a b).Perm (names b a) := (List.perm_ext_iff_of_nodup (names_nodup a b) (names_nodup b a)).2 fun x => by rw [mem_names, mem_names, or_comm]
theorem changes_back {a b : Src.S} {lo hi : Int} {c : Ch} (h : c ∈ changes a b lo hi) : c.back ∈ changes b a lo hi := by
 unfold changes at h ⊢;rw [List.mem_filterMap] at h ⊢;obtain ⟨n, hn, hc⟩ := h;have hm := mem_names.1 hn;exact ⟨n, mem_names.2 hm.symm, by rw [ch_back hm, hc]; rfl⟩
theorem fm_congr {α β : Type} {f g : α → Option β} : ∀ {l : List α}, (∀ x ∈ l, f x = g x) → l.filterMap f = l.filterMap g
 | [], _ => rfl
 | x :: l, h => by
  rw [List.filterMap_cons, List.filterMap_cons, h x (List.mem_cons_self), fm_congr fun y hy => h y (List.mem_cons_of_mem _ hy)]
theorem changes_len (a b : Src.S) (lo hi : Int) : (changes a b lo hi).length = (changes b a lo hi).length := by
 unfold changes;have h := (perm_one (a := a) (b := b)).filterMap (ch a b lo hi);rw [h.length_eq];have e : (names b a).filterMap (ch b a lo hi) = ((names b a).filterMap (ch a b lo hi)).map Ch.back := by
  rw [List.map_filterMap];refine fm_congr fun n hn => ?_
  rw [ch_back (mem_names.1 hn).symm]
 rw [e, List.length_map]
theorem changes_self (a : Src.S) (lo hi : Int) : changes a a lo hi = [] := by
 unfold changes;rw [List.filterMap_eq_nil_iff];intro n hn;have h : n ∈ Src.names a := by
  rcases mem_names.1 hn with q | q <;> exact q
 unfold ch;rw [Hv.has_iff.2 h, first_self];rfl
end Df
end Go.Proofs.YtjobhjemnmleaaaGreatDoor
namespace Go.Proofs.YtjobhjemnmleaaaGreatDoor
open Go.RowKit
namespace Df
theorem map_cells {P : Program} {k : TypeId} {w : World} {b n : Nat} {f : Mp.Fn} (h : MapF P k w b n f) : ∃ o : Obj, w.heap[b]? = some o ∧ o.isCells = false := by
 obtain ⟨D, ⟨es, clock, hb, _⟩, _⟩ := h;exact ⟨_, hb, rfl⟩
theorem own_cells {w : World} {B : Nat} {e : TypeId} {size n g : Nat} {v : Value} {xs : List Value} (h : w.ownsRow B e size v n xs) (hg : v.ownBlock = some g) : ∃ o : Obj, w.heap[g]? = some o ∧ o.isCells = true := by
 rcases h.2 with ⟨rfl, _⟩ | ⟨g', cap, cur, rfl, _, hb, _⟩
 ·cases hg
 ·have : g' = g := Option.some.inj hg;subst this;exact ⟨_, hb, rfl⟩
theorem own_ne_map {P : Program} {k : TypeId} {w : World} {B b m : Nat} {f : Mp.Fn} {e : TypeId} {size n : Nat} {v : Value} {xs : List Value} (h : w.ownsRow B e size v n xs) (hm : MapF P k w b m f) : v.ownBlock ≠ some b := by
 intro hg;obtain ⟨o, h1, h2⟩ := own_cells h hg;obtain ⟨o', h3, h4⟩ := map_cells hm;rw [h1] at h3;cases h3
 rw [h2] at h4;cases h4
theorem at_ne_map {P : Program} {k : TypeId} {w : World} {b n g : Nat} {f : Mp.Fn} {x : Value} {xs : List Value} (hA : At w g (x :: xs)) (h : MapF P k w b n f) : g ≠ b := by
 intro e;subst e;obtain ⟨o, ho, hc⟩ := map_cells h;obtain ⟨o', ho', hc'⟩ := cells_of_cell (hA.cell 0 x rfl);rw [show (⟨g, 0, none⟩ : Addr).block = g from rfl, ho] at ho';cases ho'
 rw [hc] at hc';cases hc'
theorem at_grown {w w' : World} {h : Nat} {row : Option Nat} {xs : List Value} (a : At w h xs) (hg : w.grownBy w' row) (hne : row ≠ some h) : At w' h xs := by
 have e := hg.block h a.lt (fun x => hne x.symm);exact ⟨Nat.lt_of_lt_of_le a.1 hg.size, fun i v hi => ⟨(World.cell?_of_block (a := ⟨h, i, none⟩) e).trans (a.2 i v hi).1, (World.frozen?_of_block (a := ⟨h, i, none⟩) e).trans (a.2 i v hi).2⟩⟩
theorem own_kept {w w' : World} {B : Nat} {e : TypeId} {size n : Nat} {v : Value} {xs : List Value} {row : Option Nat} (h : w.ownsRow B e size v n xs) (hg : w.grownBy w' row) (hne : ∀ g, v.ownBlock = some g → row ≠ some g) : w'.ownsRow B e size v n xs := by
 refine h.kept hg ?_;cases hq : v.ownBlock with
 | none => exact .inl rfl
 | some g => exact .inr fun q => hne g hq q.symm
theorem set_grown (w : World) (a : Addr) (u : Value) : w.grownBy (w.setCell a u) (some a.block) :=
 ⟨rfl, rfl, rfl, by simp, fun k _ hk => Below.heap_setCell _ _ _ k (fun e => hk (by rw [e]))⟩
theorem own_call {w w' : World} {B : Nat} {e : TypeId} {size n : Nat} {v : Value} {xs : List Value} (h : w.ownsRow B e size v n xs) (hb : Below w.heap.size w w') : w'.ownsRow B e size v n xs := own_below h hb
theorem own_set {w : World} {B g i : Nat} {e : TypeId} {size n : Nat} {v : Value} {xs : List Value} (h : w.ownsRow B e size v n xs) (u : Value) (hne : v.ownBlock ≠ some g) : (w.setCell ⟨g, i, none⟩ u).ownsRow B e size v n xs :=
 own_kept h (row := some g) (set_grown w ⟨g, i, none⟩ u) (fun j hj q => hne (by rw [hj, q]))
section
variable (w : World) {ops : Array Oper} {rest : List Oper} {o : Oper} {a : Act} {Q : Exit → Act → World → Prop}
theorem look_set (hg : o.guard = none) (m x : Operand) (b n : Nat) (l : List ByteArray) (s : ByteArray) (h1 : s.size ≤ maxLen) (hop : o.op = Op.lookup 123 m x true)
  (hm : a.eval m = .map (some b)) (hx : a.eval x = .string s) (h : MapF Tryz.prog 9 w b n (Hv.sf l)) (q : Bool) (hq : Hv.has l s = q)
  (hK : wpList Tryz.prog ops Q rest (a.put o.dst (.tuple #[.agg #[], .bool q])) w) : wpList Tryz.prog ops Q (o :: rest) a w := by
 refine wpList_look_ok w hg m x 123 9 138 hop Tryz.underlying9 Tryz.underlying123 Hv.zero_unit b n _ s h1 hm hx h ?_;rw [(Hv.sf_get _ _).1, (Hv.sf_get _ _).2, hq];exact hK
theorem store_set (hg : o.guard = none) (m x v : Operand) (b n : Nat) (l : List ByteArray) (s : ByteArray) (h1 : s.size ≤ maxLen) (hn : n < maxLen) (hop : o.op = Op.mapUpdate 123 m x v)
  (hm : a.eval m = .map (some b)) (hx : a.eval x = .string s) (hv : a.eval v = .agg #[]) (h : MapF Tryz.prog 9 w b n (Hv.sf l))
  (hK : ∀ w', MapF Tryz.prog 9 w' b (n + 1) (Hv.sf (l ++ [s])) → w.grownBy w' (some b) → wpList Tryz.prog ops Q rest (a.put o.dst undef) w') : wpList Tryz.prog ops Q (o :: rest) a w := by
 refine wpList_store w hg m x v 123 9 138 hop Tryz.underlying9 Tryz.underlying123 b n _ s h1 hn _ hm hx hv h ?_;intro w' hM hg';rw [Hv.sf_put] at hM;exact hK w' hM hg'
end
end Df
theorem dfHas_any (l : List ByteArray) (bm n : Nat) (s : ByteArray) (w : World) (h1 : s.size ≤ maxLen) (hM : MapF Tryz.prog 9 w bm n (Hv.sf l)) :
  Calls Tryz.prog 52 #[.map (some bm), .string s] w fun e w' => e = .returned (.bool (Hv.has l s)) ∧ Below w.heap.size w w' := by
 have HB := Lib.hid ((Below.refl w.heap.size w).alloc (Nat.le_refl _) (.cells #[] 138));have HM := Lib.hid hM;clear hM;cases hq : Hv.has l s
 all_goals
  go_enter Tryz.func52, Tryz.ntmps52
  go_wp2_with (at_lookup; refine Df.look_set _ rfl _ _ bm n l s h1 rfl rfl rfl HM.out _ hq ?_)
  go_ret
  exact ⟨rfl, HB.out⟩
namespace Df
def OfRet (l : List ByteArray) (w : World) (e : Ending) (w' : World) : Prop := ∃ bm n, e = .returned (.map (some bm)) ∧ MapF Tryz.prog 9 w' bm n (Hv.sf l) ∧ w.heap.size ≤ bm ∧ Below w.heap.size w w'
end Df
theorem dfOf_any (s : Src.S) (rv zv lv : Value) (evs : List Value) (w : World) (hR : Src.SrcR w w.heap.size s rv zv lv evs) (hL : Src.Lims s) (hsz : ∀ x ∈ Src.names s, x.size ≤ maxLen) :
  Calls Tryz.prog 51 #[.agg #[rv, zv, lv]] w (Df.OfRet (Src.names s) w) := by
 obtain ⟨rA, rc, rfl, _⟩ := hR.rules;obtain ⟨zA, zc, rfl, _⟩ := hR.zones;obtain ⟨lA, lc, rfl, _⟩ := hR.links;have hC0 := fun W (hb : Below w.heap.size w W) => srcNames_own s _ _ _ evs W (hR.call hb) hL
 obtain ⟨n1, hn1⟩ : ∃ n, s.rules.length = n := ⟨_, rfl⟩
 obtain ⟨n2, hn2⟩ : ∃ n, s.zones.length = n := ⟨_, rfl⟩
 obtain ⟨n3, hn3⟩ : ∃ n, s.links.length = n := ⟨_, rfl⟩
 have hll : n2 + n3 = (Src.names s).length := by rw [← hn2, ← hn3]; simp [Src.names, Src.zoneNames, Src.linkNames]
 have hln : n2 + n3 ≤ 6000 := by have := hL.zones; have := hL.links; omega
 obtain ⟨l, hl⟩ : ∃ l, Src.names s = l := ⟨_, rfl⟩
 rw [hl] at hsz hC0 hll ⊢;rw [hn1, hn2, hn3] at hC0;rw [hn1, hn2, hn3];obtain ⟨n, hn⟩ : ∃ n, n2 + n3 = n := ⟨_, rfl⟩
 rw [hn] at hC0 hll hln;obtain ⟨bm, hbm⟩ : ∃ b, (w.alloc (.cells #[.slice rA n1 rc, .slice zA n2 zc, .slice lA n3 lc] 26)).heap.size = b := ⟨_, rfl⟩
 obtain ⟨W1, hW1⟩ : ∃ W, w.alloc (.cells #[.slice rA n1 rc, .slice zA n2 zc, .slice lA n3 lc] 26) = W := ⟨_, rfl⟩
 rw [hW1] at hbm;obtain ⟨W2, hW2⟩ : ∃ W, W1.alloc (.map #[] 0) = W := ⟨_, rfl⟩
 have hb1 : Below w.heap.size w W1 := by rw [← hW1]; exact Hv.bl1 _ _
 have hb2 : Below w.heap.size w W2 := by rw [← hW2]; exact Hv.bl hb1 _
 have hM2 : MapF Tryz.prog 9 W2 bm 0 (Hv.sf []) := by rw [← hW2, ← hbm]; exact MapF.made W1
 have hA1 : At W1 w.heap.size [.slice rA n1 rc, .slice zA n2 zc, .slice lA n3 lc] := by rw [← hW1]; exact At.new _ _ _
 have hA2 : At W2 w.heap.size [.slice rA n1 rc, .slice zA n2 zc, .slice lA n3 lc] := by rw [← hW2]; exact hA1.allocO _
 have HC := Lib.hid (hC0 W2 hb2);have HB2 := Lib.hid hb2;have HM2 := Lib.hid hM2;have HW1 := Lib.hid hW1;have HW2 := Lib.hid hW2;have HBm := Lib.hid hbm;have HBg : Hid (w.heap.size ≤ bm) := by show _ ≤ _; rw [← hbm]; exact hb1.size
 have HSz := Lib.hid hsz;have HN : Hid (l.length = n) := hll.symm;obtain ⟨c0, c1, c2, _⟩ := hA2.three;have zz := hA2.lt;clear hR hC0 hL hsz hn1 hn2 hn3 hll hl hn hbm hW1 hW2 hb1 hb2 hM2 hA1 hA2;have hmk := @run_makeMap Tryz.prog;go_enter Tryz.func51, Tryz.ntmps51
 go_upto_region 1 with fail
 rw [HW1.out];go_upto_region 2 with fail
 rw [HW2.out, HBm.out];go_wp2_with fail
 refine HC.out.mono ?_;rintro e w3 ⟨A, c, rfl, hb3, _, _, hO⟩;have HB3 := Lib.hid (HB2.out.trans (hb3.mono HB2.out.size));have HM3 := Lib.hid (HM2.out.below hb3);have HO := Lib.hid hO;have HSz2 := Lib.hid hb3.size;clear hb3 hO c0 c1 c2 zz HC hmk;go_wp2_with fail
 go_loopw [10] (fun i wr => ∃ k : Nat, k ≤ n ∧ i = .int .i64 (k : Int) ∧ Hid (Below w.heap.size w wr) ∧ Hid (MapF Tryz.prog 9 wr bm k (Hv.sf (l.take k))) ∧ Hid (wr.ownsRow W2.heap.size 9 1 (.slice A n c) n (l.map Value.string))) (fun i _ => n - (intOf i).toNat)
 case atStart => exact ⟨0, Nat.zero_le _, rfl, HB3.out, HM3.out.more (Nat.zero_le _), HO.out⟩
 case round =>
  obtain ⟨k, hk, rfl, HB, HM, HO⟩ := hrel
  by_cases hlt : k < n
  ·obtain ⟨x, hx⟩ : ∃ y, l[k]? = some y := ⟨_, List.getElem?_eq_getElem (by rw [HN.out]; exact hlt)⟩
   have hxs := HSz.out x (List.mem_of_getElem? hx);obtain ⟨ad, u1, rfl, hab, hu, hcu⟩ := (Reads.of_own HO.out).at_ hlt;have hu2 : u1 = .string x := by
    rw [List.getElem?_map, hx] at hu;exact (Option.some.inj hu).symm
   rw [hu2] at hcu;have q1 : (0 : Int) ≤ (k : Int) := by omega
   have q2 : (k : Int) < (n : Int) := by omega
   have hkm : k < maxLen := by unfold maxLen; omega
   have HT := Lib.hid (Hv.take_next hx);have HNe : Hid (∀ g, (Value.slice (some ad) n c).ownBlock = some g → some bm ≠ some g) := fun g hg e => Df.own_ne_map HO.out HM.out (by rw [hg]; exact e.symm)
   clear hu hx hab hu2;go_wp2_with (at_mapUpdate; refine Df.store_set _ rfl _ _ _ bm k _ x hxs hkm rfl rfl rfl rfl HM.out ?_; intro w6 hM6 hg6; have HM6 := Lib.hid hM6; have HB6 := Lib.hid (HB.out.grown hg6 HB.out.size (fun j e => by cases e; exact HBg.out)); have HO6 := Lib.hid (Df.own_kept HO.out hg6 HNe.out); clear hM6 hg6)
   go_roundw
   case rel => exact ⟨k + 1, by omega, by go_num, HB6.out, by show MapF _ _ _ _ _ _; rw [HT.out]; exact HM6.out, HO6.out⟩
   case measure => simp [intOf]; omega
  ·have q2 : ¬ (k : Int) < (n : Int) := by omega
   have HE : Hid (Df.OfRet l w (.returned (.map (some bm))) wr) := ⟨bm, k, rfl, by have h := HM.out; rwa [List.take_of_length_le (by rw [HN.out]; omega)] at h, HBg.out, HB.out⟩
   go_wp2;go_ret
   exact HE.out
namespace Df
structure Nm (w0 : World) (gs gn bm : Nat) (acc : List ByteArray) (v : Value) (w : World) : Prop where
 below : Below w0.heap.size w0 w
 seen : At w gs [.map (some bm)]
 var : At w gn [v]
 row : w.ownsRow (gn + 1) 9 1 v acc.length (acc.map Value.string)
 map : ∃ n, n ≤ acc.length ∧ MapF Tryz.prog 9 w bm n (Hv.sf acc)
section
variable {w0 w w' : World} {gs gn bm : Nat} {acc : List ByteArray} {v : Value}
theorem Nm.call (h : Nm w0 gs gn bm acc v w) (hb : Below w.heap.size w w') : Nm w0 gs gn bm acc v w' :=
 ⟨below_then h.below hb, h.seen.call hb, h.var.call hb, own_call h.row hb, h.map.imp fun _ q => ⟨q.1, q.2.below hb⟩⟩
end
def AdRet (w0 : World) (gs gn bm : Nat) (acc : List ByteArray) (w : World) (e : Ending) (w' : World) : Prop := e = .returned (.tuple #[]) ∧ (∃ v, Nm w0 gs gn bm acc v w') ∧ w.heap.size ≤ w'.heap.size
end Df
end Go.Proofs.YtjobhjemnmleaaaGreatDoor
