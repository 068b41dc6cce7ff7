/- ideal.At, ideal.Named: how a zone's clocks are set. -/
import Derived.Test.YtjobhjemnmleaaaGreatDoorQ34
set_option maxRecDepth 200000
set_option maxHeartbeats 16000000
namespace Go.Proofs.YtjobhjemnmleaaaGreatDoor
open Go.RowKit Go.Shelf Go.Sort
attribute [local go_sem] Oper.semAt_some
namespace Ln
def stAt (rules : List Ru.R) (eras : List Er.E) (t : Int) : St := stIn rules (eras.getD (hold (Eg.ends rules eras) t) Er.E.zero) t
def InT (t : Int) : Prop := InDays t ∧ 2 ≤ yr t ∧ yr t ≤ 9998
instance (t : Int) : Decidable (InT t) := by unfold InT InDays; exact inferInstance
noncomputable def atT (s : Src.S) (z t : Int) : St × Int :=
 if Vd.well s = false then (St.zero, 2) else match Eg.zoneAt s z with
  | none => (St.zero, 3)
  | some x => if InT t then (stAt s.rules x.2 t, 0) else (St.zero, 1)
noncomputable def namedT (s : Src.S) (name : ByteArray) (t : Int) : St × Int :=
 if Vd.well s = false then (St.zero, 2) else if (Lk.walk s name).2.2 ≠ 0 then (St.zero, (Lk.walk s name).2.2) else atT s (Lk.walk s name).2.1 t
def AtRet (r : St × Int) (w : World) (e : Ending) (w' : World) : Prop := e = .returned (.tuple #[r.1.v, .int .i64 r.2]) ∧ Below w.heap.size w w'
theorem saved_ok {rules : List Ru.R} {e : Er.E} (hr : Eg.RulesOk rules) (h2 : IsTime e.sv) (t : Int) : IsTime (savedAt rules e t).1 ∧ (savedAt rules e t).2.size ≤ 1000000 := by
 unfold savedAt;split
 ·exact ⟨h2, Nat.zero_le _⟩
 ·have key : ∀ o, occAt rules e t = some o → IsTime o.sv ∧ o.lt.size ≤ 1000000 := fun o ho => by
   unfold occAt at ho;split at ho
   ·unfold Oc.lastP at ho;have hm := (List.mem_filter.1 (List.mem_of_getLast? ho)).1;unfold Oc.of at hm;obtain ⟨q, hq, rfl⟩ := List.mem_map.1 hm;have hev : Oc.Ev (Src.ofName e.ru rules) q := ((Oc.mem_ofU q).1 ((Oc.mem_isort q _).1 hq)).1;obtain ⟨r, h4, h5, h6⟩ := hev;have hm := (hr.of e.ru).ok r (List.mem_of_getElem? h4);refine ⟨?_, ?_⟩
    ·show IsTime q.sv
     rw [h6];exact hm.1.2.2.2.2.2.1
    ·show q.lt.size ≤ 1000000
     rw [h6];exact hm.2.2
   ·cases ho
  cases ho : occAt rules e t with
  | none => exact ⟨by decide, Nat.zero_le _⟩
  | some o => exact key o ho
theorem ok_sv {e : Er.E} (h : e.Ok) : IsTime e.sv := by
 obtain ⟨h1, _, h3, _⟩ := h;rcases h3 with q | q | q
 ·rw [q.2.1]; decide
 ·exact q.2.1
 ·rw [q.2.1]; decide
end Ln
theorem at_results {tmps : Array Value} {w : World} {a : Nat} {s : Ln.St} {k : Int} (h6 : tmps[6]?.getD undef = .pointer (some ⟨a, 0, none⟩)) (h7 : tmps[7]?.getD undef = .int .i64 k) (c0 : w.cell? ⟨a, 0, none⟩ = some (.int .i64 s.off)) (c1 : w.cell? ⟨a, 1, none⟩ = some (.bool s.dst)) (c2 : w.cell? ⟨a, 2, none⟩ = some (.string s.ab)) :
  (results Tryz.f60 tmps).run Tryz.prog w = .ok (.tuple #[s.v, .int .i64 k]) w := by
 unfold Ln.St.v;simp [results, Tryz.f60, go_sem, h6, h7, c0, c1, c2]
theorem named_results {tmps : Array Value} {w : World} {a : Nat} {s : Ln.St} {k : Int} (h6 : tmps[6]?.getD undef = .pointer (some ⟨a, 0, none⟩)) (h7 : tmps[7]?.getD undef = .int .i64 k) (c0 : w.cell? ⟨a, 0, none⟩ = some (.int .i64 s.off)) (c1 : w.cell? ⟨a, 1, none⟩ = some (.bool s.dst)) (c2 : w.cell? ⟨a, 2, none⟩ = some (.string s.ab)) :
  (results Tryz.f17 tmps).run Tryz.prog w = .ok (.tuple #[s.v, .int .i64 k]) w := by
 unfold Ln.St.v;simp [results, Tryz.f17, go_sem, h6, h7, c0, c1, c2]
namespace IdA
def sl : Nat → Nat
 | 0 => 38
 | 1 => 39
 | 2 => 40
 | 3 => 41
 | 4 => 42
 | 5 => 43
 | 6 => 44
 | 7 => 45
 | 8 => 46
 | 9 => 47
 | 10 => 48
 | 11 => 49
 | 12 => 50
 | 13 => 51
 | 14 => 11
 | _ => 1015
def Q (g : Nat) (k : Nat) (hh : Nat) (m : Nat) (ec : Nat) (n2 : Nat) (zc : Nat) (nE : Nat) (vc : Nat) (vA : Option Addr) (adz : Addr) (ade : Addr) (t : Int) (y : Int) (std : Int) (ek : Int) (esv : Int) (ru : ByteArray) (fm : ByteArray) (en : Bool) (uy : Int) (mm : Int) (dk : Int) (dn : Int) (dd : Int) (sc : Int) (cc : Int) : Nat → Value → World → Prop
 | 0, v, _ => v = .pointer (some ⟨g, 1, none⟩)
 | 1, v, _ => v = .slice (some adz) n2 zc
 | 2, v, _ => v = .int .i64 (k : Int)
 | 3, v, _ => v = .pointer (some (adz.add (k * 2)))
 | 4, v, _ => v = .pointer (some ⟨(adz.add (k * 2)).block, (adz.add (k * 2)).off + 1, none⟩)
 | 5, v, _ => v = .slice (some ade) m ec
 | 6, v, _ => v = .slice vA nE vc
 | 7, v, _ => v = .int .i64 t
 | 8, v, _ => v = .int .i64 (hh : Int)
 | 9, v, _ => v = .pointer (some (ade.add (hh * 13)))
 | 10, v, _ => v = .agg #[.int .i64 std, .int .u8 ek, .int .i64 esv, .string ru, .string fm, .bool en, .int .i64 uy, .int .i64 mm, .int .u8 dk, .int .i64 dn, .int .i64 dd, .int .i64 sc, .int .u8 cc]
 | 11, v, _ => v = .int .i64 t
 | 12, v, _ => v = .int .i64 y
 | 13, v, _ => v = .agg #[.int .i64 std, .int .u8 ek, .int .i64 esv, .string ru, .string fm, .bool en, .int .i64 uy, .int .i64 mm, .int .u8 dk, .int .i64 dn, .int .i64 dd, .int .i64 sc, .int .u8 cc, .int .i64 t, .int .i64 y]
 | 14, _, _ => True
 | 15, _, _ => True
 | _, _, _ => True
theorem Q_mono {g : Nat} {k : Nat} {hh : Nat} {m : Nat} {ec : Nat} {n2 : Nat} {zc : Nat} {nE : Nat} {vc : Nat} {vA : Option Addr} {adz : Addr} {ade : Addr} {t : Int} {y : Int} {std : Int} {ek : Int} {esv : Int} {ru : ByteArray} {fm : ByteArray} {en : Bool} {uy : Int} {mm : Int} {dk : Int} {dn : Int} {dd : Int} {sc : Int} {cc : Int} : ∀ i v W W', Q g k hh m ec n2 zc nE vc vA adz ade t y std ek esv ru fm en uy mm dk dn dd sc cc i v W → Below W.heap.size W W' → Q g k hh m ec n2 zc nE vc vA adz ade t y std ek esv ru fm en uy mm dk dn dd sc cc i v W' := by
 intro _ v W W' h hb;unfold Q at h ⊢;split at h
 all_goals first | exact h
theorem Q_any {g : Nat} {k : Nat} {hh : Nat} {m : Nat} {ec : Nat} {n2 : Nat} {zc : Nat} {nE : Nat} {vc : Nat} {vA : Option Addr} {adz : Addr} {ade : Addr} {t : Int} {y : Int} {std : Int} {ek : Int} {esv : Int} {ru : ByteArray} {fm : ByteArray} {en : Bool} {uy : Int} {mm : Int} {dk : Int} {dn : Int} {dd : Int} {sc : Int} {cc : Int} : ∀ i v W W', Q g k hh m ec n2 zc nE vc vA adz ade t y std ek esv ru fm en uy mm dk dn dd sc cc i v W → Q g k hh m ec n2 zc nE vc vA adz ade t y std ek esv ru fm en uy mm dk dn dd sc cc i v W' := by
 intro _ v W W' h;unfold Q at h ⊢;split at h
 all_goals exact h
theorem sl_inj : ∀ j, j < 16 → ∀ k, k < 16 → sl j = sl k → j = k := by decide +kernel
theorem sl_no : ∀ j, j ∈ [1, 2, 3, 8, 10] → ∀ k, k < 16 → sl k ≠ j := by decide +kernel
end IdA
theorem idAt_any (s : Src.S) (z t : Int) (rv zv lv : Value) (evs : List Value) (w : World) (hR : Src.SrcR w w.heap.size s rv zv lv evs) (hS : Vd.Sz s) (hW : Wo w) (hA : Wa w) (hz : -9223372036854775808 ≤ z ∧ z < 9223372036854775808) (ht : -9223372036854775808 ≤ t ∧ t < 9223372036854775808)
  (hcc : ∀ x ∈ s.zones, ∀ e ∈ x.2, 0 ≤ e.u.c) (hwc : ∀ r ∈ s.rules, 0 ≤ r.c) :
  Calls Tryz.prog 60 #[.agg #[rv, zv, lv], .int .i64 z, .int .i64 t] w (Ln.AtRet (Ln.atT s z t) w) := by
 have HRu := Lib.hid (fun h : Vd.well s = true => Eg.rules_ok2 h hS.lims.rules);have HSm := Lib.hid hS.smw;have HWc := Lib.hid hwc;have HEn := Lib.hid (fun (W : World) (hR : Src.SrcR W W.heap.size s rv zv lv evs) (hW : Wo W) (hA : Wa W) => ends_any s z rv zv lv evs W hR hS hW hA hz hcc);have HR0 := Lib.hid hR;have hlen : (s.zones.zip evs).length = s.zones.length := by rw [List.length_zip, hR.len]; omega
 have hers := hR.eras;have hzn : ∀ k x, (s.zones.zip evs)[k]? = some x → s.zones[k]? = some x.1 ∧ x ∈ s.zones.zip evs := fun k x h => ⟨(List.getElem?_zip_eq_some.1 h).1, List.mem_of_getElem? h⟩
 have L2 := hS.lims.zones;obtain ⟨rA, rc, rfl, _⟩ := hR.rules;obtain ⟨zA, zc, rfl, hz1, hzc, hrz⟩ := hR.zones;obtain ⟨lA, lc, rfl, _⟩ := hR.links;obtain ⟨n1, hn1⟩ : ∃ n, s.rules.length = n := ⟨_, rfl⟩
 obtain ⟨n2, hn2⟩ : ∃ n, s.zones.length = n := ⟨_, rfl⟩
 obtain ⟨n3, hn3⟩ : ∃ n, s.links.length = n := ⟨_, rfl⟩
 rw [hn1, hn2, hn3] at HEn HR0;rw [hn2] at hrz hlen L2;rw [hn1, hn2, hn3];obtain ⟨Z, hZ⟩ : ∃ Z, Ln.atT s z t = Z := ⟨_, rfl⟩
 rw [hZ];unfold Ln.atT at hZ;obtain ⟨W1, hW1⟩ : ∃ W, (w.alloc (.cells #[.slice rA n1 rc, .slice zA n2 zc, .slice lA n3 lc] 26)).alloc (.cells #[.int .i64 0, .bool false, .string ⟨#[]⟩] 41) = W := ⟨_, rfl⟩
 have hb1 : Below w.heap.size w W1 := by rw [← hW1]; exact ((Below.refl w.heap.size w).alloc (Nat.le_refl _) _).alloc (by simp) _
 have hA1 : At W1 w.heap.size [.slice rA n1 rc, .slice zA n2 zc, .slice lA n3 lc] := by rw [← hW1]; exact (At.new _ _ _).allocO _
 have hX1 : At W1 (w.heap.size + 1) [.int .i64 0, .bool false, .string ⟨#[]⟩] := by
  rw [← hW1];have h := At.new (w.alloc (.cells #[.slice rA n1 rc, .slice zA n2 zc, .slice lA n3 lc] 26)) #[Value.int .i64 0, .bool false, .string ⟨#[]⟩] 41;rw [World.size_alloc] at h;exact h
 have HCl := Lib.hid (HEn.out W1 (HR0.out.call hb1) (hW.below hb1) (hA.below hb1));have HWo := Lib.hid hW;have HWa := Lib.hid hA;have HA1 := Lib.hid hA1;have HX1 := Lib.hid hX1;have HB1 := Lib.hid hb1;have HW1 := Lib.hid hW1;have HRz := Lib.hid hrz;have HLen := Lib.hid hlen;have HErs := Lib.hid hers;have HZn := Lib.hid hzn;have HN2 := Lib.hid hn2;have HZ := Lib.hid hZ;have hzw := hb1.size;obtain ⟨b0, b1, b2, _⟩ := hA1.three;clear hn1 hn2 hn3 hb1 hA1 hX1 hW1 hR hS hwc hcc hW hA hz hrz hlen hers hzn hZ;go_enter Tryz.func60, Tryz.ntmps60
 go_wp2_with fail
 rw [HW1.out];refine HCl.out.mono ?_;rintro e w2 ⟨hb2, (⟨hno, rfl⟩ | ⟨hwe, hno, rfl⟩ | ⟨x, v, hwe, hx, rfl, hown⟩)⟩
 ·have HB2 := Lib.hid (HB1.out.trans (hb2.mono HB1.out.size));have HX2 := Lib.hid (HX1.out.call hb2);have HEz : Hid (Z = (Ln.St.zero, 2)) := by
   show Z = _
   rw [← HZ.out, if_pos hno]
  clear hb2 hno b0 b1 b2 HZ;obtain ⟨y0, y1, y2, g0, g1, g2⟩ := HX2.out.three;have zY := HX2.out.lt;go_wp2_with fail
  have hF := ((HX2.out.set 0 (.int .i64 0)).set 1 (.bool false)).set 2 (.string ⟨#[]⟩);rw [HEz.out];refine bodyPost_ret (at_results (s := Ln.St.zero) rfl rfl (hF.cell 0 _ rfl) (hF.cell 1 _ rfl) (hF.cell 2 _ rfl)) rfl ⟨rfl, ?_⟩;exact ((HB2.out.setCell (p := ⟨w.heap.size + 1, 0, none⟩) (by show _ ≤ w.heap.size + 1; omega) _).setCell (p := ⟨w.heap.size + 1, 1, none⟩) (by show _ ≤ w.heap.size + 1; omega) _).setCell (p := ⟨w.heap.size + 1, 2, none⟩) (by show _ ≤ w.heap.size + 1; omega) _
 ·have HB2 := Lib.hid (HB1.out.trans (hb2.mono HB1.out.size));have HX2 := Lib.hid (HX1.out.call hb2);have HEz : Hid (Z = (Ln.St.zero, 3)) := by
   show Z = _
   rw [← HZ.out, if_neg (by rw [hwe]; decide), hno]
  clear hb2 hno hwe b0 b1 b2 HZ;obtain ⟨y0, y1, y2, g0, g1, g2⟩ := HX2.out.three;have zY := HX2.out.lt;go_wp2_with fail
  have hF := ((HX2.out.set 0 (.int .i64 0)).set 1 (.bool false)).set 2 (.string ⟨#[]⟩);rw [HEz.out];refine bodyPost_ret (at_results (s := Ln.St.zero) rfl rfl (hF.cell 0 _ rfl) (hF.cell 1 _ rfl) (hF.cell 2 _ rfl)) rfl ⟨rfl, ?_⟩;exact ((HB2.out.setCell (p := ⟨w.heap.size + 1, 0, none⟩) (by show _ ≤ w.heap.size + 1; omega) _).setCell (p := ⟨w.heap.size + 1, 1, none⟩) (by show _ ≤ w.heap.size + 1; omega) _).setCell (p := ⟨w.heap.size + 1, 2, none⟩) (by show _ ≤ w.heap.size + 1; omega) _
 have HB2 := Lib.hid (HB1.out.trans (hb2.mono HB1.out.size));have HX2 := Lib.hid (HX1.out.call hb2);have HA2 := Lib.hid (HA1.out.call hb2);have HZ2 : Hid ((if Ln.InT t then (Ln.stAt s.rules x.2 t, 0) else (Ln.St.zero, 1)) = Z) := by
  have h := HZ.out;rw [if_neg (by rw [hwe]; decide), hx] at h;exact h
 clear HZ b0 b1 b2;obtain ⟨vA, vc, rfl, hv1, hv2⟩ := own_slice_cap hown;have HOw := Lib.hid hown;clear hb2 hown
 by_cases hd : Ln.InDays t
 ·obtain ⟨y, hy⟩ : ∃ y, Ln.yr t = y := ⟨_, rfl⟩
  have HY := Lib.hid fun W => year_ok t W hd.1 hd.2
  have hy' : Cv.yearOf (t / 86400) = y := hy;rw [hy'] at HY;clear hy'
  by_cases hin : 2 ≤ y ∧ y ≤ 9998
  ·have HEz : Hid (Z = (Ln.stAt s.rules x.2 t, 0)) := by
    show Z = _
    rw [← HZ2.out, if_pos ⟨hd, by rw [hy]; exact hin.1, by rw [hy]; exact hin.2⟩]
   clear HZ2;have q1 : ¬ y ≤ 1 := by omega
   have q2 : ¬ 9999 ≤ y := by omega
   have hz0 : 0 ≤ z := by
    unfold Eg.zoneAt at hx;split at hx
    ·assumption
    ·cases hx
   obtain ⟨k, rfl⟩ : ∃ k : Nat, z = (k : Int) := ⟨z.toNat, by omega⟩
   have hxk : s.zones[k]? = some x := by
    unfold Eg.zoneAt at hx;rw [if_pos hz0] at hx;exact hx
   have hk : k < n2 := by
    rw [← HN2.out];exact (List.getElem?_eq_some_iff.1 hxk).1
   have hzo := Eg.zone_ok hwe (List.mem_of_getElem? hxk);obtain ⟨adz, x1, rfl, hab, Hx1, HL⟩ := Ix.reads_cells (enc := Src.zc) (m := 2) (fun _ => rfl) HLen.out HRz.out hk;obtain ⟨hzk, hzm⟩ := HZn.out k x1 Hx1.out;obtain rfl : x1.1 = x := by rw [hzk] at hxk; exact Option.some.inj hxk
   obtain ⟨eA, ec, he2, hmec, hec, hre⟩ := HErs.out x1 hzm;have hfsm := (HSm.out.zones _ (List.mem_of_getElem? hxk)).2;obtain ⟨es, hes⟩ : ∃ l, x1.1.2 = l := ⟨_, rfl⟩
   rw [hes] at he2 hre hzo hmec hfsm HOw HEz;unfold Ln.stAt at HEz;obtain ⟨L, hL⟩ : ∃ L, Eg.ends s.rules es = L := ⟨_, rfl⟩
   rw [hL] at HOw HEz;obtain ⟨m, hm⟩ : ∃ m, es.length = m := ⟨_, rfl⟩
   have hm64 := hzo.len;have hLl : L.length = m - 1 := by rw [← hL, Eg.ends_len, hm]
   rw [hm] at he2 hre hmec hm64;obtain ⟨hh, hhh⟩ : ∃ j, Ln.hold L t = j := ⟨_, rfl⟩
   have hhm : hh < m := by
    have := Ln.hold_le L t;omega
   rw [hhh] at HEz;obtain ⟨ade, xe, rfl, habe, Hxe, HLe⟩ := Ix.reads_cells (enc := Er.E.cells) (m := 13) (fun _ => rfl) hm hre hhm;have hge : es.getD hh Er.E.zero = xe := by rw [List.getD, Hxe.out]; rfl
   rw [hge] at HEz;have hxm := List.mem_of_getElem? Hxe.out;have hxo := hzo.ok xe hxm;have hfm := (hfsm xe hxm).1;have HRu2 := HRu.out hwe;have HSt := Lib.hid fun W (hb : Below w.heap.size w W) => idState_any s _ _ _ evs xe t y W (HR0.out.call hb) (HWo.out.below hb) (HWa.out.below hb) HRu2 HWc.out hxo.1 (Ln.ok_sv hxo) hfm hy hin (Ln.saved_ok HRu2 (Ln.ok_sv hxo) t)
   have HHo := Lib.hid fun W A c (hr : Reads W W.heap.size 1 A (m - 1) (Eg.i64s L)) => holds_any L t A (m - 1) c W hLl (by omega) hr
   rw [hhh] at HHo;obtain ⟨std, ek, esv, ru, fm, en, ⟨uy, mm, dk, dn, dd, sc, cc⟩⟩ := xe;simp only at HSt;obtain ⟨S, hS⟩ : ∃ S, Ln.stIn s.rules ⟨std, ek, esv, ru, fm, en, ⟨uy, mm, dk, dn, dd, sc, cc⟩⟩ t = S := ⟨_, rfl⟩
   rw [hS] at HSt HEz;have hal : (Eg.ends s.rules x1.1.2).length = m - 1 := by rw [hes, hL, hLl]
   have hO2 := HOw.out;rw [hLl] at hO2;obtain ⟨zb, hzb⟩ : ∃ t, Src.bts x1.1.1 = t := ⟨_, rfl⟩
   have d0 : ∀ W, Below w.heap.size w W → W.cell? ⟨(adz.add (k * 2)).block, (adz.add (k * 2)).off + 1, none⟩ = some (.slice (some ade) m ec) := fun W hb => by
    have hg := hb.block (adz.add (k * 2)).block (by rw [block_of_add]; exact hab);exact (World.cell?_of_block (by exact hg)).trans (by rw [← he2]; exact HL.out 1 _ rfl)
   have d1 : ∀ W, Below w.heap.size w W → ∀ (j : Nat) (v : Value), (Er.E.cells ⟨std, ek, esv, ru, fm, en, ⟨uy, mm, dk, dn, dd, sc, cc⟩⟩)[j]? = some v → W.cell? ((ade.add (hh * 13)).add j) = some v := fun W hb j v hj => by
    have hg := hb.block (ade.add (hh * 13)).block (by rw [block_of_add]; exact habe);rw [← HLe.out j v hj];exact World.cell?_of_block (by rw [block_of_add]; exact hg)
   have HD0 := Lib.hid d0;have HD1 := Lib.hid d1;have HO2 := Lib.hid hO2;have q3 : (0 : Int) ≤ (k : Int) := by omega
   have q4 : (k : Int) < (n2 : Int) := by omega
   have q5 : (0 : Int) ≤ (hh : Int) := by omega
   have q6 : (hh : Int) < (m : Int) := by omega
   have hzs : w.heap.size ≤ w2.heap.size := HB2.out.size;rw [hal];clear hz0 hx hxk hzo Hx1 HL hzk hzm he2 hre hfsm hes hL hm hLl hhh hge hxm hxo hfm HRu2 hS hal hO2 hzb d0 d1 HLe Hxe HOw hwe hab habe;go_wp2_with fail
   refine (HY.out _).mono ?_;rintro e w3 ⟨rfl, hb3⟩;have HB3 := Lib.hid (HB2.out.trans (hb3.mono HB2.out.size));have HX3 := Lib.hid (HX2.out.call hb3);have HA3 := Lib.hid (HA2.out.call hb3);have HO3 := Lib.hid (own_below HO2.out hb3);clear hb3;go_wp2_with fail
   obtain ⟨g, hg⟩ : ∃ g, w.heap.size = g := ⟨_, rfl⟩
   obtain ⟨nE, hnE⟩ : ∃ j, m - 1 = j := ⟨_, rfl⟩
   rw [hg] at HA3 HX3;rw [hnE] at HO3 HHo;rw [hg, hnE];have HG := Lib.hid hg;clear hg hnE;refine Od.wp_region_inv 55 (by kernel_rfl) (by rfl) (by rfl) (Od.ord_of (by kernel_rfl)) (Od.dst_of (by kernel_rfl)) (Rg.JS 14 IdA.sl (IdA.Q g k hh m ec n2 zc nE vc vA adz ade t y std ek esv ru fm en uy mm dk dn dd sc cc) w3 (Od.slots _) [.int .i64 0, .int .u8 0, .int .i64 0, .string ⟨#[]⟩, .string ⟨#[]⟩, .bool false, .int .i64 0, .int .i64 0, .int .u8 0, .int .i64 0, .int .i64 0, .int .i64 0, .int .u8 0, .int .i64 0, .int .i64 0] [.int .i64 std, .int .u8 ek, .int .i64 esv, .string ru, .string fm, .bool en, .int .i64 uy, .int .i64 mm, .int .u8 dk, .int .i64 dn, .int .i64 dd, .int .i64 sc, .int .u8 cc, .int .i64 t, .int .i64 y]) (Rg.JS.start _ _ _ ((Below.refl _ _).drew)) ?stepR ?finR
   case stepR =>
    intro i o hi b' a' wv hJ hb hdep hdf K hK;obtain ⟨tm, df⟩ := a';simp only at hdf;subst hdf;have hiN : i < 16 := (Array.getElem?_eq_some_iff.1 hi).1;have hsplit : i = 0 ∨ i = 1 ∨ i = 2 ∨ i = 3 ∨ i = 4 ∨ i = 5 ∨ i = 6 ∨ i = 7 ∨ i = 8 ∨ i = 9 ∨ i = 10 ∨ i = 11 ∨ i = 12 ∨ i = 13 ∨ i = 14 ∨ i = 15 := by omega
    rcases hsplit with rfl | rfl | rfl | rfl | rfl | rfl | rfl | rfl | rfl | rfl | rfl | rfl | rfl | rfl | rfl | rfl
    all_goals obtain rfl := sji (show some _ = some o from hi)
    all_goals first | rw [if_pos (show Region.wanted _ _ = true from rfl)] | skip
    all_goals (have h3 : tm.getD 3 undef = .pointer (some ⟨g, 0, none⟩) := (hJ.old 3 (IdA.sl_no 3 (by decide))).trans rfl;have h3' := gdq h3)
    all_goals try have v0 : tm.getD 38 undef = .pointer (some ⟨g, 1, none⟩) := by (refine hJ.val 0 (by decide) (hdep ⟨0, .data⟩ ?_ rfl); simp <;> fail)
    all_goals try have v0' := gdq v0
    all_goals have c0 := (HA3.out.call hJ.below).cell 1 _ rfl
    all_goals have z0 := (HA3.out.call hJ.below).lt
    all_goals (have h1 : tm.getD 1 undef = .int .i64 (k : Int) := (hJ.old 1 (IdA.sl_no 1 (by decide))).trans rfl;have h1' := gdq h1)
    all_goals try have v1 : tm.getD 39 undef = .slice (some adz) n2 zc := by (refine hJ.val 1 (by decide) (hdep ⟨1, .data⟩ ?_ rfl); simp <;> fail)
    all_goals try have v1' := gdq v1
    all_goals try have v2 : tm.getD 40 undef = .int .i64 (k : Int) := by (refine hJ.val 2 (by decide) (hdep ⟨2, .data⟩ ?_ rfl); simp <;> fail)
    all_goals try have v2' := gdq v2
    all_goals try have v3 : tm.getD 41 undef = .pointer (some (adz.add (k * 2))) := by (refine hJ.val 3 (by decide) (hdep ⟨3, .data⟩ ?_ rfl); simp <;> fail)
    all_goals try have v3' := gdq v3
    all_goals try have v4 : tm.getD 42 undef = .pointer (some ⟨(adz.add (k * 2)).block, (adz.add (k * 2)).off + 1, none⟩) := by (refine hJ.val 4 (by decide) (hdep ⟨4, .data⟩ ?_ rfl); simp <;> fail)
    all_goals try have v4' := gdq v4
    all_goals have c0 := HD0.out wv (HB3.out.trans (hJ.below.mono HB3.out.size))
    all_goals (have h8 : tm.getD 8 undef = .slice vA nE vc := (hJ.old 8 (IdA.sl_no 8 (by decide))).trans rfl;have h8' := gdq h8)
    all_goals (have h2 : tm.getD 2 undef = .int .i64 t := (hJ.old 2 (IdA.sl_no 2 (by decide))).trans rfl;have h2' := gdq h2)
    all_goals try have v5 : tm.getD 43 undef = .slice (some ade) m ec := by (refine hJ.val 5 (by decide) (hdep ⟨5, .data⟩ ?_ rfl); simp <;> fail)
    all_goals try have v5' := gdq v5
    all_goals try have v8 : tm.getD 46 undef = .int .i64 (hh : Int) := by (refine hJ.val 8 (by decide) (hdep ⟨8, .data⟩ ?_ rfl); simp <;> fail)
    all_goals try have v8' := gdq v8
    all_goals try have v9 : tm.getD 47 undef = .pointer (some (ade.add (hh * 13))) := by (refine hJ.val 9 (by decide) (hdep ⟨9, .data⟩ ?_ rfl); simp <;> fail)
    all_goals try have v9' := gdq v9
    all_goals have e0 : wv.cell? (ade.add (hh * 13)) = some (.int .i64 std) := HD1.out wv (HB3.out.trans (hJ.below.mono HB3.out.size)) 0 _ rfl
    all_goals have e1 : wv.cell? ⟨(ade.add (hh * 13)).block, (ade.add (hh * 13)).off + 1, none⟩ = some (.int .u8 ek) := HD1.out wv (HB3.out.trans (hJ.below.mono HB3.out.size)) 1 _ rfl
    all_goals have e2 : wv.cell? ⟨(ade.add (hh * 13)).block, (ade.add (hh * 13)).off + 2, none⟩ = some (.int .i64 esv) := HD1.out wv (HB3.out.trans (hJ.below.mono HB3.out.size)) 2 _ rfl
    all_goals have e3 : wv.cell? ⟨(ade.add (hh * 13)).block, (ade.add (hh * 13)).off + 3, none⟩ = some (.string ru) := HD1.out wv (HB3.out.trans (hJ.below.mono HB3.out.size)) 3 _ rfl
    all_goals have e4 : wv.cell? ⟨(ade.add (hh * 13)).block, (ade.add (hh * 13)).off + 4, none⟩ = some (.string fm) := HD1.out wv (HB3.out.trans (hJ.below.mono HB3.out.size)) 4 _ rfl
    all_goals have e5 : wv.cell? ⟨(ade.add (hh * 13)).block, (ade.add (hh * 13)).off + 5, none⟩ = some (.bool en) := HD1.out wv (HB3.out.trans (hJ.below.mono HB3.out.size)) 5 _ rfl
    all_goals have e6 : wv.cell? ⟨(ade.add (hh * 13)).block, (ade.add (hh * 13)).off + 6, none⟩ = some (.int .i64 uy) := HD1.out wv (HB3.out.trans (hJ.below.mono HB3.out.size)) 6 _ rfl
    all_goals have e7 : wv.cell? ⟨(ade.add (hh * 13)).block, (ade.add (hh * 13)).off + 7, none⟩ = some (.int .i64 mm) := HD1.out wv (HB3.out.trans (hJ.below.mono HB3.out.size)) 7 _ rfl
    all_goals have e8 : wv.cell? ⟨(ade.add (hh * 13)).block, (ade.add (hh * 13)).off + 8, none⟩ = some (.int .u8 dk) := HD1.out wv (HB3.out.trans (hJ.below.mono HB3.out.size)) 8 _ rfl
    all_goals have e9 : wv.cell? ⟨(ade.add (hh * 13)).block, (ade.add (hh * 13)).off + 9, none⟩ = some (.int .i64 dn) := HD1.out wv (HB3.out.trans (hJ.below.mono HB3.out.size)) 9 _ rfl
    all_goals have e10 : wv.cell? ⟨(ade.add (hh * 13)).block, (ade.add (hh * 13)).off + 10, none⟩ = some (.int .i64 dd) := HD1.out wv (HB3.out.trans (hJ.below.mono HB3.out.size)) 10 _ rfl
    all_goals have e11 : wv.cell? ⟨(ade.add (hh * 13)).block, (ade.add (hh * 13)).off + 11, none⟩ = some (.int .i64 sc) := HD1.out wv (HB3.out.trans (hJ.below.mono HB3.out.size)) 11 _ rfl
    all_goals have e12 : wv.cell? ⟨(ade.add (hh * 13)).block, (ade.add (hh * 13)).off + 12, none⟩ = some (.int .u8 cc) := HD1.out wv (HB3.out.trans (hJ.below.mono HB3.out.size)) 12 _ rfl
    all_goals (have h10 : tm.getD 10 undef = .int .i64 y := (hJ.old 10 (IdA.sl_no 10 (by decide))).trans rfl;have h10' := gdq h10)
    all_goals try have v10 : tm.getD 48 undef = .agg #[.int .i64 std, .int .u8 ek, .int .i64 esv, .string ru, .string fm, .bool en, .int .i64 uy, .int .i64 mm, .int .u8 dk, .int .i64 dn, .int .i64 dd, .int .i64 sc, .int .u8 cc] := by (refine hJ.val 10 (by decide) (hdep ⟨10, .data⟩ ?_ rfl); simp <;> fail)
    all_goals try have v10' := gdq v10
    all_goals try have v11 : tm.getD 49 undef = .int .i64 t := by (refine hJ.val 11 (by decide) (hdep ⟨11, .data⟩ ?_ rfl); simp <;> fail)
    all_goals try have v11' := gdq v11
    all_goals try have v12 : tm.getD 50 undef = .int .i64 y := by (refine hJ.val 12 (by decide) (hdep ⟨12, .data⟩ ?_ rfl); simp <;> fail)
    all_goals try have v12' := gdq v12
    all_goals first | (go_simp;exact hK _ _ (hJ.put IdA.Q_mono IdA.sl_inj (by decide) rfl)) | skip
    ·have v6 : tm.getD 44 undef = .slice vA nE vc := hJ.val 6 (by decide) (hdep ⟨6, .data⟩ (by simp) rfl);have v6' := gdq v6;have v7 : tm.getD 45 undef = .int .i64 t := hJ.val 7 (by decide) (hdep ⟨7, .data⟩ (by simp) rfl);have v7' := gdq v7;go_simp;refine (HHo.out wv vA vc (Reads.of_own (own_below HO3.out hJ.below))).mono ?_;rintro e w' ⟨rfl, hbm⟩;exact hK _ _ (hJ.step IdA.Q_mono IdA.sl_inj (by decide) hbm rfl)
    ·go_simp;exact hK _ _ (hJ.alloc IdA.Q_mono IdA.sl_inj hb ((Below.refl _ _).alloc (Nat.le_refl _) _) trivial rfl hJ.below.size (At.new _ _ _))
    ·obtain ⟨gb, v14, hgb, hAg⟩ : ∃ q, tm.getD 11 undef = .pointer (some ⟨q, 0, none⟩) ∧ w3.heap.size ≤ q ∧ At wv q [.int .i64 0, .int .u8 0, .int .i64 0, .string ⟨#[]⟩, .string ⟨#[]⟩, .bool false, .int .i64 0, .int .i64 0, .int .u8 0, .int .i64 0, .int .i64 0, .int .i64 0, .int .u8 0, .int .i64 0, .int .i64 0] := hJ.al (hdep ⟨14, .data⟩ (by simp) rfl) hb;have v14' := (Array.getD_eq_getD_getElem? (xs := tm) (i := 11) (d := undef)).symm.trans v14;have v13 : tm.getD 51 undef = .agg #[.int .i64 std, .int .u8 ek, .int .i64 esv, .string ru, .string fm, .bool en, .int .i64 uy, .int .i64 mm, .int .u8 dk, .int .i64 dn, .int .i64 dd, .int .i64 sc, .int .u8 cc, .int .i64 t, .int .i64 y] := hJ.val 13 (by decide) (hdep ⟨13, .data⟩ (by simp) rfl);have v13' := gdq v13;have k0 := hAg.cell 0 _ rfl;have k1 := hAg.cell 1 _ rfl;have k2 := hAg.cell 2 _ rfl;have k3 := hAg.cell 3 _ rfl;have k4 := hAg.cell 4 _ rfl;have k5 := hAg.cell 5 _ rfl;have k6 := hAg.cell 6 _ rfl;have k7 := hAg.cell 7 _ rfl;have k8 := hAg.cell 8 _ rfl;have k9 := hAg.cell 9 _ rfl;have k10 := hAg.cell 10 _ rfl;have k11 := hAg.cell 11 _ rfl;have k12 := hAg.cell 12 _ rfl;have k13 := hAg.cell 13 _ rfl;have k14 := hAg.cell 14 _ rfl;have f0 := hAg.free 0 _ rfl;have f1 := hAg.free 1 _ rfl;have f2 := hAg.free 2 _ rfl;have f3 := hAg.free 3 _ rfl;have f4 := hAg.free 4 _ rfl;have f5 := hAg.free 5 _ rfl;have f6 := hAg.free 6 _ rfl;have f7 := hAg.free 7 _ rfl;have f8 := hAg.free 8 _ rfl;have f9 := hAg.free 9 _ rfl;have f10 := hAg.free 10 _ rfl
     have f11 := hAg.free 11 _ rfl;have f12 := hAg.free 12 _ rfl;have f13 := hAg.free 13 _ rfl;have f14 := hAg.free 14 _ rfl;have zg := hAg.lt;have hb14 := hdep ⟨14, .data⟩ (by simp) rfl;go_simp;exact hK undef _ (hJ.store IdA.Q_any (fun _ _ => trivial) hb14 ((((((((((((((((Below.refl _ _).setCell (p := ⟨gb, 0, none⟩) hgb (.int .i64 std)).setCell (p := ⟨gb, 1, none⟩) hgb (.int .u8 ek)).setCell (p := ⟨gb, 2, none⟩) hgb (.int .i64 esv)).setCell (p := ⟨gb, 3, none⟩) hgb (.string ru)).setCell (p := ⟨gb, 4, none⟩) hgb (.string fm)).setCell (p := ⟨gb, 5, none⟩) hgb (.bool en)).setCell (p := ⟨gb, 6, none⟩) hgb (.int .i64 uy)).setCell (p := ⟨gb, 7, none⟩) hgb (.int .i64 mm)).setCell (p := ⟨gb, 8, none⟩) hgb (.int .u8 dk)).setCell (p := ⟨gb, 9, none⟩) hgb (.int .i64 dn)).setCell (p := ⟨gb, 10, none⟩) hgb (.int .i64 dd)).setCell (p := ⟨gb, 11, none⟩) hgb (.int .i64 sc)).setCell (p := ⟨gb, 12, none⟩) hgb (.int .u8 cc)).setCell (p := ⟨gb, 13, none⟩) hgb (.int .i64 t)).setCell (p := ⟨gb, 14, none⟩) hgb (.int .i64 y)) v14 hgb (((((((((((((((hAg.set 0 (.int .i64 std)).set 1 (.int .u8 ek)).set 2 (.int .i64 esv)).set 3 (.string ru)).set 4 (.string fm)).set 5 (.bool en)).set 6 (.int .i64 uy)).set 7 (.int .i64 mm)).set 8 (.int .u8 dk)).set 9 (.int .i64 dn)).set 10 (.int .i64 dd)).set 11 (.int .i64 sc)).set 12 (.int .u8 cc)).set 13 (.int .i64 t)).set 14 (.int .i64 y)))
   case finR =>
    intro a' W5 hJ hN hdf;have s3 : a'.tmps.getD 3 undef = .pointer (some ⟨g, 0, none⟩) := (hJ.old 3 (IdA.sl_no 3 (by decide))).trans rfl;have s6 : a'.tmps.getD 6 undef = .pointer (some ⟨g + 1, 0, none⟩) := (hJ.old 6 (by decide +kernel)).trans rfl;obtain ⟨bb, s11, hbb, hAb⟩ : ∃ q, a'.tmps.getD 11 undef = .pointer (some ⟨q, 0, none⟩) ∧ w3.heap.size ≤ q ∧ At W5 q [.int .i64 std, .int .u8 ek, .int .i64 esv, .string ru, .string fm, .bool en, .int .i64 uy, .int .i64 mm, .int .u8 dk, .int .i64 dn, .int .i64 dd, .int .i64 sc, .int .u8 cc, .int .i64 t, .int .i64 y] := hJ.st (by rfl);have hb9 := hJ.below;have ef : a' = { tmps := ((List.range 55).map fun i => a'.tmps.getD i undef).toArray, defers := [] } := Rg.frame_of 55 a' hN hdf;obtain ⟨u, hu⟩ : ∃ u : Nat → Value, (fun i => a'.tmps.getD i undef) = u := ⟨_, rfl⟩
    rw [hu] at ef;have e3 : u 3 = .pointer (some ⟨g, 0, none⟩) := by rw [← hu]; exact s3
    have e6 : u 6 = .pointer (some ⟨g + 1, 0, none⟩) := by rw [← hu]; exact s6
    have e11 : u 11 = .pointer (some ⟨bb, 0, none⟩) := by rw [← hu]; exact s11
    have ef2 : a' = { tmps := (u 0 :: u 1 :: u 2 :: u 3 :: u 4 :: u 5 :: u 6 :: u 7 :: u 8 :: u 9 :: u 10 :: u 11 :: u 12 :: u 13 :: u 14 :: u 15 :: u 16 :: u 17 :: u 18 :: u 19 :: u 20 :: u 21 :: u 22 :: u 23 :: u 24 :: u 25 :: u 26 :: u 27 :: u 28 :: u 29 :: u 30 :: u 31 :: u 32 :: u 33 :: u 34 :: u 35 :: u 36 :: u 37 :: u 38 :: u 39 :: u 40 :: u 41 :: u 42 :: u 43 :: u 44 :: u 45 :: u 46 :: u 47 :: u 48 :: u 49 :: u 50 :: u 51 :: u 52 :: u 53 :: u 54 :: [] : List Value).toArray, defers := [] } := ef;rw [e3, e6, e11] at ef2;rw [ef2];clear hJ hN hdf ef ef2 hu e3 s3 e6 s6 e11 s11;have HB5 := Lib.hid (HB3.out.trans (hb9.mono HB3.out.size));have HX5 := Lib.hid (HX3.out.call hb9);have HA5 := Lib.hid (HA3.out.call hb9);have HAb := Lib.hid hAb;clear hb9 hAb;obtain ⟨a0, a1, a2, _⟩ := HA5.out.three;have zA := HA5.out.lt;have h0 := HAb.out.cell 0 _ rfl;have h1 := HAb.out.cell 1 _ rfl;have h2 := HAb.out.cell 2 _ rfl;have h3 := HAb.out.cell 3 _ rfl;have h4 := HAb.out.cell 4 _ rfl;have h5 := HAb.out.cell 5 _ rfl;have h6 := HAb.out.cell 6 _ rfl;have h7 := HAb.out.cell 7 _ rfl;have h8 := HAb.out.cell 8 _ rfl;have h9 := HAb.out.cell 9 _ rfl;have h10 := HAb.out.cell 10 _ rfl;have h11 := HAb.out.cell 11 _ rfl;have h12 := HAb.out.cell 12 _ rfl;have h13 := HAb.out.cell 13 _ rfl;have h14 := HAb.out.cell 14 _ rfl;have zB := HAb.out.lt;go_wp2_with fail
    refine (HSt.out W5 HB5.out).mono ?_;rintro r w6 ⟨rfl, hb6⟩;have HB6 := Lib.hid (HB5.out.trans (hb6.mono HB5.out.size));have HX6 := Lib.hid (HX5.out.call hb6);clear hb6 a0 a1 a2 zA h0 h1 h2 h3 h4 h5 h6 h7 h8 h9 h10 h11 h12 h13 h14 zB;obtain ⟨y0, y1, y2, g0, g1, g2⟩ := HX6.out.three;have zY := HX6.out.lt;obtain ⟨so, sd, sa⟩ := S;unfold Ln.St.v;simp only;go_wp2_with fail
    have hF := ((HX6.out.set 0 (.int .i64 so)).set 1 (.bool sd)).set 2 (.string sa);rw [HEz.out];refine bodyPost_ret (at_results (s := ⟨so, sd, sa⟩) rfl rfl (hF.cell 0 _ rfl) (hF.cell 1 _ rfl) (hF.cell 2 _ rfl)) rfl ⟨rfl, ?_⟩;have hgw := HG.out;exact ((HB6.out.setCell (p := ⟨g + 1, 0, none⟩) (by show _ ≤ g + 1; omega) _).setCell (p := ⟨g + 1, 1, none⟩) (by show _ ≤ g + 1; omega) _).setCell (p := ⟨g + 1, 2, none⟩) (by show _ ≤ g + 1; omega) _
  ·have HEz : Hid (Z = (Ln.St.zero, 1)) := by
    show Z = _
    rw [← HZ2.out, if_neg (fun h => hin (by rw [← hy]; exact ⟨h.2.1, h.2.2⟩))]
   have hc : y ≤ 1 ∨ (¬ y ≤ 1 ∧ 9999 ≤ y) := by omega
   clear hin HZ2;rcases hc with k1 | ⟨k1, k2⟩
   all_goals
    go_wp2_with fail
    refine (HY.out _).mono ?_;rintro e w3 ⟨rfl, hb3⟩;have HB3 := Lib.hid (HB2.out.trans (hb3.mono HB2.out.size));have HX3 := Lib.hid (HX2.out.call hb3);clear hb3;obtain ⟨y0, y1, y2, g0, g1, g2⟩ := HX3.out.three;have zY := HX3.out.lt;go_wp2_with fail
    have hF := ((HX3.out.set 0 (.int .i64 0)).set 1 (.bool false)).set 2 (.string ⟨#[]⟩);rw [HEz.out];refine bodyPost_ret (at_results (s := Ln.St.zero) rfl rfl (hF.cell 0 _ rfl) (hF.cell 1 _ rfl) (hF.cell 2 _ rfl)) rfl ⟨rfl, ?_⟩;exact ((HB3.out.setCell (p := ⟨w.heap.size + 1, 0, none⟩) (by show _ ≤ w.heap.size + 1; omega) _).setCell (p := ⟨w.heap.size + 1, 1, none⟩) (by show _ ≤ w.heap.size + 1; omega) _).setCell (p := ⟨w.heap.size + 1, 2, none⟩) (by show _ ≤ w.heap.size + 1; omega) _
 ·have HY := Lib.hid fun W => year_bad t W ht.1 (by omega) hd
  have HEz : Hid (Z = (Ln.St.zero, 1)) := by
   show Z = _
   rw [← HZ2.out, if_neg (fun h => hd h.1)]
  clear HZ2;go_wp2_with fail
  refine (HY.out _).mono ?_;rintro e w3 ⟨rfl, hb3⟩;have HB3 := Lib.hid (HB2.out.trans (hb3.mono HB2.out.size));have HX3 := Lib.hid (HX2.out.call hb3);clear hb3;obtain ⟨y0, y1, y2, g0, g1, g2⟩ := HX3.out.three;have zY := HX3.out.lt;go_wp2_with fail
  have hF := ((HX3.out.set 0 (.int .i64 0)).set 1 (.bool false)).set 2 (.string ⟨#[]⟩);rw [HEz.out];refine bodyPost_ret (at_results (s := Ln.St.zero) rfl rfl (hF.cell 0 _ rfl) (hF.cell 1 _ rfl) (hF.cell 2 _ rfl)) rfl ⟨rfl, ?_⟩;exact ((HB3.out.setCell (p := ⟨w.heap.size + 1, 0, none⟩) (by show _ ≤ w.heap.size + 1; omega) _).setCell (p := ⟨w.heap.size + 1, 1, none⟩) (by show _ ≤ w.heap.size + 1; omega) _).setCell (p := ⟨w.heap.size + 1, 2, none⟩) (by show _ ≤ w.heap.size + 1; omega) _
end Go.Proofs.YtjobhjemnmleaaaGreatDoor
