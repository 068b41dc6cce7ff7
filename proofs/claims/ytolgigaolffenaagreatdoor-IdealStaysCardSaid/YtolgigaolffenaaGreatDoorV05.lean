/- ideal.Named. -/
import Derived.Test.YtolgigaolffenaaGreatDoorQ01
import Derived.Test.YtolgigaolffenaaGreatDoorQ02
import Derived.Test.YtolgigaolffenaaGreatDoorQ03
import Derived.Test.YtolgigaolffenaaGreatDoorQ04
import Derived.Test.YtolgigaolffenaaGreatDoorQ05
import Derived.Test.YtolgigaolffenaaGreatDoorQ06
import Derived.Test.YtolgigaolffenaaGreatDoorQ07
import Derived.Test.YtolgigaolffenaaGreatDoorQ08
import Derived.Test.YtolgigaolffenaaGreatDoorQ09
import Derived.Test.YtolgigaolffenaaGreatDoorQ10
import Derived.Test.YtolgigaolffenaaGreatDoorQ11
import Derived.Test.YtolgigaolffenaaGreatDoorQ12
import Derived.Test.YtolgigaolffenaaGreatDoorQ13
import Derived.Test.YtolgigaolffenaaGreatDoorQ14
import Derived.Test.YtolgigaolffenaaGreatDoorQ15
import Derived.Test.YtolgigaolffenaaGreatDoorQ16
import Derived.Test.YtolgigaolffenaaGreatDoorQ17
import Derived.Test.YtolgigaolffenaaGreatDoorQ18
import Derived.Test.YtolgigaolffenaaGreatDoorQ19
import Derived.Test.YtolgigaolffenaaGreatDoorQ20
import Derived.Test.YtolgigaolffenaaGreatDoorQ21
import Derived.Test.YtolgigaolffenaaGreatDoorQ22
import Derived.Test.YtolgigaolffenaaGreatDoorQ23
import Derived.Test.YtolgigaolffenaaGreatDoorQ24
import Derived.Test.YtolgigaolffenaaGreatDoorQ25
import Derived.Test.YtolgigaolffenaaGreatDoorQ26
import Derived.Test.YtolgigaolffenaaGreatDoorQ27
import Derived.Test.YtolgigaolffenaaGreatDoorQ29
import Derived.Test.YtolgigaolffenaaGreatDoorQ32
import Derived.Test.YtolgigaolffenaaGreatDoorQ36
import Derived.Test.YtolgigaolffenaaGreatDoorV04

namespace Go.Proofs.YtolgigaolffenaaGreatDoor
open Go.RowKit Go.Shelf

theorem Lk.find_bd (zn ln tg : List ByteArray) : ∀ (f : Nat) (K : Lk.Kn) (x : ByteArray), (∀ y e, K y = some e → 0 ≤ e.1 ∧ e.1 ≤ zn.length) → 0 ≤ (Lk.find zn ln tg f K x).2.1 ∧ (Lk.find zn ln tg f K x).2.1 ≤ zn.length
  | 0, K, x, _ => ⟨Int.le_refl _, by show (0 : Int) ≤ _; omega⟩
  | f + 1, K, x, hK => by
    unfold Lk.find
    split
    · rename_i e he
      exact hK _ _ he
    · split
      · rename_i i hi
        have := (List.getElem?_eq_some_iff.1 (Lk.first_some hi)).1
        exact ⟨by show (0 : Int) ≤ (i : Int); omega, by show (i : Int) ≤ _; omega⟩
      · split
        · exact ⟨Int.le_refl _, by show (0 : Int) ≤ _; omega⟩
        · refine Lk.find_bd zn ln tg f _ _ ?_
          intro y e he
          unfold Lk.mark at he
          split at he
          · cases he
            exact ⟨Int.le_refl _, by show (0 : Int) ≤ _; omega⟩
          · exact hK _ _ he
theorem walk_bd (s : Src.S) (name : ByteArray) (h : s.zones.length ≤ 1024) : 0 ≤ (Lk.walk s name).2.1 ∧ (Lk.walk s name).2.1 < 9223372036854775808 := by
  have h1 := Lk.find_bd (Lk.zn s) (Lk.ln s) (Lk.tg s) (s.links.length + 1) (fun _ => none) name (fun _ _ e => by cases e)
  have h2 : (Lk.zn s).length = s.zones.length := by unfold Lk.zn; rw [List.length_map]
  unfold Lk.walk
  omega
set_option maxHeartbeats 8000000 in
set_option maxRecDepth 100000 in
theorem idNamed_any (s : Src.S) (name : ByteArray) (t : Int) (rv zv lv : Value) (evs : List Value) (w : World) (hR : Src.SrcR w w.heap.size s rv zv lv evs) (hS : Vd.Sz s) (hW : Wo w) (hA : Wa w) (hnm : name.size ≤ maxLen) (ht : -9223372036854775808 ≤ t ∧ t < 9223372036854775808)
    (hcc : ∀ x ∈ s.zones, ∀ e ∈ x.2, 0 ≤ e.u.c) (hwc : ∀ r ∈ s.rules, 0 ≤ r.c) :
    Calls Tryz.prog 12 #[.agg #[rv, zv, lv], .string name, .int .i64 t] w (Ln.AtRet (Ln.namedT s name t) w) := by
  have hzb := walk_bd s name hS.lims.zones
  have HVd := Lib.hid fun (W : World) (hR : Src.SrcR W W.heap.size s rv zv lv evs) (hW : Wo W) (hA : Wa W) => vdWell_any s rv zv lv evs W hR hS hW hA
  have HLk := Lib.hid fun (W : World) (hR : Src.SrcR W W.heap.size s rv zv lv evs) => linkZone_any s rv zv lv evs name W hR hS.nm hnm
  have HAt := Lib.hid fun (W : World) (hR : Src.SrcR W W.heap.size s rv zv lv evs) (hW : Wo W) (hA : Wa W) => idAt_any s (Lk.walk s name).2.1 t rv zv lv evs W hR hS hW hA (by omega) ht hcc hwc
  have HR0 := Lib.hid hR
  obtain ⟨rA, rc, rfl, _⟩ := hR.rules
  obtain ⟨zA, zc, rfl, _⟩ := hR.zones
  obtain ⟨lA, lc, rfl, _⟩ := hR.links
  obtain ⟨n1, hn1⟩ : ∃ n, s.rules.length = n := ⟨_, rfl⟩
  obtain ⟨n2, hn2⟩ : ∃ n, s.zones.length = n := ⟨_, rfl⟩
  obtain ⟨n3, hn3⟩ : ∃ n, s.links.length = n := ⟨_, rfl⟩
  rw [hn1, hn2, hn3] at HVd HLk HAt HR0
  rw [hn1, hn2, hn3]
  obtain ⟨Z, hZ⟩ : ∃ Z, Ln.namedT s name t = Z := ⟨_, rfl⟩
  rw [hZ]
  unfold Ln.namedT at hZ
  obtain ⟨z0, hz0⟩ : ∃ z, (Lk.walk s name).2.1 = z := ⟨_, rfl⟩
  obtain ⟨y0, hy0⟩ : ∃ z, (Lk.walk s name).2.2 = z := ⟨_, rfl⟩
  rw [hz0] at HAt hZ
  rw [hz0, hy0] at HLk
  rw [hy0] at hZ
  obtain ⟨X, hX⟩ : ∃ X, Ln.atT s z0 t = X := ⟨_, rfl⟩
  rw [hX] at HAt hZ
  obtain ⟨bw, hbw⟩ : ∃ b, Vd.well s = b := ⟨_, rfl⟩
  rw [hbw] at HVd hZ
  obtain ⟨W1, hW1⟩ : ∃ W, (w.alloc (.cells #[.slice rA n1 rc, .slice zA n2 zc, .slice lA n3 lc] 26)).alloc (.cells #[.int .i64 0, .bool false, .string ⟨#[]⟩] 31) = W := ⟨_, rfl⟩
  have hb1 : Below w.heap.size w W1 := by rw [← hW1]; exact ((Below.refl w.heap.size w).alloc (Nat.le_refl _) _).alloc (by simp) _
  have hA1 : At W1 w.heap.size [.slice rA n1 rc, .slice zA n2 zc, .slice lA n3 lc] := by rw [← hW1]; exact (At.new _ _ _).allocO _
  have hX1 : At W1 (w.heap.size + 1) [.int .i64 0, .bool false, .string ⟨#[]⟩] := by
    rw [← hW1]
    have h := At.new (w.alloc (.cells #[.slice rA n1 rc, .slice zA n2 zc, .slice lA n3 lc] 26)) #[Value.int .i64 0, .bool false, .string ⟨#[]⟩] 31
    rw [World.size_alloc] at h
    exact h
  have HWo := Lib.hid hW
  have HWa := Lib.hid hA
  have HA1 := Lib.hid hA1
  have HX1 := Lib.hid hX1
  have HB1 := Lib.hid hb1
  have HW1 := Lib.hid hW1
  have HZ := Lib.hid hZ
  have hzw := hb1.size
  have HC1 := Lib.hid (HVd.out W1 (HR0.out.call hb1) (hW.below hb1) (hA.below hb1))
  obtain ⟨b0, b1, b2, _⟩ := hA1.three
  clear hn1 hn2 hn3 hb1 hA1 hX1 hW1 hR hS hwc hcc hW hA hZ hX hbw hz0 hy0 hnm ht hzb
  go_enter Tryz.func12, Tryz.ntmps12
  go_wp2_with fail
  rw [HW1.out]
  refine HC1.out.mono ?_
  rintro e w2 ⟨rfl, hb2⟩
  have HB2 := Lib.hid (HB1.out.trans (hb2.mono HB1.out.size))
  have HX2 := Lib.hid (HX1.out.call hb2)
  have HA2 := Lib.hid (HA1.out.call hb2)
  clear hb2 b0 b1 b2
  cases bw with
  | false =>
    have HEz : Hid (Z = (Ln.St.zero, 2)) := by
      show Z = _
      rw [← HZ.out, if_pos rfl]
    clear HZ
    obtain ⟨y0, y1, y2, g0, g1, g2⟩ := HX2.out.three
    have zY := HX2.out.lt
    go_wp2_with fail
    have hF := ((HX2.out.set 0 (.int .i64 0)).set 1 (.bool false)).set 2 (.string ⟨#[]⟩)
    rw [HEz.out]
    refine bodyPost_ret (named_results (s := Ln.St.zero) rfl rfl (hF.cell 0 _ rfl) (hF.cell 1 _ rfl) (hF.cell 2 _ rfl)) rfl ⟨rfl, ?_⟩
    exact ((HB2.out.setCell (p := ⟨w.heap.size + 1, 0, none⟩) (by show _ ≤ w.heap.size + 1; omega) _).setCell (p := ⟨w.heap.size + 1, 1, none⟩) (by show _ ≤ w.heap.size + 1; omega) _).setCell (p := ⟨w.heap.size + 1, 2, none⟩) (by show _ ≤ w.heap.size + 1; omega) _
  | true =>
    obtain ⟨a0, a1, a2, _⟩ := HA2.out.three
    have zA2 := HA2.out.lt
    have HC2 := Lib.hid (HLk.out w2 (HR0.out.call HB2.out))
    go_wp2_with fail
    refine HC2.out.mono ?_
    rintro e w3 ⟨rfl, hb3⟩
    have HB3 := Lib.hid (HB2.out.trans (hb3.mono HB2.out.size))
    have HX3 := Lib.hid (HX2.out.call hb3)
    have HA3 := Lib.hid (HA2.out.call hb3)
    clear hb3 a0 a1 a2 zA2
    by_cases hy : y0 = 0
    · subst hy
      have HEz : Hid (Z = X) := by
        show Z = _
        rw [← HZ.out, if_neg (by decide), if_neg (by decide)]
      clear HZ
      obtain ⟨a0, a1, a2, _⟩ := HA3.out.three
      have zA3 := HA3.out.lt
      obtain ⟨y0, y1, y2, g0, g1, g2⟩ := HX3.out.three
      have HC3 := Lib.hid (HAt.out w3 (HR0.out.call HB3.out) (HWo.out.below HB3.out) (HWa.out.below HB3.out))
      go_wp2_with fail
      refine HC3.out.mono ?_
      rintro e w4 ⟨rfl, hb4⟩
      have HB4 := Lib.hid (HB3.out.trans (hb4.mono HB3.out.size))
      have HX4 := Lib.hid (HX3.out.call hb4)
      clear hb4 a0 a1 a2 zA3 y0 y1 y2 g0 g1 g2
      obtain ⟨y0, y1, y2, g0, g1, g2⟩ := HX4.out.three
      have zY := HX4.out.lt
      obtain ⟨⟨so, sd, sa⟩, xe⟩ := X
      unfold Ln.St.v
      simp only
      go_wp2_with fail
      have hF := ((HX4.out.set 0 (.int .i64 so)).set 1 (.bool sd)).set 2 (.string sa)
      rw [HEz.out]
      refine bodyPost_ret (named_results (s := ⟨so, sd, sa⟩) rfl rfl (hF.cell 0 _ rfl) (hF.cell 1 _ rfl) (hF.cell 2 _ rfl)) rfl ⟨rfl, ?_⟩
      exact ((HB4.out.setCell (p := ⟨w.heap.size + 1, 0, none⟩) (by show _ ≤ w.heap.size + 1; omega) _).setCell (p := ⟨w.heap.size + 1, 1, none⟩) (by show _ ≤ w.heap.size + 1; omega) _).setCell (p := ⟨w.heap.size + 1, 2, none⟩) (by show _ ≤ w.heap.size + 1; omega) _
    · have HEz : Hid (Z = (Ln.St.zero, y0)) := by
        show Z = _
        rw [← HZ.out, if_neg (by decide), if_pos hy]
      have qy : (y0 != 0) = true := by simpa using hy
      clear HZ
      obtain ⟨x0, x1, x2, g0, g1, g2⟩ := HX3.out.three
      have zY := HX3.out.lt
      go_wp2_with fail
      have hF := ((HX3.out.set 0 (.int .i64 0)).set 1 (.bool false)).set 2 (.string ⟨#[]⟩)
      rw [HEz.out]
      refine bodyPost_ret (named_results (s := Ln.St.zero) rfl rfl (hF.cell 0 _ rfl) (hF.cell 1 _ rfl) (hF.cell 2 _ rfl)) rfl ⟨rfl, ?_⟩
      exact ((HB3.out.setCell (p := ⟨w.heap.size + 1, 0, none⟩) (by show _ ≤ w.heap.size + 1; omega) _).setCell (p := ⟨w.heap.size + 1, 1, none⟩) (by show _ ≤ w.heap.size + 1; omega) _).setCell (p := ⟨w.heap.size + 1, 2, none⟩) (by show _ ≤ w.heap.size + 1; omega) _
end Go.Proofs.YtolgigaolffenaaGreatDoor

/- What a line says at each instant. -/
namespace Go.Proofs.YtolgigaolffenaaGreatDoor
open Go.RowKit

namespace Ln
theorem atT_of {s : Src.S} {z t : Int} {x : Src.Txt × List Er.E} (hw : Vd.well s = true) (hx : Eg.zoneAt s z = some x) (ht : InT t) : atT s z t = (stAt s.rules x.2 t, 0) := by
  unfold atT
  rw [if_neg (by rw [hw]; decide), hx]
  simp only
  rw [if_pos ht]
end Ln
end Go.Proofs.YtolgigaolffenaaGreatDoor

/- Clocks that are set unlike in one era: a rule occurs between. -/
namespace Go.Proofs.YtolgigaolffenaaGreatDoor
open Go.RowKit

namespace Ln
theorem between {rules : List Ru.R} {e : Er.E} {t u lo hi : Int} (hr : ∀ r ∈ rules, IsTime r.sv) (hs : IsTime e.std) (ht : InDays t) (hu : InDays u) (h1 : lo + 1 ≤ yr t) (h2 : yr t + 1 ≤ hi) (h3 : lo + 1 ≤ yr u) (h4 : yr u + 1 ≤ hi) (htu : t ≤ u)
    (h : stIn rules e t ≠ stIn rules e u) : e.k = 2 ∧ ∃ o ∈ Oc.of (Src.ofName e.ru rules) lo hi, t < Oc.ti e.std o ∧ Oc.ti e.std o ≤ u := by
  have key : occAt rules e t ≠ occAt rules e u := fun e1 => h (by
    have e2 : savedAt rules e t = savedAt rules e u := by unfold savedAt; rw [e1]
    unfold stIn
    rw [e2])
  have k2 : e.k = 2 := Classical.byContradiction fun hk => key (by unfold occAt; rw [if_neg hk, if_neg hk])
  refine ⟨k2, Classical.byContradiction fun hn => key ?_⟩
  rw [← occ_any hr hs k2 ht h1 h2, ← occ_any hr hs k2 hu h3 h4]
  unfold Oc.lastP
  congr 1
  refine List.filter_congr fun o ho => ?_
  have : ¬ (t < Oc.ti e.std o ∧ Oc.ti e.std o ≤ u) := fun hh => hn ⟨o, ho, hh⟩
  rw [decide_eq_decide]
  omega
theorem hold_lt {ends : List Int} {t u : Int} (h : t ≤ u) (hne : hold ends t ≠ hold ends u) : hold ends t < hold ends u := by
  have := hold_mono ends t u h
  omega
theorem of_ins {l : List Ru.R} {lo hi std : Int} {o : Oc.E} (hl : ∀ r ∈ l, IsTime r.sv) (hs : IsTime std) (ho : o ∈ Oc.of l lo hi) : Mo.ins o.n o.c std o.bf = (Oc.ti std o, 0) := by
  unfold Oc.of at ho
  obtain ⟨e, he, rfl⟩ := List.mem_map.1 ho
  have hev : Oc.Ev l e := ((Oc.mem_ofU e).1 ((Oc.mem_isort e _).1 he)).1
  have h := (Oc.tI_bd hl hs hev).1
  show Mo.ins e.n e.c std (Oc.before l e) = ((Mo.ins e.n e.c std (Oc.before l e)).1, 0)
  rw [← h]
theorem yr_near {t : Int} (h1 : -4070908800 ≤ t) (h2 : t ≤ 4110908800) : InDays t ∧ 1801 ≤ yr t ∧ yr t + 1 ≤ 2110 := by
  have hd : InDays t := by unfold InDays; omega
  have k := yr_bd hd
  have a : Oc.D 1801 = -61726 := by decide
  have b : Oc.D 2109 = 50769 := by decide
  refine ⟨hd, ?_, ?_⟩
  · by_cases q : 1801 ≤ yr t
    · exact q
    · have := Oc.D_mono (show yr t + 1 ≤ 1801 by omega)
      omega
  · by_cases q : yr t + 1 ≤ 2110
    · exact q
    · have := Oc.D_mono (show 2109 ≤ yr t by omega)
      omega
end Ln
end Go.Proofs.YtolgigaolffenaaGreatDoor

/- Where names lead, with what is known: in a source whose names all lead. -/
namespace Go.Proofs.YtolgigaolffenaaGreatDoor
open Go.RowKit

namespace Lk
def Ds (s : Src.S) : Nat → ByteArray → Nat → Prop
  | 0, x, p => first (zn s) x = some p
  | n + 1, x, p => first (zn s) x = none ∧ ∃ j, first (ln s) x = some j ∧ Ds s n ((tg s).getD j ⟨#[]⟩) p
theorem ds_good {s : Src.S} : ∀ {n : Nat} {x : ByteArray} {p : Nat}, Ds s n x p → Vd.Good s n x
  | 0, _, _, h => List.mem_of_getElem? (first_some h)
  | _ + 1, _, _, ⟨h, j, hj, hd⟩ => ⟨first_none.1 h, j, hj, ds_good hd⟩
theorem good_ds {s : Src.S} : ∀ {n : Nat} {x : ByteArray}, Vd.Good s n x → ∃ p, Ds s n x p
  | 0, x, h => by
    cases hf : first (zn s) x with
    | none => exact absurd h (first_none.1 hf)
    | some p => exact ⟨p, hf⟩
  | n + 1, x, ⟨h, j, hj, hg⟩ => by
    obtain ⟨p, hp⟩ := good_ds hg
    exact ⟨p, first_none.2 h, j, hj, hp⟩
theorem ds_same {s : Src.S} : ∀ {n : Nat} {x : ByteArray} {p q : Nat}, Ds s n x p → Ds s n x q → p = q
  | 0, _, _, _, h, k => by
    unfold Ds at h k
    rw [h] at k
    exact Option.some.inj k
  | n + 1, _, _, _, ⟨_, j, hj, h⟩, ⟨_, i, hi, k⟩ => by
    rw [hj] at hi
    cases hi
    exact ds_same h k
def KT (s : Src.S) (K : Kn) : Prop := ∀ y e, K y = some e → ∃ m q, Ds s m y q ∧ e = ((q : Int), 0)
theorem KT.none (s : Src.S) : KT s (fun _ => Option.none) := fun _ _ e => by cases e
theorem find_ds {s : Src.S} : ∀ (n f : Nat) (K : Kn) (x : ByteArray) (p : Nat), Ds s n x p → n < f → (∀ m y e, m ≤ n → Vd.Good s m y → K y = some e → ∃ q, Ds s m y q ∧ e = ((q : Int), 0)) →
    (find (zn s) (ln s) (tg s) f K x).2 = ((p : Int), 0) ∧ ∀ y ∈ (find (zn s) (ln s) (tg s) f K x).1, ∃ m, Ds s m y p
  | 0, f + 1, K, x, p, h, _, hK => by
    cases hk : K x with
    | some e =>
      obtain ⟨q, hq, rfl⟩ := hK 0 x e (Nat.le_refl _) (ds_good h) hk
      rw [find, hk, ds_same h hq]
      exact ⟨rfl, fun y hy => by cases hy⟩
    | none =>
      have h' : first (zn s) x = some p := h
      rw [find, hk]
      simp only [h']
      exact ⟨trivial, fun y hy => ⟨0, by rw [List.mem_singleton.1 hy]; exact h⟩⟩
  | n + 1, f + 1, K, x, p, h, hf, hK => by
    cases hk : K x with
    | some e =>
      obtain ⟨q, hq, rfl⟩ := hK (n + 1) x e (Nat.le_refl _) (ds_good h) hk
      rw [find, hk, ds_same h hq]
      exact ⟨rfl, fun y hy => by cases hy⟩
    | none =>
      have hgx := ds_good h
      obtain ⟨hz, j, hj, hd⟩ := h
      rw [find, hk]
      simp only [hz, hj]
      have ih := find_ds n f (mark K x loop) ((tg s).getD j ⟨#[]⟩) p hd (by omega) (fun m y e hm hy he => by
        have hne : y ≠ x := fun e => by
          rw [e] at hy
          have := Vd.good_one hy hgx
          omega
        unfold mark at he
        rw [if_neg hne] at he
        exact hK m y e (by omega) hy he)
      refine ⟨ih.1, fun y hy => ?_⟩
      rcases List.mem_cons.1 hy with rfl | hy
      · exact ⟨n + 1, hz, j, hj, hd⟩
      · exact ih.2 y hy
theorem find_kt {s : Src.S} {K : Kn} (hK : KT s K) {x : ByteArray} {n p : Nat} (h : Ds s n x p) :
    (find (zn s) (ln s) (tg s) (s.links.length + 1) K x).2 = ((p : Int), 0) ∧ KT s (marks K (find (zn s) (ln s) (tg s) (s.links.length + 1) K x).1 (find (zn s) (ln s) (tg s) (s.links.length + 1) K x).2) := by
  have hl := Vd.good_le (ds_good h)
  have k := find_ds n (s.links.length + 1) K x p h (by omega) (fun m y e _ hy he => by
    obtain ⟨m', q, hq, rfl⟩ := hK y e he
    have := Vd.good_one hy (ds_good hq)
    subst this
    exact ⟨q, hq, rfl⟩)
  refine ⟨k.1, fun y e he => ?_⟩
  by_cases hm : y ∈ (find (zn s) (ln s) (tg s) (s.links.length + 1) K x).1
  · rw [marks_in hm, k.1] at he
    obtain ⟨m, hd⟩ := k.2 y hm
    exact ⟨m, p, hd, (Option.some.inj he).symm⟩
  · rw [marks_out hm] at he
    exact hK y e he
theorem leads_ds {s : Src.S} {x : ByteArray} (h : Vd.Leads s x) : ∃ n p, Ds s n x p := by
  obtain ⟨n, hn⟩ := h
  obtain ⟨p, hp⟩ := good_ds hn
  exact ⟨n, p, hp⟩
theorem walk_ds {s : Src.S} {x : ByteArray} {n p : Nat} (h : Ds s n x p) : (walk s x).2 = ((p : Int), 0) := (find_kt (KT.none s) h).1
end Lk
end Go.Proofs.YtolgigaolffenaaGreatDoor

/- IdealStays: the plain law. -/
namespace Go.Proofs.YtolgigaolffenaaGreatDoor
open Go.RowKit

theorem Lk.ds_lt {s : Src.S} : ∀ {n : Nat} {x : ByteArray} {p : Nat}, Lk.Ds s n x p → p < s.zones.length
  | 0, _, _, h => by
    have := Lk.first_lt h
    unfold Lk.zn at this
    rwa [List.length_map] at this
  | _ + 1, _, _, ⟨_, _, _, h⟩ => Lk.ds_lt h
namespace Ln
theorem named_cases (s : Src.S) (name : ByteArray) : (∃ e : Int, e ≠ 0 ∧ ∀ t, InT t → namedT s name t = (St.zero, e)) ∨
    ∃ (k : Nat) (x : Src.Txt × List Er.E), Vd.well s = true ∧ Vd.Leads s name ∧ (Lk.walk s name).2 = ((k : Int), 0) ∧ s.zones[k]? = some x ∧ ∀ n t, InT t → (Lk.walk s n).2 = ((k : Int), 0) → namedT s n t = (stAt s.rules x.2 t, 0) := by
  by_cases hw : Vd.well s = false
  · exact .inl ⟨2, by decide, fun t _ => by unfold namedT; rw [if_pos hw]⟩
  · have hw2 : Vd.well s = true := by simpa using hw
    by_cases he : (Lk.walk s name).2.2 = 0
    · obtain ⟨hl, _⟩ := Vd.walk_leads he
      obtain ⟨n, p, hd⟩ := Lk.leads_ds hl
      have hlt := Lk.ds_lt hd
      have hx : s.zones[p]? = some s.zones[p] := List.getElem?_eq_getElem hlt
      refine .inr ⟨p, s.zones[p], hw2, hl, Lk.walk_ds hd, hx, fun m t ht hm => ?_⟩
      unfold namedT
      rw [if_neg hw, hm, if_neg (by simp)]
      refine atT_of hw2 ?_ ht
      unfold Eg.zoneAt
      rw [if_pos (by show (0 : Int) ≤ (p : Int); omega)]
      exact hx
    · refine .inl ⟨(Lk.walk s name).2.2, he, fun t _ => ?_⟩
      unfold namedT
      rw [if_neg hw, if_pos he]
theorem inT_near {t : Int} (h1 : -4070908800 ≤ t) (h2 : t ≤ 4110908800) : InT t := by
  obtain ⟨h, a, b⟩ := yr_near h1 h2
  exact ⟨h, by omega, by omega⟩
def ocAll (rules : List Ru.R) (ru : ByteArray) : List Oc.E := Oc.of (Src.ofName ru rules) 1800 2110
theorem ocAll_ok {rules : List Ru.R} {std : Int} (ru : ByteArray) (hr : Eg.RulesOk rules) (hc : ∀ r ∈ rules, 0 ≤ r.c) (hs : IsTime std) : ∀ o ∈ ocAll rules ru, 0 ≤ o.c ∧ Mo.ins o.n o.c std o.bf = (Oc.ti std o, 0) := by
  intro o ho
  unfold ocAll at ho
  exact ⟨(oc_ok (hr.of ru) (fun r hr => hc r (ofName_mem hr)) hs o ho).1, of_ins (hr.of ru).time hs ho⟩
theorem stays {rules : List Ru.R} {eras : List Er.E} {t u : Int} (hr : Eg.RulesOk rules) (hz : Eg.ZoneOk eras) (h1 : -4070908800 ≤ t) (htu : t ≤ u) (h2 : u ≤ 4110908800) (hne : stAt rules eras t ≠ stAt rules eras u) :
    (hold (Eg.ends rules eras) t ≠ hold (Eg.ends rules eras) u ∧ hold (Eg.ends rules eras) t < hold (Eg.ends rules eras) u) ∨
    (hold (Eg.ends rules eras) t = hold (Eg.ends rules eras) u ∧ ∃ e, eras[hold (Eg.ends rules eras) t]? = some e ∧ e.k = 2 ∧ IsTime e.std ∧ ∃ o ∈ ocAll rules e.ru, t < Oc.ti e.std o ∧ Oc.ti e.std o ≤ u) := by
  unfold ocAll
  by_cases hq : hold (Eg.ends rules eras) t = hold (Eg.ends rules eras) u
  · refine .inr ⟨hq, ?_⟩
    have hl : hold (Eg.ends rules eras) t < eras.length := by
      have := hold_le (Eg.ends rules eras) t
      have := Eg.ends_len rules eras
      have := hz.len.1
      omega
    have he : eras[hold (Eg.ends rules eras) t]? = some eras[hold (Eg.ends rules eras) t] := List.getElem?_eq_getElem hl
    have hg : eras.getD (hold (Eg.ends rules eras) t) Er.E.zero = eras[hold (Eg.ends rules eras) t] := by rw [List.getD, he]; rfl
    have hok := hz.ok _ (List.mem_of_getElem? he)
    refine ⟨_, he, ?_⟩
    obtain ⟨d1, y1, y2⟩ := yr_near h1 (by omega)
    obtain ⟨d2, y3, y4⟩ := yr_near (by omega) h2
    have hb := between (e := eras[hold (Eg.ends rules eras) t]) (lo := 1800) (hi := 2110) hr.time hok.1 d1 d2 (by omega) (by omega) (by omega) (by omega) htu (by
      unfold stAt at hne
      rw [← hq, hg] at hne
      exact hne)
    exact ⟨hb.1, hok.1, hb.2⟩
  · exact .inl ⟨hq, hold_lt htu hq⟩
theorem tl_iff (a b : ByteArray) : a.toList = b.toList ↔ a = b := by
  refine ⟨fun h => ?_, fun h => by rw [h]⟩
  rw [ByteArray.toList_eq, ByteArray.toList_eq] at h
  exact ByteArray.ext (Array.ext' h)
end Ln
theorem state_yes (a : Ln.St) (w : World) : (Op.equalIn 10000 31 (.agg #[.int .i64 a.off, .bool a.dst, .string a.ab]) (.agg #[.int .i64 a.off, .bool a.dst, .string a.ab])).run Tryz.prog w = .ok true w := by
  obtain ⟨x, y, z⟩ := a
  simp only
  go_simp
theorem state_no {a b : Ln.St} (h : a ≠ b) (w : World) : (Op.equalIn 10000 31 (.agg #[.int .i64 a.off, .bool a.dst, .string a.ab]) (.agg #[.int .i64 b.off, .bool b.dst, .string b.ab])).run Tryz.prog w = .ok false w := by
  obtain ⟨x, y, z⟩ := a
  obtain ⟨x', y', z'⟩ := b
  simp only
  go_simp
  simp only [Ln.tl_iff]
  rintro rfl rfl rfl
  exact h rfl
end Go.Proofs.YtolgigaolffenaaGreatDoor

/- link.Aliases: the names that lead where a name does, in a source whose names all lead. -/
namespace Go.Proofs.YtolgigaolffenaaGreatDoor
open Go.RowKit

set_option maxHeartbeats 800000 in
theorem found_yes (p : Int) (w : World) : (Op.equalIn 10000 111 (.agg #[.int .i64 p, .int .i64 0]) (.agg #[.int .i64 p, .int .i64 0])).run Tryz.prog w = .ok true w := by
  go_simp
set_option maxHeartbeats 800000 in
theorem found_no (p q : Int) (h : p ≠ q) (w : World) : (Op.equalIn 10000 111 (.agg #[.int .i64 p, .int .i64 0]) (.agg #[.int .i64 q, .int .i64 0])).run Tryz.prog w = .ok false w := by
  go_simp
namespace Lk
theorem own_kept_r {w w' : World} {base size n r : Nat} {e : TypeId} {v : Value} {xs : List Value} (hO : w.ownsRow base e size v n xs) (hg : w.grownBy w' (some r)) (h : r < base) : w'.ownsRow base e size v n xs :=
  hO.kept hg (.inr (fun e => by have := (hO.lt r e).1; omega))
theorem own_kept_v {w w' : World} {base size n B : Nat} {e : TypeId} {v v' : Value} {xs : List Value} (hO : w.ownsRow base e size v n xs) (hg : w.grownBy w' v'.ownBlock) (h1 : ∀ j, v.ownBlock = some j → j < B) (h2 : ∀ j, v'.ownBlock = some j → B ≤ j) : w'.ownsRow base e size v n xs := by
  cases hv : v.ownBlock with
  | none => exact hO.kept hg (.inl hv)
  | some j => exact hO.kept hg (.inr (fun e => by rw [hv] at e; have := h1 j hv; have := h2 j e.symm; omega))
theorem ne_row {v : Value} {B g : Nat} (h2 : ∀ j, v.ownBlock = some j → B ≤ j) (hg : g < B) : some g ≠ v.ownBlock := fun e => by have := h2 g e.symm; omega
theorem Fr.kept {s : Src.S} {lv : Value} {w w' : World} {g bz bl bk n : Nat} {K : Mp.Fn} {row : Option Nat} (h : Fr s lv w g bz bl bk n K) (hg : w.grownBy w' row) (h1 : some g ≠ row) (h2 : some bz ≠ row) (h3 : some bl ≠ row) (h4 : some bk ≠ row) : Fr s lv w' g bz bl bk n K :=
  ⟨at_kept h.at_ hg h1, h.z.kept hg h2, h.l.kept hg h3, h.k.kept hg h4, h.ne1, h.ne2⟩
theorem Fr.alloc {s : Src.S} {lv : Value} {w : World} {g bz bl bk n : Nat} {K : Mp.Fn} (h : Fr s lv w g bz bl bk n K) (o : Obj) : Fr s lv (w.alloc o) g bz bl bk n K :=
  ⟨h.at_.allocO o, h.z.alloc o, h.l.alloc o, h.k.alloc o, h.ne1, h.ne2⟩
theorem Fr.below {s : Src.S} {lv : Value} {w w' : World} {g bz bl bk n : Nat} {K : Mp.Fn} (h : Fr s lv w g bz bl bk n K) (hb : Below w.heap.size w w') : Fr s lv w' g bz bl bk n K :=
  ⟨h.at_.call hb, h.z.below hb, h.l.below hb, h.k.below hb, h.ne1, h.ne2⟩
theorem Fr.more {s : Src.S} {lv : Value} {w : World} {g bz bl bk n m : Nat} {K : Mp.Fn} (h : Fr s lv w g bz bl bk n K) (hn : n ≤ m) : Fr s lv w g bz bl bk m K :=
  ⟨h.at_, h.z, h.l, h.k.more hn, h.ne1, h.ne2⟩
structure AlSt (s : Src.S) (lv : Value) (w : World) (g bz bl bk bm q : Nat) (e : Fd) (A : Option Addr) (n c B : Nat) (l : List ByteArray) (v : Value) (m k : Nat) (K : Kn) (f : Mp.Fn) (ns : List ByteArray) (wr : World) : Prop where
  fr : Fr s lv wr g bz bl bk m (kf K)
  told : MapF Tryz.prog 9 wr bm k f
  own : wr.ownsRow B 9 1 v ns.length (ns.map Value.string)
  end_ : At wr q [.int .i64 e.1, .int .i64 e.2]
  row : wr.ownsRow (bm + 1) 9 1 (.slice A n c) n (l.map Value.string)
  rowB : ∀ j, (Value.slice A n c).ownBlock = some j → j < B
  below : Below w.heap.size w wr
  size : B ≤ wr.heap.size
  lts : g < bm ∧ bz < bm ∧ bl < bm ∧ bk < bm ∧ q < bm ∧ bm < B ∧ w.heap.size ≤ bk ∧ bk < q ∧ w.heap.size ≤ q
section
variable {s : Src.S} {lv : Value} {w : World} {g bz bl bk bm q : Nat} {e : Fd} {A : Option Addr} {n c B : Nat} {l : List ByteArray} {v : Value} {m k : Nat} {K : Kn} {f : Mp.Fn} {ns : List ByteArray} {wr w' : World}
theorem AlSt.ownB (h : AlSt s lv w g bz bl bk bm q e A n c B l v m k K f ns wr) : ∀ j, v.ownBlock = some j → B ≤ j := fun j hj => (h.own.lt j hj).1
theorem AlSt.tell (h : AlSt s lv w g bz bl bk bm q e A n c B l v m k K f ns wr) {f' : Mp.Fn} (hM : MapF Tryz.prog 9 w' bm (k + 1) f') (hg : wr.grownBy w' (some bm)) : AlSt s lv w g bz bl bk bm q e A n c B l v m (k + 1) K f' ns w' := by
  obtain ⟨a, b, c', d, x, y, z, z2, z3⟩ := h.lts
  have ne : ∀ {i : Nat}, i < bm → some i ≠ some bm := fun hi e => by injection e with e; omega
  exact ⟨h.fr.kept hg (ne a) (ne b) (ne c') (ne d), hM, own_kept_r h.own hg y, at_kept h.end_ hg (ne x), own_kept_r h.row hg (by omega), h.rowB, h.below.grown hg h.below.size (fun j e => by cases e; omega), Nat.le_trans h.size hg.size, h.lts⟩
theorem AlSt.found (h : AlSt s lv w g bz bl bk bm q e A n c B l v m k K f ns wr) {K' : Kn} {m' : Nat} (hF : Fr s lv w' g bz bl bk m' (kf K')) (hg : wr.grownBy w' (some bk)) : AlSt s lv w g bz bl bk bm q e A n c B l v m' k K' f ns w' := by
  obtain ⟨a, b, c', d, x, y, z, z2, z3⟩ := h.lts
  exact ⟨hF, h.told.kept hg (fun e => by injection e with e; omega), own_kept_r h.own hg (by omega), at_kept h.end_ hg (fun e => by injection e with e; omega), own_kept_r h.row hg (by omega), h.rowB, h.below.grown hg h.below.size (fun j e => by cases e; omega), Nat.le_trans h.size hg.size, h.lts⟩
theorem AlSt.alloc (h : AlSt s lv w g bz bl bk bm q e A n c B l v m k K f ns wr) (o : Obj) : AlSt s lv w g bz bl bk bm q e A n c B l v m k K f ns (wr.alloc o) :=
  ⟨h.fr.alloc o, h.told.alloc o, h.own.alloc o, h.end_.allocO o, h.row.alloc o, h.rowB, h.below.alloc h.below.size o, by rw [World.size_alloc]; have := h.size; omega, h.lts⟩
theorem AlSt.list (h : AlSt s lv w g bz bl bk bm q e A n c B l v m k K f ns wr) {v' : Value} {x : ByteArray} {o : Obj} (hO : w'.ownsRow B 9 1 v' (ns.length + 1) (ns.map Value.string ++ [.string x])) (hg : (wr.alloc o).grownBy w' v.ownBlock) : AlSt s lv w g bz bl bk bm q e A n c B l v' m k K f (ns ++ [x]) w' := by
  obtain ⟨a, b, c', d, x', y, z, z2, z3⟩ := h.lts
  have hv := h.ownB
  have ne : ∀ {i : Nat}, i < B → some i ≠ v.ownBlock := fun hi => ne_row hv hi
  have h' := h.alloc o
  refine ⟨h'.fr.kept hg (ne (by omega)) (ne (by omega)) (ne (by omega)) (ne (by omega)), h'.told.kept hg (ne y), ?_, at_kept h'.end_ hg (ne (by omega)), own_kept_v h'.row hg h.rowB hv, h.rowB, h'.below.grown hg h'.below.size (fun j e => by have := hv j e; omega), Nat.le_trans h'.size hg.size, h.lts⟩
  rw [List.length_append, List.map_append]
  exact hO
end
structure AlAt (s : Src.S) (lv : Value) (w : World) (g bz bl bk bm q : Nat) (e : Fd) (A : Option Addr) (n c B : Nat) (l : List ByteArray) (v i : Value) (wr : World) : Prop where
  st : ∃ (k m : Nat) (K : Kn) (f : Mp.Fn) (ns : List ByteArray), k ≤ n ∧ i = .int .i64 (k : Int) ∧ m ≤ 202 * (k + 1) ∧ KT s K ∧ ns.length ≤ k ∧ (∀ y ∈ ns, y ∈ l ∧ (walk s y).2 = e) ∧ AlSt s lv w g bz bl bk bm q e A n c B l v m k K f ns wr
def AlRet (s : Src.S) (name : ByteArray) (w : World) (e : Ending) (w' : World) : Prop :=
  (∃ (A : Option Addr) (ns : List ByteArray) (c : Nat), e = .returned (.slice A ns.length c) ∧ ns.length ≤ 1100 ∧ Reads w' w'.heap.size 1 A ns.length (ns.map Value.string) ∧ ∀ y ∈ ns, y ∈ Src.names s ∧ (walk s y).2 = (walk s name).2) ∧ Below w.heap.size w w'
end Lk
set_option maxHeartbeats 16000000 in
set_option maxRecDepth 100000 in
theorem linkAliases_any (s : Src.S) (rv zv lv : Value) (evs : List Value) (name : ByteArray) (w : World) (hR : Src.SrcR w w.heap.size s rv zv lv evs) (hN : Lk.Nm s) (hLm : Src.Lims s) (hz : s.zones.length ≤ 1000) (hl : s.links.length ≤ 100) (hx : name.size ≤ maxLen) (hG : ∀ x ∈ Src.names s, Vd.Leads s x) (hx2 : Vd.Leads s name) :
    Calls Tryz.prog 13 #[.agg #[rv, zv, lv], .string name] w (Lk.AlRet s name w) := by
  obtain ⟨n0, p0, hp0⟩ := Lk.leads_ds hx2
  have hwk := Lk.walk_ds hp0
  have hA0 := At.new w #[rv, zv, lv] 26
  have hB0 := (Below.refl w.heap.size w).alloc (Nat.le_refl _) (.cells #[rv, zv, lv] 26)
  obtain ⟨W0, hW0⟩ : ∃ W, w.alloc (.cells #[rv, zv, lv] 26) = W := ⟨_, rfl⟩
  obtain ⟨h, hh⟩ : ∃ h, w.heap.size = h := ⟨_, rfl⟩
  have hW0s : W0.heap.size = h + 1 := by rw [← hW0, World.size_alloc, hh]
  rw [hW0] at hA0 hB0
  have hOf := linkOf_any s rv zv lv evs W0 (hR.call hB0) ⟨hN.nz, hN.nl⟩ hN.zn hN.ln
  have hsz : ∀ x ∈ Src.names s, x.size ≤ maxLen := by
    intro x hx
    unfold Src.names at hx
    rcases List.mem_append.1 hx with hx | hx
    · exact hN.zn x hx
    · exact hN.ln x hx
  obtain ⟨l, hl2⟩ : ∃ l, Src.names s = l := ⟨_, rfl⟩
  have hll : s.zones.length + s.links.length = l.length := by rw [← hl2]; simp [Src.names, Src.zoneNames, Src.linkNames]
  have hln : l.length ≤ 1100 := by omega
  have hfind := fun (g bz bl bk m : Nat) (K : Lk.Kn) (x : ByteArray) (W : World) (hF : Lk.Fr s lv W g bz bl bk m (Lk.kf K)) (hb : Below w.heap.size w W) (hm : m ≤ 1000000) (hx : x.size ≤ maxLen) => find_any s lv g bz bl bk m K x W hF (hR.links.below hb |>.more hb.size) hN.nl hm hx (fun k hk => (hN.l k hk).1)
  have hnms := fun (W : World) (hb : Below w.heap.size w W) => srcNames_own s rv zv lv evs W (hR.call hb) hLm
  rw [hl2] at hG hsz
  simp only [hl2, hll] at hnms
  obtain ⟨n, hn⟩ : ∃ n, l.length = n := ⟨_, rfl⟩
  rw [hn] at hln
  simp only [hn] at hnms
  obtain ⟨rA, rc, rfl, _⟩ := hR.rules
  obtain ⟨zA, zc, rfl, _⟩ := hR.zones
  obtain ⟨lA, lc, rfl, _⟩ := hR.links
  have hfl := Lk.find_len (Lk.zn s) (Lk.ln s) (Lk.tg s) (s.links.length + 1)
  obtain ⟨nr, hnr⟩ : ∃ n, s.rules.length = n := ⟨_, rfl⟩
  obtain ⟨nz, hnz⟩ : ∃ n, s.zones.length = n := ⟨_, rfl⟩
  obtain ⟨nl, hnl⟩ : ∃ n, s.links.length = n := ⟨_, rfl⟩
  have HLk : Hid (∀ (K : Lk.Kn) (x : ByteArray) n p, Lk.KT s K → Lk.Ds s n x p → ∃ ch : List ByteArray, Lk.find (Lk.zn s) (Lk.ln s) (Lk.tg s) (s.links.length + 1) K x = (ch, ((p : Int), 0)) ∧ Lk.KT s (Lk.marks K ch ((p : Int), 0)) ∧ ch.length ≤ 101) := fun K x n p hK hd => by
    have h1 := Lk.find_kt hK hd
    have h2 := hfl K x
    obtain ⟨F, hF⟩ : ∃ F, Lk.find (Lk.zn s) (Lk.ln s) (Lk.tg s) (s.links.length + 1) K x = F := ⟨_, rfl⟩
    rw [hF] at h1 h2 ⊢
    obtain ⟨ch, r⟩ := F
    obtain ⟨h3, h4⟩ := h1
    replace h2 : ch.length ≤ s.links.length + 1 := h2
    replace h3 : r = _ := h3
    replace h4 : Lk.KT s (Lk.marks K ch r) := h4
    subst h3
    exact ⟨ch, rfl, h4, by omega⟩
  clear hfl
  rw [hnr, hnz, hnl] at hA0 hOf hW0
  simp only [hnr, hnz] at hnms
  simp only [hnl] at hfind hnms HLk
  rw [hnr, hnz, hnl]
  rw [hh] at hA0
  have HOf := Lib.hid hOf
  have HFd := Lib.hid hfind
  have HNm := Lib.hid hnms
  have HB0 := Lib.hid hB0
  have HA0 := Lib.hid hA0
  have HSz := Lib.hid hsz
  have HG := Lib.hid hG
  have HP := Lib.hid hp0
  have HW0 := Lib.hid hW0
  have HS0 := Lib.hid hW0s
  have HH := Lib.hid hh
  have HNn := Lib.hid hn
  have HL2 := Lib.hid (And.intro hl2 hwk)
  clear hOf hfind hnms hB0 hA0 hsz hG hp0 hW0 hW0s hR hN hLm hwk hx2 hll hl2 hnr hnz hnl hz hn
  have hmk := @run_makeMap Tryz.prog
  obtain ⟨s0, s1, s2, _⟩ := HA0.out.three
  go_enter Tryz.func13, Tryz.ntmps13
  go_wp2_with fail
  rw [HW0.out]
  refine HOf.out.mono ?_
  rintro e w1 ⟨g, bz, bl, bk, rfl, hF1, ⟨hg0, hbk0⟩, hb1⟩
  have hB1 := below_then HB0.out hb1
  have hA1 := HA0.out.call hb1
  have hw1 := hb1.size
  rw [HS0.out] at hg0 hbk0 hw1
  obtain ⟨ch, hr1, hr3, hr4⟩ := HLk.out (fun _ => none) name n0 p0 (Lk.KT.none s) HP.out
  have hC := HFd.out g bz bl bk 0 (fun _ => none) name w1 hF1 hB1 (by omega) hx
  rw [hr1] at hC
  have hlt := And.intro hF1.at_.lt (And.intro hF1.z.lt (And.intro hF1.l.lt hF1.k.lt))
  have HC := Lib.hid hC
  have HB1 := Lib.hid hB1
  have HA1 := Lib.hid hA1
  have HR3 := Lib.hid hr3
  clear hF1 hb1 hB1 hA1 hC hr1 hr3 s0 s1 s2
  go_wp2_with fail
  refine HC.out.mono ?_
  rintro e w2 ⟨⟨A1, c1, rfl, _⟩, hF2, hg2⟩
  have hA2 := Lk.at_kept HA1.out hg2 (fun e => by injection e with e; omega)
  have hB2 := HB1.out.grown hg2 HB1.out.size (fun j e => by cases e; have := HH.out; omega)
  have hw2 := hg2.size
  obtain ⟨q, hq⟩ : ∃ q, w2.heap.size = q := ⟨_, rfl⟩
  rw [hq] at hw2
  have hE3 := (At.new w2 #[.int .i64 (p0 : Int), .int .i64 0] 111).allocO (.map #[] 0)
  have hE3' := At.new w2 #[.int .i64 (p0 : Int), .int .i64 0] 111
  have hF3 := (hF2.alloc (.cells #[.int .i64 (p0 : Int), .int .i64 0] 111)).alloc (.map #[] 0)
  have hB3 := (hB2.alloc hB2.size (.cells #[.int .i64 (p0 : Int), .int .i64 0] 111))
  have hB4 := hB3.alloc hB3.size (.map #[] 0)
  have hA4 := (hA2.allocO (.cells #[.int .i64 (p0 : Int), .int .i64 0] 111)).allocO (.map #[] 0)
  have hM4 := MapF.made (P := Tryz.prog) (k := 9) (w2.alloc (.cells #[.int .i64 (p0 : Int), .int .i64 0] 111))
  have hW3s : (w2.alloc (.cells #[.int .i64 (p0 : Int), .int .i64 0] 111)).heap.size = q + 1 := by rw [World.size_alloc, hq]
  rw [hW3s] at hM4
  rw [hq] at hE3 hE3'
  obtain ⟨a0, a1, a2, _⟩ := hA4.three
  obtain ⟨W4, hW4⟩ : ∃ W, (w2.alloc (.cells #[.int .i64 (p0 : Int), .int .i64 0] 111)).alloc (.map #[] 0) = W := ⟨_, rfl⟩
  have hW4s : W4.heap.size = q + 2 := by rw [← hW4, World.size_alloc, hW3s]
  rw [hW4] at hE3 hF3 hB4 hA4 hM4
  have hC4 := HNm.out W4 hB4
  obtain ⟨f0, f1, _⟩ := hE3'.two
  have HC4 := Lib.hid hC4
  have HB4 := Lib.hid hB4
  have HE4 := Lib.hid hE3
  have HF4 := Lib.hid hF3
  have HM4 := Lib.hid hM4
  have HW4 := Lib.hid hW4
  have HS4 := Lib.hid hW4s
  have HQ := Lib.hid hq
  clear hF2 hg2 hA2 hB2 hE3 hE3' hF3 hB3 hB4 hA4 hM4 hW3s hW4 hW4s hC4
  go_wp2_with fail
  rw [HW4.out]
  refine HC4.out.mono ?_
  rintro e w5 ⟨A, c, rfl, hb5, _, _, hO⟩
  have hz5 := hb5.size
  have hB5 := below_then HB4.out hb5
  rw [HS4.out] at hO hz5
  have hSt : Lk.AlSt s (.slice lA nl lc) w g bz bl bk (q + 1) q ((p0 : Int), 0) A n c w5.heap.size l (.slice none 0 0) 202 0 (Lk.marks (fun _ => none) ch ((p0 : Int), 0)) (fun _ => none) [] w5 :=
    ⟨(HF4.out.below hb5).more (by omega), HM4.out.below hb5, World.ownsRow_nil _ _ _ _, HE4.out.call hb5, hO, fun j hj => (hO.lt j hj).2, hB5, Nat.le_refl _, by have := HH.out; omega⟩
  have HSt := Lib.hid hSt
  clear hb5 hB5 hO hSt a0 a1 a2 f0 f1 hmk
  go_wp2_with fail
  obtain ⟨B, hBe⟩ : ∃ B, w5.heap.size = B := ⟨_, rfl⟩
  rw [hBe] at HSt
  clear hBe
  go_loopw [8, 31] (fun v i wr => Lk.AlAt s (.slice lA nl lc) w g bz bl bk (q + 1) q ((p0 : Int), 0) A n c B l v i wr) (fun _ i _ => n - (intOf i).toNat)
  case atStart => exact ⟨⟨0, 202, _, _, [], Nat.zero_le _, rfl, by omega, HR3.out, Nat.zero_le _, (fun y hy => by cases hy), HSt.out⟩⟩
  case round =>
    obtain ⟨k, m, K, f, ns, hk, rfl, hm, hKT, hns, hmem, hSt⟩ := hrel.st
    have HS := Lib.hid hSt
    have HMem := Lib.hid hmem
    clear hSt hmem
    by_cases hlt : k < n
    · obtain ⟨x, hx⟩ : ∃ y, l[k]? = some y := ⟨_, List.getElem?_eq_getElem (by rw [HNn.out]; exact hlt)⟩
      have hxl := List.mem_of_getElem? hx
      have hxs := HSz.out x hxl
      obtain ⟨ad, u1, rfl, hab, hu, hcu⟩ := (Reads.of_own HS.out.row).at_ hlt
      have hu2 : u1 = .string x := by
        rw [List.getElem?_map, hx] at hu
        exact (Option.some.inj hu).symm
      rw [hu2] at hcu
      have q1 : (0 : Int) ≤ (k : Int) := by omega
      have q2 : (k : Int) < (n : Int) := by omega
      have hbn : k < maxLen := by unfold maxLen; omega
      obtain ⟨u2, hu2⟩ : ∃ z, (f x).getD (.int .i64 0) = z := ⟨_, rfl⟩
      obtain ⟨b, hb⟩ : ∃ b, (f x).isSome = b := ⟨_, rfl⟩
      have hM := HS.out.told
      clear hu hx
      cases b with
      | true =>
        have HS2 : Hid (Lk.AlSt s (.slice lA nl lc) w g bz bl bk (q + 1) q ((p0 : Int), 0) (some ad) n c B l u8 m (k + 1) K f ns wr) := ⟨HS.out.fr, HS.out.told.more (by omega), HS.out.own, HS.out.end_, HS.out.row, HS.out.rowB, HS.out.below, HS.out.size, HS.out.lts⟩
        go_wp2_with (first | (at_lookup; refine look_int _ rfl _ _ (q + 1) k f x hxs rfl rfl rfl hM u2 hu2 true hb ?_))
        go_roundw
        case rel => exact ⟨⟨k + 1, m, K, f, ns, by omega, by go_num, by omega, hKT, by omega, HMem.out, HS2.out⟩⟩
        case measure => simp [intOf]; omega
      | false =>
        obtain ⟨nx, px, hd⟩ := Lk.leads_ds (HG.out x hxl)
        have hwx := Lk.walk_ds hd
        obtain ⟨ch2, hr1, hr3, hr4⟩ := HLk.out K x nx px hKT hd
        have HCs : Hid (∀ W f', Lk.AlSt s (.slice lA nl lc) w g bz bl bk (q + 1) q ((p0 : Int), 0) (some ad) n c B l u8 m (k + 1) K f' ns W → Calls Tryz.prog 44 #[.pointer (some ⟨g, 0, none⟩), .string x] W (Lk.FdR s (.slice lA nl lc) g bz bl bk m K (ch2, ((px : Int), 0)) W)) := fun W f' hW => by
          have h1 := HFd.out g bz bl bk m K x W hW.fr hW.below (by omega) hxs
          rw [hr1] at h1
          exact h1
        have hm2 : m + ch2.length + ch2.length ≤ 202 * (k + 1 + 1) := by omega
        have HR5 := Lib.hid hr3
        have HWx := Lib.hid hwx
        clear hr1 hr3 hwx hd
        go_wp2_with (first | (at_lookup; refine look_int _ rfl _ _ (q + 1) k f x hxs rfl rfl rfl hM u2 hu2 false hb ?_) | (at_mapUpdate; refine store_int _ rfl _ _ _ (q + 1) k f x hxs hbn (k : Int) rfl rfl rfl rfl hM ?_; intro w3 hM5 hg5; have HS3 := Lib.hid (HS.out.tell hM5 hg5); have HC3 := Lib.hid (HCs.out w3 _ HS3.out); clear hM5 hg5))
        refine HC3.out.mono ?_
        rintro e w4 ⟨⟨A2, c2, rfl, _⟩, hF4, hg4⟩
        have HS4 := Lib.hid (HS3.out.found hF4 hg4)
        have HS5 := Lib.hid (HS4.out.alloc (.cells #[.int .i64 (px : Int), .int .i64 0] 111))
        obtain ⟨d0, d1, _⟩ := (At.new w4 #[.int .i64 (px : Int), .int .i64 0] 111).two
        obtain ⟨e0, e1, _⟩ := HS5.out.end_.two
        clear hF4 hg4 hcu hM
        by_cases hpe : px = p0
        · subst hpe
          have hq := found_yes (px : Int)
          go_wp2_with (at_builtin; refine name_append (w4.alloc (.cells #[.int .i64 (px : Int), .int .i64 0] 111)) B ns.length _ _ x 55 57 HS5.out.own (by omega) HS5.out.size rfl rfl rfl (by show Value.slice (some ⟨w4.heap.size + 1, 0, none⟩) 1 1 = _; rw [World.size_alloc]) ?_; intro v9 w9 hown9 _ _ hg9; have HS9 := Lib.hid (HS5.out.list hown9 hg9); clear hown9 hg9)
          go_roundw
          case rel =>
            refine ⟨⟨k + 1, _, _, _, ns ++ [x], by omega, by go_num, hm2, HR5.out, by simp; omega, fun y hy => ?_, HS9.out⟩⟩
            rcases List.mem_append.1 hy with hy | hy
            · exact HMem.out y hy
            · rw [List.mem_singleton.1 hy]
              exact ⟨hxl, HWx.out⟩
          case measure => simp [intOf]; omega
        · have hq := found_no (px : Int) (p0 : Int) (by omega)
          go_wp2
          go_roundw
          case rel => exact ⟨⟨k + 1, _, _, _, ns, by omega, by go_num, hm2, HR5.out, by omega, HMem.out, HS5.out⟩⟩
          case measure => simp [intOf]; omega
    · have hkn : k = n := by omega
      subst hkn
      have q2 : ¬ (k : Int) < (k : Int) := by omega
      have hO := HS.out.own
      have hB := HS.out.below
      obtain ⟨A9, c9, rfl, _⟩ := own_slice hO
      have HRes : Hid (Lk.AlRet s name w (.returned (.slice A9 ns.length c9)) wr) := ⟨⟨A9, ns, c9, rfl, by omega, Reads.of_own hO, by rw [HL2.out.1, HL2.out.2]; exact HMem.out⟩, hB⟩
      clear hO hB
      go_wp2
      refine bodyPost_ret (v := .slice A9 ns.length c9) (by simp [results, Tryz.results13, go_sem, *]) rfl ?_
      exact HRes.out
end Go.Proofs.YtolgigaolffenaaGreatDoor

/- Literals in memory. -/
namespace Go.Proofs.YtolgigaolffenaaGreatDoor
open Go.RowKit

namespace Lit
theorem reads {w : World} {g size n : Nat} {xs : List Value} (h : At w g xs) (hl : xs.length = n * size) : Reads w w.heap.size size (some ⟨g, 0, none⟩) n xs := by
  refine ⟨hl, fun _ => ⟨_, rfl, h.lt, fun j u hu => ?_⟩⟩
  have e : (⟨g, 0, none⟩ : Addr).add j = ⟨g, j, none⟩ := by
    unfold Addr.add
    split
    · subst_vars; rfl
    · simp
  rw [e]
  exact h.cell j u hu
theorem newAt (w : World) (cs : Array Value) (t : TypeId) (g : Nat) (hg : g = w.heap.size) : At (w.alloc (.cells cs t)) g cs.toList := by
  subst hg
  exact At.new w cs t
end Lit
end Go.Proofs.YtolgigaolffenaaGreatDoor
