/- (ideal.holding).saved: what is saved in the era that holds, and the letter that stands for it. -/
import Derived.Test.YtjobhjemnmleaaaGreatDoorQ23
import Derived.Test.YtjobhjemnmleaaaGreatDoorQ31
set_option maxRecDepth 200000
set_option maxHeartbeats 16000000
namespace Go.Proofs.YtjobhjemnmleaaaGreatDoor
open Go.RowKit Go.Shelf
attribute [local go_sem] Oper.semAt_some
namespace Ln
def savedAt (rules : List Ru.R) (e : Er.E) (t : Int) : Int × ByteArray :=
 if e.k = 1 then (e.sv, ⟨#[]⟩) else match occAt rules e t with
  | none => (0, ⟨#[]⟩)
  | some o => (o.sv, o.lt)
theorem savedAt_one (rules : List Ru.R) (e : Er.E) (t : Int) : (savedAt rules e t).1 = saveAt rules e t := by
 unfold savedAt saveAt;split
 ·rfl
 ·cases occAt rules e t <;> rfl
structure IBx (g : Nat) (hc : List Value) (rv zv lv k r : Value) (w : World) : Prop where
 h : At w g hc
 s : At w (g + 1) [rv, zv, lv]
 k : At w (g + 2) [k]
 r : At w (g + 3) [r]
theorem at_kept {w w' : World} {g : Nat} {xs : List Value} {row : Option Nat} (h : At w g xs) (hg : w.grownBy w' row) (hr : ∀ r, row = some r → ∃ o : Obj, w.heap[r]? = some o ∧ o.isCells = false) : At w' g xs :=
 ⟨Nat.lt_of_lt_of_le h.1 hg.size, fun i v hi => ⟨cell_kept (h.2 i v hi).1 hg hr, (frozen_kept (h.2 i v hi).1 hg hr).trans (h.2 i v hi).2⟩⟩
theorem IBx.call {g : Nat} {hc : List Value} {rv zv lv k r : Value} {w w' : World} (h : IBx g hc rv zv lv k r w) (hb : Below w.heap.size w w') : IBx g hc rv zv lv k r w' := ⟨h.h.call hb, h.s.call hb, h.k.call hb, h.r.call hb⟩
theorem IBx.kept {g : Nat} {hc : List Value} {rv zv lv k r : Value} {w w' : World} {row : Option Nat} (h : IBx g hc rv zv lv k r w) (hg : w.grownBy w' row) (hr : ∀ r, row = some r → ∃ o : Obj, w.heap[r]? = some o ∧ o.isCells = false) : IBx g hc rv zv lv k r w' :=
 ⟨at_kept h.h hg hr, at_kept h.s hg hr, at_kept h.k hg hr, at_kept h.r hg hr⟩
theorem IBx.put {g : Nat} {hc : List Value} {rv zv lv k r : Value} {w : World} (h : IBx g hc rv zv lv k r w) (k' r' : Value) : IBx g hc rv zv lv k' r' ((w.setCell ⟨g + 2, 0, none⟩ k').setCell ⟨g + 3, 0, none⟩ r') :=
 ⟨(h.h.set_other _ _ (by show g + 2 ≠ g; omega)).set_other _ _ (by show g + 3 ≠ g; omega), (h.s.set_other _ _ (by show g + 2 ≠ g + 1; omega)).set_other _ _ (by show g + 3 ≠ g + 1; omega),
  (h.k.set 0 k').set_other _ _ (by show g + 3 ≠ g + 2; omega), (h.r.set_other _ _ (by show g + 2 ≠ g + 3; omega)).set 0 r'⟩
theorem put_below {g : Nat} {w W : World} (h : Below w.heap.size w W) (hg : w.heap.size = g) (k' r' : Value) : Below w.heap.size w ((W.setCell ⟨g + 2, 0, none⟩ k').setCell ⟨g + 3, 0, none⟩ r') :=
 (h.setCell (p := ⟨g + 2, 0, none⟩) (by show _ ≤ g + 2; omega) _).setCell (p := ⟨g + 3, 0, none⟩) (by show _ ≤ g + 3; omega) _
def SvRet (r : Int × ByteArray) (w : World) (e : Ending) (w' : World) : Prop := e = .returned (.tuple #[.int .i64 r.1, .string r.2]) ∧ Below w.heap.size w w'
theorem hit_of {es : List Oc.E} {p : Oc.E → Bool} {j : Nat} {q : List Oc.E} {x : Oc.E} (h : es.reverse.take j = q ++ [x]) (hq : ∀ y ∈ q, p y = false) (hx : p x = true) : Oc.lastP es p = some x := by
 rw [← find_lastP];obtain ⟨r, hr⟩ : ∃ r, es.reverse = (q ++ [x]) ++ r := ⟨es.reverse.drop j, by rw [← h, List.take_append_drop]⟩
 rw [hr, List.append_assoc, List.find?_append];have h2 : q.find? p = none := by
  rw [List.find?_eq_none];intro y hy;rw [hq y hy]
  decide
 rw [h2];simp [hx]
theorem miss_of {es : List Oc.E} {p : Oc.E → Bool} (h : ∀ y ∈ es.reverse, p y = false) : Oc.lastP es p = none := by
 rw [← find_lastP, List.find?_eq_none];intro y hy;rw [h y hy]
 decide
end Ln
theorem Ln.box4 (w : World) (o1 o2 : Obj) (x y : Value) (t1 t2 : TypeId) : ((((w.alloc o1).alloc o2).alloc (.cells #[x] t1)).alloc (.cells #[y] t2)).cell? ⟨w.heap.size + 1 + 1, 0, none⟩ = some x ∧ ((((w.alloc o1).alloc o2).alloc (.cells #[x] t1)).alloc (.cells #[y] t2)).cell? ⟨w.heap.size + 1 + 1 + 1, 0, none⟩ = some y ∧ Below w.heap.size w ((((w.alloc o1).alloc o2).alloc (.cells #[x] t1)).alloc (.cells #[y] t2)) := by
 refine ⟨?_, ?_, ((((Below.refl w.heap.size w).alloc (Nat.le_refl _) _).alloc (by simp) _).alloc (by simp; omega) _).alloc (by simp; omega) _⟩
 ·have h := ((At.new ((w.alloc o1).alloc o2) #[x] t1).allocO (.cells #[y] t2)).cell 0 _ rfl;rw [World.size_alloc, World.size_alloc] at h;exact h
 ·have h := (At.new (((w.alloc o1).alloc o2).alloc (.cells #[x] t1)) #[y] t2).cell 0 _ rfl;rw [World.size_alloc, World.size_alloc, World.size_alloc] at h;exact h
theorem saved_results {tmps : Array Value} {w : World} {a b : Nat} {x : Int} {y : ByteArray} (h4 : tmps[4]?.getD undef = .pointer (some ⟨a, 0, none⟩)) (h5 : tmps[5]?.getD undef = .pointer (some ⟨b, 0, none⟩)) (ha : w.cell? ⟨a, 0, none⟩ = some (.int .i64 x)) (hb : w.cell? ⟨b, 0, none⟩ = some (.string y)) :
  (results Tryz.f138 tmps).run Tryz.prog w = .ok (.tuple #[.int .i64 x, .string y]) w := by
 simp [results, Tryz.f138, go_sem, h4, h5, ha, hb]
theorem saved_out {tmps : Array Value} {w W : World} {a b : Nat} {Z : Int × ByteArray} (h4 : tmps[4]?.getD undef = .pointer (some ⟨a, 0, none⟩)) (h5 : tmps[5]?.getD undef = .pointer (some ⟨b, 0, none⟩)) (ha : W.cell? ⟨a, 0, none⟩ = some (.int .i64 Z.1)) (hb : W.cell? ⟨b, 0, none⟩ = some (.string Z.2)) (hB : Below w.heap.size w W) :
  bodyPostM Fence.wide 6 Tryz.prog Tryz.f138 (Ln.SvRet Z w) .ret { tmps := tmps, defers := [] } W :=
 ⟨_, saved_results h4 h5 ha hb, rfl, hB⟩
theorem saved_out1 {tmps : Array Value} {w W : World} {a b D : Nat} {Z : Int × ByteArray} (h4 : tmps[4]?.getD undef = .pointer (some ⟨a, 0, none⟩)) (h5 : tmps[5]?.getD undef = .pointer (some ⟨b, 0, none⟩)) (ha : W.cell? ⟨a, 0, none⟩ = some (.int .i64 Z.1)) (hb : W.cell? ⟨b, 0, none⟩ = some (.string Z.2)) (hB : Below w.heap.size w W)
  (hK : W.heap[D]? = some (.deferred (some []))) (hD : w.heap.size ≤ D) :
  bodyPostM Fence.wide 6 Tryz.prog Tryz.f138 (Ln.SvRet Z w) .ret { tmps := tmps, defers := [{ target := .collected D, args := #[] }] } W := by
 have hk := fun {p v} (h : W.cell? p = some v) => cell_kept h (grownBy_putObj' W D (.deferred none)) (fun r e => by cases e; exact ⟨_, hK, rfl⟩)
 exact ⟨by simp, .inl ⟨_, _, rfl, run_takeDeferred hK, ⟨_, saved_results h4 h5 (hk ha) (hk hb), rfl, hB.trans (belowK_b (w := w) (Nat.le_refl _) W D _ _ hD hK rfl rfl)⟩⟩⟩
namespace IdS
def sl : Nat → Nat
 | 0 => 23
 | 1 => 24
 | 2 => 25
 | 3 => 26
 | 4 => 27
 | 5 => 28
 | 6 => 29
 | 7 => 30
 | 8 => 31
 | 9 => 32
 | 10 => 33
 | 11 => 34
 | 12 => 22
 | 13 => 35
 | 14 => 36
 | 15 => 6
 | _ => 7
def Q (g B : Nat) (rA zA lA : Option Addr) (n1 rc n2 zc n3 lc : Nat) (ru : ByteArray) (y : Int) (rl : List Ru.R) (oc : List Oc.E) : Nat → Value → World → Prop
 | 0, v, _ => v = .agg #[.slice rA n1 rc, .slice zA n2 zc, .slice lA n3 lc]
 | 1, v, _ => v = .pointer (some ⟨g, 0, none⟩)
 | 2, v, _ => v = .pointer (some ⟨g, 3, none⟩)
 | 3, v, _ => v = .string ru
 | 4, v, W => ∃ A c, v = .slice A rl.length c ∧ Reads W W.heap.size 11 A rl.length (rl.flatMap Ru.R.cells)
 | 5, v, _ => v = .pointer (some ⟨g, 14, none⟩)
 | 6, v, _ => v = .int .i64 y
 | 7, v, _ => v = .int .i64 (y - 1)
 | 8, v, _ => v = .pointer (some ⟨g, 14, none⟩)
 | 9, v, _ => v = .int .i64 y
 | 10, v, _ => v = .int .i64 (y + 1)
 | 11, v, W => ∃ u, v = .tuple #[u, .int .i64 0] ∧ W.ownsRow B 272 5 u oc.length (oc.flatMap Oc.E.occ)
 | 12, v, W => ∃ u, v = .tuple #[u, .int .i64 0] ∧ W.ownsRow B 272 5 u oc.length (oc.flatMap Oc.E.occ)
 | 13, v, W => W.ownsRow B 272 5 v oc.length (oc.flatMap Oc.E.occ)
 | 14, v, _ => v = .int .i64 0
 | 15, v, W => W.ownsRow B 272 5 v oc.length (oc.flatMap Oc.E.occ)
 | 16, v, _ => v = .int .i64 0
 | _, _, _ => True
theorem Q_mono {g B : Nat} {rA zA lA : Option Addr} {n1 rc n2 zc n3 lc : Nat} {ru : ByteArray} {y : Int} {rl : List Ru.R} {oc : List Oc.E} : ∀ i v W W', Q g B rA zA lA n1 rc n2 zc n3 lc ru y rl oc i v W → Below W.heap.size W W' → Q g B rA zA lA n1 rc n2 zc n3 lc ru y rl oc i v W' := by
 intro _ v W W' h hb;unfold Q at h ⊢;split at h
 all_goals first | exact h | (obtain ⟨A, c, h1, h2⟩ := h; exact ⟨A, c, h1, (h2.below hb).more hb.size⟩) | (obtain ⟨u, h1, h2⟩ := h; exact ⟨u, h1, own_below h2 hb⟩) | (exact own_below h hb)
theorem sl_inj : ∀ j, j < 17 → ∀ k, k < 17 → sl j = sl k → j = k := by decide +kernel
theorem sl_no : ∀ j, j ∈ [2, 3, 4, 5] → ∀ k, k < 17 → sl k ≠ j := by decide +kernel
end IdS
theorem idSaved_any (s : Src.S) (rv zv lv : Value) (evs : List Value) (e : Er.E) (t y : Int) (w : World) (hR : Src.SrcR w w.heap.size s rv zv lv evs) (hW : Wo w) (hok : Eg.RulesOk s.rules) (hwc : ∀ r ∈ s.rules, 0 ≤ r.c) (h1 : IsTime e.std) (hy : Ln.yr t = y) (hy1 : 2 ≤ y ∧ y ≤ 9998) :
  Calls Tryz.prog 138 #[.agg #[.int .i64 e.std, .int .u8 e.k, .int .i64 e.sv, .string e.ru, .string e.fm, .bool e.en, .int .i64 e.u.y, .int .i64 e.u.m, .int .u8 e.u.k, .int .i64 e.u.n, .int .i64 e.u.d, .int .i64 e.u.s, .int .u8 e.u.c, .int .i64 t, .int .i64 y], .agg #[rv, zv, lv]] w (Ln.SvRet (Ln.savedAt s.rules e t) w) := by
 obtain ⟨Z, hZ⟩ : ∃ Z, Ln.savedAt s.rules e t = Z := ⟨_, rfl⟩
 rw [hZ];obtain ⟨rA, rc, hrv, _⟩ := hR.rules;obtain ⟨zA, zc, hzv, _⟩ := hR.zones;obtain ⟨lA, lc, hlv, _⟩ := hR.links;obtain ⟨n1, hn1⟩ : ∃ n, s.rules.length = n := ⟨_, rfl⟩
 obtain ⟨n2, hn2⟩ : ∃ n, s.zones.length = n := ⟨_, rfl⟩
 obtain ⟨n3, hn3⟩ : ∃ n, s.links.length = n := ⟨_, rfl⟩
 rw [hn1] at hrv;rw [hn2] at hzv;rw [hn3] at hlv;obtain rfl := hrv;obtain rfl := hzv;obtain rfl := hlv;obtain ⟨rl, hrl⟩ : ∃ x, Src.ofName e.ru s.rules = x := ⟨_, rfl⟩
 obtain ⟨oc, hoc⟩ : ∃ x, Oc.of rl (y - 1) (y + 1) = x := ⟨_, rfl⟩
 have HRl : Hid (∀ W', Below w.heap.size w W' → Calls Tryz.prog 148 #[.agg #[.slice rA n1 rc, .slice zA n2 zc, .slice lA n3 lc], .string e.ru] W' fun e w' => ∃ v, e = .returned v ∧ Below W'.heap.size W' w' ∧ w'.ownsRow W'.heap.size 112 11 v rl.length (rl.flatMap Ru.R.cells)) := fun W' hb => by
  have := srcRules_any s _ _ _ evs e.ru W' (hR.call hb) hok.len;rw [hrl] at this;exact this
 have HOf : Hid (∀ W' A c, Below w.heap.size w W' → Reads W' W'.heap.size 11 A rl.length (rl.flatMap Ru.R.cells) → Calls Tryz.prog 168 #[.slice A rl.length c, .int .i64 (y - 1), .int .i64 (y + 1)] W' fun e w' => Below W'.heap.size W' w' ∧ ∃ v, e = .returned (.tuple #[v, .int .i64 0]) ∧ w'.ownsRow W'.heap.size 272 5 v oc.length (oc.flatMap Oc.E.occ)) := fun W' A c hb hr => by
  have hok := hok.of e.ru;rw [hrl] at hok;refine (ocOfW_any rl A c (y - 1) (y + 1) W' hr hok.ok (hW.below hb) hok.len (by omega) (by omega)).mono ?_;rintro e w' ⟨hb', ⟨hbad, _⟩ | ⟨_, v, rfl, ho⟩⟩
  ·exact absurd hbad (by omega)
  ·rw [hoc] at ho;exact ⟨hb', v, rfl, ho⟩
 have HEv : Hid (∀ o ∈ oc, Ln.OcOk e.std o) := by
  have hok := hok.of e.ru;have hwc : ∀ r ∈ Src.ofName e.ru s.rules, 0 ≤ r.c := fun r hr => hwc r (Ln.ofName_mem hr)
  rw [hrl] at hok hwc;rw [← hoc];exact Ln.oc_ok hok hwc h1
 have hlen : rl.length ≤ 4096 := by rw [← hrl]; exact Nat.le_trans (List.length_filter_le _ _) hok.len
 have HOl : Hid (oc.length ≤ 100000) := by
  have := Oc.of_len rl (y - 1) (y + 1) (k := 3) (by omega);rw [hoc] at this;show _ ≤ _
  omega
 have hZ2 : Z = if e.k = 1 then (e.sv, ⟨#[]⟩) else match (if e.k = 2 then Oc.lastP oc (fun o => decide (Oc.ti e.std o ≤ t)) else none) with
   | none => (0, ⟨#[]⟩)
   | some o => (o.sv, o.lt) := by
  rw [← hZ];unfold Ln.savedAt Ln.occAt;rw [hrl, hy, hoc]
 have HZ := Lib.hid hZ2;have HY1 := Lib.hid hy1;obtain ⟨std, ek, esv, ru, fm, en, ⟨uy, mm, dk, dn, dd, sc, cc⟩⟩ := e;simp only at HZ HEv HRl hrl h1 ⊢;obtain ⟨g, hg⟩ : ∃ g, w.heap.size = g := ⟨_, rfl⟩
 obtain ⟨hc, hhc⟩ : ∃ x : List Value, [.int .i64 std, .int .u8 ek, .int .i64 esv, .string ru, .string fm, .bool en, .int .i64 uy, .int .i64 mm, .int .u8 dk, .int .i64 dn, .int .i64 dd, .int .i64 sc, .int .u8 cc, .int .i64 t, .int .i64 y] = x := ⟨_, rfl⟩
 obtain ⟨W, hW0⟩ : ∃ W, (((w.alloc (.cells #[.int .i64 std, .int .u8 ek, .int .i64 esv, .string ru, .string fm, .bool en, .int .i64 uy, .int .i64 mm, .int .u8 dk, .int .i64 dn, .int .i64 dd, .int .i64 sc, .int .u8 cc, .int .i64 t, .int .i64 y] 207)).alloc (.cells #[.slice rA n1 rc, .slice zA n2 zc, .slice lA n3 lc] 26)).alloc (.cells #[.int .i64 0] 2)).alloc (.cells #[.string ⟨#[]⟩] 9) = W := ⟨_, rfl⟩
 have hB0 : Below w.heap.size w W := by rw [← hW0]; exact ((((Below.refl w.heap.size w).alloc (Nat.le_refl _) _).alloc (by simp) _).alloc (by simp; omega) _).alloc (by simp; omega) _
 have hX0 : Ln.IBx g hc (.slice rA n1 rc) (.slice zA n2 zc) (.slice lA n3 lc) (.int .i64 0) (.string ⟨#[]⟩) W := by
  rw [← hW0, ← hg, ← hhc];refine ⟨?_, ?_, ?_, ?_⟩
  ·exact (((At.new w #[.int .i64 std, .int .u8 ek, .int .i64 esv, .string ru, .string fm, .bool en, .int .i64 uy, .int .i64 mm, .int .u8 dk, .int .i64 dn, .int .i64 dd, .int .i64 sc, .int .u8 cc, .int .i64 t, .int .i64 y] 207).allocO _).allocO _).allocO _
  ·have h := ((At.new (w.alloc (.cells #[.int .i64 std, .int .u8 ek, .int .i64 esv, .string ru, .string fm, .bool en, .int .i64 uy, .int .i64 mm, .int .u8 dk, .int .i64 dn, .int .i64 dd, .int .i64 sc, .int .u8 cc, .int .i64 t, .int .i64 y] 207)) #[.slice rA n1 rc, .slice zA n2 zc, .slice lA n3 lc] 26).allocO (.cells #[.int .i64 0] 2)).allocO (.cells #[.string ⟨#[]⟩] 9);rw [World.size_alloc] at h;exact h
  ·have h := (At.new ((w.alloc (.cells #[.int .i64 std, .int .u8 ek, .int .i64 esv, .string ru, .string fm, .bool en, .int .i64 uy, .int .i64 mm, .int .u8 dk, .int .i64 dn, .int .i64 dd, .int .i64 sc, .int .u8 cc, .int .i64 t, .int .i64 y] 207)).alloc (.cells #[.slice rA n1 rc, .slice zA n2 zc, .slice lA n3 lc] 26)) #[Value.int .i64 0] 2).allocO (.cells #[.string ⟨#[]⟩] 9);rw [World.size_alloc, World.size_alloc] at h;exact h
  ·have h := At.new (((w.alloc (.cells #[.int .i64 std, .int .u8 ek, .int .i64 esv, .string ru, .string fm, .bool en, .int .i64 uy, .int .i64 mm, .int .u8 dk, .int .i64 dn, .int .i64 dd, .int .i64 sc, .int .u8 cc, .int .i64 t, .int .i64 y] 207)).alloc (.cells #[.slice rA n1 rc, .slice zA n2 zc, .slice lA n3 lc] 26)).alloc (.cells #[.int .i64 0] 2)) #[Value.string ⟨#[]⟩] 9;rw [World.size_alloc, World.size_alloc, World.size_alloc] at h;exact h
 have hs0 : W.heap.size = g + 4 := by rw [← hW0]; simp only [World.size_alloc, hg]
 have HBl := Lib.hid hB0;have HX := Lib.hid hX0;have HG := Lib.hid hg;have HS0 := Lib.hid hs0;have HHc := Lib.hid hhc;have h1c := hX0.h.cell 1 _ (by rw [← hhc]; rfl);have h2c := hX0.h.cell 2 _ (by rw [← hhc]; rfl);have zh := hX0.h.lt;obtain ⟨k0, f0⟩ := And.intro (hX0.k.cell 0 _ rfl) (hX0.k.free 0 _ rfl);obtain ⟨r0, g0⟩ := And.intro (hX0.r.cell 0 _ rfl) (hX0.r.free 0 _ rfl);have zk := hX0.k.lt;have zr := hX0.r.lt;have HW0 := Lib.hid hW0;clear hR hW hok hwc hZ hZ2 hy hy1 hrl hoc hlen hB0 hX0 hg hhc hs0 hW0;refine (callsIn_wide (n := 6)).1 ?_;refine callsIn_of_wp_marks Tryz.func138 rfl trivial ?_ rfl;simp only [Tryz.ntmps138, List.size_toArray, List.length_cons, List.length_nil, Nat.reduceAdd, Nat.reduceSub, Array.replicate_succ, Array.replicate_zero, List.push_toArray, List.append_toArray, List.nil_append, List.cons_append]
 by_cases hk1 : ek = 1
 ·subst hk1;have HEz : Hid (Z = (esv, ⟨#[]⟩)) := by
   have := HZ.out;rw [if_pos rfl] at this;exact this
  gi_wp2_with fail
  obtain ⟨b1, b2, b3⟩ := Ln.box4 w (.cells #[.int .i64 std, .int .u8 1, .int .i64 esv, .string ru, .string fm, .bool en, .int .i64 uy, .int .i64 mm, .int .u8 dk, .int .i64 dn, .int .i64 dd, .int .i64 sc, .int .u8 cc, .int .i64 t, .int .i64 y] 207) (.cells #[.slice rA n1 rc, .slice zA n2 zc, .slice lA n3 lc] 26) (.int .i64 esv) (.string ⟨#[]⟩) 2 9;exact saved_out rfl rfl (by rw [HEz.out]; exact b1) (by rw [HEz.out]; exact b2) b3
 by_cases hk2 : ek = 2
 ·subst hk2;have HZ2 : Hid (Z = match Oc.lastP oc (fun o => decide (Oc.ti std o ≤ t)) with
   | none => (0, ⟨#[]⟩)
   | some o => (o.sv, o.lt)) := by
   have := HZ.out;rw [if_neg (by decide), if_pos rfl] at this;exact this
  clear HZ
  gi_wp2_with fail
  rw [HG.out, HW0.out];refine wpIn_wide.2 ?_
  trace_state
  refine Od.wp_region_inv 67 (by kernel_rfl) (by rfl) (by rfl) (Od.ord_of (by kernel_rfl)) (Od.dst_of (by kernel_rfl)) (Rg.J 17 IdS.sl (IdS.Q g W.heap.size rA zA lA n1 rc n2 zc n3 lc ru y rl oc) W (Od.slots _)) (Rg.J.start _ _ _ ((Below.refl _ _).drew)) ?stepR ?finR
  case stepR =>
   intro i o hi b' a' wv hJ hb hdep hdf K hK;obtain ⟨tm, df⟩ := a';simp only at hdf;subst hdf;have hiN : i < 17 := (Array.getElem?_eq_some_iff.1 hi).1;have HBv := HX.out.call hJ.below;have hsplit : i = 0 ∨ i = 1 ∨ i = 2 ∨ i = 3 ∨ i = 4 ∨ i = 5 ∨ i = 6 ∨ i = 7 ∨ i = 8 ∨ i = 9 ∨ i = 10 ∨ i = 11 ∨ i = 12 ∨ i = 13 ∨ i = 14 ∨ i = 15 ∨ i = 16 := by omega
   rcases hsplit with rfl | rfl | rfl | rfl | rfl | rfl | rfl | rfl | rfl | rfl | rfl | rfl | rfl | rfl | rfl | rfl | rfl
   all_goals obtain rfl := sji (show some _ = some o from hi)
   all_goals first | rw [if_pos (show Region.wanted _ _ = true from rfl)] | skip
   all_goals (have h3 : tm.getD 3 undef = .pointer (some ⟨g + 1, 0, none⟩) := (hJ.old 3 (IdS.sl_no 3 (by decide))).trans rfl;have h3' := gdq h3)
   all_goals have c0 := HBv.s.cell 0 _ rfl
   all_goals have c1 := HBv.s.cell 1 _ rfl
   all_goals have c2 := HBv.s.cell 2 _ rfl
   all_goals have z0 := HBv.s.lt
   all_goals (have h2 : tm.getD 2 undef = .pointer (some ⟨g, 0, none⟩) := (hJ.old 2 (IdS.sl_no 2 (by decide))).trans rfl;have h2' := gdq h2)
   all_goals try have v1 : tm.getD 24 undef = .pointer (some ⟨g, 0, none⟩) := by (refine hJ.val 1 (by decide) (hdep ⟨1, .data⟩ ?_ rfl); simp <;> fail)
   all_goals try have v1' := gdq v1
   all_goals try have v2 : tm.getD 25 undef = .pointer (some ⟨g, 3, none⟩) := by (refine hJ.val 2 (by decide) (hdep ⟨2, .data⟩ ?_ rfl); simp <;> fail)
   all_goals try have v2' := gdq v2
   all_goals have c0 := HBv.h.cell 3 _ (show hc[3]? = some (.string ru) by rw [← HHc.out]; rfl)
   all_goals have z0 := HBv.h.lt
   all_goals try have v5 : tm.getD 28 undef = .pointer (some ⟨g, 14, none⟩) := by (refine hJ.val 5 (by decide) (hdep ⟨5, .data⟩ ?_ rfl); simp <;> fail)
   all_goals try have v5' := gdq v5
   all_goals have c0 := HBv.h.cell 14 _ (show hc[14]? = some (.int .i64 y) by rw [← HHc.out]; rfl)
   all_goals try have v6 : tm.getD 29 undef = .int .i64 y := by (refine hJ.val 6 (by decide) (hdep ⟨6, .data⟩ ?_ rfl); simp <;> fail)
   all_goals try have v6' := gdq v6
   all_goals have q : IntKind.i64.wrap (y - 1) = y - 1 := by have := HY1.out; rw [IntKind.wrap_i64]; omega
   all_goals try have v8 : tm.getD 31 undef = .pointer (some ⟨g, 14, none⟩) := by (refine hJ.val 8 (by decide) (hdep ⟨8, .data⟩ ?_ rfl); simp <;> fail)
   all_goals try have v8' := gdq v8
   all_goals try have v9 : tm.getD 32 undef = .int .i64 y := by (refine hJ.val 9 (by decide) (hdep ⟨9, .data⟩ ?_ rfl); simp <;> fail)
   all_goals try have v9' := gdq v9
   all_goals have q : IntKind.i64.wrap (y + 1) = y + 1 := by have := HY1.out; rw [IntKind.wrap_i64]; omega
   all_goals try have v14 : tm.getD 36 undef = .int .i64 0 := by (refine hJ.val 14 (by decide) (hdep ⟨14, .data⟩ ?_ rfl); simp <;> fail)
   all_goals try have v14' := gdq v14
   all_goals first | (go_simp;exact hK _ _ (hJ.put IdS.Q_mono IdS.sl_inj (by decide) rfl)) | skip
   ·have v0 : tm.getD 23 undef = .agg #[.slice rA n1 rc, .slice zA n2 zc, .slice lA n3 lc] := hJ.val 0 (by decide) (hdep ⟨0, .data⟩ (by simp) rfl);have v0' := gdq v0;have v3 : tm.getD 26 undef = .string ru := hJ.val 3 (by decide) (hdep ⟨3, .data⟩ (by simp) rfl);have v3' := gdq v3;go_simp;refine (HRl.out wv (HBl.out.trans (hJ.below.mono HBl.out.size))).mono ?_;rintro e w' ⟨v, rfl, hbm, ho⟩;obtain ⟨A2, c2, rfl, hle⟩ := own_slice ho;exact hK _ _ (hJ.step IdS.Q_mono IdS.sl_inj (by decide) hbm ⟨A2, c2, rfl, Reads.of_own ho⟩)
   ·obtain ⟨A4, c4, v4, hr4⟩ : ∃ A c, tm.getD 27 undef = .slice A rl.length c ∧ Reads wv wv.heap.size 11 A rl.length (rl.flatMap Ru.R.cells) := hJ.val 4 (by decide) (hdep ⟨4, .data⟩ (by simp) rfl);have v4' := (Array.getD_eq_getD_getElem? (xs := tm) (i := 27) (d := undef)).symm.trans v4;have v7 : tm.getD 30 undef = .int .i64 (y - 1) := hJ.val 7 (by decide) (hdep ⟨7, .data⟩ (by simp) rfl);have v7' := gdq v7;have v10 : tm.getD 33 undef = .int .i64 (y + 1) := hJ.val 10 (by decide) (hdep ⟨10, .data⟩ (by simp) rfl);have v10' := gdq v10;have HC := Lib.hid (HOf.out wv A4 c4 (HBl.out.trans (hJ.below.mono HBl.out.size)) hr4);clear hr4;go_simp;refine HC.out.mono ?_;rintro e w' ⟨hbm, v, rfl, ho⟩;exact hK _ _ (hJ.step IdS.Q_mono IdS.sl_inj (by decide) hbm ⟨v, rfl, Oc.own_low ho (hJ.below.size)⟩)
   ·obtain ⟨u11, v11, ho11⟩ : ∃ u, tm.getD 34 undef = .tuple #[u, .int .i64 0] ∧ wv.ownsRow W.heap.size 272 5 u oc.length (oc.flatMap Oc.E.occ) := hJ.val 11 (by decide) (hdep ⟨11, .data⟩ (by simp) rfl);have v11' := (Array.getD_eq_getD_getElem? (xs := tm) (i := 34) (d := undef)).symm.trans v11;go_simp;exact hK _ _ (hJ.put IdS.Q_mono IdS.sl_inj (by decide) ⟨u11, rfl, ho11⟩)
   ·obtain ⟨u12, v12, ho12⟩ : ∃ u, tm.getD 22 undef = .tuple #[u, .int .i64 0] ∧ wv.ownsRow W.heap.size 272 5 u oc.length (oc.flatMap Oc.E.occ) := hJ.val 12 (by decide) (hdep ⟨12, .data⟩ (by simp) rfl);have v12' := (Array.getD_eq_getD_getElem? (xs := tm) (i := 22) (d := undef)).symm.trans v12;go_simp;exact hK _ _ (hJ.put IdS.Q_mono IdS.sl_inj (by decide) ho12)
   ·obtain ⟨u12, v12, ho12⟩ : ∃ u, tm.getD 22 undef = .tuple #[u, .int .i64 0] ∧ wv.ownsRow W.heap.size 272 5 u oc.length (oc.flatMap Oc.E.occ) := hJ.val 12 (by decide) (hdep ⟨12, .data⟩ (by simp) rfl);have v12' := (Array.getD_eq_getD_getElem? (xs := tm) (i := 22) (d := undef)).symm.trans v12;go_simp;exact hK _ _ (hJ.put IdS.Q_mono IdS.sl_inj (by decide) rfl)
   ·obtain ⟨u13, v13, ho13⟩ : ∃ u, tm.getD 35 undef = u ∧ wv.ownsRow W.heap.size 272 5 u oc.length (oc.flatMap Oc.E.occ) := ⟨_, rfl, hJ.val 13 (by decide) (hdep ⟨13, .data⟩ (by simp) rfl)⟩
    have v13' := (Array.getD_eq_getD_getElem? (xs := tm) (i := 35) (d := undef)).symm.trans v13;go_simp;exact hK _ _ (hJ.put IdS.Q_mono IdS.sl_inj (by decide) (by show World.ownsRow _ _ _ _ _ _ _; exact ho13))
  case finR =>
   intro a' W5 hJ hN hdf;have s2 : a'.tmps.getD 2 undef = .pointer (some ⟨g, 0, none⟩) := (hJ.old 2 (IdS.sl_no 2 (by decide))).trans rfl;have s3 : a'.tmps.getD 3 undef = .pointer (some ⟨g + 1, 0, none⟩) := (hJ.old 3 (IdS.sl_no 3 (by decide))).trans rfl;have s4 : a'.tmps.getD 4 undef = .pointer (some ⟨g + 2, 0, none⟩) := (hJ.old 4 (IdS.sl_no 4 (by decide))).trans rfl;have s5 : a'.tmps.getD 5 undef = .pointer (some ⟨g + 3, 0, none⟩) := (hJ.old 5 (IdS.sl_no 5 (by decide))).trans rfl;obtain ⟨u15, s6, ho15⟩ : ∃ u, a'.tmps.getD 6 undef = u ∧ W5.ownsRow W.heap.size 272 5 u oc.length (oc.flatMap Oc.E.occ) := ⟨_, rfl, hJ.val 15 (by decide) (by rfl)⟩
   have s7 : a'.tmps.getD 7 undef = .int .i64 0 := hJ.val 16 (by decide) (by rfl);have hb9 := hJ.below;have ef : a' = { tmps := ((List.range 67).map fun i => a'.tmps.getD i undef).toArray, defers := [] } := Rg.frame_of 67 a' hN hdf;obtain ⟨u, hu⟩ : ∃ u : Nat → Value, (fun i => a'.tmps.getD i undef) = u := ⟨_, rfl⟩
   rw [hu] at ef;have e2 : u 2 = .pointer (some ⟨g, 0, none⟩) := by rw [← hu]; exact s2
   have e3 : u 3 = .pointer (some ⟨g + 1, 0, none⟩) := by rw [← hu]; exact s3
   have e4 : u 4 = .pointer (some ⟨g + 2, 0, none⟩) := by rw [← hu]; exact s4
   have e5 : u 5 = .pointer (some ⟨g + 3, 0, none⟩) := by rw [← hu]; exact s5
   have e6 : u 6 = u15 := by rw [← hu]; exact s6
   have e7 : u 7 = .int .i64 0 := by rw [← hu]; exact s7
   have ef2 : a' = { tmps := (u 0 :: u 1 :: u 2 :: u 3 :: u 4 :: u 5 :: u 6 :: u 7 :: u 8 :: u 9 :: u 10 :: u 11 :: u 12 :: u 13 :: u 14 :: u 15 :: u 16 :: u 17 :: u 18 :: u 19 :: u 20 :: u 21 :: u 22 :: u 23 :: u 24 :: u 25 :: u 26 :: u 27 :: u 28 :: u 29 :: u 30 :: u 31 :: u 32 :: u 33 :: u 34 :: u 35 :: u 36 :: u 37 :: u 38 :: u 39 :: u 40 :: u 41 :: u 42 :: u 43 :: u 44 :: u 45 :: u 46 :: u 47 :: u 48 :: u 49 :: u 50 :: u 51 :: u 52 :: u 53 :: u 54 :: u 55 :: u 56 :: u 57 :: u 58 :: u 59 :: u 60 :: u 61 :: u 62 :: u 63 :: u 64 :: u 65 :: u 66 :: [] : List Value).toArray, defers := [] } := ef;rw [e2, e3, e4, e5, e6, e7] at ef2;rw [ef2];clear hJ hN hdf ef ef2 hu e2 s2 e3 s3 e4 s4 e5 s5 e6 s6 e7 s7;obtain ⟨vA, vc, rfl, hv1, hv2⟩ := own_slice_cap ho15;have HX5 := Lib.hid (HX.out.call hb9);have HB5 := Lib.hid (HBl.out.trans (hb9.mono HBl.out.size));obtain ⟨no, hno⟩ : ∃ k, oc.length = k := ⟨_, rfl⟩
   rw [hno] at hv1 ho15 HOl ⊢;have HNo := Lib.hid hno;have HR5 := Lib.hid (Reads.of_own ho15);have hz5 : g + 4 ≤ W5.heap.size := by rw [← HS0.out]; exact hb9.size
   clear ho15 hb9 hno h1c h2c zh k0 f0 r0 g0 zk zr;go_wp2_with fail
   gi_wp2_with fail
   refine ⟨trivial, (callsIn_wide.2 (idBehind_any _ _ _ _)).mono ?_⟩;rintro e Wi ⟨rfl, hWi⟩;obtain ⟨b5, hb5⟩ : ∃ n, W5.heap.size = n := ⟨_, rfl⟩
   have hbi : Below W5.heap.size W5 Wi := by rw [← hWi]; exact (Below.refl _ _).alloc (Nat.le_refl _) _
   have hAi : At Wi b5 [.slice vA no vc] := by rw [← hWi, ← hb5]; exact At.new _ _ _
   have hsi : Wi.heap.size = b5 + 1 := by rw [← hWi, World.size_alloc, hb5]
   have HXi := Lib.hid (HX5.out.call hbi);have HBi := Lib.hid (HB5.out.trans (hbi.mono HB5.out.size));have HRi := Lib.hid ((HR5.out.below hbi).more hbi.size);have HAi := Lib.hid hAi;have HSi := Lib.hid hsi;rw [hb5] at hz5 ⊢;clear hWi hbi hAi hsi hb5 HX5 HB5 HR5
   gi_wp2_with fail
   obtain ⟨es, hes⟩ : ∃ es : List {o : Oc.E // Ln.OcOk std o}, es.map (·.1) = oc := ⟨oc.attachWith _ HEv.out, List.attachWith_map_subtype_val _⟩
   have HEs := Lib.hid hes;have HEl : Hid (es.length = no) := by
    show es.length = no
    rw [← HNo.out, ← hes, List.length_map]
   have HEf : Hid ((es.flatMap fun a => a.1.occ) = oc.flatMap Oc.E.occ) := by
    show (es.flatMap fun a => a.1.occ) = oc.flatMap Oc.E.occ
    rw [← hes, List.flatMap_map]
   clear hes;have eg := enters_of Tryz.func200 (by kernel_rfl) rfl;have HOcl := Lib.hid (show no ≤ 1000000000 by have := HOl.out; omega);clear HOl;refine wpIn_rangeFunc_ownH (F := Fence.wide) (n := 6) rfl (by decide) (gf := 200) (lb := #[.pointer (some ⟨b5, 0, none⟩)]) rfl trivial eg
    (encs := fun x : {o : Oc.E // Ln.OcOk std o} => #[x.1.occv]) (Kp := fun A B => Below (b5 + 1) A B) (S := fun ys => ys = es.reverse) (Sp := fun pre => ∃ j, pre = es.reverse.take j) (N := no) (w0 := Wi)
    (fun l' JY JX X hX _ _ hY h0 => idBehind1_in 4 l' b5 (b5 + 1) (fun o : {o : Oc.E // Ln.OcOk std o} => o.1) es vA no vc HEl.out HOcl.out JY JX hY X ((hX.cell (p := ⟨b5, 0, none⟩) (by rw [HSi.out]; show b5 < b5 + 1; omega)).trans (HAi.out.cell 0 _ rfl)) (by omega) (by have h := HRi.out.below hX; rw [HSi.out] at h; rw [HEf.out]; exact h) (by have := hX.size; rw [HSi.out] at this; exact this) h0)
    (fun a b => a.trans b) (fun X l' o o' h1 h2 h3 h4 => belowK_b (w := Wi) (by rw [HSi.out]; exact Nat.le_refl _) X l' o o' h1 h2 h3 h4) (Below.refl _ _) (fun _ => rfl)
    (fun pre X => (∀ o ∈ pre, decide (Oc.ti std o.1 ≤ t) = false) ∧ Ln.IBx g hc (.slice rA n1 rc) (.slice zA n2 zc) (.slice lA n3 lc) (.int .i64 0) (.string ⟨#[]⟩) X ∧ Below w.heap.size w X ∧ b5 + 1 ≤ X.heap.size)
    (fun c pre X => (c = .ret ∧ ∃ q x, pre = q ++ [x] ∧ (∀ o ∈ q, decide (Oc.ti std o.1 ≤ t) = false) ∧ decide (Oc.ti std x.1 ≤ t) = true ∧ Ln.IBx g hc (.slice rA n1 rc) (.slice zA n2 zc) (.slice lA n3 lc) (.int .i64 x.1.sv) (.string x.1.lt) X) ∧ Below w.heap.size w X)
    (fun pre X X' row hs hg hr => ⟨hs.1, hs.2.1.kept hg (fun r e => (hr r e).2), hs.2.2.1.grown hg hs.2.2.1.size (fun k e => by have := (hr k e).1; rw [HSi.out] at this; rw [HG.out]; omega), Nat.le_trans hs.2.2.2 hg.size⟩)
    (fun c pre X X' row hs hg hr => ⟨by obtain ⟨h0, q, x, h1, h2, h3, h4⟩ := hs.1; exact ⟨h0, q, x, h1, h2, h3, h4.kept hg (fun r e => (hr r e).2)⟩, hs.2.grown hg hs.2.size (fun k e => by have := (hr k e).1; rw [HSi.out] at this; rw [HG.out]; omega)⟩)
    ⟨fun y hy => (by cases hy), HXi.out, HBi.out, by rw [HSi.out]; exact Nat.le_refl _⟩
    (fun o a' X => ∃ Bx, Ln.Bk X Bx #[.int .i64 o.1.n, .int .u8 o.1.c, .int .i64 o.1.sv, .int .i64 o.1.bf, .string o.1.lt] 272 ∧ a'.tmps.size = 67 ∧ a'.defers = [] ∧ a'.tmps.getD 2 undef = .pointer (some ⟨g, 0, none⟩) ∧ a'.tmps.getD 4 undef = .pointer (some ⟨g + 2, 0, none⟩) ∧ a'.tmps.getD 5 undef = .pointer (some ⟨g + 3, 0, none⟩) ∧ a'.tmps.getD 8 undef = .pointer (some ⟨Bx, 0, none⟩))
    (fun o a' _ X X' row hs hg hr => by obtain ⟨Bx, h1, h2⟩ := hs; exact ⟨Bx, h1.grown hg (fun r e => (hr r e).2), h2⟩)
    ?assign ?body ?done ?stop
   case assign =>
    rintro l' pre o X K ⟨i1, i2, i3, i4⟩ hK;have hal : Below X.heap.size X (X.alloc (.cells #[.int .i64 o.1.n, .int .u8 o.1.c, .int .i64 o.1.sv, .int .i64 o.1.bf, .string o.1.lt] 272)) := (Below.refl _ _).alloc (Nat.le_refl _) _;have hzX := i2.r.lt;unfold Oc.E.occv
    gi_wp2
    exact hK _ _ (Ln.keeps_below hal) (hal.mono (by omega)) ⟨i1, i2.call hal, i3.trans (hal.mono i3.size), Nat.le_trans i4 hal.size⟩ ⟨X.heap.size, Ln.Bk.new _ _ _, rfl, rfl, rfl, rfl, rfl, rfl⟩
   case body =>
    rintro l' pre o a' X hl' _ ⟨i1, i2, i3, i4⟩ ⟨Bx, hBx, hsz, hdf, s2, s4, s5, s8⟩ hlen;have ef := Ln.frame_all 67 a' hsz;obtain ⟨v, hu⟩ : ∃ v : Nat → Value, (fun i => a'.tmps.getD i undef) = v := ⟨_, rfl⟩
    rw [hu, hdf] at ef;have e2 : v 2 = _ := (congrFun hu 2).symm.trans s2;have e4 : v 4 = _ := (congrFun hu 4).symm.trans s4;have e5 : v 5 = _ := (congrFun hu 5).symm.trans s5;have e8 : v 8 = _ := (congrFun hu 8).symm.trans s8;have ef2 : a' = { tmps := (v 0 :: v 1 :: v 2 :: v 3 :: v 4 :: v 5 :: v 6 :: v 7 :: v 8 :: v 9 :: v 10 :: v 11 :: v 12 :: v 13 :: v 14 :: v 15 :: v 16 :: v 17 :: v 18 :: v 19 :: v 20 :: v 21 :: v 22 :: v 23 :: v 24 :: v 25 :: v 26 :: v 27 :: v 28 :: v 29 :: v 30 :: v 31 :: v 32 :: v 33 :: v 34 :: v 35 :: v 36 :: v 37 :: v 38 :: v 39 :: v 40 :: v 41 :: v 42 :: v 43 :: v 44 :: v 45 :: v 46 :: v 47 :: v 48 :: v 49 :: v 50 :: v 51 :: v 52 :: v 53 :: v 54 :: v 55 :: v 56 :: v 57 :: v 58 :: v 59 :: v 60 :: v 61 :: v 62 :: v 63 :: v 64 :: v 65 :: v 66 :: [] : List Value).toArray, defers := [] } := ef;rw [e2, e4, e5, e8] at ef2;rw [ef2];have hok := o.2;obtain ⟨q, hq⟩ : ∃ q, o.1 = q := ⟨_, rfl⟩
    rw [hq] at hBx hok;obtain ⟨on, oc_, os, ob, ol, op, oy⟩ := q;obtain ⟨hc0, hsv, hi2⟩ := hok;have HQ := Lib.hid hq;simp only at hBx hc0 hi2;have HIn := Lib.hid fun W => (instant_any on oc_ std ob W hc0).mono (R' := fun e w' => e = .returned (.tuple #[.int .i64 (Mo.ins on oc_ std ob).1, .int .i64 (Mo.ins on oc_ std ob).2]) ∧ w' = W) fun e w' h => ⟨h.1, h.2.symm⟩
    obtain ⟨ti, hti⟩ : ∃ t, (Mo.ins on oc_ std ob).1 = t := ⟨_, rfl⟩
    have HTi : Hid (Oc.ti std o.1 = ti) := by show Oc.ti std o.1 = ti; rw [hq]; exact hti
    rw [hi2, hti] at HIn;have b0 := hBx.at_.cell 0 _ rfl;have b1 := hBx.at_.cell 1 _ rfl;have b2 := hBx.at_.cell 2 _ rfl;have b3 := hBx.at_.cell 3 _ rfl;have b4 := hBx.at_.cell 4 _ rfl;have zx := hBx.lt;have m0 := i2.h.cell 0 _ (show hc[0]? = some (.int .i64 std) by rw [← HHc.out]; rfl);have m13 := i2.h.cell 13 _ (show hc[13]? = some (.int .i64 t) by rw [← HHc.out]; rfl);have zm := i2.h.lt;obtain ⟨k0, f0⟩ := And.intro (i2.k.cell 0 _ rfl) (i2.k.free 0 _ rfl);obtain ⟨r0, g0⟩ := And.intro (i2.r.cell 0 _ rfl) (i2.r.free 0 _ rfl);have zk := i2.k.lt;have zr := i2.r.lt;have HI1 := Lib.hid i1;have HI2 := Lib.hid i2;have HI3 := Lib.hid i3;clear ef hu e2 e4 e5 e8 ef2 s2 s4 s5 s8 hsz hdf hBx i1 i2 i3 hti hi2 hsv hq;have hmx : Tryz.prog.follows .mixedOrders = true := by kernel_rfl
    have hd1 : 1 ≤ 6 - 1 - 1 := by omega
    gi_wp2_with fail
    refine ⟨trivial, (CallsIn.inRound l' (callsIn_wide.2 (HIn.out _))).mono ?_⟩;rintro e W9 ⟨rfl, rfl⟩
    by_cases hle : ti ≤ t
    ·have HP : Hid (decide (Oc.ti std o.1 ≤ t) = true) := by
      show decide _ = true
      rw [HTi.out];exact decide_eq_true hle
     gi_wp2_with fail
     gi_region_with_o (fail)
     all_goals
      gi_wp2
      have hP := HI2.out.put (.int .i64 os) (.string ol);have hKf : KeepsFrom Wi.heap.size W9 ((W9.setCell ⟨g + 2, 0, none⟩ (.int .i64 os)).setCell ⟨g + 3, 0, none⟩ (.string ol)) := ((KeepsOthers.setCell _ _ _).trans (KeepsOthers.setCell _ _ _)).from _;refine ⟨⟨hKf.1, hKf.2⟩, ⟨rfl, pre, o, rfl, HI1.out, HP.out, ?_⟩, ?_⟩
      ·rw [HQ.out];exact ⟨hP.h, hP.s, hP.k, hP.r⟩
      ·exact (Ln.put_below HI3.out HG.out _ _).drew
    ·have HP : Hid (decide (Oc.ti std o.1 ≤ t) = false) := by
      show decide _ = false
      rw [HTi.out];exact decide_eq_false hle
     gi_wp2_with fail
     exact ⟨KeepsFrom.refl _ _, Below.refl _ _, fun y hy => by
      rcases List.mem_append.1 hy with hy | hy
      ·exact HI1.out y hy
      ·rw [List.mem_singleton.1 hy]; exact HP.out, HI2.out, HI3.out, i4⟩
   case stop =>
    rintro D c pre X hD ⟨j, hj⟩ ⟨⟨rfl, q, x, hq, hne, hx, hX⟩, hB⟩ hK;have HEz : Hid (Z = (x.1.sv, x.1.lt)) := by
     show Z = _
     have h := HZ2.out;have hm : oc.reverse.take j = q.map (·.1) ++ [x.1] := by
      rw [← HEs.out, ← List.map_reverse, ← List.map_take, ← hj, hq, List.map_append];rfl
     rw [Ln.hit_of (p := fun o => decide (Oc.ti std o ≤ t)) hm (fun y hy => by obtain ⟨z, hz, rfl⟩ := List.mem_map.1 hy; exact hne z hz) hx] at h;exact h
    gi_wp2
    exact saved_out1 rfl rfl (by rw [HEz.out]; exact hX.k.cell 0 _ rfl) (by rw [HEz.out]; exact hX.r.cell 0 _ rfl) hB hK (by rw [HSi.out] at hD; rw [HG.out]; omega)
   case done =>
    rintro D ys X hD rfl ⟨hne, hX, hB, _⟩ hK;have HEz : Hid (Z = (0, ⟨#[]⟩)) := by
     show Z = _
     have h := HZ2.out;rw [Ln.miss_of (es := oc) (p := fun o => decide (Oc.ti std o ≤ t)) (fun y hy => by
      rw [← HEs.out, ← List.map_reverse] at hy;obtain ⟨z, hz, rfl⟩ := List.mem_map.1 hy;exact hne z hz)] at h
     exact h
    obtain ⟨k0, f0⟩ := And.intro (hX.k.cell 0 _ rfl) (hX.k.free 0 _ rfl);obtain ⟨r0, g0⟩ := And.intro (hX.r.cell 0 _ rfl) (hX.r.free 0 _ rfl);have HX9 := Lib.hid hX;have HKK := Lib.hid hK;have HB9 := Lib.hid hB;clear hne hX hB hK
    gi_wp2
    have HXe := HX9.out.put (.int .i64 0) (.string ⟨#[]⟩);have hko := (KeepsOthers.setCell X ⟨g + 2, 0, none⟩ (.int .i64 0)).trans (KeepsOthers.setCell _ ⟨g + 3, 0, none⟩ (.string ⟨#[]⟩));exact saved_out1 rfl rfl (by rw [HEz.out]; exact HXe.k.cell 0 _ rfl) (by rw [HEz.out]; exact HXe.r.cell 0 _ rfl) (Ln.put_below HB9.out HG.out _ _) (hko.same D _ HKK.out rfl) (by rw [HSi.out] at hD; rw [HG.out]; omega)
 ·have HEz : Hid (Z = (0, ⟨#[]⟩)) := by
   have := HZ.out;rw [if_neg hk1, if_neg hk2] at this;exact this
  have q1 : (ek == 1) = false := by rw [beq_eq_false_iff_ne]; exact hk1
  have q2 : (ek != 2) = true := by simpa using hk2
  gi_wp2_with fail
  obtain ⟨b1, b2, b3⟩ := Ln.box4 w (.cells #[.int .i64 std, .int .u8 ek, .int .i64 esv, .string ru, .string fm, .bool en, .int .i64 uy, .int .i64 mm, .int .u8 dk, .int .i64 dn, .int .i64 dd, .int .i64 sc, .int .u8 cc, .int .i64 t, .int .i64 y] 207) (.cells #[.slice rA n1 rc, .slice zA n2 zc, .slice lA n3 lc] 26) (.int .i64 0) (.string ⟨#[]⟩) 2 9;exact saved_out rfl rfl (by rw [HEz.out]; exact b1) (by rw [HEz.out]; exact b2) b3
end Go.Proofs.YtjobhjemnmleaaaGreatDoor
