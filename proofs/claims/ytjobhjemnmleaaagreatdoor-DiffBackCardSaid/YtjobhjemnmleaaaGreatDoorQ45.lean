/- solsticeref46.Same: whether two lists of changes are one. -/
import Derived.Test.YtjobhjemnmleaaaGreatDoorQ37
set_option maxRecDepth 100000
set_option maxHeartbeats 4000000
namespace Go.Proofs.YtjobhjemnmleaaaGreatDoor
open Go.RowKit
theorem change_yes (a : Df.Ch) (w : World) : (Op.equalIn 10000 37 (.agg #[.string a.nm, .int .i64 a.why, .int .i64 a.fr]) (.agg #[.string a.nm, .int .i64 a.why, .int .i64 a.fr])).run Tryz.prog w = .ok true w := by
 obtain ⟨x, y, z⟩ := a;simp only;go_simp
theorem change_no {a b : Df.Ch} (h : a ≠ b) (w : World) : (Op.equalIn 10000 37 (.agg #[.string a.nm, .int .i64 a.why, .int .i64 a.fr]) (.agg #[.string b.nm, .int .i64 b.why, .int .i64 b.fr])).run Tryz.prog w = .ok false w := by
 obtain ⟨x, y, z⟩ := a;obtain ⟨x', y', z'⟩ := b;simp only;go_simp;simp only [Ln.tl_iff];rintro rfl rfl rfl;exact h rfl
theorem same46_any (A A' : Option Addr) (n n' c c' : Nat) (l l' : List Df.Ch) (w : World) (hn : n ≤ maxLen) (hn' : n' ≤ maxLen) (h1 : l.length = n) (h2 : l'.length = n') (hr : Reads w w.heap.size 3 A n (l.flatMap Df.Ch.cells)) (hr' : Reads w w.heap.size 3 A' n' (l'.flatMap Df.Ch.cells)) :
  Calls Tryz.prog 47 #[.slice A n c, .slice A' n' c'] w fun e w' => e = .returned (.bool (decide (l = l'))) ∧ Drew w w' := by
 unfold maxLen at hn hn'
 by_cases he : n = n'
 ·subst he;have q0 : ((n : Int) != (n : Int)) = false := by simp
  have H1 := Lib.hid h1;have H2 := Lib.hid h2;have HR := Lib.hid hr;have HR' := Lib.hid hr';clear h1 h2 hr hr';go_enter Tryz.func47, Tryz.ntmps47
  go_wp2;go_loopw [13] (fun i wr => ∃ k : Nat, k ≤ n ∧ i = .int .i64 k ∧ Hid (Drew w wr) ∧ Hid (l.take k = l'.take k)) (fun i _ => n - (intOf i).toNat)
  case atStart => exact ⟨0, Nat.zero_le _, rfl, Drew.refl w, rfl⟩
  case round =>
   obtain ⟨k, hk, rfl, HD, HE⟩ := hrel
   by_cases hlt : k < n
   ·obtain ⟨x, hx⟩ : ∃ m, l[k]? = some m := ⟨_, List.getElem?_eq_getElem (by rw [H1.out]; exact hlt)⟩
    obtain ⟨y, hy⟩ : ∃ m, l'[k]? = some m := ⟨_, List.getElem?_eq_getElem (by rw [H2.out]; exact hlt)⟩
    obtain ⟨ad, x', rfl, _, Hx, HL0⟩ := Ix.reads_cells (enc := Df.Ch.cells) (m := 3) (fun _ => rfl) H1.out (HR.out.of_drew HD.out) hlt;obtain ⟨ad', y', rfl, _, Hy, HL0'⟩ := Ix.reads_cells (enc := Df.Ch.cells) (m := 3) (fun _ => rfl) H2.out (HR'.out.of_drew HD.out) hlt;have ex : x' = x := by have := Hx.out; rw [hx] at this; exact (Option.some.inj this).symm
    have ey : y' = y := by have := Hy.out; rw [hy] at this; exact (Option.some.inj this).symm
    have c0 : wr.cell? (ad.add (k * 3)) = some (.string x.nm) := by rw [← ex]; exact HL0.out 0 _ rfl
    have c1 : wr.cell? ⟨(ad.add (k * 3)).block, (ad.add (k * 3)).off + 1, none⟩ = some (.int .i64 x.why) := by rw [← ex]; exact HL0.out 1 _ rfl
    have c2 : wr.cell? ⟨(ad.add (k * 3)).block, (ad.add (k * 3)).off + 2, none⟩ = some (.int .i64 x.fr) := by rw [← ex]; exact HL0.out 2 _ rfl
    have d0 : wr.cell? (ad'.add (k * 3)) = some (.string y.nm) := by rw [← ey]; exact HL0'.out 0 _ rfl
    have d1 : wr.cell? ⟨(ad'.add (k * 3)).block, (ad'.add (k * 3)).off + 1, none⟩ = some (.int .i64 y.why) := by rw [← ey]; exact HL0'.out 1 _ rfl
    have d2 : wr.cell? ⟨(ad'.add (k * 3)).block, (ad'.add (k * 3)).off + 2, none⟩ = some (.int .i64 y.fr) := by rw [← ey]; exact HL0'.out 2 _ rfl
    clear ex ey Hx Hy HL0 HL0';have q1 : (0 : Int) ≤ (k : Int) := by omega
    have q2 : (k : Int) < (n : Int) := by omega
    by_cases hxy : x = y
    ·subst hxy;have HN := Lib.hid (Ln.take_more HE.out hx hy);have hq := fun W => change_yes x W
     clear hx hy;go_wp2;go_quiet (fail)
     go_wp2;go_roundw
     case rel => exact ⟨k + 1, by omega, by go_num, by first | exact HD.out | exact HD.out.drewN _, HN⟩
     case measure => simp [intOf]; omega
    ·have HN : Hid (decide (l = l') = false) := by
      show decide (l = l') = false
      apply decide_eq_false;intro e;apply hxy;rw [e, hy] at hx;exact (Option.some.inj hx).symm
     have hq := fun W => change_no hxy W
     clear hx hy hxy;go_wp2;go_quiet (fail)
     go_wp2;go_ret
     exact ⟨by rw [HN.out]; rfl, by first | exact HD.out | exact HD.out.drewN _⟩
   ·have q2 : ¬ (k : Int) < (n : Int) := by omega
    have hkn : k = n := by omega
    have HN : Hid (decide (l = l') = true) := by
     show decide (l = l') = true
     apply decide_eq_true;have := HE.out
     rwa [List.take_of_length_le (by rw [H1.out]; omega), List.take_of_length_le (by rw [H2.out]; omega)] at this
    go_wp2;go_ret
    exact ⟨by rw [HN.out]; rfl, HD.out⟩
 ·have q0 : ((n : Int) != (n' : Int)) = true := by simp; omega
  have q0' : ¬ (n : Int) = (n' : Int) := by omega
  have HN : Hid (decide (l = l') = false) := by
   show decide (l = l') = false
   apply decide_eq_false;intro e;apply he;rw [← h1, ← h2, e]
  clear h1 h2 hr hr' he;go_enter Tryz.func47, Tryz.ntmps47
  go_wp2;go_ret
  exact ⟨by rw [HN.out]; rfl, Drew.refl w⟩
namespace Src
def SmE (e : Er.E) : Prop := e.ru.size ≤ 1000 ∧ e.fm.size ≤ 1000
def SmZ (z : Txt × List Er.E) : Prop := z.2.length ≤ 12 ∧ z.1.length ≤ 1000 ∧ ∀ e ∈ z.2, SmE e
def SmR (r : Ru.R) : Prop := r.nm.size ≤ 1000 ∧ r.lt.size ≤ 1000
def SmL (k : Txt × Txt) : Prop := k.1.length ≤ 1000 ∧ k.2.length ≤ 1000
structure Few (s : S) : Prop where
 nr : s.rules.length ≤ 40
 nz : s.zones.length ≤ 12
 nl : s.links.length ≤ 20
 rules : ∀ r ∈ s.rules, SmR r
 zones : ∀ z ∈ s.zones, SmZ z
 links : ∀ k ∈ s.links, SmL k
theorem take_all {α : Type} {P : α → Prop} {l : List α} {k : Nat} {x : α} (h : ∀ a ∈ l.take k, P a) (hx : l[k]? = some x) (hp : P x) : ∀ a ∈ l.take (k + 1), P a := by
 rw [List.take_add_one, hx];intro a ha;rcases List.mem_append.1 ha with ha | ha
 ·exact h a ha
 ·have e : a = x := by simpa using ha
  rw [e]; exact hp
end Src
def SRel {α : Type} (P : α → Prop) (l : List α) (n : Nat) (w0 : World) (i : Value) (wr : World) : Prop :=
 ∃ k : Nat, k ≤ n ∧ i = .int .i64 k ∧ Hid (∀ a ∈ l.take k, P a) ∧ Hid (Below w0.heap.size w0 wr)
theorem few_any (s : Src.S) (rv zv lv : Value) (evs : List Value) (w : World) (hR : Src.SrcR w w.heap.size s rv zv lv evs) (hw : Src.Wide s) :
  Calls Tryz.prog 85 #[.agg #[rv, zv, lv]] w fun e w' => (e = .returned (.int .i64 0) ∨ (e = .returned (.int .i64 1) ∧ Src.Few s)) ∧ Below w.heap.size w w' := by
 have hwr := hw.rules;have hwz := hw.zones;have hwl := hw.links;clear hw;obtain ⟨rules, zones, links, op⟩ := s;obtain ⟨⟨rA, rc, rfl, hr1, hr2, hr3⟩, ⟨zA, zc, rfl, hz1, hz2, hz3⟩, ⟨lA, lc, rfl, hl1, hl2, hl3⟩, hlen, hers⟩ := hR;simp only at hr1 hr3 hz1 hz3 hl1 hl3 hlen hers hwr hwz hwl ⊢;obtain ⟨nr, hnr⟩ : ∃ n, rules.length = n := ⟨_, rfl⟩
 obtain ⟨nz, hnz⟩ : ∃ n, zones.length = n := ⟨_, rfl⟩
 obtain ⟨nl, hnl⟩ : ∃ n, links.length = n := ⟨_, rfl⟩
 have hzl : (zones.zip evs).length = nz := by rw [List.length_zip, hlen, hnz]; omega
 rw [hnr] at hr1 hr3 ⊢;rw [hnz] at hz1 hz3 ⊢;rw [hnl] at hl1 hl3 ⊢;unfold maxLen at hr2 hz2 hl2;have HNr := Lib.hid hnr;have HNz := Lib.hid hnz;have HNl := Lib.hid hnl;have HZl := Lib.hid hzl;have HRr := Lib.hid hr3;have HRz := Lib.hid hz3;have HRl := Lib.hid hl3;have HEr := Lib.hid hers;have HWr := Lib.hid hwr;have HWz := Lib.hid hwz;have HWl := Lib.hid hwl;have HB0 := Lib.hid ((Below.refl w.heap.size w).alloc (Nat.le_refl _) (.cells #[.slice rA nr rc, .slice zA nz zc, .slice lA nl lc] 26));have HA0 := Lib.hid (At.new w #[.slice rA nr rc, .slice zA nz zc, .slice lA nl lc] 26);obtain ⟨w0, hw0⟩ : ∃ x, w.alloc (.cells #[.slice rA nr rc, .slice zA nz zc, .slice lA nl lc] 26) = x := ⟨_, rfl⟩
 obtain ⟨h, hh⟩ : ∃ h, w.heap.size = h := ⟨_, rfl⟩
 rw [hw0] at HB0 HA0;have HH := Lib.hid hh;clear hnr hnz hnl hzl hr3 hz3 hl3 hers hwr hwz hwl hlen;obtain ⟨c0, c1, c2, _⟩ := (show At w0 h [.slice rA nr rc, .slice zA nz zc, .slice lA nl lc] by rw [← hh]; exact HA0.out).three;rw [hh] at HA0;go_enter Tryz.func85, Tryz.ntmps85
 by_cases q1 : (40 : Int) < (nr : Int)
 ·go_wp2;go_ret
  exact ⟨.inl rfl, by first | exact HB0.out | (rw [← hh]; exact HB0.out)⟩
 by_cases q2 : (12 : Int) < (nz : Int)
 ·go_wp2;go_ret
  exact ⟨.inl rfl, by first | exact HB0.out | (rw [← hh]; exact HB0.out)⟩
 by_cases q5 : (20 : Int) < (nl : Int)
 ·go_wp2;go_ret
  exact ⟨.inl rfl, by first | exact HB0.out | (rw [← hh]; exact HB0.out)⟩
 go_wp2;clear c0 c1 c2;go_loopw [30] (fun i wr => SRel Src.SmZ zones nz w0 i wr) (fun i _ => nz - (intOf i).toNat)
 case atStart => exact ⟨0, Nat.zero_le _, rfl, (fun a ha => by simp at ha), Below.refl _ _⟩
 case round =>
  obtain ⟨k, hk, rfl, HPk, HB⟩ := hrel;have HBr := Lib.hid (HB0.out.trans (HB.out.mono HB0.out.size))
  by_cases hlt : k < nz
  ·have q3 : (0 : Int) ≤ (k : Int) := by omega
   have q4 : (k : Int) < (nz : Int) := by omega
   obtain ⟨ad, x, rfl, hab, Hx, HL0⟩ := Ix.reads_cells (enc := Src.zc) (m := 2) (fun _ => rfl) HZl.out (HRz.out.below HBr.out) hlt;obtain ⟨z, ev⟩ := x;have hxz : zones[k]? = some z := (List.getElem?_zip_eq_some.1 Hx.out).1;have hwx := HWz.out z (List.mem_of_getElem? hxz);obtain ⟨eA, ec, he, hne, hem, hre⟩ := HEr.out (z, ev) (List.mem_of_getElem? Hx.out);simp only at he hne hre;subst he;obtain ⟨en0, hen⟩ : ∃ n, z.2.length = n := ⟨_, rfl⟩
   obtain ⟨xn, hxn⟩ : ∃ y, Src.bts z.1 = y := ⟨_, rfl⟩
   have hzn : xn.size = z.1.length := by rw [← hxn]; rfl
   have hs1 : xn.size ≤ maxLen := by rw [hzn]; exact hwx.1
   unfold maxLen at hs1 hem;rw [hen] at hne hre;have x0 : wr.cell? (ad.add (k * 2)) = some (.string xn) := by rw [← hxn]; exact HL0.out 0 _ rfl
   have x1 : wr.cell? ⟨(ad.add (k * 2)).block, (ad.add (k * 2)).off + 1, none⟩ = some (.slice eA en0 ec) := by rw [← hen]; exact HL0.out 1 _ rfl
   have HXz := Lib.hid hxz;have HZn := Lib.hid hzn;have HEn := Lib.hid hen;have HRe := Lib.hid hre;have HWe := Lib.hid hwx.2;obtain ⟨g, hg⟩ : ∃ g, wr.heap.size = g := ⟨_, rfl⟩
   obtain ⟨w3, hw3⟩ : ∃ x, wr.alloc (.cells #[.string xn, .slice eA en0 ec] 117) = x := ⟨_, rfl⟩
   have HT := Lib.hid (show At w3 g [.string xn, .slice eA en0 ec] by rw [← hw3, ← hg]; exact At.new wr #[.string xn, .slice eA en0 ec] 117);have HBa := Lib.hid (show Below w0.heap.size w0 w3 by rw [← hw3]; exact HB.out.alloc HB.out.size _);replace HBr := Lib.hid (show Below w.heap.size w w3 by rw [← hw3]; exact HBr.out.alloc HBr.out.size _);obtain ⟨t0, t1, _⟩ := HT.out.two;clear hwx hxn hxz hzn hre hen
   by_cases p1 : (12 : Int) < (en0 : Int)
   ·go_wp2;go_ret
    exact ⟨.inl rfl, by first | exact HBr.out | (rw [← hh]; exact HBr.out)⟩
   by_cases p2 : (1000 : Int) < (xn.size : Int)
   ·go_wp2;go_ret
    exact ⟨.inl rfl, by first | exact HBr.out | (rw [← hh]; exact HBr.out)⟩
   go_wp2;clear t0 t1 x0 x1;go_loopw [47] (fun i wr => SRel Src.SmE z.2 en0 w0 i wr) (fun i _ => en0 - (intOf i).toNat)
   case atStart => exact ⟨0, Nat.zero_le _, rfl, (fun a ha => by simp at ha), HBa.out⟩
   case round =>
    obtain ⟨j, hk, rfl, HPj, HB⟩ := hrel;have HBr := Lib.hid (HB0.out.trans (HB.out.mono HB0.out.size))
    by_cases hlt : j < en0
    ·have q3 : (0 : Int) ≤ (j : Int) := by omega
     have q4 : (j : Int) < (en0 : Int) := by omega
     obtain ⟨ad2, x, rfl, hab2, Hx2, HL2⟩ := Ix.reads_cells (enc := Er.E.cells) (m := 13) (fun _ => rfl) HEn.out (HRe.out.below HBr.out) hlt;have hwx := HWe.out x (List.mem_of_getElem? Hx2.out);obtain ⟨std, ek, esv, ru, fm, en, ⟨y, m, dk, dn, dd, sc, cc⟩⟩ := x;have hs1 : ru.size ≤ maxLen := hwx.2.1;have hs2 : fm.size ≤ maxLen := hwx.2.2;unfold maxLen at hs1 hs2;have yy0 : wr.cell? (ad2.add (j * 13)) = some (.int .i64 std) := HL2.out 0 _ rfl;have yy1 : wr.cell? ⟨(ad2.add (j * 13)).block, (ad2.add (j * 13)).off + 1, none⟩ = some (.int .u8 ek) := HL2.out 1 _ rfl;have yy2 : wr.cell? ⟨(ad2.add (j * 13)).block, (ad2.add (j * 13)).off + 2, none⟩ = some (.int .i64 esv) := HL2.out 2 _ rfl;have yy3 : wr.cell? ⟨(ad2.add (j * 13)).block, (ad2.add (j * 13)).off + 3, none⟩ = some (.string ru) := HL2.out 3 _ rfl;have yy4 : wr.cell? ⟨(ad2.add (j * 13)).block, (ad2.add (j * 13)).off + 4, none⟩ = some (.string fm) := HL2.out 4 _ rfl;have yy5 : wr.cell? ⟨(ad2.add (j * 13)).block, (ad2.add (j * 13)).off + 5, none⟩ = some (.bool en) := HL2.out 5 _ rfl;have yy6 : wr.cell? ⟨(ad2.add (j * 13)).block, (ad2.add (j * 13)).off + 6, none⟩ = some (.int .i64 y) := HL2.out 6 _ rfl;have yy7 : wr.cell? ⟨(ad2.add (j * 13)).block, (ad2.add (j * 13)).off + 7, none⟩ = some (.int .i64 m) := HL2.out 7 _ rfl;have yy8 : wr.cell? ⟨(ad2.add (j * 13)).block, (ad2.add (j * 13)).off + 8, none⟩ = some (.int .u8 dk) := HL2.out 8 _ rfl;have yy9 : wr.cell? ⟨(ad2.add (j * 13)).block, (ad2.add (j * 13)).off + 9, none⟩ = some (.int .i64 dn) := HL2.out 9 _ rfl
     have yy10 : wr.cell? ⟨(ad2.add (j * 13)).block, (ad2.add (j * 13)).off + 10, none⟩ = some (.int .i64 dd) := HL2.out 10 _ rfl;have yy11 : wr.cell? ⟨(ad2.add (j * 13)).block, (ad2.add (j * 13)).off + 11, none⟩ = some (.int .i64 sc) := HL2.out 11 _ rfl;have yy12 : wr.cell? ⟨(ad2.add (j * 13)).block, (ad2.add (j * 13)).off + 12, none⟩ = some (.int .u8 cc) := HL2.out 12 _ rfl;have HBa := Lib.hid (HB.out.alloc HB.out.size (.cells #[.int .i64 std, .int .u8 ek, .int .i64 esv, .string ru, .string fm, .bool en, .int .i64 y, .int .i64 m, .int .u8 dk, .int .i64 dn, .int .i64 dd, .int .i64 sc, .int .u8 cc] 191));replace HBr := Lib.hid (HBr.out.alloc HBr.out.size (.cells #[.int .i64 std, .int .u8 ek, .int .i64 esv, .string ru, .string fm, .bool en, .int .i64 y, .int .i64 m, .int .u8 dk, .int .i64 dn, .int .i64 dd, .int .i64 sc, .int .u8 cc] 191));clear hwx
     by_cases p3 : (1000 : Int) < (ru.size : Int)
     ·go_wp2;go_ret
      exact ⟨.inl rfl, by first | exact HBr.out | (rw [← hh]; exact HBr.out)⟩
     by_cases p4 : (1000 : Int) < (fm.size : Int)
     ·go_wp2;go_ret
      exact ⟨.inl rfl, by first | exact HBr.out | (rw [← hh]; exact HBr.out)⟩
     have HP2 := Lib.hid (Src.take_all HPj.out Hx2.out (show Src.SmE ⟨std, ek, esv, ru, fm, en, ⟨y, m, dk, dn, dd, sc, cc⟩⟩ from ⟨by show ru.size ≤ 1000; omega, by show fm.size ≤ 1000; omega⟩));go_wp2;go_roundw
     case rel => exact ⟨j + 1, by omega, by go_num, HP2.out, HBa.out⟩
     case measure => simp [intOf]; omega
    ·have q4 : ¬ (j : Int) < (en0 : Int) := by omega
     have hkn : en0 = j := by omega
     subst hkn;have hall := HPj.out;rw [List.take_of_length_le (by rw [HEn.out]; exact Nat.le_refl _)] at hall;have HP2 := Lib.hid (Src.take_all HPk.out HXz.out (show Src.SmZ z from ⟨by rw [HEn.out]; omega, by rw [← HZn.out]; omega, hall⟩));clear hall;go_wp2;go_roundw
     case rel => exact ⟨k + 1, by omega, by go_num, HP2.out, HB.out⟩
     case measure => simp [intOf]; omega
  ·have q4 : ¬ (k : Int) < (nz : Int) := by omega
   have hkn : nz = k := by omega
   subst hkn;have hall := HPk.out;rw [List.take_of_length_le (by rw [HNz.out]; exact Nat.le_refl _)] at hall;have HAz := Lib.hid hall;clear hall;obtain ⟨c0, c1, c2, _⟩ := (HA0.out.below HB.out HA0.out.lt).three;go_wp2;clear c0 c1 c2;go_loopw [66] (fun i wr => SRel Src.SmR rules nr w0 i wr) (fun i _ => nr - (intOf i).toNat)
   case atStart => exact ⟨0, Nat.zero_le _, rfl, (fun a ha => by simp at ha), HB.out⟩
   case round =>
    obtain ⟨k, hk, rfl, HPk, HB⟩ := hrel;have HBr := Lib.hid (HB0.out.trans (HB.out.mono HB0.out.size))
    by_cases hlt : k < nr
    ·have q3 : (0 : Int) ≤ (k : Int) := by omega
     have q4 : (k : Int) < (nr : Int) := by omega
     obtain ⟨ad, x, rfl, hab, Hx, HL0⟩ := Ix.reads_cells (enc := Ru.R.cells) (m := 11) (fun _ => rfl) HNr.out (HRr.out.below HBr.out) hlt;have hwx := HWr.out x (List.mem_of_getElem? Hx.out);obtain ⟨nm, fr, tt, mo, rk, rn, rd, rs, rc0, sv, lt⟩ := x;have hs1 : nm.size ≤ maxLen := hwx.2.1;have hs2 : lt.size ≤ maxLen := hwx.2.2;unfold maxLen at hs1 hs2;have x0 : wr.cell? (ad.add (k * 11)) = some (.string nm) := HL0.out 0 _ rfl;have x1 : wr.cell? ⟨(ad.add (k * 11)).block, (ad.add (k * 11)).off + 1, none⟩ = some (.int .i64 fr) := HL0.out 1 _ rfl;have x2 : wr.cell? ⟨(ad.add (k * 11)).block, (ad.add (k * 11)).off + 2, none⟩ = some (.int .i64 tt) := HL0.out 2 _ rfl;have x3 : wr.cell? ⟨(ad.add (k * 11)).block, (ad.add (k * 11)).off + 3, none⟩ = some (.int .i64 mo) := HL0.out 3 _ rfl;have x4 : wr.cell? ⟨(ad.add (k * 11)).block, (ad.add (k * 11)).off + 4, none⟩ = some (.int .u8 rk) := HL0.out 4 _ rfl;have x5 : wr.cell? ⟨(ad.add (k * 11)).block, (ad.add (k * 11)).off + 5, none⟩ = some (.int .i64 rn) := HL0.out 5 _ rfl;have x6 : wr.cell? ⟨(ad.add (k * 11)).block, (ad.add (k * 11)).off + 6, none⟩ = some (.int .i64 rd) := HL0.out 6 _ rfl;have x7 : wr.cell? ⟨(ad.add (k * 11)).block, (ad.add (k * 11)).off + 7, none⟩ = some (.int .i64 rs) := HL0.out 7 _ rfl;have x8 : wr.cell? ⟨(ad.add (k * 11)).block, (ad.add (k * 11)).off + 8, none⟩ = some (.int .u8 rc0) := HL0.out 8 _ rfl;have x9 : wr.cell? ⟨(ad.add (k * 11)).block, (ad.add (k * 11)).off + 9, none⟩ = some (.int .i64 sv) := HL0.out 9 _ rfl;have x10 : wr.cell? ⟨(ad.add (k * 11)).block, (ad.add (k * 11)).off + 10, none⟩ = some (.string lt) := HL0.out 10 _ rfl
     have HT := Lib.hid (At.new wr #[.string nm, .int .i64 fr, .int .i64 tt, .int .i64 mo, .int .u8 rk, .int .i64 rn, .int .i64 rd, .int .i64 rs, .int .u8 rc0, .int .i64 sv, .string lt] 112);have HBa := Lib.hid (HB.out.alloc HB.out.size (.cells #[.string nm, .int .i64 fr, .int .i64 tt, .int .i64 mo, .int .u8 rk, .int .i64 rn, .int .i64 rd, .int .i64 rs, .int .u8 rc0, .int .i64 sv, .string lt] 112));replace HBr := Lib.hid (HBr.out.alloc HBr.out.size (.cells #[.string nm, .int .i64 fr, .int .i64 tt, .int .i64 mo, .int .u8 rk, .int .i64 rn, .int .i64 rd, .int .i64 rs, .int .u8 rc0, .int .i64 sv, .string lt] 112));clear hwx
     by_cases p1 : (1000 : Int) < (nm.size : Int)
     ·go_wp2;go_ret
      exact ⟨.inl rfl, by first | exact HBr.out | (rw [← hh]; exact HBr.out)⟩
     by_cases p2 : (1000 : Int) < (lt.size : Int)
     ·go_wp2;go_ret
      exact ⟨.inl rfl, by first | exact HBr.out | (rw [← hh]; exact HBr.out)⟩
     have HP2 := Lib.hid (Src.take_all HPk.out Hx.out (show Src.SmR ⟨nm, fr, tt, mo, rk, rn, rd, rs, rc0, sv, lt⟩ from ⟨by show nm.size ≤ 1000; omega, by show lt.size ≤ 1000; omega⟩));go_wp2;go_roundw
     case rel => exact ⟨k + 1, by omega, by go_num, HP2.out, HBa.out⟩
     case measure => simp [intOf]; omega
    ·have q4 : ¬ (k : Int) < (nr : Int) := by omega
     have hkn : nr = k := by omega
     subst hkn;have hall := HPk.out;rw [List.take_of_length_le (by rw [HNr.out]; exact Nat.le_refl _)] at hall;have HAr := Lib.hid hall;clear hall;obtain ⟨c0, c1, c2, _⟩ := (HA0.out.below HB.out HA0.out.lt).three;go_wp2;clear c0 c1 c2;go_loopw [84] (fun i wr => SRel Src.SmL links nl w0 i wr) (fun i _ => nl - (intOf i).toNat)
     case atStart => exact ⟨0, Nat.zero_le _, rfl, (fun a ha => by simp at ha), HB.out⟩
     case round =>
      obtain ⟨k, hk, rfl, HPk, HB⟩ := hrel;have HBr := Lib.hid (HB0.out.trans (HB.out.mono HB0.out.size))
      by_cases hlt : k < nl
      ·have q3 : (0 : Int) ≤ (k : Int) := by omega
       have q4 : (k : Int) < (nl : Int) := by omega
       obtain ⟨ad, x, rfl, hab, Hx, HL0⟩ := Ix.reads_cells (enc := Src.lc) (m := 2) (fun _ => rfl) HNl.out (HRl.out.below HBr.out) hlt;have hwx := HWl.out x (List.mem_of_getElem? Hx.out);obtain ⟨xa, hxa⟩ : ∃ y, Src.bts x.1 = y := ⟨_, rfl⟩
       obtain ⟨xb, hxb⟩ : ∃ y, Src.bts x.2 = y := ⟨_, rfl⟩
       have hza : xa.size = x.1.length := by rw [← hxa]; rfl
       have hzb : xb.size = x.2.length := by rw [← hxb]; rfl
       have hs1 : xa.size ≤ maxLen := by rw [hza]; exact hwx.1
       have hs2 : xb.size ≤ maxLen := by rw [hzb]; exact hwx.2
       unfold maxLen at hs1 hs2;have x0 : wr.cell? (ad.add (k * 2)) = some (.string xa) := by rw [← hxa]; exact HL0.out 0 _ rfl
       have x1 : wr.cell? ⟨(ad.add (k * 2)).block, (ad.add (k * 2)).off + 1, none⟩ = some (.string xb) := by rw [← hxb]; exact HL0.out 1 _ rfl
       have HBa := Lib.hid (HB.out.alloc HB.out.size (.cells #[.string xa, .string xb] 114));replace HBr := Lib.hid (HBr.out.alloc HBr.out.size (.cells #[.string xa, .string xb] 114));have HZa := Lib.hid hza;have HZb := Lib.hid hzb;clear hwx hxa hxb hza hzb
       by_cases p1 : (1000 : Int) < (xa.size : Int)
       ·go_wp2;go_ret
        exact ⟨.inl rfl, by first | exact HBr.out | (rw [← hh]; exact HBr.out)⟩
       by_cases p2 : (1000 : Int) < (xb.size : Int)
       ·go_wp2;go_ret
        exact ⟨.inl rfl, by first | exact HBr.out | (rw [← hh]; exact HBr.out)⟩
       have HP2 := Lib.hid (Src.take_all HPk.out Hx.out (show Src.SmL x from ⟨by rw [← HZa.out]; omega, by rw [← HZb.out]; omega⟩));go_wp2;go_roundw
       case rel => exact ⟨k + 1, by omega, by go_num, HP2.out, HBa.out⟩
       case measure => simp [intOf]; omega
      ·have q4 : ¬ (k : Int) < (nl : Int) := by omega
       have hkn : nl = k := by omega
       subst hkn;have hall := HPk.out;rw [List.take_of_length_le (by rw [HNl.out]; exact Nat.le_refl _)] at hall;have HF := Lib.hid (show Src.Few ⟨rules, zones, links, op⟩ from ⟨by show rules.length ≤ 40; rw [HNr.out]; omega, by show zones.length ≤ 12; rw [HNz.out]; omega, by show links.length ≤ 20; rw [HNl.out]; omega, HAr.out, HAz.out, hall⟩);clear hall;go_wp2;go_ret
       exact ⟨.inr ⟨rfl, HF.out⟩, by first | exact HBr.out | (rw [← hh]; exact HBr.out)⟩
end Go.Proofs.YtjobhjemnmleaaaGreatDoor
namespace Go.Proofs.YtjobhjemnmleaaaGreatDoor
open Go.RowKit
namespace L46
def r0 : Ru.R := ⟨⟨#[69]⟩, 1996, 9999, 3, 1, 0, 0, 3600, 2, 3600, ⟨#[83]⟩⟩
def r1 : Ru.R := ⟨⟨#[69]⟩, 1996, 9999, 10, 1, 0, 0, 3600, 2, 0, ⟨#[]⟩⟩
def e0_0 : Er.E := ⟨3620, 0, 0, ⟨#[]⟩, ⟨#[120]⟩, true, ⟨1996, 1, 0, 1, 0, 0, 2⟩⟩
def e0_1 : Er.E := ⟨3600, 2, 0, ⟨#[69]⟩, ⟨#[67, 69, 37, 115, 84]⟩, false, ⟨0, 0, 0, 0, 0, 0, 0⟩⟩
def s : Src.S := ⟨[r0, r1], [([65, 47, 66], [e0_0, e0_1])], [([65, 47, 66], [67])], false⟩
theorem r0_ok : r0.Ok := ⟨by decide +kernel, ⟨by decide +kernel, by decide +kernel, by decide +kernel⟩, ⟨by decide +kernel, by decide +kernel⟩, by unfold Dy.Ok; decide +kernel, by decide +kernel, by decide +kernel, by decide +kernel⟩
theorem r1_ok : r1.Ok := ⟨by decide +kernel, ⟨by decide +kernel, by decide +kernel, by decide +kernel⟩, ⟨by decide +kernel, by decide +kernel⟩, by unfold Dy.Ok; decide +kernel, by decide +kernel, by decide +kernel, by decide +kernel⟩
theorem e0_0_ok : e0_0.Ok := ⟨by decide +kernel, by decide +kernel, .inl ⟨rfl, rfl, rfl⟩, fun _ => ⟨⟨by decide +kernel, by decide +kernel, by decide +kernel, by decide +kernel⟩, by decide +kernel, by decide +kernel⟩, fun h => (by cases h)⟩
theorem e0_1_ok : e0_1.Ok := ⟨by decide +kernel, by decide +kernel, .inr (.inr ⟨rfl, rfl, by decide +kernel⟩), fun h => (by cases h), fun _ => rfl⟩
theorem right : Src.srcB s = true := by
 have hr0 : r0.good = true := (Ru.R.good_iff r0).2 r0_ok;have hr1 : r1.good = true := (Ru.R.good_iff r1).2 r1_ok;have he0_0 : e0_0.good = true := by unfold Er.E.good; rw [Er.chk_ok e0_0 e0_0_ok]; rfl
 have he0_1 : e0_1.good = true := by unfold Er.E.good; rw [Er.chk_ok e0_1 e0_1_ok]; rfl
 have hz0 : Src.zoneB ([65, 47, 66], [e0_0, e0_1]) = true := by
  unfold Src.zoneB Src.erasB Src.erasB Src.erasB;simp only [he0_0, he0_1]
  decide +kernel
 have hl0 : Src.linkB ([65, 47, 66], [67]) = true := by decide +kernel
 unfold Src.srcB s;simp only [List.all_cons, List.all_nil, hr0, hr1, hz0, hl0];rfl
theorem names : (Src.names s).Nodup := by
 have h : Src.names s = [⟨#[65, 47, 66]⟩, ⟨#[67]⟩] := rfl;rw [h]
 decide +kernel
theorem flaws : Vd.flaws s = [] := by
 rw [Vd.flaws_iff];refine ⟨names, ?_, ?_, ?_⟩
 ·intro z hz e he hk;obtain rfl : z = ([65, 47, 66], [e0_0, e0_1]) := by simpa [s] using hz
  have h2 : e = e0_0 ∨ e = e0_1 := by simpa using he
  rcases h2 with rfl | rfl
  ·exact absurd hk (by decide)
  ·exact List.mem_map.2 ⟨r0, by simp [s], rfl⟩
 ·intro z hz;obtain rfl : z = ([65, 47, 66], [e0_0, e0_1]) := by simpa [s] using hz
  decide +kernel
 ·intro l hl;obtain rfl : l = ([65, 47, 66], [67]) := by simpa [s] using hl
  exact ⟨0, by show _ ∈ Lk.zn s; exact List.mem_singleton.2 rfl⟩
theorem well : Vd.well s = true := (Vd.well_iff s).2 ⟨right, flaws⟩
theorem sz : Vd.Sz s := by
 refine ⟨⟨by decide, by decide, by decide⟩, ?_, ⟨?_, ?_, ?_⟩⟩
 ·intro z hz;obtain rfl : z = ([65, 47, 66], [e0_0, e0_1]) := by simpa [s] using hz
  decide
 ·intro r hr;have h2 : r = r0 ∨ r = r1 := by simpa [s] using hr
  rcases h2 with rfl | rfl <;> exact ⟨by decide, by decide⟩
 ·intro z hz;obtain rfl : z = ([65, 47, 66], [e0_0, e0_1]) := by simpa [s] using hz
  refine ⟨by decide, fun e he => ?_⟩;have h2 : e = e0_0 ∨ e = e0_1 := by simpa using he
  rcases h2 with rfl | rfl <;> exact ⟨by decide, by decide⟩
 ·intro k hk;obtain rfl : k = ([65, 47, 66], [67]) := by simpa [s] using hk
  exact ⟨by decide, by decide⟩
theorem rcs : ∀ r ∈ s.rules, 0 ≤ r.c := by
 intro r hr;have h2 : r = r0 ∨ r = r1 := by simpa [s] using hr
 rcases h2 with rfl | rfl <;> decide
theorem ccs : ∀ z ∈ s.zones, ∀ e ∈ z.2, 0 ≤ e.u.c := by
 intro z hz e he;obtain rfl : z = ([65, 47, 66], [e0_0, e0_1]) := by simpa [s] using hz
 have h2 : e = e0_0 ∨ e = e0_1 := by simpa using he
 rcases h2 with rfl | rfl <;> decide
end L46
namespace M46
def r0 : Ru.R := ⟨⟨#[69]⟩, 1996, 9999, 3, 1, 0, 0, 7200, 2, 3600, ⟨#[83]⟩⟩
def r1 : Ru.R := ⟨⟨#[69]⟩, 1996, 9999, 10, 1, 0, 0, 3600, 2, 0, ⟨#[]⟩⟩
def e0_0 : Er.E := ⟨3620, 0, 0, ⟨#[]⟩, ⟨#[120]⟩, true, ⟨1996, 1, 0, 1, 0, 0, 2⟩⟩
def e0_1 : Er.E := ⟨3600, 2, 0, ⟨#[69]⟩, ⟨#[67, 69, 37, 115, 84]⟩, false, ⟨0, 0, 0, 0, 0, 0, 0⟩⟩
def s : Src.S := ⟨[r0, r1], [([65, 47, 66], [e0_0, e0_1])], [([65, 47, 66], [68])], false⟩
theorem r0_ok : r0.Ok := ⟨by decide +kernel, ⟨by decide +kernel, by decide +kernel, by decide +kernel⟩, ⟨by decide +kernel, by decide +kernel⟩, by unfold Dy.Ok; decide +kernel, by decide +kernel, by decide +kernel, by decide +kernel⟩
theorem r1_ok : r1.Ok := ⟨by decide +kernel, ⟨by decide +kernel, by decide +kernel, by decide +kernel⟩, ⟨by decide +kernel, by decide +kernel⟩, by unfold Dy.Ok; decide +kernel, by decide +kernel, by decide +kernel, by decide +kernel⟩
theorem e0_0_ok : e0_0.Ok := ⟨by decide +kernel, by decide +kernel, .inl ⟨rfl, rfl, rfl⟩, fun _ => ⟨⟨by decide +kernel, by decide +kernel, by decide +kernel, by decide +kernel⟩, by decide +kernel, by decide +kernel⟩, fun h => (by cases h)⟩
theorem e0_1_ok : e0_1.Ok := ⟨by decide +kernel, by decide +kernel, .inr (.inr ⟨rfl, rfl, by decide +kernel⟩), fun h => (by cases h), fun _ => rfl⟩
theorem right : Src.srcB s = true := by
 have hr0 : r0.good = true := (Ru.R.good_iff r0).2 r0_ok;have hr1 : r1.good = true := (Ru.R.good_iff r1).2 r1_ok;have he0_0 : e0_0.good = true := by unfold Er.E.good; rw [Er.chk_ok e0_0 e0_0_ok]; rfl
 have he0_1 : e0_1.good = true := by unfold Er.E.good; rw [Er.chk_ok e0_1 e0_1_ok]; rfl
 have hz0 : Src.zoneB ([65, 47, 66], [e0_0, e0_1]) = true := by
  unfold Src.zoneB Src.erasB Src.erasB Src.erasB;simp only [he0_0, he0_1]
  decide +kernel
 have hl0 : Src.linkB ([65, 47, 66], [68]) = true := by decide +kernel
 unfold Src.srcB s;simp only [List.all_cons, List.all_nil, hr0, hr1, hz0, hl0];rfl
theorem names : (Src.names s).Nodup := by
 have h : Src.names s = [⟨#[65, 47, 66]⟩, ⟨#[68]⟩] := rfl;rw [h]
 decide +kernel
theorem flaws : Vd.flaws s = [] := by
 rw [Vd.flaws_iff];refine ⟨names, ?_, ?_, ?_⟩
 ·intro z hz e he hk;obtain rfl : z = ([65, 47, 66], [e0_0, e0_1]) := by simpa [s] using hz
  have h2 : e = e0_0 ∨ e = e0_1 := by simpa using he
  rcases h2 with rfl | rfl
  ·exact absurd hk (by decide)
  ·exact List.mem_map.2 ⟨r0, by simp [s], rfl⟩
 ·intro z hz;obtain rfl : z = ([65, 47, 66], [e0_0, e0_1]) := by simpa [s] using hz
  decide +kernel
 ·intro l hl;obtain rfl : l = ([65, 47, 66], [68]) := by simpa [s] using hl
  exact ⟨0, by show _ ∈ Lk.zn s; exact List.mem_singleton.2 rfl⟩
theorem well : Vd.well s = true := (Vd.well_iff s).2 ⟨right, flaws⟩
theorem sz : Vd.Sz s := by
 refine ⟨⟨by decide, by decide, by decide⟩, ?_, ⟨?_, ?_, ?_⟩⟩
 ·intro z hz;obtain rfl : z = ([65, 47, 66], [e0_0, e0_1]) := by simpa [s] using hz
  decide
 ·intro r hr;have h2 : r = r0 ∨ r = r1 := by simpa [s] using hr
  rcases h2 with rfl | rfl <;> exact ⟨by decide, by decide⟩
 ·intro z hz;obtain rfl : z = ([65, 47, 66], [e0_0, e0_1]) := by simpa [s] using hz
  refine ⟨by decide, fun e he => ?_⟩;have h2 : e = e0_0 ∨ e = e0_1 := by simpa using he
  rcases h2 with rfl | rfl <;> exact ⟨by decide, by decide⟩
 ·intro k hk;obtain rfl : k = ([65, 47, 66], [68]) := by simpa [s] using hk
  exact ⟨by decide, by decide⟩
theorem rcs : ∀ r ∈ s.rules, 0 ≤ r.c := by
 intro r hr;have h2 : r = r0 ∨ r = r1 := by simpa [s] using hr
 rcases h2 with rfl | rfl <;> decide
theorem ccs : ∀ z ∈ s.zones, ∀ e ∈ z.2, 0 ≤ e.u.c := by
 intro z hz e he;obtain rfl : z = ([65, 47, 66], [e0_0, e0_1]) := by simpa [s] using hz
 have h2 : e = e0_0 ∨ e = e0_1 := by simpa using he
 rcases h2 with rfl | rfl <;> decide
end M46
namespace K46
def s : Src.S := ⟨[], [([], [])], [], false⟩
theorem sz : Vd.Sz s := by
 refine ⟨⟨by decide, by decide, by decide⟩, ?_, ⟨?_, ?_, ?_⟩⟩
 ·intro z hz;obtain rfl : z = ([], []) := by simpa [s] using hz
  decide
 ·intro r hr;cases hr
 ·intro z hz;obtain rfl : z = ([], []) := by simpa [s] using hz
  exact ⟨by decide, fun e he => by cases he⟩
 ·intro k hk;cases hk
theorem rcs : ∀ r ∈ s.rules, 0 ≤ r.c := fun r hr => by cases hr
theorem ccs : ∀ z ∈ s.zones, ∀ e ∈ z.2, 0 ≤ e.u.c := by
 intro z hz e he;obtain rfl : z = ([], []) := by simpa [s] using hz
 cases he
theorem bad : ¬ (Vd.well L46.s = true ∧ Vd.well s = true) := by
 rintro ⟨_, h⟩;have h2 := ((Vd.well_iff s).1 h).1;exact absurd h2 (by decide +kernel)
theorem walkA : (Lk.walk L46.s ⟨#[65, 47, 66]⟩).2 = (0, 0) := by decide +kernel
theorem walkB : (Lk.walk M46.s ⟨#[65, 47, 66]⟩).2 = (0, 0) := by decide +kernel
theorem line1 : Ln.lineOf L46.s [L46.e0_0, L46.e0_1] 1995 1997 = [⟨788918400, 3620, false⟩, ⟨820454400, 3600, false⟩, ⟨828234000, 7200, true⟩, ⟨846378000, 3600, false⟩, ⟨859683600, 7200, true⟩, ⟨877827600, 3600, false⟩] := by decide +kernel
theorem line2 : Ln.lineOf M46.s [M46.e0_0, M46.e0_1] 1995 1997 = [⟨788918400, 3620, false⟩, ⟨820454400, 3600, false⟩, ⟨828237600, 7200, true⟩, ⟨846378000, 3600, false⟩, ⟨859687200, 7200, true⟩, ⟨877827600, 3600, false⟩] := by decide +kernel
theorem names : Df.names L46.s M46.s = [⟨#[65, 47, 66]⟩, ⟨#[67]⟩, ⟨#[68]⟩] := by decide +kernel
theorem inY : Ln.InY 1995 1997 := by unfold Ln.InY; decide
theorem ch1 : Df.ch L46.s M46.s 1995 1997 ⟨#[65, 47, 66]⟩ = some ⟨⟨#[65, 47, 66]⟩, 0, 828234000⟩ := by
 have h1 : Hv.has (Src.names L46.s) ⟨#[65, 47, 66]⟩ = true := by decide +kernel
 have h2 : Hv.has (Src.names M46.s) ⟨#[65, 47, 66]⟩ = true := by decide +kernel
 have h3 : Df.eras L46.s ⟨#[65, 47, 66]⟩ = [L46.e0_0, L46.e0_1] := by unfold Df.eras; rw [walkA]; rfl
 have h4 : Df.eras M46.s ⟨#[65, 47, 66]⟩ = [M46.e0_0, M46.e0_1] := by unfold Df.eras; rw [walkB]; rfl
 unfold Df.ch Df.line;rw [h1, h2, h3, h4, line1, line2]
 decide +kernel
theorem ch2 : Df.ch L46.s M46.s 1995 1997 ⟨#[67]⟩ = some ⟨⟨#[67]⟩, 3, 0⟩ := by
 have h2 : Hv.has (Src.names M46.s) ⟨#[67]⟩ = false := by decide +kernel
 unfold Df.ch;rw [h2];rfl
theorem ch3 : Df.ch L46.s M46.s 1995 1997 ⟨#[68]⟩ = some ⟨⟨#[68]⟩, 12, 0⟩ := by
 have h1 : Hv.has (Src.names L46.s) ⟨#[68]⟩ = false := by decide +kernel
 have h2 : Hv.has (Src.names M46.s) ⟨#[68]⟩ = true := by decide +kernel
 unfold Df.ch;rw [h1, h2];rfl
theorem changes : Df.changes L46.s M46.s 1995 1997 = [⟨⟨#[65, 47, 66]⟩, 0, 828234000⟩, ⟨⟨#[67]⟩, 3, 0⟩, ⟨⟨#[68]⟩, 12, 0⟩] := by
 unfold Df.changes;rw [names];simp only [List.filterMap_cons, List.filterMap_nil, ch1, ch2, ch3]
end K46
end Go.Proofs.YtjobhjemnmleaaaGreatDoor
namespace Go.Proofs.YtjobhjemnmleaaaGreatDoor
open Go.RowKit
namespace Lit
theorem reads {w : World} {g size n : Nat} {xs : List Value} (h : At w g xs) (hl : xs.length = n * size) : Reads w w.heap.size size (some ⟨g, 0, none⟩) n xs := by
 refine ⟨hl, fun _ => ⟨_, rfl, h.lt, fun j u hu => ?_⟩⟩;have e : (⟨g, 0, none⟩ : Addr).add j = ⟨g, j, none⟩ := by
  unfold Addr.add;split
  ·subst_vars; rfl
  ·simp
 rw [e];exact h.cell j u hu
theorem newAt (w : World) (cs : Array Value) (t : TypeId) (g : Nat) (hg : g = w.heap.size) : At (w.alloc (.cells cs t)) g cs.toList := by
 subst hg;exact At.new w cs t
end Lit
end Go.Proofs.YtjobhjemnmleaaaGreatDoor
