/- source.Rules. -/
import Derived.Test.YtjobhjemnmleaaaGreatDoorQ11
set_option maxRecDepth 100000
set_option maxHeartbeats 4000000
namespace Go.Proofs.YtjobhjemnmleaaaGreatDoor
open Go.RowKit
theorem reads_cells_at (w : World) (g : Nat) (cs : Array Value) (m : Nat) (t : TypeId) (hg : g = w.heap.size) (hm : cs.size = m) : Reads (w.alloc (.cells cs t)) (w.alloc (.cells cs t)).heap.size m (some ⟨g, 0, none⟩) 1 cs.toList := by
 subst hg;refine ⟨by simpa using hm, fun _ => ⟨_, rfl, by simp, fun j u hu => cells_new w cs t j u hu⟩⟩
namespace Src
def ofName (name : ByteArray) (l : List Ru.R) : List Ru.R := l.filter fun r => decide (r.nm = name)
theorem ofName_yes {name : ByteArray} {l : List Ru.R} {k : Nat} {r : Ru.R} (h : l[k]? = some r) (hn : r.nm = name) : ofName name (l.take (k + 1)) = ofName name (l.take k) ++ [r] := by
 unfold ofName;rw [List.take_add_one, h];simp [hn]
theorem ofName_no {name : ByteArray} {l : List Ru.R} {k : Nat} {r : Ru.R} (h : l[k]? = some r) (hn : ¬ r.nm = name) : ofName name (l.take (k + 1)) = ofName name (l.take k) := by
 unfold ofName;rw [List.take_add_one, h];simp [hn]
theorem ofName_le (name : ByteArray) (l : List Ru.R) (k : Nat) : (ofName name (l.take k)).length ≤ k := by
 unfold ofName;exact Nat.le_trans (List.length_filter_le _ _) (by simp; omega)
def RRel (W0 : World) (name : ByteArray) (l : List Ru.R) (n : Nat) (v i : Value) (wr : World) : Prop :=
 ∃ k : Nat, k ≤ n ∧ i = .int .i64 k ∧ Hid (wr.ownsRow W0.heap.size 112 11 v (ofName name (l.take k)).length ((ofName name (l.take k)).flatMap Ru.R.cells)) ∧ Hid (Below W0.heap.size W0 wr)
end Src
theorem srcRules_any (s : Src.S) (rv zv lv : Value) (evs : List Value) (name : ByteArray) (w : World) (hR : Src.SrcR w w.heap.size s rv zv lv evs) (hL : s.rules.length ≤ 4096) :
  Calls Tryz.prog 148 #[.agg #[rv, zv, lv], .string name] w fun e w' => ∃ v, e = .returned v ∧ Below w.heap.size w w' ∧ w'.ownsRow w.heap.size 112 11 v (Src.ofName name s.rules).length ((Src.ofName name s.rules).flatMap Ru.R.cells) := by
 obtain ⟨rules, zones, links, op⟩ := s;obtain ⟨⟨rA, rc, rfl, hr1, hr2, hr3⟩, ⟨zA, zc, rfl, hz1, hz2, hz3⟩, ⟨lA, lc, rfl, hl1, hl2, hl3⟩, hlen, hers⟩ := hR;simp only at hr1 hr3 hL ⊢;obtain ⟨n1, hn1⟩ : ∃ n, rules.length = n := ⟨_, rfl⟩
 obtain ⟨n2, hn2⟩ : ∃ n, zones.length = n := ⟨_, rfl⟩
 obtain ⟨n3, hn3⟩ : ∃ n, links.length = n := ⟨_, rfl⟩
 rw [hn1] at hr3 hL hr1 ⊢;rw [hn2, hn3];have HN := Lib.hid hn1;have HR := Lib.hid hr3;unfold maxLen at hr2;obtain ⟨i0, i1, i2, i3, i4⟩ := info_parts rule_info;have HI := Lib.hid (And.intro i1 (And.intro i2 (And.intro i3 i4)));clear i1 i2 i3 i4 hn1 hn2 hn3 hr3 hz1 hz2 hz3 hl1 hl2 hl3 hlen hers;obtain ⟨W0, hW0⟩ : ∃ x, w.alloc (.cells #[.slice rA n1 rc, .slice zA n2 zc, .slice lA n3 lc] 26) = x := ⟨_, rfl⟩
 have HB0 := Lib.hid (show Below w.heap.size w W0 by rw [← hW0]; exact (Below.refl _ _).alloc (Nat.le_refl _) _);have hs0 : w.heap.size < W0.heap.size := by rw [← hW0]; simp
 have HA0 := Lib.hid (show At W0 w.heap.size [.slice rA n1 rc, .slice zA n2 zc, .slice lA n3 lc] by rw [← hW0]; exact At.new w #[.slice rA n1 rc, .slice zA n2 zc, .slice lA n3 lc] 26);obtain ⟨a0, a1, a2, _⟩ := HA0.out.three;go_enter Tryz.func148, Tryz.ntmps148
 go_wp2_with fail
 clear hW0 a0 a1 a2;go_loopw [5, 11] (fun v i wr => Src.RRel W0 name rules n1 v i wr) (fun _ i _ => n1 - (intOf i).toNat)
 case atStart => exact ⟨0, Nat.zero_le _, rfl, World.ownsRow_nil _ _ _ _, Below.refl _ _⟩
 case round =>
  obtain ⟨k, hk, rfl, HO, HB⟩ := hrel;obtain ⟨q, hq⟩ : ∃ q, (Src.ofName name (rules.take k)).length = q := ⟨_, rfl⟩
  have hqk : q ≤ k := by rw [← hq]; exact Src.ofName_le name rules k
  rw [hq] at HO;have HQ := Lib.hid hq;obtain ⟨vA, vc, hv, hv1, hv2⟩ := own_slice_cap HO.out;subst hv;have hwr := HB.out.size;clear hq
  by_cases hlt : k < n1
  ·have q1 : (0 : Int) ≤ (k : Int) := by omega
   have q2 : (k : Int) < (n1 : Int) := by omega
   have HBw := Lib.hid (below_then HB0.out HB.out);obtain ⟨ad, x, rfl, hab, Hx, HLc⟩ := Ix.reads_cells (enc := Ru.R.cells) (m := 11) (fun _ => rfl) HN.out (HR.out.below HBw.out) hlt;obtain ⟨nm, fr, tt, mo, kk, nn, d, sc, cc, sv, lt⟩ := x;have x0 : wr.cell? (ad.add (k * 11)) = some (.string nm) := HLc.out 0 _ rfl;have x1 : wr.cell? ⟨(ad.add (k * 11)).block, (ad.add (k * 11)).off + 1, none⟩ = some (.int .i64 fr) := HLc.out 1 _ rfl;have x2 : wr.cell? ⟨(ad.add (k * 11)).block, (ad.add (k * 11)).off + 2, none⟩ = some (.int .i64 tt) := HLc.out 2 _ rfl;have x3 : wr.cell? ⟨(ad.add (k * 11)).block, (ad.add (k * 11)).off + 3, none⟩ = some (.int .i64 mo) := HLc.out 3 _ rfl;have x4 : wr.cell? ⟨(ad.add (k * 11)).block, (ad.add (k * 11)).off + 4, none⟩ = some (.int .u8 kk) := HLc.out 4 _ rfl;have x5 : wr.cell? ⟨(ad.add (k * 11)).block, (ad.add (k * 11)).off + 5, none⟩ = some (.int .i64 nn) := HLc.out 5 _ rfl;have x6 : wr.cell? ⟨(ad.add (k * 11)).block, (ad.add (k * 11)).off + 6, none⟩ = some (.int .i64 d) := HLc.out 6 _ rfl;have x7 : wr.cell? ⟨(ad.add (k * 11)).block, (ad.add (k * 11)).off + 7, none⟩ = some (.int .i64 sc) := HLc.out 7 _ rfl;have x8 : wr.cell? ⟨(ad.add (k * 11)).block, (ad.add (k * 11)).off + 8, none⟩ = some (.int .u8 cc) := HLc.out 8 _ rfl;have x9 : wr.cell? ⟨(ad.add (k * 11)).block, (ad.add (k * 11)).off + 9, none⟩ = some (.int .i64 sv) := HLc.out 9 _ rfl;have x10 : wr.cell? ⟨(ad.add (k * 11)).block, (ad.add (k * 11)).off + 10, none⟩ = some (.string lt) := HLc.out 10 _ rfl
   by_cases hnm : nm = name
   ·have hyes := Src.ofName_yes Hx.out hnm;have HY := Lib.hid hyes;subst hnm;have b0 : (nm == nm) = true := by rw [beq_toListBytes]; simp
    have b1 : (nm.toList == nm.toList) = true := by simp
    have HAp := fun {ops : Array Oper} {rest : List Oper} {o : Oper} {a : Act} {Q : Exit → Act → World → Prop} (hgd : o.guard = none) (ho : o.op = .call { callee := .builtin .append, args := #[.tmp 19, .tmp 21], argTypes := #[22, 22] }) (hs : a.eval (.tmp 19) = .slice vA q vc) (hx : a.eval (.tmp 21) = .slice (some ⟨wr.heap.size + 1, 0, none⟩) 1 1) h => wpList_append_any (P := Tryz.prog) (ops := ops) (rest := rest) (o := o) (a := a) (Q := Q) ((wr.alloc (.cells #[.string nm, .int .i64 fr, .int .i64 tt, .int .i64 mo, .int .u8 kk, .int .i64 nn, .int .i64 d, .int .i64 sc, .int .u8 cc, .int .i64 sv, .string lt] 112)).alloc (.cells #[.string nm, .int .i64 fr, .int .i64 tt, .int .i64 mo, .int .u8 kk, .int .i64 nn, .int .i64 d, .int .i64 sc, .int .u8 cc, .int .i64 sv, .string lt] 112)) hgd (.tmp 19) (.tmp 21) 22 ho W0.heap.size 112 i0 _ 11 104 Tryz.underlying22 HI.out.1 HI.out.2.1 HI.out.2.2.1 HI.out.2.2.2 rfl (by decide) _ q _ hs ((HO.out.alloc _).alloc _) ((wr.alloc (.cells #[.string nm, .int .i64 fr, .int .i64 tt, .int .i64 mo, .int .u8 kk, .int .i64 nn, .int .i64 d, .int .i64 sc, .int .u8 cc, .int .i64 sv, .string lt] 112)).alloc (.cells #[.string nm, .int .i64 fr, .int .i64 tt, .int .i64 mo, .int .u8 kk, .int .i64 nn, .int .i64 d, .int .i64 sc, .int .u8 cc, .int .i64 sv, .string lt] 112)).heap.size _ 1 1 [.string nm, .int .i64 fr, .int .i64 tt, .int .i64 mo, .int .u8 kk, .int .i64 nn, .int .i64 d, .int .i64 sc, .int .u8 cc, .int .i64 sv, .string lt] hx (reads_cells_at (wr.alloc (.cells #[.string nm, .int .i64 fr, .int .i64 tt, .int .i64 mo, .int .u8 kk, .int .i64 nn, .int .i64 d, .int .i64 sc, .int .u8 cc, .int .i64 sv, .string lt] 112)) (wr.heap.size + 1) #[.string nm, .int .i64 fr, .int .i64 tt, .int .i64 mo, .int .u8 kk, .int .i64 nn, .int .i64 d, .int .i64 sc, .int .u8 cc, .int .i64 sv, .string lt] 11 112 (by simp) (by rfl)) (by simp [Value.oneCell']) (by unfold maxLen; omega) (by omega) (by simp; omega) h
    clear hyes;go_wp2_with (at_builtin; refine HAp rfl rfl rfl rfl ?_; intro v9' w9 hown9 hg9 hat9)
    have HO9 := Lib.hid (show w9.ownsRow W0.heap.size 112 11 v9' (Src.ofName nm (rules.take (k + 1))).length ((Src.ofName nm (rules.take (k + 1))).flatMap Ru.R.cells) by rw [HY.out, List.length_append, HQ.out, List.flatMap_append]; exact hown9);have HB9 := Lib.hid (show Below W0.heap.size W0 w9 from ((HB.out.alloc HB.out.size _).alloc (by simp; omega) _).grown hg9 (by simp; omega) (fun kk hkk => (HO.out.lt kk hkk).1));clear hown9 hg9 hat9 HAp x0 x1 x2 x3 x4 x5 x6 x7 x8 x9 x10 b0 b1;go_wp2;go_roundw
    case rel => exact ⟨k + 1, by omega, by go_num, HO9.out, HB9.out⟩
    case measure => simp [intOf]; omega
   ·have HY := Lib.hid (Src.ofName_no Hx.out hnm);have b1 : (nm.toList == name.toList) = false := by
     rw [beq_eq_false_iff_ne];intro e;exact hnm ((toList_eq_iff _ _).1 e)
    have b0 : (nm == name) = false := by rw [beq_toListBytes]; exact b1
    have HO9 := Lib.hid (show (wr.alloc (.cells #[.string nm, .int .i64 fr, .int .i64 tt, .int .i64 mo, .int .u8 kk, .int .i64 nn, .int .i64 d, .int .i64 sc, .int .u8 cc, .int .i64 sv, .string lt] 112)).ownsRow W0.heap.size 112 11 (.slice vA q vc) (Src.ofName name (rules.take (k + 1))).length ((Src.ofName name (rules.take (k + 1))).flatMap Ru.R.cells) by rw [HY.out, HQ.out]; exact HO.out.alloc _);have HB9 := Lib.hid (HB.out.alloc HB.out.size (.cells #[.string nm, .int .i64 fr, .int .i64 tt, .int .i64 mo, .int .u8 kk, .int .i64 nn, .int .i64 d, .int .i64 sc, .int .u8 cc, .int .i64 sv, .string lt] 112));clear hnm;go_wp2;go_roundw
    case rel => exact ⟨k + 1, by omega, by go_num, HO9.out, HB9.out⟩
    case measure => simp [intOf]; omega
  ·have q2 : ¬ (k : Int) < (n1 : Int) := by omega
   have HF := Lib.hid (show wr.ownsRow W0.heap.size 112 11 (.slice vA q vc) (Src.ofName name rules).length ((Src.ofName name rules).flatMap Ru.R.cells) by
    have h1 := HO.out;have h2 := HQ.out;rw [List.take_of_length_le (by rw [HN.out]; omega)] at h1 h2;rw [h2];exact h1)
   go_wp2;go_ret
   exact ⟨_, rfl, below_then HB0.out HB.out, Sc.own_mono HF.out (by omega)⟩
end Go.Proofs.YtjobhjemnmleaaaGreatDoor
namespace Go.Proofs.YtjobhjemnmleaaaGreatDoor
open Go.RowKit
namespace Ln
structure Sp where
 fr : Int
 off : Int
 dst : Bool
instance decSp : DecidableEq Sp := fun a b => decidable_of_iff (a.fr = b.fr ∧ a.off = b.off ∧ a.dst = b.dst) (by cases a; cases b; simp)
def Sp.cells (p : Sp) : List Value := [.int .i64 p.fr, .int .i64 p.off, .bool p.dst]
def Sp.v (p : Sp) : Value := .agg #[.int .i64 p.fr, .int .i64 p.off, .bool p.dst]
def alike (a b : Sp) : Bool := decide (a.off = b.off) && decide (a.dst = b.dst)
def piece (t std sv : Int) : Sp := ⟨t, std + sv, decide (sv ≠ 0)⟩
def push : List Sp → Sp → List Sp
 | [], p => [p]
 | q :: b, p => if alike q p = true then ⟨p.fr, q.off, q.dst⟩ :: b else p :: q :: b
def inGo (std fr : Int) : List Oc.E → Int → List Sp
 | [], _ => [piece fr std 0]
 | o :: x, te => if te ≤ Oc.ti std o then inGo std fr x te else if Oc.ti std o ≤ fr then [piece fr std o.sv] else piece (Oc.ti std o) std o.sv :: inGo std fr x (Oc.ti std o)
def yr (t : Int) : Int := Cv.yearOf (t / 86400)
def inEra (rules : List Ru.R) (e : Er.E) (fr te : Int) : List Sp :=
 if e.k = 2 then inGo e.std fr (Oc.of (Src.ofName e.ru rules) (yr fr - 1) (yr (te - 1) + 1)).reverse te else [piece fr e.std e.sv]
def maxs (ends : List Int) (fr : Int) (k : Nat) : Int := (ends.take k).foldl max fr
def upto (ends : List Int) (te : Int) (k : Nat) : Int := match ends[k]? with
 | some x => min te x
 | none => te
def pieces (rules : List Ru.R) (eras : List Er.E) (ends : List Int) (fr te : Int) : Nat → List Sp
 | 0 => []
 | k + 1 => (if upto ends te k ≤ maxs ends fr k then [] else inEra rules (eras.getD k Er.E.zero) (maxs ends fr k) (upto ends te k)) ++ pieces rules eras ends fr te k
def line (rules : List Ru.R) (eras : List Er.E) (ends : List Int) (fr te : Int) : List Sp := (pieces rules eras ends fr te eras.length).foldl push []
def hold : List Int → Int → Nat
 | [], _ => 0
 | x :: ends, t => if t < x then 0 else hold ends t + 1
def occAt (rules : List Ru.R) (e : Er.E) (t : Int) : Option Oc.E :=
 if e.k = 2 then Oc.lastP (Oc.of (Src.ofName e.ru rules) (yr t - 1) (yr t + 1)) fun o => decide (Oc.ti e.std o ≤ t) else none
def saveAt (rules : List Ru.R) (e : Er.E) (t : Int) : Int := if e.k = 1 then e.sv else Oc.svO (occAt rules e t)
def setAt (rules : List Ru.R) (e : Er.E) (t : Int) : Int × Bool := (e.std + saveAt rules e t, decide (saveAt rules e t ≠ 0))
def st (rules : List Ru.R) (eras : List Er.E) (ends : List Int) (t : Int) : Int × Bool := setAt rules (eras.getD (hold ends t) Er.E.zero) t
theorem hold_le : ∀ (ends : List Int) (t : Int), hold ends t ≤ ends.length
 | [], _ => Nat.le_refl _
 | x :: ends, t => by
  unfold hold;split
  ·exact Nat.zero_le _
  ·exact Nat.succ_le_succ (hold_le ends t)
theorem hold_is : ∀ (ends : List Int) (t : Int) (k : Nat), k ≤ ends.length → (∀ i x, i < k → ends[i]? = some x → x ≤ t) → (∀ x, ends[k]? = some x → t < x) → hold ends t = k
 | [], t, k, h, _, _ => by simp at h; subst h; rfl
 | x :: ends, t, 0, _, _, h => by
  unfold hold;rw [if_pos (h x rfl)]
 | x :: ends, t, k + 1, h, h1, h2 => by
  have := h1 0 x (Nat.succ_pos _) rfl;unfold hold;rw [if_neg (by omega), hold_is ends t k (by simpa using h) (fun i y hi hy => h1 (i + 1) y (by omega) (by simpa using hy)) (fun y hy => h2 y (by simpa using hy))]
theorem maxs_zero (ends : List Int) (fr : Int) : maxs ends fr 0 = fr := rfl
theorem maxs_succ (ends : List Int) (fr : Int) (k : Nat) {x : Int} (h : ends[k]? = some x) : maxs ends fr (k + 1) = max (maxs ends fr k) x := by
 unfold maxs;rw [List.take_add_one, h, List.foldl_append];rfl
theorem foldl_max_ge : ∀ (l : List Int) (a : Int), a ≤ l.foldl max a ∧ ∀ x ∈ l, x ≤ l.foldl max a
 | [], a => ⟨Int.le_refl _, fun x hx => by cases hx⟩
 | y :: l, a => by
  have h := foldl_max_ge l (max a y);rw [List.foldl_cons];refine ⟨by omega, fun x hx => ?_⟩;rcases List.mem_cons.1 hx with rfl | hx
  ·omega
  ·exact h.2 x hx
theorem maxs_ge (ends : List Int) (fr : Int) (k : Nat) : fr ≤ maxs ends fr k ∧ ∀ i x, i < k → ends[i]? = some x → x ≤ maxs ends fr k := by
 have h := foldl_max_ge (ends.take k) fr;refine ⟨h.1, fun i x hi hx => h.2 x ?_⟩;exact List.mem_of_getElem? (by rw [List.getElem?_take_of_lt hi]; exact hx)
def Cov (f : Int → Int × Bool) (te : Int) : Int → List Sp → Prop
 | c, [] => c = te
 | c, a :: A => a.fr = c ∧ ∃ d, c < d ∧ d ≤ te ∧ (∀ t, c ≤ t → t < d → f t = (a.off, a.dst)) ∧ Cov f te d A ∧ ∀ b, A.head? = some b → alike a b = false
def Tells (f : Int → Int × Bool) : Int → List Sp → Int → Prop
 | c, [], d => c = d
 | c, p :: l, d => p.fr < c ∧ (∀ t, p.fr ≤ t → t < c → f t = (p.off, p.dst)) ∧ Tells f p.fr l d
theorem Tells.append {f : Int → Int × Bool} : ∀ {l : List Sp} {m : List Sp} {c b d : Int}, Tells f c l b → Tells f b m d → Tells f c (l ++ m) d
 | [], m, c, b, d, h, k => by
  obtain rfl : c = b := h;exact k
 | p :: l, m, c, b, d, h, k => ⟨h.1, h.2.1, Tells.append h.2.2 k⟩
theorem alike_iff {a b : Sp} : alike a b = true ↔ a.off = b.off ∧ a.dst = b.dst := by unfold alike; simp
theorem alike_comm (a b : Sp) : alike a b = alike b a := by
 rw [Bool.eq_iff_iff, alike_iff, alike_iff];constructor
 ·rintro ⟨h, k⟩; exact ⟨h.symm, k.symm⟩
 ·rintro ⟨h, k⟩; exact ⟨h.symm, k.symm⟩
theorem Cov.push {f : Int → Int × Bool} {te : Int} {A : List Sp} {c : Int} {p : Sp} (h : Cov f te c A) (hp : p.fr < c) (hf : ∀ t, p.fr ≤ t → t < c → f t = (p.off, p.dst)) : Cov f te p.fr (push A p) := by
 cases A with
 | nil =>
  obtain rfl : c = te := h;exact ⟨rfl, c, hp, Int.le_refl _, hf, rfl, fun b hb => by cases hb⟩
 | cons q A =>
  obtain ⟨rfl, d, h1, h2, h3, h4, h5⟩ := h;show Cov f te p.fr (if alike q p = true then ⟨p.fr, q.off, q.dst⟩ :: A else p :: q :: A)
  by_cases ha : alike q p = true
  ·rw [if_pos ha];rw [alike_iff] at ha;refine ⟨rfl, d, by show p.fr < d; omega, h2, fun t h6 h7 => ?_, h4, fun b hb => ?_⟩
   ·rcases Int.lt_or_le t q.fr with r | r
    ·rw [hf t h6 r, ha.1, ha.2]
    ·exact h3 t r h7
   ·have := h5 b hb;unfold alike at this ⊢;exact this
  ·rw [if_neg ha];refine ⟨rfl, q.fr, hp, by omega, hf, ⟨rfl, d, h1, h2, h3, h4, h5⟩, fun b hb => ?_⟩;obtain rfl : q = b := by simpa using hb
   rw [alike_comm];simpa using ha
theorem Cov.foldl {f : Int → Int × Bool} {te : Int} : ∀ {l : List Sp} {A : List Sp} {c d : Int}, Cov f te c A → Tells f c l d → Cov f te d (l.foldl Ln.push A)
 | [], A, c, d, h, k => by
  obtain rfl : c = d := k;exact h
 | p :: l, A, c, d, h, k => Cov.foldl (l := l) (A := Ln.push A p) (h.push k.1 k.2.1) k.2.2
theorem find_lastP (x : List Oc.E) (P : Oc.E → Bool) : x.reverse.find? P = Oc.lastP x P := by
 unfold Oc.lastP;rw [← List.head?_filter, List.filter_reverse, List.head?_reverse]
theorem inGo_tells {f : Int → Int × Bool} {std fr : Int} : ∀ (x : List Oc.E) (te : Int), fr < te →
  (∀ t, fr ≤ t → t < te → f t = (std + Oc.svO (x.find? fun o => decide (Oc.ti std o ≤ t)), decide (Oc.svO (x.find? fun o => decide (Oc.ti std o ≤ t)) ≠ 0))) → Tells f te (inGo std fr x te) fr
 | [], te, h, hf => ⟨h, hf, rfl⟩
 | o :: x, te, h, hf => by
  unfold inGo
  by_cases h1 : te ≤ Oc.ti std o
  ·rw [if_pos h1];refine inGo_tells x te h (fun t ht1 ht2 => ?_);have := hf t ht1 ht2;rw [List.find?_cons_of_neg (by rw [decide_eq_true_eq]; omega)] at this;exact this
  ·rw [if_neg h1]
   by_cases h2 : Oc.ti std o ≤ fr
   ·rw [if_pos h2];refine ⟨h, fun t ht1 ht2 => ?_, rfl⟩;have := hf t ht1 ht2;rw [List.find?_cons_of_pos (by rw [decide_eq_true_eq]; exact Int.le_trans h2 ht1)] at this;exact this
   ·rw [if_neg h2];refine ⟨by show Oc.ti std o < te; omega, fun t ht1 ht2 => ?_, ?_⟩
    ·have ht3 : Oc.ti std o ≤ t := ht1;have := hf t (by omega) ht2;rw [List.find?_cons_of_pos (by rw [decide_eq_true_eq]; exact ht3)] at this;exact this
    ·refine inGo_tells x (Oc.ti std o) (by omega) (fun t ht1 ht2 => ?_);have := hf t ht1 (by omega);rw [List.find?_cons_of_neg (by rw [decide_eq_true_eq]; omega)] at this;exact this
def InDays (t : Int) : Prop := -719162 ≤ t / 86400 ∧ t / 86400 < 2932897
theorem yr_bd {t : Int} (h : InDays t) : Oc.D (yr t) * 86400 ≤ t ∧ t < Oc.D (yr t + 1) * 86400 := by
 have h1 := (year_iff (t / 86400) (yr t) h.1 h.2).2 (Int.le_refl _);have h2 : ¬ Cv.num (yr t + 1) 1 1 ≤ t / 86400 := fun e => by
  have := (year_iff (t / 86400) (yr t + 1) h.1 h.2).1 e;unfold yr at this;omega
 unfold Oc.D;omega
theorem yr_of {t y : Int} (h : InDays t) (h1 : Oc.D y * 86400 ≤ t) (h2 : t < Oc.D (y + 1) * 86400) : yr t = y := by
 obtain ⟨k1, k2⟩ := yr_bd h;rcases Int.lt_trichotomy (yr t) y with q | q | q
 ·have := Oc.D_mono (show yr t + 1 ≤ y by omega);omega
 ·exact q
 ·have := Oc.D_mono (show y + 1 ≤ yr t by omega);omega
theorem InDays.of {a b t : Int} (ha : InDays a) (hb : InDays b) (h1 : a ≤ t) (h2 : t ≤ b) : InDays t := by
 unfold InDays at *;omega
structure Fit (rules : List Ru.R) (eras : List Er.E) : Prop where
 rules : ∀ r ∈ rules, IsTime r.sv
 eras : ∀ e ∈ eras, IsTime e.std ∧ (e.k = 0 ∧ e.sv = 0 ∨ e.k = 1 ∨ e.k = 2)
theorem ofName_mem {name : ByteArray} {rules : List Ru.R} {r : Ru.R} (h : r ∈ Src.ofName name rules) : r ∈ rules := by
 unfold Src.ofName at h;exact (List.mem_filter.1 h).1
theorem ofName_time {name : ByteArray} {rules : List Ru.R} (h : ∀ r ∈ rules, IsTime r.sv) : ∀ r ∈ Src.ofName name rules, IsTime r.sv := fun r hr => h r (ofName_mem hr)
theorem occ_any {rules : List Ru.R} {e : Er.E} {lo hi t : Int} (hr : ∀ r ∈ rules, IsTime r.sv) (hs : IsTime e.std) (h2 : e.k = 2) (ht : InDays t) (h3 : lo + 1 ≤ yr t) (h4 : yr t + 1 ≤ hi) :
  Oc.lastP (Oc.of (Src.ofName e.ru rules) lo hi) (fun o => decide (Oc.ti e.std o ≤ t)) = occAt rules e t := by
 obtain ⟨k1, k2⟩ := yr_bd ht;unfold occAt;rw [if_pos h2, Oc.lastP_of, Oc.lastP_of]
 congr 1
 have a1 := Oc.D_mono h3;have a2 := Oc.D_mono h4;have e0 : yr t - 1 + 1 = yr t := by omega
 exact (Oc.of_last (ofName_time hr) hs (by omega) (by omega)).one (Oc.of_last (ofName_time hr) hs (by rw [e0]; exact k1) k2)
theorem inEra_tells {rules : List Ru.R} {e : Er.E} {f : Int → Int × Bool} {fr te : Int} (hr : ∀ r ∈ rules, IsTime r.sv) (hs : IsTime e.std) (hk : e.k = 0 ∧ e.sv = 0 ∨ e.k = 1 ∨ e.k = 2) (hlt : fr < te) (hd1 : InDays fr) (hd2 : InDays (te - 1))
  (hf : ∀ t, fr ≤ t → t < te → f t = setAt rules e t) : Tells f te (inEra rules e fr te) fr := by
 unfold inEra
 by_cases h2 : e.k = 2
 ·rw [if_pos h2];refine inGo_tells _ _ hlt (fun t h1 h3 => ?_);have ht : InDays t := hd1.of hd2 h1 (by omega);have g1 := yr_bd ht;have g2 := yr_bd hd1;have g3 := yr_bd hd2;have m1 : yr fr ≤ yr t := by
   rcases Int.lt_or_le (yr t) (yr fr) with q | q
   ·have := Oc.D_mono (show yr t + 1 ≤ yr fr by omega);omega
   ·exact q
  have m2 : yr t ≤ yr (te - 1) := by
   rcases Int.lt_or_le (yr (te - 1)) (yr t) with q | q
   ·have := Oc.D_mono (show yr (te - 1) + 1 ≤ yr t by omega);omega
   ·exact q
  rw [hf t h1 h3, find_lastP, occ_any hr hs h2 ht (by omega) (by omega)];unfold setAt saveAt;rw [if_neg (by omega)]
 ·rw [if_neg h2];refine ⟨hlt, fun t h1 h3 => ?_, rfl⟩;have h1' : fr ≤ t := h1;rw [hf t h1' h3];unfold setAt saveAt piece;rcases hk with ⟨k0, s0⟩ | k1 | k2
  ·rw [if_neg (by omega)];unfold occAt;rw [if_neg h2, s0];rfl
  ·rw [if_pos k1]
  ·exact absurd k2 h2
def cAt (ends : List Int) (fr te : Int) (k : Nat) : Int := if k ≤ ends.length then min te (maxs ends fr k) else te
theorem pieces_tells {rules : List Ru.R} {eras : List Er.E} {ends : List Int} {fr te : Int} (hF : Fit rules eras) (hl : ends.length + 1 = eras.length) (hlt : fr < te) (hd1 : InDays fr) (hd2 : InDays (te - 1)) :
  ∀ k, k ≤ eras.length → Tells (st rules eras ends) (cAt ends fr te k) (pieces rules eras ends fr te k) fr
 | 0, _ => by
  unfold cAt;rw [if_pos (Nat.zero_le _), maxs_zero];show min te fr = fr
  omega
 | k + 1, hk => by
  have ih := pieces_tells hF hl hlt hd1 hd2 k (by omega);have hck : cAt ends fr te k = min te (maxs ends fr k) := by unfold cAt; rw [if_pos (by omega)]
  have hck1 : cAt ends fr te (k + 1) = if upto ends te k ≤ maxs ends fr k then cAt ends fr te k else upto ends te k := by
   rw [hck];unfold cAt upto
   by_cases h : k < ends.length
   ·rw [if_pos (by omega), maxs_succ ends fr k (List.getElem?_eq_getElem h), List.getElem?_eq_getElem h];simp only;split <;> omega
   ·rw [if_neg (by omega), List.getElem?_eq_none (by omega)];simp only;split <;> omega
  unfold pieces;rw [hck1]
  by_cases hle : upto ends te k ≤ maxs ends fr k
  ·rw [if_pos hle, if_pos hle];exact ih
  ·rw [if_neg hle, if_neg hle];have hup : upto ends te k ≤ te := by unfold upto; split <;> omega
   have hm := maxs_ge ends fr k;refine Tells.append (b := maxs ends fr k) ?_ (by rw [hck] at ih; rw [show min te (maxs ends fr k) = maxs ends fr k by omega] at ih; exact ih);obtain ⟨e, he⟩ : ∃ e, eras[k]? = some e := ⟨_, List.getElem?_eq_getElem (by omega)⟩
   have hge : eras.getD k Er.E.zero = e := by rw [List.getD, he]; rfl
   obtain ⟨g1, g2⟩ := hF.eras e (List.mem_of_getElem? he);rw [hge];refine inEra_tells hF.rules g1 g2 (by omega) (hd1.of hd2 hm.1 (by omega)) (hd1.of hd2 (by omega) (by omega)) (fun t h1 h2 => ?_);unfold st;rw [hold_is ends t k (by omega) (fun i x hi hx => by have := hm.2 i x hi hx; omega) (fun x hx => by
    have : upto ends te k = min te x := by unfold upto; rw [hx]
    omega), hge]
theorem line_cov {rules : List Ru.R} {eras : List Er.E} {ends : List Int} {fr te : Int} (hF : Fit rules eras) (hl : ends.length + 1 = eras.length) (hlt : fr < te) (hd1 : InDays fr) (hd2 : InDays (te - 1)) :
  Cov (st rules eras ends) te fr (line rules eras ends fr te) := by
 have h := pieces_tells hF hl hlt hd1 hd2 eras.length (Nat.le_refl _);have e : cAt ends fr te eras.length = te := by unfold cAt; rw [if_neg (by omega)]
 rw [e] at h;exact Cov.foldl (A := []) rfl h
end Ln
end Go.Proofs.YtjobhjemnmleaaaGreatDoor
namespace Go.Proofs.YtjobhjemnmleaaaGreatDoor
open Go.RowKit
namespace Ln
def begin_ (y : Int) : Int × Int := if 1 ≤ y ∧ y ≤ 10000 then (Oc.D y * 86400, 0) else (0, 1)
theorem d_bd {y : Int} (h1 : 1 ≤ y) (h2 : y ≤ 10000) : -719162 ≤ Oc.D y ∧ Oc.D y ≤ 2932897 := by
 have a := Oc.D_mono h1;have b := Oc.D_mono h2;have c : Oc.D 1 = -719162 := by decide
 have d : Oc.D 10000 = 2932897 := by decide
 omega
theorem inGo_cons (std fr : Int) (o : Oc.E) (x : List Oc.E) (te : Int) : inGo std fr (o :: x) te = if te ≤ Oc.ti std o then inGo std fr x te else if Oc.ti std o ≤ fr then [piece fr std o.sv] else piece (Oc.ti std o) std o.sv :: inGo std fr x (Oc.ti std o) := rfl
theorem inGo_len (std fr : Int) : ∀ (x : List Oc.E) (te : Int), (inGo std fr x te).length ≤ x.length + 1
 | [], te => by simp [inGo]
 | o :: x, te => by
  have h1 := inGo_len std fr x te;have h2 := inGo_len std fr x (Oc.ti std o);unfold inGo;split
  ·simp only [List.length_cons]; omega
  ·split
   ·simp
   ·simp only [List.length_cons]; omega
end Ln
theorem lnBegin_any (y : Int) (w : World) :
  Calls Tryz.prog 15 #[.int .i64 y] w fun e w' => e = .returned (.tuple #[.int .i64 (Ln.begin_ y).1, .int .i64 (Ln.begin_ y).2]) ∧ w = w' := by
 by_cases h : 1 ≤ y ∧ y ≤ 10000
 ·have hb := Ln.d_bd h.1 h.2;have HF := Lib.hid fun W => first_ok y W h.1 h.2
  have e : Ln.begin_ y = (Oc.D y * 86400, 0) := by unfold Ln.begin_; rw [if_pos h]
  rw [e];unfold Oc.D at hb ⊢;obtain ⟨n, hn⟩ : ∃ n, Cv.num y 1 1 = n := ⟨_, rfl⟩
  rw [hn] at HF hb ⊢;clear h e hn;go_enter Tryz.func15, Tryz.ntmps15
  go_wp2_with fail
  refine (HF.out _).mono ?_;rintro e w1 ⟨rfl, rfl⟩;go_wp2;go_ret2
  exact ⟨rfl, rfl⟩
 ·have HF := Lib.hid fun W => first_bad y W (by omega)
  have e : Ln.begin_ y = (0, 1) := by unfold Ln.begin_; rw [if_neg h]
  rw [e];clear h e;go_enter Tryz.func15, Tryz.ntmps15
  go_wp2_with fail
  refine (HF.out _).mono ?_;rintro e w1 ⟨rfl, rfl⟩;go_wp2;go_ret2
  exact ⟨rfl, rfl⟩
theorem lnYear_any (t : Int) (w : World) (hd : Ln.InDays t) :
  Calls Tryz.prog 187 #[.int .i64 t] w fun e w' => e = .returned (.int .i64 (Ln.yr t)) ∧ Below w.heap.size w w' := by
 unfold Ln.InDays at hd;have HO := Lib.hid fun W => of_ok (t / 86400) W hd.1 hd.2
 unfold Ln.yr;have hy := year_in (t / 86400) hd.1 hd.2;obtain ⟨Y, hY⟩ : ∃ Y, Cv.yearOf (t / 86400) = Y := ⟨_, rfl⟩
 obtain ⟨mm, hmm⟩ : ∃ Y, Cv.monthOf (t / 86400) = Y := ⟨_, rfl⟩
 obtain ⟨dd, hdd⟩ : ∃ Y, Cv.dayOf (t / 86400) = Y := ⟨_, rfl⟩
 rw [hY, hmm, hdd] at HO;rw [hY] at hy ⊢;obtain ⟨hd1, hd2⟩ := hd;clear hY hmm hdd hy
 by_cases hp : 0 ≤ t
 ·have e1 : t.tdiv 86400 = t / 86400 := Int.tdiv_eq_ediv_of_nonneg hp;have e2 : t.tmod 86400 = t % 86400 := Int.tmod_eq_emod_of_nonneg hp;have hn : ¬ (t % 86400 < 0) := by omega
  obtain ⟨q, hq⟩ : ∃ q, t / 86400 = q := ⟨_, rfl⟩
  obtain ⟨r, hr⟩ : ∃ r, t % 86400 = r := ⟨_, rfl⟩
  have t1 : -62135596800 ≤ t := by omega
  have t2 : t ≤ 253402300800 := by omega
  rw [hq] at e1 HO hd1 hd2;rw [hr] at e2 hn;have r1 : 0 ≤ r ∧ r < 86400 := by omega
  clear hq hr hp;go_enter Tryz.func187, Tryz.ntmps187
  go_wp2_with fail
  refine (HO.out _).mono ?_;rintro e w1 ⟨rfl, hb⟩;have HB := Lib.hid (hb.alloc hb.size (.cells #[.int .i64 Y, .int .i64 mm, .int .i64 dd] 174));clear hb;go_wp2;go_ret
  exact ⟨rfl, HB.out⟩
 ·obtain ⟨u, rfl⟩ : ∃ u, t = -u := ⟨-t, by omega⟩
  have e1 : (-u).tdiv 86400 = -(u / 86400) := by rw [Int.neg_tdiv, Int.tdiv_eq_ediv_of_nonneg (by omega)]
  have e2 : (-u).tmod 86400 = -(u % 86400) := by rw [Int.neg_tmod, Int.tmod_eq_emod_of_nonneg (by omega)]
  obtain ⟨r, hr⟩ : ∃ r, u % 86400 = r := ⟨_, rfl⟩
  obtain ⟨q, hq⟩ : ∃ q, u / 86400 = q := ⟨_, rfl⟩
  rw [hq] at e1;rw [hr] at e2
  by_cases hz : r = 0
  ·have hneg : ¬ (-r < 0) := by omega
   have eq : (-u) / 86400 = -q := by omega
   rw [eq] at HO;have b1 : 0 ≤ q := by omega
   have b2 : q ≤ 719162 := by omega
   have b3 : u ≤ 62135596800 := by omega
   have b4 : 0 < u := by omega
   have HZ := Lib.hid hz;clear hr hq hz hd1 hd2 hp eq;go_enter Tryz.func187, Tryz.ntmps187
   go_wp2_with fail
   refine (HO.out _).mono ?_;rintro e w1 ⟨rfl, hb⟩;have HB := Lib.hid (hb.alloc hb.size (.cells #[.int .i64 Y, .int .i64 mm, .int .i64 dd] 174));clear hb;go_wp2;go_ret
   exact ⟨rfl, HB.out⟩
  ·have hneg : -r < 0 := by omega
   have eq : (-u) / 86400 = -q - 1 := by omega
   rw [eq] at HO;have b1 : 0 ≤ q := by omega
   have b2 : q ≤ 719162 := by omega
   have b3 : u ≤ 62135596800 := by omega
   have b4 : 0 < u := by omega
   have HZ := Lib.hid hz;clear hr hq hz hd1 hd2 hp eq;go_enter Tryz.func187, Tryz.ntmps187
   go_wp2_with fail
   refine (HO.out _).mono ?_;rintro e w1 ⟨rfl, hb⟩;have HB := Lib.hid (hb.alloc hb.size (.cells #[.int .i64 Y, .int .i64 mm, .int .i64 dd] 174));clear hb;go_wp2;go_ret
   exact ⟨rfl, HB.out⟩
theorem lnPiece_any (t std sv : Int) (w : World) (h1 : IsTime std) (h2 : IsTime sv) :
  Calls Tryz.prog 186 #[.int .i64 t, .int .i64 std, .int .i64 sv] w fun e w' => e = .returned (Ln.piece t std sv).v ∧ Below w.heap.size w w' := by
 unfold IsTime at h1 h2;have hw : wrap64 (std + sv) = std + sv := by unfold wrap64; omega
 have hd : (sv != 0) = decide (sv ≠ 0) := by
  rw [Bool.eq_iff_iff, bne_iff_ne, decide_eq_true_eq]
 unfold Ln.piece Ln.Sp.v;simp only;rw [← hd];obtain ⟨b, hb⟩ : ∃ b, (sv != 0) = b := ⟨_, rfl⟩
 have hb9 := hb;rw [hb];clear hd;go_enter Tryz.func186, Tryz.ntmps186
 go_wp2;exact bodyPost_ret (v := .agg #[.int .i64 t, .int .i64 (std + sv), .bool b]) (by simp [results, Tryz.results186, go_sem]) rfl ⟨rfl, (Below.refl w.heap.size w).alloc (Nat.le_refl _) _⟩
end Go.Proofs.YtjobhjemnmleaaaGreatDoor
namespace Go.Proofs.YtjobhjemnmleaaaGreatDoor
open Go.RowKit
namespace Ln
def i64s (l : List Int) : List Value := l.map fun t => .int .i64 t
end Ln
theorem lnWhile_any (ends : List Int) (fr te : Int) (k m ec gd : Nat) (rv zv lv : Value) (z : Int) (eA : Option Addr) (w : World) (hm : ends.length = m) (hk : k ≤ m) (hm2 : m ≤ ec) (hec : ec ≤ maxLen) (h0 : eA = none → ec = 0)
  (hA : At w gd [rv, zv, lv, .int .i64 z, .slice eA m ec, .int .i64 fr, .int .i64 te]) (hR : Reads w w.heap.size 1 eA m (Ln.i64s ends)) :
  Calls Tryz.prog 150 #[.pointer (some ⟨gd, 0, none⟩), .int .i64 (k : Int)] w fun e w' => e = .returned (.tuple #[.int .i64 (Ln.maxs ends fr k), .int .i64 (Ln.upto ends te k)]) ∧ Below w.heap.size w w' := by
 unfold maxLen at hec;have a4 := hA.cell 4 _ rfl;have a5 := hA.cell 5 _ rfl;have a6 := hA.cell 6 _ rfl;have za := hA.lt;have q1 : (k : Int) ≤ (ec : Int) := by omega
 have q2 : (0 : Int) ≤ (k : Int) := by omega
 have q3 : k ≤ ec := by omega
 have HA := Lib.hid hA;have HR := Lib.hid hR;have HM := Lib.hid hm;have HD : Hid (∀ n, Below w.heap.size w (w.drewN n)) := fun n => (show Drew w (w.drewN n) from ⟨n, rfl⟩).below w.heap.size
 rcases eA with _ | ad
 ·obtain rfl := h0 rfl;obtain rfl : k = 0 := by omega
  obtain rfl : m = 0 := by omega
  have e1 : Ln.maxs ends fr 0 = fr := rfl;have e2 : Ln.upto ends te 0 = te := by
   obtain rfl : ends = [] := List.eq_nil_of_length_eq_zero hm;rfl
  rw [e1, e2];clear hA hR hm h0 e1 e2 hk hm2 hec;go_enter Tryz.func150, Tryz.ntmps150
  go_wp2_with fail
  go_quiet (fail)
  go_wp2_with fail
  go_loopw [6, 25] (fun v i wr => v = .int .i64 fr ∧ i = .int .i64 0 ∧ Hid (Below w.heap.size w wr)) (fun _ _ _ => 0)
  case atStart => exact ⟨rfl, rfl, HD.out _⟩
  case round =>
   obtain ⟨rfl, rfl, HB⟩ := hrel;have hA9 := HA.out.call HB.out;have b4 := hA9.cell 4 _ rfl;have zb := hA9.lt;clear hA9 a4 a5 a6;go_wp2;go_ret2
   exact ⟨rfl, HB.out⟩
 ·have hkl : k ≤ ends.length := by omega
  obtain ⟨U, hU⟩ : ∃ U, Ln.upto ends te k = U := ⟨_, rfl⟩
  rw [hU];have HU := Lib.hid hU;clear hA hR hm h0 hU;go_enter Tryz.func150, Tryz.ntmps150
  go_wp2_with fail
  go_quiet (fail)
  go_wp2_with fail
  go_loopw [6, 25] (fun v i wr => ∃ j : Nat, j ≤ k ∧ i = .int .i64 (j : Int) ∧ v = .int .i64 (Ln.maxs ends fr j) ∧ Hid (Below w.heap.size w wr)) (fun _ i _ => k - (intOf i).toNat)
  case atStart => exact ⟨0, Nat.zero_le _, rfl, rfl, HD.out _⟩
  case round =>
   obtain ⟨j, hj, rfl, rfl, HB⟩ := hrel
   by_cases hlt : j < k
   ·obtain ⟨ad', u, e, hab, hu, hcu⟩ := (HR.out.below HB.out).at_ (show j < m by omega);obtain rfl : ad = ad' := by injection e
    obtain ⟨x, hx⟩ : ∃ x, ends[j]? = some x := ⟨_, List.getElem?_eq_getElem (by rw [HM.out]; omega)⟩
    have hux : u = .int .i64 x := by
     unfold Ln.i64s at hu;rw [List.getElem?_map, hx] at hu;exact (Option.some.inj hu).symm
    subst hux;have hst := Ln.maxs_succ ends fr j hx;obtain ⟨M, hM⟩ : ∃ M, Ln.maxs ends fr j = M := ⟨_, rfl⟩
    rw [hM] at hst ⊢;have p1 : (0 : Int) ≤ (j : Int) := by omega
    have p2 : (j : Int) < (k : Int) := by omega
    have HS := Lib.hid hst;clear hst hM hx hu e;go_wp2;go_roundw
    case rel => exact ⟨j + 1, by omega, by go_num, by rw [HS.out], HB.out⟩
    case measure => simp [intOf]; omega
   ·obtain rfl : j = k := by omega
    have p2 : ¬ (j : Int) < (j : Int) := by omega
    have hA9 := HA.out.call HB.out;have b4 := hA9.cell 4 _ rfl;have zb := hA9.lt;have HR9 := Lib.hid (HR.out.below HB.out);clear hA9 a4 a5 a6
    by_cases hjm : j < m
    ·obtain ⟨ad', u, e, hab, hu, hcu⟩ := HR9.out.at_ hjm;obtain rfl : ad = ad' := by injection e
     obtain ⟨x, hx⟩ : ∃ x, ends[j]? = some x := ⟨_, List.getElem?_eq_getElem (by rw [HM.out]; omega)⟩
     have hux : u = .int .i64 x := by
      unfold Ln.i64s at hu;rw [List.getElem?_map, hx] at hu;exact (Option.some.inj hu).symm
     subst hux;have hup : Ln.upto ends te j = min te x := by unfold Ln.upto; rw [hx]
     obtain rfl : U = min te x := HU.out.symm.trans hup;have p3 : (j : Int) < (m : Int) := by omega
     clear hu e hx hup HU;go_wp2;go_ret2
     exact ⟨rfl, HB.out⟩
    ·have hup : Ln.upto ends te j = te := by
      unfold Ln.upto;rw [List.getElem?_eq_none (by rw [HM.out]; omega)]
     obtain rfl : U = te := HU.out.symm.trans hup;have p3 : ¬ (j : Int) < (m : Int) := by omega
     clear hup HU;go_wp2;go_ret2
     exact ⟨rfl, HB.out⟩
end Go.Proofs.YtjobhjemnmleaaaGreatDoor
