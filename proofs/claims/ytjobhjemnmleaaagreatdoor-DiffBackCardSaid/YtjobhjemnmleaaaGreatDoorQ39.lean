/- audit.First: the first time from which on two right lists of spans are unlike. -/
import Derived.Test.YtjobhjemnmleaaaGreatDoorQ38
set_option maxRecDepth 100000
set_option maxHeartbeats 16000000
namespace Go.Proofs.YtjobhjemnmleaaaGreatDoor
open Go.RowKit
attribute [local go_sem] Oper.semAt_some
namespace Df
def fst (o : Option Int) : Value := match o with
 | none => .tuple #[.int .i64 0, .bool false]
 | some t => .tuple #[.int .i64 t, .bool true]
def FsRet (o : Option Int) (w : World) (e : Ending) (w' : World) : Prop := e = .returned (fst o) ∧ Below w.heap.size w w'
theorem first_step {a b : List Ln.Sp} {k : Nat} {x y : Ln.Sp} (h1 : a[k]? = some x) (h2 : b[k]? = some y) : first (a.drop k) (b.drop k) = if x = y then first (a.drop (k + 1)) (b.drop (k + 1)) else some (min x.fr y.fr) := by
 rw [List.drop_eq_getElem_cons (List.getElem?_eq_some_iff.1 h1).1, List.drop_eq_getElem_cons (List.getElem?_eq_some_iff.1 h2).1, (List.getElem?_eq_some_iff.1 h1).2, (List.getElem?_eq_some_iff.1 h2).2, first]
theorem first_left {a b : List Ln.Sp} {k : Nat} {x : Ln.Sp} (h1 : a[k]? = some x) (h2 : b.length ≤ k) : first (a.drop k) (b.drop k) = some x.fr := by
 rw [List.drop_eq_getElem_cons (List.getElem?_eq_some_iff.1 h1).1, List.drop_eq_nil_of_le h2, (List.getElem?_eq_some_iff.1 h1).2, first]
theorem first_none {a b : List Ln.Sp} {k : Nat} (h1 : a.length ≤ k) (h2 : b.length ≤ k) : first (a.drop k) (b.drop k) = none := by
 rw [List.drop_eq_nil_of_le h1, List.drop_eq_nil_of_le h2, first]
end Df
namespace AuA
def sl : Nat → Nat
 | 0 => 7
 | 1 => 8
 | 2 => 9
 | 3 => 10
 | 4 => 11
 | 5 => 12
 | 6 => 13
 | 7 => 14
 | 8 => 15
 | 9 => 16
 | 10 => 17
 | 11 => 18
 | 12 => 19
 | 13 => 20
 | 14 => 21
 | 15 => 22
 | 16 => 23
 | 17 => 24
 | _ => 25
def Q (ad : Addr) (n : Nat) (c : Nat) (bd : Addr) (m : Nat) (e : Nat) (f : Int) : Nat → Value → World → Prop
 | 0, v, _ => v = .slice (some ad) n c
 | 1, v, _ => v = .int .i64 0
 | 2, v, _ => v = .bool false
 | 3, v, _ => v = .bool false
 | 4, v, _ => v = .slice (some bd) m e
 | 5, v, _ => v = .int .i64 0
 | 6, v, _ => v = .bool false
 | 7, v, _ => v = .bool false
 | 8, v, _ => v = .bool false
 | 9, v, _ => v = .slice (some ad) n c
 | 10, v, _ => v = .pointer (some ad)
 | 11, v, _ => v = .pointer (some ad)
 | 12, v, _ => v = .int .i64 f
 | 13, v, _ => v = .slice (some bd) m e
 | 14, v, _ => v = .pointer (some bd)
 | 15, v, _ => v = .pointer (some bd)
 | 16, v, _ => v = .int .i64 f
 | 17, v, _ => v = .bool false
 | 18, v, _ => v = .bool false
 | _, _, _ => True
theorem Q_mono {ad : Addr} {n : Nat} {c : Nat} {bd : Addr} {m : Nat} {e : Nat} {f : Int} : ∀ i v W W', Q ad n c bd m e f i v W → Below W.heap.size W W' → Q ad n c bd m e f i v W' := by
 intro _ v W W' h hb;unfold Q at h ⊢;split at h
 all_goals first | exact h
theorem sl_inj : ∀ j, j < 19 → ∀ k, k < 19 → sl j = sl k → j = k := by decide +kernel
theorem sl_no : ∀ j, j ∈ [0, 1, 4, 5] → ∀ k, k < 19 → sl k ≠ j := by decide +kernel
end AuA
namespace AuB
def sl : Nat → Nat
 | 0 => 80
 | 1 => 81
 | 2 => 82
 | 3 => 83
 | 4 => 84
 | 5 => 85
 | 6 => 86
 | 7 => 87
 | 8 => 88
 | 9 => 89
 | 10 => 90
 | 11 => 4
 | _ => 5
def Q (ad : Addr) (n : Nat) (c : Nat) (bd : Addr) (m : Nat) (e : Nat) (k : Nat) (x : Ln.Sp) (y : Ln.Sp) (mi : Int) : Nat → Value → World → Prop
 | 0, v, _ => v = .slice (some ad) n c
 | 1, v, _ => v = .int .i64 (k : Int)
 | 2, v, _ => v = .pointer (some (ad.add (k * 3)))
 | 3, v, _ => v = .pointer (some (ad.add (k * 3)))
 | 4, v, _ => v = .int .i64 x.fr
 | 5, v, _ => v = .slice (some bd) m e
 | 6, v, _ => v = .int .i64 (k : Int)
 | 7, v, _ => v = .pointer (some (bd.add (k * 3)))
 | 8, v, _ => v = .pointer (some (bd.add (k * 3)))
 | 9, v, _ => v = .int .i64 y.fr
 | 10, v, _ => v = .int .i64 mi
 | 11, v, _ => v = .int .i64 mi
 | 12, v, _ => v = .bool true
 | _, _, _ => True
theorem Q_mono {ad : Addr} {n : Nat} {c : Nat} {bd : Addr} {m : Nat} {e : Nat} {k : Nat} {x : Ln.Sp} {y : Ln.Sp} {mi : Int} : ∀ i v W W', Q ad n c bd m e k x y mi i v W → Below W.heap.size W W' → Q ad n c bd m e k x y mi i v W' := by
 intro _ v W W' h hb;unfold Q at h ⊢;split at h
 all_goals first | exact h
theorem sl_inj : ∀ j, j < 13 → ∀ k, k < 13 → sl j = sl k → j = k := by decide +kernel
theorem sl_no : ∀ j, j ∈ [0, 1, 6] → ∀ k, k < 13 → sl k ≠ j := by decide +kernel
end AuB
theorem auFirst_any (a b : List Ln.Sp) (f : Int) (A B : Option Addr) (n m c e : Nat) (w : World) (hn : a.length = n) (hm : b.length = m) (hn2 : n ≤ 1000000000) (hm2 : m ≤ 1000000000) (ha : Lo.Right a) (hb : Lo.Right b) (h0 : ∀ x, a[0]? = some x → x.fr = f) (h1 : ∀ x, b[0]? = some x → x.fr = f)
  (hR : Reads w w.heap.size 3 A n (a.flatMap Ln.Sp.cells)) (hS : Reads w w.heap.size 3 B m (b.flatMap Ln.Sp.cells)) :
  Calls Tryz.prog 71 #[.slice A n c, .slice B m e] w (Df.FsRet (Df.first a b) w) := by
 have hpa : 0 < n := by rw [← hn]; exact List.length_pos_iff.2 ha.ne
 have hpb : 0 < m := by rw [← hm]; exact List.length_pos_iff.2 hb.ne
 have HCa := Lib.hid fun W (hb' : Below w.heap.size w W) => lookCheck_any a A n c W hn hn2 ha ((hR.below hb').more hb'.size)
 have HCb := Lib.hid fun W (hb' : Below w.heap.size w W) => lookCheck_any b B m e W hm hm2 hb ((hS.below hb').more hb'.size)
 obtain ⟨ad, x0, rfl, hab, Hx0, HLx⟩ := Ix.reads_cells (enc := Ln.Sp.cells) (m := 3) (fun _ => rfl) hn hR hpa;obtain ⟨bd, y0, rfl, hbb, Hy0, HLy⟩ := Ix.reads_cells (enc := Ln.Sp.cells) (m := 3) (fun _ => rfl) hm hS hpb;have HX : Hid (∀ W, Below w.heap.size w W → W.cell? ad = some (.int .i64 f)) := fun W hb' => by
  have h := HLx.out 0 _ rfl;have e0 : ad.add (0 * 3) = ad := by cases ad; rfl
  rw [h0 x0 Hx0.out] at h;exact (hb'.cell (p := ad) hab).trans (by rw [e0] at h; exact h)
 have HY : Hid (∀ W, Below w.heap.size w W → W.cell? bd = some (.int .i64 f)) := fun W hb' => by
  have h := HLy.out 0 _ rfl;have e0 : bd.add (0 * 3) = bd := by cases bd; rfl
  rw [h1 y0 Hy0.out] at h;exact (hb'.cell (p := bd) hbb).trans (by rw [e0] at h; exact h)
 have HQ : Hid ((0 : Int) < (n : Int) ∧ (0 : Int) < (m : Int)) := ⟨by omega, by omega⟩
 obtain ⟨X, hX⟩ : ∃ X, Df.first a b = X := ⟨_, rfl⟩
 rw [hX];have HE0 : Hid (Df.first (a.drop 0) (b.drop 0) = X) := hX;have HN := Lib.hid hn;have HM := Lib.hid hm;have HR := Lib.hid hR;have HS := Lib.hid hS;clear hX hn hm hR hS ha hb h0 h1 HLx HLy Hx0 Hy0;obtain ⟨P, hP⟩ : ∃ P, Df.FsRet X w = P := ⟨_, rfl⟩
 have HP := Lib.hid hP;rw [hP];clear hP;go_enter Tryz.func71, Tryz.ntmps71
 go_wp2_with fail
 refine Od.wp_region_inv 91 (by kernel_rfl) (by rfl) (by rfl) (Od.ord_of (by kernel_rfl)) (Od.dst_of (by kernel_rfl)) (Rg.J 19 AuA.sl (AuA.Q ad n c bd m e f) w (Od.slots _)) (Rg.J.start _ _ _ ((Below.refl _ _).drew)) ?stepR ?finR
 case stepR =>
  intro i o hi b' a' wv hJ hb hdep hdf K hK;obtain ⟨tm, df⟩ := a';simp only at hdf;subst hdf;have hiN : i < 19 := (Array.getElem?_eq_some_iff.1 hi).1;have hsplit : i = 0 ∨ i = 1 ∨ i = 2 ∨ i = 3 ∨ i = 4 ∨ i = 5 ∨ i = 6 ∨ i = 7 ∨ i = 8 ∨ i = 9 ∨ i = 10 ∨ i = 11 ∨ i = 12 ∨ i = 13 ∨ i = 14 ∨ i = 15 ∨ i = 16 ∨ i = 17 ∨ i = 18 := by omega
  rcases hsplit with rfl | rfl | rfl | rfl | rfl | rfl | rfl | rfl | rfl | rfl | rfl | rfl | rfl | rfl | rfl | rfl | rfl | rfl | rfl
  all_goals obtain rfl := sji (show some _ = some o from hi)
  all_goals first | rw [if_pos (show Region.wanted _ _ = true from rfl)] | (have hg : tm.getD 10 undef = .bool false := by (refine hJ.val 3 (by decide) (hdep ⟨3, .guard⟩ ?_ rfl); simp <;> fail)) | (have hg : tm.getD 15 undef = .bool false := by (refine hJ.val 8 (by decide) (hdep ⟨8, .guard⟩ ?_ rfl); simp <;> fail)) | skip
  all_goals try rw [if_pos (Rg.want rfl rfl hg)]
  all_goals (have h0 : tm.getD 0 undef = .slice (some ad) n c := (hJ.old 0 (AuA.sl_no 0 (by decide))).trans rfl;have h0' := gdq h0)
  all_goals try have v1 : tm.getD 8 undef = .int .i64 0 := by (refine hJ.val 1 (by decide) (hdep ⟨1, .data⟩ ?_ rfl); simp <;> fail)
  all_goals try have v1' := gdq v1
  all_goals try have v2 : tm.getD 9 undef = .bool false := by (refine hJ.val 2 (by decide) (hdep ⟨2, .data⟩ ?_ rfl); simp <;> fail)
  all_goals try have v2' := gdq v2
  all_goals (have h1 : tm.getD 1 undef = .slice (some bd) m e := (hJ.old 1 (AuA.sl_no 1 (by decide))).trans rfl;have h1' := gdq h1)
  all_goals try have v5 : tm.getD 12 undef = .int .i64 0 := by (refine hJ.val 5 (by decide) (hdep ⟨5, .data⟩ ?_ rfl); simp <;> fail)
  all_goals try have v5' := gdq v5
  all_goals try have v3 : tm.getD 10 undef = .bool false := by (refine hJ.val 3 (by decide) (hdep ⟨3, .data⟩ ?_ rfl); simp <;> fail)
  all_goals try have v3' := gdq v3
  all_goals try have v6 : tm.getD 13 undef = .bool false := by (refine hJ.val 6 (by decide) (hdep ⟨6, .data⟩ ?_ rfl); simp <;> fail)
  all_goals try have v6' := gdq v6
  all_goals try have v7 : tm.getD 14 undef = .bool false := by (refine hJ.val 7 (by decide) (hdep ⟨7, .data⟩ ?_ rfl); simp <;> fail)
  all_goals try have v7' := gdq v7
  all_goals try have v9 : tm.getD 16 undef = .slice (some ad) n c := by (refine hJ.val 9 (by decide) (hdep ⟨9, .data⟩ ?_ rfl); simp <;> fail)
  all_goals try have v9' := gdq v9
  all_goals have q1 := HQ.out.1
  all_goals try have v10 : tm.getD 17 undef = .pointer (some ad) := by (refine hJ.val 10 (by decide) (hdep ⟨10, .data⟩ ?_ rfl); simp <;> fail)
  all_goals try have v10' := gdq v10
  all_goals try have v11 : tm.getD 18 undef = .pointer (some ad) := by (refine hJ.val 11 (by decide) (hdep ⟨11, .data⟩ ?_ rfl); simp <;> fail)
  all_goals try have v11' := gdq v11
  all_goals have c0 := HX.out wv hJ.below
  all_goals try have v13 : tm.getD 20 undef = .slice (some bd) m e := by (refine hJ.val 13 (by decide) (hdep ⟨13, .data⟩ ?_ rfl); simp <;> fail)
  all_goals try have v13' := gdq v13
  all_goals have q2 := HQ.out.2
  all_goals try have v14 : tm.getD 21 undef = .pointer (some bd) := by (refine hJ.val 14 (by decide) (hdep ⟨14, .data⟩ ?_ rfl); simp <;> fail)
  all_goals try have v14' := gdq v14
  all_goals try have v15 : tm.getD 22 undef = .pointer (some bd) := by (refine hJ.val 15 (by decide) (hdep ⟨15, .data⟩ ?_ rfl); simp <;> fail)
  all_goals try have v15' := gdq v15
  all_goals have c0 := HY.out wv hJ.below
  all_goals try have v12 : tm.getD 19 undef = .int .i64 f := by (refine hJ.val 12 (by decide) (hdep ⟨12, .data⟩ ?_ rfl); simp <;> fail)
  all_goals try have v12' := gdq v12
  all_goals try have v16 : tm.getD 23 undef = .int .i64 f := by (refine hJ.val 16 (by decide) (hdep ⟨16, .data⟩ ?_ rfl); simp <;> fail)
  all_goals try have v16' := gdq v16
  all_goals try have v8 : tm.getD 15 undef = .bool false := by (refine hJ.val 8 (by decide) (hdep ⟨8, .data⟩ ?_ rfl); simp <;> fail)
  all_goals try have v8' := gdq v8
  all_goals try have v17 : tm.getD 24 undef = .bool false := by (refine hJ.val 17 (by decide) (hdep ⟨17, .data⟩ ?_ rfl); simp <;> fail)
  all_goals try have v17' := gdq v17
  all_goals first | (go_simp;exact hK _ _ (hJ.put AuA.Q_mono AuA.sl_inj (by decide) rfl)) | skip
  ·have v0 : tm.getD 7 undef = .slice (some ad) n c := hJ.val 0 (by decide) (hdep ⟨0, .data⟩ (by simp) rfl);have v0' := gdq v0;go_simp;refine (HCa.out wv hJ.below).mono ?_;rintro e9 w' ⟨rfl, hbm⟩;exact hK _ _ (hJ.step AuA.Q_mono AuA.sl_inj (by decide) hbm rfl)
  ·have v4 : tm.getD 11 undef = .slice (some bd) m e := hJ.val 4 (by decide) (hdep ⟨4, .data⟩ (by simp) rfl);have v4' := gdq v4;go_simp;refine (HCb.out wv hJ.below).mono ?_;rintro e9 w' ⟨rfl, hbm⟩;exact hK _ _ (hJ.step AuA.Q_mono AuA.sl_inj (by decide) hbm rfl)
 case finR =>
  intro a' W5 hJ hN hdf;have s0 : a'.tmps.getD 0 undef = .slice (some ad) n c := (hJ.old 0 (AuA.sl_no 0 (by decide))).trans rfl;have s1 : a'.tmps.getD 1 undef = .slice (some bd) m e := (hJ.old 1 (AuA.sl_no 1 (by decide))).trans rfl;have s4 : a'.tmps.getD 4 undef = .int .i64 0 := (hJ.old 4 (AuA.sl_no 4 (by decide))).trans rfl;have s5 : a'.tmps.getD 5 undef = .bool false := (hJ.old 5 (AuA.sl_no 5 (by decide))).trans rfl;have s25 : a'.tmps.getD 25 undef = .bool false := hJ.val 18 (by decide) (by rfl);have hb9 := hJ.below;have ef : a' = { tmps := ((List.range 91).map fun i => a'.tmps.getD i undef).toArray, defers := [] } := Rg.frame_of 91 a' hN hdf;obtain ⟨u, hu⟩ : ∃ u : Nat → Value, (fun i => a'.tmps.getD i undef) = u := ⟨_, rfl⟩
  rw [hu] at ef;have e0 : u 0 = .slice (some ad) n c := by rw [← hu]; exact s0
  have e1 : u 1 = .slice (some bd) m e := by rw [← hu]; exact s1
  have e4 : u 4 = .int .i64 0 := by rw [← hu]; exact s4
  have e5 : u 5 = .bool false := by rw [← hu]; exact s5
  have e25 : u 25 = .bool false := by rw [← hu]; exact s25
  have ef2 : a' = { tmps := (u 0 :: u 1 :: u 2 :: u 3 :: u 4 :: u 5 :: u 6 :: u 7 :: u 8 :: u 9 :: u 10 :: u 11 :: u 12 :: u 13 :: u 14 :: u 15 :: u 16 :: u 17 :: u 18 :: u 19 :: u 20 :: u 21 :: u 22 :: u 23 :: u 24 :: u 25 :: u 26 :: u 27 :: u 28 :: u 29 :: u 30 :: u 31 :: u 32 :: u 33 :: u 34 :: u 35 :: u 36 :: u 37 :: u 38 :: u 39 :: u 40 :: u 41 :: u 42 :: u 43 :: u 44 :: u 45 :: u 46 :: u 47 :: u 48 :: u 49 :: u 50 :: u 51 :: u 52 :: u 53 :: u 54 :: u 55 :: u 56 :: u 57 :: u 58 :: u 59 :: u 60 :: u 61 :: u 62 :: u 63 :: u 64 :: u 65 :: u 66 :: u 67 :: u 68 :: u 69 :: u 70 :: u 71 :: u 72 :: u 73 :: u 74 :: u 75 :: u 76 :: u 77 :: u 78 :: u 79 :: u 80 :: u 81 :: u 82 :: u 83 :: u 84 :: u 85 :: u 86 :: u 87 :: u 88 :: u 89 :: u 90 :: [] : List Value).toArray, defers := [] } := ef;rw [e0, e1, e4, e5, e25] at ef2;rw [ef2];clear hJ hN hdf ef ef2 hu e0 s0 e1 s1 e4 s4 e5 s5 e25 s25;have HB5 := Lib.hid hb9;clear hb9 HCa HCb HX HY HQ;go_wp2;go_loopw [6] (fun i wr => ∃ k : Nat, k ≤ n ∧ k ≤ m ∧ i = .int .i64 (k : Int) ∧ Hid (Below w.heap.size w wr) ∧ Hid (Df.first (a.drop k) (b.drop k) = X)) (fun i _ => n - (intOf i).toNat)
  case atStart => exact ⟨0, Nat.zero_le _, Nat.zero_le _, rfl, HB5.out, HE0.out⟩
  case round =>
   obtain ⟨k, hk, hk', rfl, HB, HE⟩ := hrel
   by_cases hlt : k < n
   ·obtain ⟨_, x, e1, hab, Hx, HLx⟩ := Ix.reads_cells (enc := Ln.Sp.cells) (m := 3) (fun _ => rfl) HN.out (HR.out.below HB.out) hlt;obtain rfl := Option.some.inj e1;have c0 : wr.cell? (ad.add (k * 3)) = some (.int .i64 x.fr) := HLx.out 0 _ rfl;have c1 : wr.cell? ⟨(ad.add (k * 3)).block, (ad.add (k * 3)).off + 1, none⟩ = some (.int .i64 x.off) := HLx.out 1 _ rfl;have c2 : wr.cell? ⟨(ad.add (k * 3)).block, (ad.add (k * 3)).off + 2, none⟩ = some (.bool x.dst) := HLx.out 2 _ rfl;have q1 : (0 : Int) ≤ (k : Int) := by omega
    have q2 : (k : Int) < (n : Int) := by omega
    have qn := decide_eq_true hlt;have qk : ((k : Int) == (n : Int)) = false := bqf (by omega)
    by_cases hlt2 : k < m
    ·obtain ⟨_, y, e2, hab2, Hy, HLy⟩ := Ix.reads_cells (enc := Ln.Sp.cells) (m := 3) (fun _ => rfl) HM.out (HS.out.below HB.out) hlt2;obtain rfl := Option.some.inj e2;have d0 : wr.cell? (bd.add (k * 3)) = some (.int .i64 y.fr) := HLy.out 0 _ rfl;have d1 : wr.cell? ⟨(bd.add (k * 3)).block, (bd.add (k * 3)).off + 1, none⟩ = some (.int .i64 y.off) := HLy.out 1 _ rfl;have d2 : wr.cell? ⟨(bd.add (k * 3)).block, (bd.add (k * 3)).off + 2, none⟩ = some (.bool y.dst) := HLy.out 2 _ rfl;have q3 : (k : Int) < (m : Int) := by omega
     have qm := decide_eq_true hlt2;have hst := HE.out;rw [Df.first_step Hx.out Hy.out] at hst;have hq := fun W => span_same x y W
     by_cases hxy : x = y
     ·have hsm : Ln.spSame x y = true := (Ln.spSame_iff x y).2 hxy;rw [if_pos hxy] at hst;have HE2 := Lib.hid hst;simp only [hsm] at hq;have wk : IntKind.i64.wrap ((k : Int) + 1) = (k : Int) + 1 := by rw [IntKind.wrap_i64]; omega
      have hkb : k < 1000000000 := by omega
      clear hst hxy hsm HLx HLy Hx Hy hab hab2 HE;go_wp2_with fail
      go_quiet (fail)
      go_wp2;go_roundw
      case rel => exact ⟨k + 1, by omega, by omega, by go_num, (by first | exact HB.out | exact below_drewN HB.out _ | exact HB.out.drew), HE2.out⟩
      case measure => simp [intOf]; omega
     ·have hsm : Ln.spSame x y = false := by rw [← Bool.not_eq_true, Ln.spSame_iff]; exact hxy
      rw [if_neg hxy] at hst;have HE2 := Lib.hid hst;simp only [hsm] at hq;have qk2 : ((k : Int) == (m : Int)) = false := bqf (by omega);obtain ⟨mi, hmi⟩ : ∃ q, min x.fr y.fr = q := ⟨_, rfl⟩
      rw [hmi] at hst;have HXc : Hid (∀ W, Below wr.heap.size wr W → W.cell? (ad.add (k * 3)) = some (.int .i64 x.fr)) := fun W hb' => (hb'.cell (p := ad.add (k * 3)) (block_lt_of_cell c0)).trans c0
      have HYc : Hid (∀ W, Below wr.heap.size wr W → W.cell? (bd.add (k * 3)) = some (.int .i64 y.fr)) := fun W hb' => (hb'.cell (p := bd.add (k * 3)) (block_lt_of_cell d0)).trans d0
      have HX := HXc;have HY := HYc;have HQ : Hid ((0 : Int) ≤ (k : Int) ∧ (k : Int) < (n : Int) ∧ (k : Int) < (m : Int) ∧ min x.fr y.fr = mi) := ⟨q1, q2, q3, hmi⟩
      have HE3 : Hid (X = some mi) := hst.symm;clear hst hxy hsm HLx HLy Hx Hy hab hab2 HE HE2 HXc HYc hmi;go_wp2_with fail
      go_quiet (fail)
      clear c0 c1 c2 d0 d1 d2 hq;go_wp2_with fail
      refine Od.wp_region_inv 91 (by kernel_rfl) (by rfl) (by rfl) (Od.ord_of (by kernel_rfl)) (Od.dst_of (by kernel_rfl)) (Rg.J 13 AuB.sl (AuB.Q ad n c bd m e k x y mi) wr (Od.slots _)) (Rg.J.start _ _ _ ((below_drewN (Below.refl _ _) _).drew)) ?stepR ?finR
      case stepR =>
       intro i o hi b' a' wv hJ hb hdep hdf K hK;obtain ⟨tm, df⟩ := a';simp only at hdf;subst hdf;have hiN : i < 13 := (Array.getElem?_eq_some_iff.1 hi).1;have hsplit : i = 0 ∨ i = 1 ∨ i = 2 ∨ i = 3 ∨ i = 4 ∨ i = 5 ∨ i = 6 ∨ i = 7 ∨ i = 8 ∨ i = 9 ∨ i = 10 ∨ i = 11 ∨ i = 12 := by omega
       rcases hsplit with rfl | rfl | rfl | rfl | rfl | rfl | rfl | rfl | rfl | rfl | rfl | rfl | rfl
       all_goals obtain rfl := sji (show some _ = some o from hi)
       all_goals first | rw [if_pos (show Region.wanted _ _ = true from rfl)] | skip
       all_goals (have h0 : tm.getD 0 undef = .slice (some ad) n c := (hJ.old 0 (AuB.sl_no 0 (by decide))).trans rfl;have h0' := gdq h0)
       all_goals (have h6 : tm.getD 6 undef = .int .i64 (k : Int) := (hJ.old 6 (AuB.sl_no 6 (by decide))).trans rfl;have h6' := gdq h6)
       all_goals try have v0 : tm.getD 80 undef = .slice (some ad) n c := by (refine hJ.val 0 (by decide) (hdep ⟨0, .data⟩ ?_ rfl); simp <;> fail)
       all_goals try have v0' := gdq v0
       all_goals try have v1 : tm.getD 81 undef = .int .i64 (k : Int) := by (refine hJ.val 1 (by decide) (hdep ⟨1, .data⟩ ?_ rfl); simp <;> fail)
       all_goals try have v1' := gdq v1
       all_goals have q1 := HQ.out.1
       all_goals have q2 := HQ.out.2.1
       all_goals try have v2 : tm.getD 82 undef = .pointer (some (ad.add (k * 3))) := by (refine hJ.val 2 (by decide) (hdep ⟨2, .data⟩ ?_ rfl); simp <;> fail)
       all_goals try have v2' := gdq v2
       all_goals try have v3 : tm.getD 83 undef = .pointer (some (ad.add (k * 3))) := by (refine hJ.val 3 (by decide) (hdep ⟨3, .data⟩ ?_ rfl); simp <;> fail)
       all_goals try have v3' := gdq v3
       all_goals have c0 := HX.out wv hJ.below
       all_goals (have h1 : tm.getD 1 undef = .slice (some bd) m e := (hJ.old 1 (AuB.sl_no 1 (by decide))).trans rfl;have h1' := gdq h1)
       all_goals try have v5 : tm.getD 85 undef = .slice (some bd) m e := by (refine hJ.val 5 (by decide) (hdep ⟨5, .data⟩ ?_ rfl); simp <;> fail)
       all_goals try have v5' := gdq v5
       all_goals try have v6 : tm.getD 86 undef = .int .i64 (k : Int) := by (refine hJ.val 6 (by decide) (hdep ⟨6, .data⟩ ?_ rfl); simp <;> fail)
       all_goals try have v6' := gdq v6
       all_goals have q2 := HQ.out.2.2.1
       all_goals try have v7 : tm.getD 87 undef = .pointer (some (bd.add (k * 3))) := by (refine hJ.val 7 (by decide) (hdep ⟨7, .data⟩ ?_ rfl); simp <;> fail)
       all_goals try have v7' := gdq v7
       all_goals try have v8 : tm.getD 88 undef = .pointer (some (bd.add (k * 3))) := by (refine hJ.val 8 (by decide) (hdep ⟨8, .data⟩ ?_ rfl); simp <;> fail)
       all_goals try have v8' := gdq v8
       all_goals have c0 := HY.out wv hJ.below
       all_goals try have v4 : tm.getD 84 undef = .int .i64 x.fr := by (refine hJ.val 4 (by decide) (hdep ⟨4, .data⟩ ?_ rfl); simp <;> fail)
       all_goals try have v4' := gdq v4
       all_goals try have v9 : tm.getD 89 undef = .int .i64 y.fr := by (refine hJ.val 9 (by decide) (hdep ⟨9, .data⟩ ?_ rfl); simp <;> fail)
       all_goals try have v9' := gdq v9
       all_goals have hmi := HQ.out.2.2.2
       all_goals try have v10 : tm.getD 90 undef = .int .i64 mi := by (refine hJ.val 10 (by decide) (hdep ⟨10, .data⟩ ?_ rfl); simp <;> fail)
       all_goals try have v10' := gdq v10
       all_goals first | (go_simp;exact hK _ _ (hJ.put AuB.Q_mono AuB.sl_inj (by decide) rfl)) | skip
      case finR =>
       intro a' W6 hJ hN hdf;have s0 : a'.tmps.getD 0 undef = .slice (some ad) n c := (hJ.old 0 (AuB.sl_no 0 (by decide))).trans rfl;have s4 : a'.tmps.getD 4 undef = .int .i64 mi := hJ.val 11 (by decide) (by rfl);have s5 : a'.tmps.getD 5 undef = .bool true := hJ.val 12 (by decide) (by rfl);have hb9 := hJ.below;have ef : a' = { tmps := ((List.range 91).map fun i => a'.tmps.getD i undef).toArray, defers := [] } := Rg.frame_of 91 a' hN hdf;obtain ⟨u, hu⟩ : ∃ u : Nat → Value, (fun i => a'.tmps.getD i undef) = u := ⟨_, rfl⟩
       rw [hu] at ef;have e0 : u 0 = .slice (some ad) n c := by rw [← hu]; exact s0
       have e4 : u 4 = .int .i64 mi := by rw [← hu]; exact s4
       have e5 : u 5 = .bool true := by rw [← hu]; exact s5
       have ef2 : a' = { tmps := (u 0 :: u 1 :: u 2 :: u 3 :: u 4 :: u 5 :: u 6 :: u 7 :: u 8 :: u 9 :: u 10 :: u 11 :: u 12 :: u 13 :: u 14 :: u 15 :: u 16 :: u 17 :: u 18 :: u 19 :: u 20 :: u 21 :: u 22 :: u 23 :: u 24 :: u 25 :: u 26 :: u 27 :: u 28 :: u 29 :: u 30 :: u 31 :: u 32 :: u 33 :: u 34 :: u 35 :: u 36 :: u 37 :: u 38 :: u 39 :: u 40 :: u 41 :: u 42 :: u 43 :: u 44 :: u 45 :: u 46 :: u 47 :: u 48 :: u 49 :: u 50 :: u 51 :: u 52 :: u 53 :: u 54 :: u 55 :: u 56 :: u 57 :: u 58 :: u 59 :: u 60 :: u 61 :: u 62 :: u 63 :: u 64 :: u 65 :: u 66 :: u 67 :: u 68 :: u 69 :: u 70 :: u 71 :: u 72 :: u 73 :: u 74 :: u 75 :: u 76 :: u 77 :: u 78 :: u 79 :: u 80 :: u 81 :: u 82 :: u 83 :: u 84 :: u 85 :: u 86 :: u 87 :: u 88 :: u 89 :: u 90 :: [] : List Value).toArray, defers := [] } := ef;rw [e0, e4, e5] at ef2;rw [ef2];clear hJ hN hdf ef ef2 hu e0 s0 e4 s4 e5 s5;have HB6 := Lib.hid (below_then HB.out hb9);clear hb9;go_wp2;rw [← HP.out];exact ⟨by rw [HE3.out]; rfl, HB6.out⟩
    ·have hst := HE.out;rw [Df.first_left Hx.out (by rw [HM.out]; omega)] at hst;have HE3 : Hid (X = some x.fr) := hst.symm;have qm := decide_eq_false hlt2;have q3 : ¬ (k : Int) < (m : Int) := by omega
     have qk2 : ((k : Int) == (m : Int)) = true := by rw [beq_iff_eq]; omega
     clear hst HLx Hx hab HE;go_wp2_with fail
     go_quiet (fail)
     go_wp2;rw [← HP.out];exact ⟨by rw [HE3.out]; rfl, by first | exact HB.out | exact below_drewN HB.out _ | exact HB.out.drew⟩
   ·have qn := decide_eq_false hlt;have q2 : ¬ (k : Int) < (n : Int) := by omega
    have qk : ((k : Int) == (n : Int)) = true := by rw [beq_iff_eq]; omega
    by_cases hlt2 : k < m
    ·obtain ⟨_, y, e2, hab2, Hy, HLy⟩ := Ix.reads_cells (enc := Ln.Sp.cells) (m := 3) (fun _ => rfl) HM.out (HS.out.below HB.out) hlt2;obtain rfl := Option.some.inj e2;have d0 : wr.cell? (bd.add (k * 3)) = some (.int .i64 y.fr) := HLy.out 0 _ rfl;have hst := HE.out;rw [Df.first_comm, Df.first_left Hy.out (by rw [HN.out]; omega)] at hst;have HE3 : Hid (X = some y.fr) := hst.symm;have q1 : (0 : Int) ≤ (k : Int) := by omega
     have q3 : (k : Int) < (m : Int) := by omega
     have qk2 : ((k : Int) == (m : Int)) = false := bqf (by omega);clear hst HLy Hy hab2 HE;go_wp2_with fail
     go_quiet (fail)
     go_wp2;rw [← HP.out];exact ⟨by rw [HE3.out]; rfl, by first | exact HB.out | exact below_drewN HB.out _ | exact HB.out.drew⟩
    ·have hst := HE.out;rw [Df.first_none (by rw [HN.out]; omega) (by rw [HM.out]; omega)] at hst;have HE3 : Hid (X = none) := hst.symm;have qk2 : ((k : Int) == (m : Int)) = true := by rw [beq_iff_eq]; omega
     clear hst HE;go_wp2_with fail
     go_quiet (fail)
     go_wp2;rw [← HP.out];exact ⟨by rw [HE3.out]; rfl, by first | exact HB.out | exact below_drewN HB.out _ | exact HB.out.drew⟩
end Go.Proofs.YtjobhjemnmleaaaGreatDoor
