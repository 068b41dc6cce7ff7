/- Package look: what is looked up in spans. -/
import Derived.Test.YtjobhjemnmleaaaGreatDoorQ37
set_option maxRecDepth 200000
set_option maxHeartbeats 16000000
namespace Go.Proofs.YtjobhjemnmleaaaGreatDoor
open Go.RowKit
attribute [local go_sem] Oper.semAt_some
theorem lookAlike_any (a b : Ln.Sp) (w : World) :
  Calls Tryz.prog 112 #[.agg #[.int .i64 a.fr, .int .i64 a.off, .bool a.dst], .agg #[.int .i64 b.fr, .int .i64 b.off, .bool b.dst]] w fun e w' => e = .returned (.bool (Ln.alike a b)) ∧ Below w.heap.size w w' := by
 obtain ⟨x, o, d⟩ := a;obtain ⟨x', o', d'⟩ := b;have HB := Lib.hid (((Below.refl w.heap.size w).alloc (Nat.le_refl _) (.cells #[.int .i64 x, .int .i64 o, .bool d] 164)).alloc (by simp) (.cells #[.int .i64 x', .int .i64 o', .bool d'] 164));unfold Ln.alike;simp only
 by_cases ho : o = o'
 ·subst ho;rw [decide_eq_true rfl, Bool.true_and];cases d <;> cases d'
  all_goals
   go_enter Tryz.func112, Tryz.ntmps112
   go_wp2;go_ret
   exact ⟨rfl, HB.out⟩
 ·have p1 : (o == o') = false := by rw [beq_eq_false_iff_ne]; exact ho
  rw [decide_eq_false ho, Bool.false_and];go_enter Tryz.func112, Tryz.ntmps112
  go_wp2;go_ret
  exact ⟨rfl, HB.out⟩
namespace LkC
def sl : Nat → Nat
 | 0 => 13
 | 1 => 14
 | 2 => 15
 | 3 => 16
 | 4 => 17
 | 5 => 18
 | 6 => 19
 | 7 => 20
 | 8 => 21
 | 9 => 22
 | 10 => 23
 | 11 => 24
 | 12 => 25
 | 13 => 26
 | 14 => 27
 | 15 => 28
 | 16 => 29
 | 17 => 30
 | 18 => 31
 | 19 => 32
 | 20 => 33
 | 21 => 34
 | 22 => 35
 | _ => 36
def Q (ad : Addr) (n : Nat) (c : Nat) (k : Nat) (j : Nat) (x0 : Int) (x1 : Int) (x2 : Bool) (y0 : Int) (y1 : Int) (y2 : Bool) : Nat → Value → World → Prop
 | 0, v, _ => v = .slice (some ad) n c
 | 1, v, _ => v = .int .i64 (k : Int)
 | 2, v, _ => v = .pointer (some (ad.add (k * 3)))
 | 3, v, _ => v = .pointer (some (ad.add (k * 3)))
 | 4, v, _ => v = .int .i64 x0
 | 5, v, _ => v = .slice (some ad) n c
 | 6, v, _ => v = .int .i64 (k : Int)
 | 7, v, _ => v = .int .i64 (j : Int)
 | 8, v, _ => v = .pointer (some (ad.add (j * 3)))
 | 9, v, _ => v = .pointer (some (ad.add (j * 3)))
 | 10, v, _ => v = .int .i64 y0
 | 11, v, _ => v = .bool false
 | 12, v, _ => v = .bool false
 | 13, v, _ => v = .slice (some ad) n c
 | 14, v, _ => v = .int .i64 (k : Int)
 | 15, v, _ => v = .pointer (some (ad.add (k * 3)))
 | 16, v, _ => v = .agg #[.int .i64 x0, .int .i64 x1, .bool x2]
 | 17, v, _ => v = .slice (some ad) n c
 | 18, v, _ => v = .int .i64 (k : Int)
 | 19, v, _ => v = .int .i64 (j : Int)
 | 20, v, _ => v = .pointer (some (ad.add (j * 3)))
 | 21, v, _ => v = .agg #[.int .i64 y0, .int .i64 y1, .bool y2]
 | 22, v, _ => v = .bool false
 | 23, v, _ => v = .bool false
 | _, _, _ => True
theorem Q_mono {ad : Addr} {n : Nat} {c : Nat} {k : Nat} {j : Nat} {x0 : Int} {x1 : Int} {x2 : Bool} {y0 : Int} {y1 : Int} {y2 : Bool} : ∀ i v W W', Q ad n c k j x0 x1 x2 y0 y1 y2 i v W → Below W.heap.size W W' → Q ad n c k j x0 x1 x2 y0 y1 y2 i v W' := by
 intro _ v W W' h hb;unfold Q at h ⊢;split at h
 all_goals first | exact h
theorem sl_inj : ∀ j, j < 24 → ∀ k, k < 24 → sl j = sl k → j = k := by decide +kernel
theorem sl_no : ∀ j, j ∈ [0, 1, 2, 3, 4, 5, 6] → ∀ k, k < 24 → sl k ≠ j := by decide +kernel
end LkC
theorem lookCheck_any (l : List Ln.Sp) (A : Option Addr) (n c : Nat) (w : World) (hn : l.length = n) (hn2 : n ≤ 1000000000) (hr : Lo.Right l) (hR : Reads w w.heap.size 3 A n (l.flatMap Ln.Sp.cells)) :
  Calls Tryz.prog 66 #[.slice A n c] w fun e w' => e = .returned (.int .i64 0) ∧ Below w.heap.size w w' := by
 have hn0 : 0 < n := by
  rw [← hn];exact List.length_pos_iff.2 hr.ne
 obtain ⟨ad, -, rfl, -, -, -⟩ := Ix.reads_cells (enc := Ln.Sp.cells) (m := 3) (fun _ => rfl) hn hR hn0;have q0 : ((n : Int) == 0) = false := bqf (by omega);have q0' : ¬ (n : Int) = 0 := by omega
 have HN := Lib.hid hn;have HR := Lib.hid hR;have HG := Lib.hid hr;clear hn hR hr;go_enter Tryz.func66, Tryz.ntmps66
 go_wp2;go_loopw [3] (fun i wr => ∃ k : Nat, 1 ≤ k ∧ k ≤ n ∧ i = .int .i64 (k : Int) ∧ Hid (Below w.heap.size w wr)) (fun i _ => n - (intOf i).toNat)
 case atStart => exact ⟨1, Nat.le_refl _, hn0, rfl, Below.refl _ _⟩
 case round =>
  obtain ⟨k, hk0, hk, rfl, HB⟩ := hrel
  by_cases hlt : k < n
  ·obtain ⟨j, hj⟩ : ∃ j, k = j + 1 := ⟨k - 1, by omega⟩
   obtain ⟨ad', x, e0, hab, Hx, HLx⟩ := Ix.reads_cells (enc := Ln.Sp.cells) (m := 3) (fun _ => rfl) HN.out HR.out hlt;obtain rfl := Option.some.inj e0;obtain ⟨ad', y, e0, hab2, Hy, HLy⟩ := Ix.reads_cells (enc := Ln.Sp.cells) (m := 3) (fun _ => rfl) HN.out HR.out (show j < n by omega);obtain rfl := Option.some.inj e0;have hup := HG.out.up j y x Hy.out (by rw [← hj]; exact Hx.out);obtain ⟨x0, x1, x2⟩ := x;obtain ⟨y0, y1, y2⟩ := y;have HX : Hid (∀ W, Below wr.heap.size wr W → W.cell? (ad.add (k * 3)) = some (.int .i64 x0) ∧ W.cell? ⟨(ad.add (k * 3)).block, (ad.add (k * 3)).off + 1, none⟩ = some (.int .i64 x1) ∧ W.cell? ⟨(ad.add (k * 3)).block, (ad.add (k * 3)).off + 2, none⟩ = some (.bool x2)) := fun W hb =>
    have hbw := HB.out.trans (hb.mono HB.out.size)
    ⟨(hbw.cell (p := ad.add (k * 3)) (by rw [block_of_add]; exact hab)).trans (HLx.out 0 _ rfl), (hbw.cell (p := ⟨(ad.add (k * 3)).block, (ad.add (k * 3)).off + 1, none⟩) (by show (ad.add (k * 3)).block < _; rw [block_of_add]; exact hab)).trans (HLx.out 1 _ rfl), (hbw.cell (p := ⟨(ad.add (k * 3)).block, (ad.add (k * 3)).off + 2, none⟩) (by show (ad.add (k * 3)).block < _; rw [block_of_add]; exact hab)).trans (HLx.out 2 _ rfl)⟩
   have HY : Hid (∀ W, Below wr.heap.size wr W → W.cell? (ad.add (j * 3)) = some (.int .i64 y0) ∧ W.cell? ⟨(ad.add (j * 3)).block, (ad.add (j * 3)).off + 1, none⟩ = some (.int .i64 y1) ∧ W.cell? ⟨(ad.add (j * 3)).block, (ad.add (j * 3)).off + 2, none⟩ = some (.bool y2)) := fun W hb =>
    have hbw := HB.out.trans (hb.mono HB.out.size)
    ⟨(hbw.cell (p := ad.add (j * 3)) (by rw [block_of_add]; exact hab2)).trans (HLy.out 0 _ rfl), (hbw.cell (p := ⟨(ad.add (j * 3)).block, (ad.add (j * 3)).off + 1, none⟩) (by show (ad.add (j * 3)).block < _; rw [block_of_add]; exact hab2)).trans (HLy.out 1 _ rfl), (hbw.cell (p := ⟨(ad.add (j * 3)).block, (ad.add (j * 3)).off + 2, none⟩) (by show (ad.add (j * 3)).block < _; rw [block_of_add]; exact hab2)).trans (HLy.out 2 _ rfl)⟩
   have ha : Ln.alike ⟨x0, x1, x2⟩ ⟨y0, y1, y2⟩ = false := by rw [Ln.alike_comm]; exact hup.2
   have HAl := Lib.hid fun W => ha ▸ lookAlike_any ⟨x0, x1, x2⟩ ⟨y0, y1, y2⟩ W
   have HP : Hid (decide (x0 ≤ y0) = false) := by
    have h1 : y0 < x0 := hup.1;show decide (x0 ≤ y0) = false
    rw [decide_eq_false_iff_not];omega
   have HQ : Hid ((0 : Int) ≤ (k : Int) ∧ (k : Int) < (n : Int) ∧ (0 : Int) ≤ (j : Int) ∧ (j : Int) < (n : Int) ∧ IntKind.i64.wrap ((k : Int) - 1) = (j : Int)) := ⟨by omega, by omega, by omega, by omega, by rw [IntKind.wrap_i64]; omega⟩
   have q2 : (k : Int) < (n : Int) := by omega
   clear hab hab2 Hx Hy HLx HLy hup ha hj;go_wp2_with fail
   refine Od.wp_region_inv 37 (by kernel_rfl) (by rfl) (by rfl) (Od.ord_of (by kernel_rfl)) (Od.dst_of (by kernel_rfl)) (Rg.J 24 LkC.sl (LkC.Q ad n c k j x0 x1 x2 y0 y1 y2) wr (Od.slots _)) (Rg.J.start _ _ _ ((Below.refl _ _).drew)) ?stepR ?finR
   case stepR =>
    intro i o hi b' a' wv hJ hb hdep hdf K hK;obtain ⟨tm, df⟩ := a';simp only at hdf;subst hdf;have hiN : i < 24 := (Array.getElem?_eq_some_iff.1 hi).1;have hsplit : i = 0 ∨ i = 1 ∨ i = 2 ∨ i = 3 ∨ i = 4 ∨ i = 5 ∨ i = 6 ∨ i = 7 ∨ i = 8 ∨ i = 9 ∨ i = 10 ∨ i = 11 ∨ i = 12 ∨ i = 13 ∨ i = 14 ∨ i = 15 ∨ i = 16 ∨ i = 17 ∨ i = 18 ∨ i = 19 ∨ i = 20 ∨ i = 21 ∨ i = 22 ∨ i = 23 := by omega
    rcases hsplit with rfl | rfl | rfl | rfl | rfl | rfl | rfl | rfl | rfl | rfl | rfl | rfl | rfl | rfl | rfl | rfl | rfl | rfl | rfl | rfl | rfl | rfl | rfl | rfl
    all_goals obtain rfl := sji (show some _ = some o from hi)
    all_goals first | rw [if_pos (show Region.wanted _ _ = true from rfl)] | (have hg : tm.getD 25 undef = .bool false := by (refine hJ.val 12 (by decide) (hdep ⟨12, .guard⟩ ?_ rfl); simp <;> fail)) | skip
    all_goals try rw [if_pos (Rg.want rfl rfl hg)]
    all_goals (have h0 : tm.getD 0 undef = .slice (some ad) n c := (hJ.old 0 (LkC.sl_no 0 (by decide))).trans rfl;have h0' := gdq h0)
    all_goals (have h3 : tm.getD 3 undef = .int .i64 (k : Int) := (hJ.old 3 (LkC.sl_no 3 (by decide))).trans rfl;have h3' := gdq h3)
    all_goals try have v0 : tm.getD 13 undef = .slice (some ad) n c := by (refine hJ.val 0 (by decide) (hdep ⟨0, .data⟩ ?_ rfl); simp <;> fail)
    all_goals try have v0' := gdq v0
    all_goals try have v1 : tm.getD 14 undef = .int .i64 (k : Int) := by (refine hJ.val 1 (by decide) (hdep ⟨1, .data⟩ ?_ rfl); simp <;> fail)
    all_goals try have v1' := gdq v1
    all_goals have q1 := HQ.out.1
    all_goals have q2 := HQ.out.2.1
    all_goals try have v2 : tm.getD 15 undef = .pointer (some (ad.add (k * 3))) := by (refine hJ.val 2 (by decide) (hdep ⟨2, .data⟩ ?_ rfl); simp <;> fail)
    all_goals try have v2' := gdq v2
    all_goals try have v6 : tm.getD 19 undef = .int .i64 (k : Int) := by (refine hJ.val 6 (by decide) (hdep ⟨6, .data⟩ ?_ rfl); simp <;> fail)
    all_goals try have v6' := gdq v6
    all_goals have wj := HQ.out.2.2.2.2
    all_goals try have v5 : tm.getD 18 undef = .slice (some ad) n c := by (refine hJ.val 5 (by decide) (hdep ⟨5, .data⟩ ?_ rfl); simp <;> fail)
    all_goals try have v5' := gdq v5
    all_goals try have v7 : tm.getD 20 undef = .int .i64 (j : Int) := by (refine hJ.val 7 (by decide) (hdep ⟨7, .data⟩ ?_ rfl); simp <;> fail)
    all_goals try have v7' := gdq v7
    all_goals have q3 := HQ.out.2.2.1
    all_goals have q4 := HQ.out.2.2.2.1
    all_goals try have v8 : tm.getD 21 undef = .pointer (some (ad.add (j * 3))) := by (refine hJ.val 8 (by decide) (hdep ⟨8, .data⟩ ?_ rfl); simp <;> fail)
    all_goals try have v8' := gdq v8
    all_goals try have v4 : tm.getD 17 undef = .int .i64 x0 := by (refine hJ.val 4 (by decide) (hdep ⟨4, .data⟩ ?_ rfl); simp <;> fail)
    all_goals try have v4' := gdq v4
    all_goals try have v10 : tm.getD 23 undef = .int .i64 y0 := by (refine hJ.val 10 (by decide) (hdep ⟨10, .data⟩ ?_ rfl); simp <;> fail)
    all_goals try have v10' := gdq v10
    all_goals have p1 := HP.out
    all_goals try have v11 : tm.getD 24 undef = .bool false := by (refine hJ.val 11 (by decide) (hdep ⟨11, .data⟩ ?_ rfl); simp <;> fail)
    all_goals try have v11' := gdq v11
    all_goals try have v13 : tm.getD 26 undef = .slice (some ad) n c := by (refine hJ.val 13 (by decide) (hdep ⟨13, .data⟩ ?_ rfl); simp <;> fail)
    all_goals try have v13' := gdq v13
    all_goals try have v14 : tm.getD 27 undef = .int .i64 (k : Int) := by (refine hJ.val 14 (by decide) (hdep ⟨14, .data⟩ ?_ rfl); simp <;> fail)
    all_goals try have v14' := gdq v14
    all_goals try have v18 : tm.getD 31 undef = .int .i64 (k : Int) := by (refine hJ.val 18 (by decide) (hdep ⟨18, .data⟩ ?_ rfl); simp <;> fail)
    all_goals try have v18' := gdq v18
    all_goals try have v17 : tm.getD 30 undef = .slice (some ad) n c := by (refine hJ.val 17 (by decide) (hdep ⟨17, .data⟩ ?_ rfl); simp <;> fail)
    all_goals try have v17' := gdq v17
    all_goals try have v19 : tm.getD 32 undef = .int .i64 (j : Int) := by (refine hJ.val 19 (by decide) (hdep ⟨19, .data⟩ ?_ rfl); simp <;> fail)
    all_goals try have v19' := gdq v19
    all_goals try have v12 : tm.getD 25 undef = .bool false := by (refine hJ.val 12 (by decide) (hdep ⟨12, .data⟩ ?_ rfl); simp <;> fail)
    all_goals try have v12' := gdq v12
    all_goals try have v22 : tm.getD 35 undef = .bool false := by (refine hJ.val 22 (by decide) (hdep ⟨22, .data⟩ ?_ rfl); simp <;> fail)
    all_goals try have v22' := gdq v22
    all_goals first | (go_simp;exact hK _ _ (hJ.put LkC.Q_mono LkC.sl_inj (by decide) rfl)) | skip
    ·have v3 : tm.getD 16 undef = .pointer (some (ad.add (k * 3))) := hJ.val 3 (by decide) (hdep ⟨3, .data⟩ (by simp) rfl);have v3' := gdq v3;obtain ⟨c0, c1, c2⟩ := HX.out wv hJ.below;go_simp;exact hK _ _ (hJ.put LkC.Q_mono LkC.sl_inj (by decide) rfl)
    ·have v9 : tm.getD 22 undef = .pointer (some (ad.add (j * 3))) := hJ.val 9 (by decide) (hdep ⟨9, .data⟩ (by simp) rfl);have v9' := gdq v9;obtain ⟨d0, d1, d2⟩ := HY.out wv hJ.below;go_simp;exact hK _ _ (hJ.put LkC.Q_mono LkC.sl_inj (by decide) rfl)
    ·have v15 : tm.getD 28 undef = .pointer (some (ad.add (k * 3))) := hJ.val 15 (by decide) (hdep ⟨15, .data⟩ (by simp) rfl);have v15' := gdq v15;obtain ⟨c0, c1, c2⟩ := HX.out wv hJ.below;go_simp;exact hK _ _ (hJ.put LkC.Q_mono LkC.sl_inj (by decide) rfl)
    ·have v20 : tm.getD 33 undef = .pointer (some (ad.add (j * 3))) := hJ.val 20 (by decide) (hdep ⟨20, .data⟩ (by simp) rfl);have v20' := gdq v20;obtain ⟨d0, d1, d2⟩ := HY.out wv hJ.below;go_simp;exact hK _ _ (hJ.put LkC.Q_mono LkC.sl_inj (by decide) rfl)
    ·have v16 : tm.getD 29 undef = .agg #[.int .i64 x0, .int .i64 x1, .bool x2] := hJ.val 16 (by decide) (hdep ⟨16, .data⟩ (by simp) rfl);have v16' := gdq v16;have v21 : tm.getD 34 undef = .agg #[.int .i64 y0, .int .i64 y1, .bool y2] := hJ.val 21 (by decide) (hdep ⟨21, .data⟩ (by simp) rfl);have v21' := gdq v21;go_simp;refine (HAl.out wv).mono ?_;rintro e w' ⟨rfl, hbm⟩;exact hK _ _ (hJ.step LkC.Q_mono LkC.sl_inj (by decide) hbm rfl)
   case finR =>
    intro a' W5 hJ hN hdf;have s0 : a'.tmps.getD 0 undef = .slice (some ad) n c := (hJ.old 0 (LkC.sl_no 0 (by decide))).trans rfl;have s1 : a'.tmps.getD 1 undef = undef := (hJ.old 1 (LkC.sl_no 1 (by decide))).trans rfl;have s2 : a'.tmps.getD 2 undef = u2 := (hJ.old 2 (LkC.sl_no 2 (by decide))).trans rfl;have s3 : a'.tmps.getD 3 undef = .int .i64 (k : Int) := (hJ.old 3 (LkC.sl_no 3 (by decide))).trans rfl;have s4 : a'.tmps.getD 4 undef = .slice (some ad) n c := (hJ.old 4 (LkC.sl_no 4 (by decide))).trans rfl;have s5 : a'.tmps.getD 5 undef = .int .i64 (n : Int) := (hJ.old 5 (LkC.sl_no 5 (by decide))).trans rfl;have s6 : a'.tmps.getD 6 undef = .bool false := (hJ.old 6 (LkC.sl_no 6 (by decide))).trans rfl;have s36 : a'.tmps.getD 36 undef = .bool false := hJ.val 23 (by decide) (by rfl);have hb9 := hJ.below;have ef : a' = { tmps := ((List.range 37).map fun i => a'.tmps.getD i undef).toArray, defers := [] } := Rg.frame_of 37 a' hN hdf;obtain ⟨u, hu⟩ : ∃ u : Nat → Value, (fun i => a'.tmps.getD i undef) = u := ⟨_, rfl⟩
    rw [hu] at ef;have e0 : u 0 = .slice (some ad) n c := by rw [← hu]; exact s0
    have e1 : u 1 = undef := by rw [← hu]; exact s1
    have e2 : u 2 = u2 := by rw [← hu]; exact s2
    have e3 : u 3 = .int .i64 (k : Int) := by rw [← hu]; exact s3
    have e4 : u 4 = .slice (some ad) n c := by rw [← hu]; exact s4
    have e5 : u 5 = .int .i64 (n : Int) := by rw [← hu]; exact s5
    have e6 : u 6 = .bool false := by rw [← hu]; exact s6
    have e36 : u 36 = .bool false := by rw [← hu]; exact s36
    have ef2 : a' = { tmps := (u 0 :: u 1 :: u 2 :: u 3 :: u 4 :: u 5 :: u 6 :: u 7 :: u 8 :: u 9 :: u 10 :: u 11 :: u 12 :: u 13 :: u 14 :: u 15 :: u 16 :: u 17 :: u 18 :: u 19 :: u 20 :: u 21 :: u 22 :: u 23 :: u 24 :: u 25 :: u 26 :: u 27 :: u 28 :: u 29 :: u 30 :: u 31 :: u 32 :: u 33 :: u 34 :: u 35 :: u 36 :: [] : List Value).toArray, defers := [] } := ef;rw [e0, e1, e2, e3, e4, e5, e6, e36] at ef2;rw [ef2];clear hJ hN hdf ef ef2 hu e0 s0 e1 s1 e2 s2 e3 s3 e4 s4 e5 s5 e6 s6 e36 s36;have HB5 := Lib.hid (HB.out.trans (hb9.mono HB.out.size));clear hb9;go_wp2;go_roundw
    case rel => exact ⟨k + 1, by omega, by omega, by go_num, HB5.out⟩
    case measure => simp [intOf]; omega
  ·have q2 : ¬ (k : Int) < (n : Int) := by omega
   go_wp2;go_ret
   exact ⟨rfl, HB.out⟩
namespace Lo
end Lo
end Go.Proofs.YtjobhjemnmleaaaGreatDoor
