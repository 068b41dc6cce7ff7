/- The contract of rule.Parse. -/
import Derived.Test.YtlhoggalhjadgaaDoorK17
import Derived.WalkLawsBesides
import Derived.StillTail
import Derived.Lib.QuietBelow
import Derived.WalkKit
namespace Go.Proofs.YtlhoggalhjadgaaDoor
open Go.RowKit

theorem At.eleven {w : World} {g : Nat} {r : Ru.R} (h : At w g r.cells) :
    (w.cell? ⟨g, 0, none⟩ = some (.string r.nm) ∧ w.cell? ⟨g, 1, none⟩ = some (.int .i64 r.fr) ∧ w.cell? ⟨g, 2, none⟩ = some (.int .i64 r.tt) ∧ w.cell? ⟨g, 3, none⟩ = some (.int .i64 r.mo) ∧ w.cell? ⟨g, 4, none⟩ = some (.int .u8 r.k) ∧ w.cell? ⟨g, 5, none⟩ = some (.int .i64 r.n) ∧ w.cell? ⟨g, 6, none⟩ = some (.int .i64 r.d) ∧ w.cell? ⟨g, 7, none⟩ = some (.int .i64 r.s) ∧ w.cell? ⟨g, 8, none⟩ = some (.int .u8 r.c) ∧ w.cell? ⟨g, 9, none⟩ = some (.int .i64 r.sv) ∧ w.cell? ⟨g, 10, none⟩ = some (.string r.lt)) ∧ (w.frozen? ⟨g, 0, none⟩ = false ∧ w.frozen? ⟨g, 1, none⟩ = false ∧ w.frozen? ⟨g, 2, none⟩ = false ∧ w.frozen? ⟨g, 3, none⟩ = false ∧ w.frozen? ⟨g, 4, none⟩ = false ∧ w.frozen? ⟨g, 5, none⟩ = false ∧ w.frozen? ⟨g, 6, none⟩ = false ∧ w.frozen? ⟨g, 7, none⟩ = false ∧ w.frozen? ⟨g, 8, none⟩ = false ∧ w.frozen? ⟨g, 9, none⟩ = false ∧ w.frozen? ⟨g, 10, none⟩ = false) :=
  ⟨⟨h.cell 0 _ rfl, h.cell 1 _ rfl, h.cell 2 _ rfl, h.cell 3 _ rfl, h.cell 4 _ rfl, h.cell 5 _ rfl, h.cell 6 _ rfl, h.cell 7 _ rfl, h.cell 8 _ rfl, h.cell 9 _ rfl, h.cell 10 _ rfl⟩, ⟨h.free 0 _ rfl, h.free 1 _ rfl, h.free 2 _ rfl, h.free 3 _ rfl, h.free 4 _ rfl, h.free 5 _ rfl, h.free 6 _ rfl, h.free 7 _ rfl, h.free 8 _ rfl, h.free 9 _ rfl, h.free 10 _ rfl⟩⟩
namespace Ru
def run : List ByteArray → Nat → R → R × Int × Int
  | [], _, r => (r, 0, 0)
  | t :: l, k, r => if (rstep k r t).2 = 0 then run l (k + 1) (rstep k r t).1 else (R.zero, k, (rstep k r t).2)
def parse (l : List ByteArray) : R × Int × Int :=
  if (run (l.take 9) 0 R.zero).2.2 = 0 then (if l.length < 9 then (R.zero, l.length, 5) else if 9 < l.length then (R.zero, 9, 6) else ((run (l.take 9) 0 R.zero).1, 0, 0)) else run (l.take 9) 0 R.zero
theorem run_bad (l : List ByteArray) (k : Nat) (r : R) (t : ByteArray) (P : R × Int × Int) (h : P = run (l.drop k) k r) (ht : l[k]? = some t) (he : (rstep k r t).2 ≠ 0) : P = (R.zero, (k : Int), (rstep k r t).2) := by
  rw [h, drop_of ht, run, if_neg he]
theorem run_next (l : List ByteArray) (k : Nat) (r : R) (t : ByteArray) (P : R × Int × Int) (h : P = run (l.drop k) k r) (ht : l[k]? = some t) (he : (rstep k r t).2 = 0) : P = run (l.drop (k + 1)) (k + 1) (rstep k r t).1 := by
  rw [h, drop_of ht, run, if_pos he]
theorem run_end (l : List ByteArray) (k : Nat) (r : R) (P : R × Int × Int) (h : P = run (l.drop k) k r) (hk : l.length = k) : P = (r, 0, 0) := by
  rw [h, List.drop_eq_nil_of_le (by omega)]; rfl
def PRel (w : World) (m : Nat) (L : List ByteArray) (P : R × Int × Int) (i : Value) (wr : World) : Prop :=
  ∃ (k : Nat) (r : R), k ≤ m ∧ i = .int .i64 k ∧ Hid (At wr (w.heap.size + 1) r.cells) ∧ Hid (At wr w.heap.size R.zero.cells) ∧ Hid (Below w.heap.size w wr) ∧ Hid (P = run (L.drop k) k r)
end Ru
set_option maxHeartbeats 4000000 in
set_option maxRecDepth 100000 in
theorem ruParse_any (A : Option Addr) (n c : Nat) (ss : List ByteArray) (w : World) (hW : Wp w) (hn : n ≤ c) (hc : c ≤ maxLen) (hr : Reads w w.heap.size 1 A n (ss.map Value.string)) (hs : ∀ t ∈ ss, t.size ≤ 1000000) :
    Calls Tryd.prog 7 #[.slice A n c] w fun e w' => e = .returned (.tuple #[(Ru.parse ss).1.v, .int .i64 (Ru.parse ss).2.1, .int .i64 (Ru.parse ss).2.2]) ∧ Below w.heap.size w w' := by
  unfold maxLen at hc
  have hlen : ss.length = n := by have := hr.1; simpa using this
  obtain ⟨P, hP⟩ : ∃ P, Ru.run (ss.take 9) 0 Ru.R.zero = P := ⟨_, rfl⟩
  have hX : Ru.parse ss = if P.2.2 = 0 then (if n < 9 then (Ru.R.zero, (n : Int), 5) else if 9 < n then (Ru.R.zero, 9, 6) else (P.1, 0, 0)) else P := by unfold Ru.parse; rw [hP, hlen]
  obtain ⟨m, hm⟩ : ∃ m, min n 9 = m := ⟨_, rfl⟩
  have hLm : (ss.take 9).length = m := by rw [List.length_take, hlen]; omega
  have hget : ∀ k x, k < m → (ss[k]? = some x ↔ (ss.take 9)[k]? = some x) := by
    intro k x hk
    rw [List.getElem?_take, if_pos (by omega)]
  have HX := Lib.hid hX
  have HP := Lib.hid hP.symm
  have HR := Lib.hid hr
  have HS := Lib.hid hs
  have HW := Lib.hid hW
  have HLm := Lib.hid hLm
  have HGet := Lib.hid hget
  have hA0 : At ((w.alloc (.cells (Ru.R.zero.cells.toArray) 29)).alloc (.cells (Ru.R.zero.cells.toArray) 29)) w.heap.size Ru.R.zero.cells := (At.new w _ _).alloc _ _
  have hA1 : At ((w.alloc (.cells (Ru.R.zero.cells.toArray) 29)).alloc (.cells (Ru.R.zero.cells.toArray) 29)) (w.heap.size + 1) Ru.R.zero.cells := by
    have := At.new (w.alloc (.cells (Ru.R.zero.cells.toArray) 29)) (Ru.R.zero.cells.toArray) 29
    simpa using this
  have hBB : Below w.heap.size w ((w.alloc (.cells (Ru.R.zero.cells.toArray) 29)).alloc (.cells (Ru.R.zero.cells.toArray) 29)) := ((Below.refl _ _).alloc (Nat.le_refl _) _).alloc (by simp) _
  have HA0 := Lib.hid hA0
  have HA1 := Lib.hid hA1
  have HBB := Lib.hid hBB
  have hmn : m ≤ n ∧ m ≤ 9 ∧ (m = n ∨ m = 9) := by omega
  have hmin : min (n : Int) 9 = (m : Int) := by omega
  have m1 : (0 : Int) ≤ (m : Int) := by omega
  have m2 : (m : Int) ≤ (c : Int) := by omega
  obtain ⟨mn1, mn2, mn3⟩ := hmn
  have HMax : Hid (max (min (n : Int) 9) 0 = (m : Int)) := by show _ = _; omega
  have HMinN : Hid ((min (n : Int) 9).toNat = m) := by show _ = _; omega
  clear hP hX hm hLm hget hr hs hW hlen hA0 hA1 hBB hmin
  go_enter Tryd.func7, Tryd.ntmps7
  go_wp2
  rw [HMax.out, HMinN.out]
  go_loopw [15] (Ru.PRel w m (ss.take 9) P) (fun i _ => m - (intOf i).toNat)
  case atStart => exact ⟨0, Ru.R.zero, by omega, rfl, HA1.out, HA0.out, HBB.out, HP.out⟩
  case round =>
    obtain ⟨k, r, hk, rfl, HU, HZ, HB, HK⟩ := hrel
    have huz := HU.out.lt
    by_cases hlt : k < m
    · obtain ⟨ad, x, rfl, hnm, hcell⟩ : ∃ ad nm, A = some ad ∧ Hid (ss[k]? = some nm) ∧ wr.cell? (ad.add k) = some (.string nm) := reads_str (HR.out.below HB.out) (show k < n by omega)
      have q2 : (0 : Int) ≤ (k : Int) := by omega
      have q3 : (k : Int) < (m : Int) := by omega
      have hsz : x.size ≤ 1000000 := HS.out x (List.mem_iff_getElem?.2 ⟨k, hnm.out⟩)
      have hnm9 := (HGet.out k x hlt).1 hnm.out
      have HRd := Lib.hid (read_any k (by omega) r x (w.heap.size + 1) wr hsz HU.out (HW.out.below HB.out))
      have hbad := Ru.run_bad (ss.take 9) k r x P HK.out hnm9
      have hnext := Ru.run_next (ss.take 9) k r x P HK.out hnm9
      obtain ⟨r2, why, hst⟩ : ∃ r2 why, Ru.rstep k r x = (r2, why) := ⟨_, _, rfl⟩
      rw [hst] at HRd hbad hnext
      by_cases hy : why = 0
      · have HN := Lib.hid (hnext hy)
        subst hy
        clear hbad hnext hst hnm9 hsz
        go_wp2_with fail
        refine HRd.out.mono ?_
        rintro e w1 ⟨rfl, hA2, hg2⟩
        have HU2 := Lib.hid hA2
        have HZ2 := Lib.hid (HZ.out.grown hg2 (by omega))
        have HB2 := Lib.hid (HB.out.grown hg2 HB.out.size (fun j hj => by injection hj with hj; omega))
        clear hA2 hg2
        go_wp2
        go_roundw
        case rel => exact ⟨k + 1, r2, by omega, by go_num, HU2, HZ2, HB2, HN⟩
        case measure => simp [intOf]; omega
      · have HXb : Hid (Ru.parse ss = (Ru.R.zero, (k : Int), why)) := by
          show _ = _
          rw [HX.out, hbad hy, if_neg hy]
        have q4 : (why != 0) = true := by simpa using hy
        have q5 : (why == 0) = false := by simpa using hy
        clear hbad hnext hst hnm9 hsz hy
        go_wp2_with fail
        refine HRd.out.mono ?_
        rintro e w1 ⟨rfl, hA2, hg2⟩
        have HZ2 := Lib.hid (HZ.out.grown hg2 (by omega))
        have HB2 := Lib.hid (HB.out.grown hg2 HB.out.size (fun j hj => by injection hj with hj; omega))
        have z1 := HZ2.out.lt
        clear hA2 hg2
        obtain ⟨⟨d0, d1, d2, d3, d4, d5, d6, d7, d8, d9, d10⟩, ⟨e0, e1, e2, e3, e4, e5, e6, e7, e8, e9, e10⟩⟩ := HZ2.out.eleven
        go_wp2
        refine bodyPost_ret (v := .tuple #[Ru.R.zero.v, .int .i64 k, .int .i64 why]) (by simp [results, Tryd.results7, go_sem, Ru.R.v, Ru.R.zero, *]) rfl ⟨?_, ?_⟩
        · rw [HXb.out]
        · exact (((((((((((HB2.out).setCell (p := ⟨w.heap.size, _, none⟩) (Nat.le_refl _) _).setCell (p := ⟨w.heap.size, _, none⟩) (Nat.le_refl _) _).setCell (p := ⟨w.heap.size, _, none⟩) (Nat.le_refl _) _).setCell (p := ⟨w.heap.size, _, none⟩) (Nat.le_refl _) _).setCell (p := ⟨w.heap.size, _, none⟩) (Nat.le_refl _) _).setCell (p := ⟨w.heap.size, _, none⟩) (Nat.le_refl _) _).setCell (p := ⟨w.heap.size, _, none⟩) (Nat.le_refl _) _).setCell (p := ⟨w.heap.size, _, none⟩) (Nat.le_refl _) _).setCell (p := ⟨w.heap.size, _, none⟩) (Nat.le_refl _) _).setCell (p := ⟨w.heap.size, _, none⟩) (Nat.le_refl _) _).setCell (p := ⟨w.heap.size, _, none⟩) (Nat.le_refl _) _
    · obtain rfl : k = m := by omega
      have hE := Ru.run_end (ss.take 9) k r P HK.out HLm.out
      have HZ2 := HZ
      have HB2 := HB
      have z1 := HZ2.out.lt
      have q3 : ¬ (k : Int) < (k : Int) := by omega
      by_cases h9 : n < 9
      · have HXb : Hid (Ru.parse ss = (Ru.R.zero, (n : Int), 5)) := by
          show _ = _
          rw [HX.out, hE, if_pos rfl, if_pos h9]
        have q6 : (n : Int) < 9 := by omega
        clear hE
        obtain ⟨⟨d0, d1, d2, d3, d4, d5, d6, d7, d8, d9, d10⟩, ⟨e0, e1, e2, e3, e4, e5, e6, e7, e8, e9, e10⟩⟩ := HZ2.out.eleven
        go_wp2
        refine bodyPost_ret (v := .tuple #[Ru.R.zero.v, .int .i64 n, .int .i64 5]) (by simp [results, Tryd.results7, go_sem, Ru.R.v, Ru.R.zero, *]) rfl ⟨?_, ?_⟩
        · rw [HXb.out]
        · exact (((((((((((HB2.out).setCell (p := ⟨w.heap.size, _, none⟩) (Nat.le_refl _) _).setCell (p := ⟨w.heap.size, _, none⟩) (Nat.le_refl _) _).setCell (p := ⟨w.heap.size, _, none⟩) (Nat.le_refl _) _).setCell (p := ⟨w.heap.size, _, none⟩) (Nat.le_refl _) _).setCell (p := ⟨w.heap.size, _, none⟩) (Nat.le_refl _) _).setCell (p := ⟨w.heap.size, _, none⟩) (Nat.le_refl _) _).setCell (p := ⟨w.heap.size, _, none⟩) (Nat.le_refl _) _).setCell (p := ⟨w.heap.size, _, none⟩) (Nat.le_refl _) _).setCell (p := ⟨w.heap.size, _, none⟩) (Nat.le_refl _) _).setCell (p := ⟨w.heap.size, _, none⟩) (Nat.le_refl _) _).setCell (p := ⟨w.heap.size, _, none⟩) (Nat.le_refl _) _
      · have q6 : ¬ (n : Int) < 9 := by omega
        by_cases h10 : 9 < n
        · have HXb : Hid (Ru.parse ss = (Ru.R.zero, 9, 6)) := by
            show _ = _
            rw [HX.out, hE, if_pos rfl, if_neg h9, if_pos h10]
          have q7 : (9 : Int) < (n : Int) := by omega
          clear hE
          obtain ⟨⟨d0, d1, d2, d3, d4, d5, d6, d7, d8, d9, d10⟩, ⟨e0, e1, e2, e3, e4, e5, e6, e7, e8, e9, e10⟩⟩ := HZ2.out.eleven
          go_wp2
          refine bodyPost_ret (v := .tuple #[Ru.R.zero.v, .int .i64 9, .int .i64 6]) (by simp [results, Tryd.results7, go_sem, Ru.R.v, Ru.R.zero, *]) rfl ⟨?_, ?_⟩
          · rw [HXb.out]
          · exact (((((((((((HB2.out).setCell (p := ⟨w.heap.size, _, none⟩) (Nat.le_refl _) _).setCell (p := ⟨w.heap.size, _, none⟩) (Nat.le_refl _) _).setCell (p := ⟨w.heap.size, _, none⟩) (Nat.le_refl _) _).setCell (p := ⟨w.heap.size, _, none⟩) (Nat.le_refl _) _).setCell (p := ⟨w.heap.size, _, none⟩) (Nat.le_refl _) _).setCell (p := ⟨w.heap.size, _, none⟩) (Nat.le_refl _) _).setCell (p := ⟨w.heap.size, _, none⟩) (Nat.le_refl _) _).setCell (p := ⟨w.heap.size, _, none⟩) (Nat.le_refl _) _).setCell (p := ⟨w.heap.size, _, none⟩) (Nat.le_refl _) _).setCell (p := ⟨w.heap.size, _, none⟩) (Nat.le_refl _) _).setCell (p := ⟨w.heap.size, _, none⟩) (Nat.le_refl _) _
        · have HXb : Hid (Ru.parse ss = (r, 0, 0)) := by
            show _ = _
            rw [HX.out, hE, if_pos rfl, if_neg h9, if_neg h10]
          have q7 : ¬ (9 : Int) < (n : Int) := by omega
          clear hE
          obtain ⟨nm, fr, tt, mo, kk, nn, dd, s, cc, sv, lt⟩ := r
          obtain ⟨⟨c0, c1, c2, c3, c4, c5, c6, c7, c8, c9, c10⟩, ⟨f0, f1, f2, f3, f4, f5, f6, f7, f8, f9, f10⟩⟩ := HU.out.eleven
          obtain ⟨⟨d0, d1, d2, d3, d4, d5, d6, d7, d8, d9, d10⟩, ⟨e0, e1, e2, e3, e4, e5, e6, e7, e8, e9, e10⟩⟩ := HZ2.out.eleven
          go_wp2
          refine bodyPost_ret (v := .tuple #[(Ru.R.mk nm fr tt mo kk nn dd s cc sv lt).v, .int .i64 0, .int .i64 0]) (by simp [results, Tryd.results7, go_sem, Ru.R.v, *]) rfl ⟨?_, ?_⟩
          · rw [HXb.out]
          · exact (((((((((((HB2.out).setCell (p := ⟨w.heap.size, _, none⟩) (Nat.le_refl _) _).setCell (p := ⟨w.heap.size, _, none⟩) (Nat.le_refl _) _).setCell (p := ⟨w.heap.size, _, none⟩) (Nat.le_refl _) _).setCell (p := ⟨w.heap.size, _, none⟩) (Nat.le_refl _) _).setCell (p := ⟨w.heap.size, _, none⟩) (Nat.le_refl _) _).setCell (p := ⟨w.heap.size, _, none⟩) (Nat.le_refl _) _).setCell (p := ⟨w.heap.size, _, none⟩) (Nat.le_refl _) _).setCell (p := ⟨w.heap.size, _, none⟩) (Nat.le_refl _) _).setCell (p := ⟨w.heap.size, _, none⟩) (Nat.le_refl _) _).setCell (p := ⟨w.heap.size, _, none⟩) (Nat.le_refl _) _).setCell (p := ⟨w.heap.size, _, none⟩) (Nat.le_refl _) _
end Go.Proofs.YtlhoggalhjadgaaDoor
/- A region that draws its order: calls that only make memory, and at its end operations in one order (a slice that is built of their results, or a store). One walk, in the order of the text. -/
namespace Go.Proofs.YtlhoggalhjadgaaDoor
open Go.RowKit Go.Sort

section
variable {P : Program} {ops : Array Oper} {md : Region.Mode} {C : World → Prop}

/-- The first n operations in whatever order, each quiet in the class; behind them L. -/
def headAll (P : Program) (md : Region.Mode) (ops : Array Oper) (C : World → Prop) (n : Nat) (L : Array Bool → Act → Prop) : Nat → Array Bool → Act → Prop
  | 0, s, a => L s a
  | f + 1, s, a => Region.ready md ops s ≠ [] ∧ ∀ i ∈ Region.ready md ops s, i < n ∧ qOp P ops C i (headAll P md ops C n L f (s.setIfInBounds i true)) a

theorem any_of_head {n g : Nat} {L : Array Bool → Act → Prop} {Q : Exit → Act → World → Prop} (hL : ∀ s a w, C w → L s a → wpAny P md ops Q g s a w) :
    ∀ (f : Nat) (s : Array Bool) (a : Act) (w : World), C w → headAll P md ops C n L f s a → wpAny P md ops Q (f + g) s a w
  | 0, s, a, w, hw, h => by rw [Nat.zero_add]; exact hL _ _ _ hw h
  | f + 1, s, a, w, hw, h => by
    rw [show f + 1 + g = (f + g) + 1 by omega]
    exact ⟨fun h0 => absurd h0 h.1, fun i hi => wpOp_of_qOp hw (fun a' w' hw' h' => any_of_head hL f _ a' w' hw' h') (h.2 i hi).2⟩

theorem head_first {n i : Nat} {oi : Oper} {v : Value} {L : Array Bool → Act → Prop} (hi : ops[i]? = some oi) (hsel : ∀ (j : Nat) (o : Oper) cs b, ops[j]? = some o → o.op ≠ .select cs b)
    (hs : Region.sinkB md ops n = true) (hc : Region.chainB md ops n = true) (hn : n < ops.size) (hin : i < n) (hdone : ∀ s a, L s a → ∀ j ∈ Region.ready md ops s, n ≤ j) :
    ∀ (f : Nat) (s : Array Bool) (a : Act), HeadInv md ops n s →
      (∀ j oj, ops[j]? = some oj → j ≠ i → s.getD j true = false → (∀ e ∈ oj.after, Region.binds md e = true → e.on ≠ i) → oi.apart ops oj = true) →
      i ∈ Region.ready md ops s → YieldsIn P ops C oi v a →
      headAll P md ops C n L f (s.setIfInBounds i true) (a.put oi.dst v) → headAll P md ops C n L (f + 1) s a := by
  intro f
  induction f with
  | zero =>
    intro s a inv _ hr hy H
    have hun := (mem_ready.1 hr).1
    refine ⟨fun h => (by rw [h] at hr; cases hr), fun j hj => ?_⟩
    have hjn : j < n := by
      rcases Nat.lt_or_ge j n with h | h
      · exact h
      · exact absurd hj (tail_waits hs hc hn inv _ i rfl hin hun j h)
    refine ⟨hjn, ?_⟩
    by_cases hji : j = i
    · subst hji; exact hy.qOp hi H
    · have := hdone _ _ H j (ready_mono hj hji)
      omega
  | succ f ih =>
    intro s a inv hfree hr hy H
    have hun := (mem_ready.1 hr).1
    refine ⟨fun h => (by rw [h] at hr; cases hr), fun j hj => ?_⟩
    have hjn : j < n := by
      rcases Nat.lt_or_ge j n with h | h
      · exact h
      · exact absurd hj (tail_waits hs hc hn inv _ i rfl hin hun j h)
    refine ⟨hjn, ?_⟩
    by_cases hji : j = i
    · subst hji; exact hy.qOp hi H
    · have h1 := (H.2 j (ready_mono hj hji)).2
      obtain ⟨hjun, oj, hoj, hall⟩ := mem_ready.1 hj
      have hnot : ∀ e ∈ oj.after, Region.binds md e = true → e.on ≠ i := fun e he hb heq => by
        have h1 := hall e he hb
        rw [heq, getD_both hun] at h1
        cases h1
      have h2 := qOp_put hoj (hfree j oj hoj hji hjun hnot) (fun cs b => hsel i oi cs b hi) (fun cs b => hsel j oj cs b hoj) hy h1
      have hfree' : ∀ k ok, ops[k]? = some ok → k ≠ i → (s.setIfInBounds j true).getD k true = false →
          (∀ e ∈ ok.after, Region.binds md e = true → e.on ≠ i) → oi.apart ops ok = true := fun k ok hk hki hu hno => by
        refine hfree k ok hk hki ?_ hno
        by_cases hjk : j = k
        · subst hjk; exact hjun
        · rw [getD_set_ne true hjk] at hu; exact hu
      refine qOp_mono (fun a' h3 => ih (s.setIfInBounds j true) a' (inv.set hj hjn) hfree' (ready_mono hr (Ne.symm hji)) h3.1 ?_) h2
      rw [Array.setIfInBounds_comm _ _ hji]
      exact h3.2

theorem head_lex {n g : Nat} {Lq : Act → Prop} (hsel : Region.noSelect ops = true) (hs : Region.sinkB md ops n = true) (hc : Region.chainB md ops n = true) (hn : n < ops.size) :
    ∀ (l : List Oper) (k : Nat) (s : Array Bool) (a : Act), (∀ j, j < l.length → l[j]? = ops[k + j]?) → k + l.length = n → HeadInv md ops n s →
    Region.lexHead md ops g l.length k s = true → wpQuiet P ops C Lq l a →
    headAll P md ops C n (fun s' a' => Region.seqB md ops g n s' = true ∧ Lq a') l.length s a
  | [], k, s, a, _, hk, _, hB, h => by
    have : k = n := by simpa using hk
    subst this
    exact ⟨by simpa [Region.lexHead] using hB, h⟩
  | o :: l, k, s, a, hl, hk, inv, hB, h => by
    have h0 : ops[k]? = some o := by simpa using (hl 0 (by simp)).symm
    simp only [List.length_cons, Region.lexHead, Bool.and_eq_true] at hB
    obtain ⟨⟨hr, hf⟩, hB'⟩ := hB
    have hkn : k < n := by simp only [List.length_cons] at hk; omega
    have hr' : k ∈ Region.ready md ops s := by simpa using hr
    have hst : qOp P ops C k (wpQuiet P ops C Lq l) a := by unfold qOp; simp only [h0]; exact h
    obtain ⟨v, hy, hK⟩ := yieldsIn_of_qOp h0 hst
    exact head_first h0 (Region.noSelect_spec hsel) hs hc hn hkn (fun s' a' hL => seqB_ready hL.1) l.length s a inv (Region.free_spec h0 hf) hr' hy
      (head_lex hsel hs hc hn l (k + 1) _ _ (fun j hj => by have := hl (j + 1) (by simp; omega); simpa [Nat.add_assoc, Nat.add_comm 1 j] using this) (by simp only [List.length_cons] at hk; omega) (inv.set hr' hkn) hB' hK)

/-- The region, n operations of it quiet in the class, the others in their order behind them. -/
theorem wp_region_quiet_tail {id : Nat} {Q : Exit → Act → World → Prop} {a : Act} {w : World} {l : List Oper} (n : Nat) (hm : P.follows .mixedOrders = true) (hB : Region.lexTailB .any l.toArray n = true) (hC : C { w with drawn := w.drawn + 1 })
    (h : wpQuiet P l.toArray C (fun a' => ∀ w', C w' → wpList P l.toArray Q (l.drop n) a' w') (l.take n) a) : (Code.region id l.toArray true).wp P Q a w := by
  simp only [Region.lexTailB, Bool.and_eq_true, decide_eq_true_eq] at hB
  obtain ⟨⟨⟨⟨hsel, hn⟩, hs⟩, hc⟩, hlex⟩ := hB
  have hn' : n < l.length := by simpa using hn
  have htl : (l.take n).length = n := by simp; omega
  have hdl : (l.drop n).length = l.toArray.size - n := by simp
  have inv0 : HeadInv .any l.toArray n (Array.replicate l.toArray.size false) :=
    ⟨by simp, fun j oj _ hl => (by rw [getD_replicate_false] at hl; cases hl), fun t _ ht => getD_in (by simpa using ht) (getD_replicate_false _ _)⟩
  have H := head_lex (md := .any) (g := l.toArray.size - n) hsel hs hc hn (l.take n) 0 _ a (fun j hj => by
    have hj' : j < n := by rw [htl] at hj; exact hj
    simp [hj']) (by simpa using htl) inv0 (by rw [htl]; exact hlex) h
  refine wp_region_any hm ?_
  have := any_of_head (Q := Q) (g := l.toArray.size - n) (fun s a' w' hw' hL => by
    have := wpAny_of_seq (md := .any) (Q' := Q) (l.drop n) n s a' w' (fun j => by simp [List.getElem?_drop]) (by rw [hdl]; exact hL.1) (hL.2 w' hw')
    rwa [hdl] at this) _ _ _ _ hC H
  rw [htl, show n + (l.toArray.size - n) = l.toArray.size by omega] at this
  exact this
/-- The same at the class of the worlds that have some blocks more. -/
theorem wp_region_tail {id : Nat} {Q : Exit → Act → World → Prop} {a : Act} {w : World} {l : List Oper} (n : Nat) (hm : P.follows .mixedOrders = true) (hB : Region.lexTailB .any l.toArray n = true)
    (h : wpQuiet P l.toArray (fun w' => ∃ p : Regrown, w' = grow (redrawn w p.d) p.os) (fun a' => ∀ w', (∃ p : Regrown, w' = grow (redrawn w p.d) p.os) → wpList P l.toArray Q (l.drop n) a' w') (l.take n) a) : (Code.region id l.toArray true).wp P Q a w :=
  wp_region_quiet_tail (C := fun w' => ∃ p : Regrown, w' = grow (redrawn w p.d) p.os) n hm hB ⟨⟨w.drawn + 1, #[]⟩, by rw [grow_empty]; rfl⟩ h
end
end Go.Proofs.YtlhoggalhjadgaaDoor
