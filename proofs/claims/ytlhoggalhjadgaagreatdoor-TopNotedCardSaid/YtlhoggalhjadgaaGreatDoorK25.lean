/- The contract of era.Parse. -/
import Derived.Test.YtlhoggalhjadgaaGreatDoorK24
import Derived.Test.YtlhoggalhjadgaaGreatDoorK14
import Derived.RegionTactic
import Derived.Deep.DeepCutAuto
import Derived.Test.YtlhoggalhjadgaaGreatDoorK23

namespace Go.Proofs.YtlhoggalhjadgaaGreatDoor
open Go.RowKit

theorem At.thirteen {w : World} {g : Nat} {e : Er.E} (h : At w g e.cells) :
    (w.cell? ⟨g, 0, none⟩ = some (.int .i64 e.std) ∧ w.cell? ⟨g, 1, none⟩ = some (.int .u8 e.k) ∧ w.cell? ⟨g, 2, none⟩ = some (.int .i64 e.sv) ∧ w.cell? ⟨g, 3, none⟩ = some (.string e.ru) ∧ w.cell? ⟨g, 4, none⟩ = some (.string e.fm) ∧ w.cell? ⟨g, 5, none⟩ = some (.bool e.en) ∧ w.cell? ⟨g, 6, none⟩ = some (.int .i64 e.u.y) ∧ w.cell? ⟨g, 7, none⟩ = some (.int .i64 e.u.m) ∧ w.cell? ⟨g, 8, none⟩ = some (.int .u8 e.u.k) ∧ w.cell? ⟨g, 9, none⟩ = some (.int .i64 e.u.n) ∧ w.cell? ⟨g, 10, none⟩ = some (.int .i64 e.u.d) ∧ w.cell? ⟨g, 11, none⟩ = some (.int .i64 e.u.s) ∧ w.cell? ⟨g, 12, none⟩ = some (.int .u8 e.u.c)) ∧ (w.frozen? ⟨g, 0, none⟩ = false ∧ w.frozen? ⟨g, 1, none⟩ = false ∧ w.frozen? ⟨g, 2, none⟩ = false ∧ w.frozen? ⟨g, 3, none⟩ = false ∧ w.frozen? ⟨g, 4, none⟩ = false ∧ w.frozen? ⟨g, 5, none⟩ = false ∧ w.frozen? ⟨g, 6, none⟩ = false ∧ w.frozen? ⟨g, 7, none⟩ = false ∧ w.frozen? ⟨g, 8, none⟩ = false ∧ w.frozen? ⟨g, 9, none⟩ = false ∧ w.frozen? ⟨g, 10, none⟩ = false ∧ w.frozen? ⟨g, 11, none⟩ = false ∧ w.frozen? ⟨g, 12, none⟩ = false) :=
  ⟨⟨h.cell 0 _ rfl, h.cell 1 _ rfl, h.cell 2 _ rfl, h.cell 3 _ rfl, h.cell 4 _ rfl, h.cell 5 _ rfl, h.cell 6 _ rfl, h.cell 7 _ rfl, h.cell 8 _ rfl, h.cell 9 _ rfl, h.cell 10 _ rfl, h.cell 11 _ rfl, h.cell 12 _ rfl⟩, ⟨h.free 0 _ rfl, h.free 1 _ rfl, h.free 2 _ rfl, h.free 3 _ rfl, h.free 4 _ rfl, h.free 5 _ rfl, h.free 6 _ rfl, h.free 7 _ rfl, h.free 8 _ rfl, h.free 9 _ rfl, h.free 10 _ rfl, h.free 11 _ rfl, h.free 12 _ rfl⟩⟩
theorem parseUntil_isE (A : Option Addr) (n c : Nat) (ss : List ByteArray) (w : World) (hW : Wp w) (hn : n ≤ maxLen) (hr : Reads w w.heap.size 1 A n (ss.map Value.string)) (hs : ∀ t ∈ ss, t.size ≤ 1000000) (u : Mo.U) (a b : Int) (h : Mo.uParse ss = (u, a, b)) :
    Calls Tryz.prog 88 #[.slice A n c] w fun e w' => e = .returned (.tuple #[u.v, .int .i64 a, .int .i64 b]) ∧ Below w.heap.size w w' := calls_val (parseUntil_any A n c ss w hW hn hr hs) (by rw [h])
def Er.PRel (w : World) (m : Nat) (L : List ByteArray) (P : Er.E × Int × Int) (i : Value) (wr : World) : Prop :=
  ∃ (k : Nat) (r : Er.E), k ≤ m ∧ i = .int .i64 k ∧ Hid (At wr (w.heap.size + 1) r.cells) ∧ Hid (At wr w.heap.size Er.E.zero.cells) ∧ Hid (Below w.heap.size w wr) ∧ Hid (P = Er.run (L.drop k) k r)
theorem reads_from {w : World} {B n : Nat} {ad : Addr} {l : List ByteArray} (h : Reads w B 1 (some ad) n (l.map Value.string)) (k : Nat) (hk : k < n) : Reads w B 1 (some (ad.add k)) (n - k) ((l.drop k).map Value.string) := by
  have hl : l.length = n := by have := h.1; simpa using this
  obtain ⟨ad', e, hb, hc⟩ := h.2 (by omega)
  injection e with e
  subst e
  refine ⟨by simp; omega, fun _ => ⟨_, rfl, by rw [block_of_add]; exact hb, fun j v hj => ?_⟩⟩
  rw [add_of_add]
  refine hc (k + j) v ?_
  rw [List.map_drop, List.getElem?_drop] at hj
  exact hj
set_option maxHeartbeats 4000000 in
set_option maxRecDepth 100000 in
theorem erParse_any (A : Option Addr) (n c : Nat) (ss : List ByteArray) (w : World) (hW : Wp w) (hWa : Wa w) (hn : n ≤ c) (hc : c ≤ maxLen) (hr : Reads w w.heap.size 1 A n (ss.map Value.string)) (hs : ∀ t ∈ ss, t.size ≤ 1000000) :
    Calls Tryz.prog 71 #[.slice A n c] w fun e w' => e = .returned (.tuple #[(Er.parse ss).1.v, .int .i64 (Er.parse ss).2.1, .int .i64 (Er.parse ss).2.2]) ∧ Below w.heap.size w w' := by
  have hlen : ss.length = n := by have := hr.1; simpa using this
  obtain ⟨P, hP⟩ : ∃ P, Er.run (ss.take 3) 0 Er.E.zero = P := ⟨_, rfl⟩
  obtain ⟨U, up, uy, hU⟩ : ∃ U a b, Mo.uParse (ss.drop 3) = (U, a, b) := ⟨_, _, _, rfl⟩
  have hX : Er.parse ss = if P.2.2 = 0 then (if n < 3 then (Er.E.zero, (n : Int), 5) else if n = 3 then (P.1, 0, 0) else if uy = 0 then (P.1.until_ U, 0, 0) else (Er.E.zero, 3 + up, uy)) else P := by unfold Er.parse; rw [hP, hlen, hU]
  have hPu := fun (A' : Option Addr) (c' : Nat) W hw (hc' : n - 3 ≤ maxLen) (hr' : Reads W W.heap.size 1 A' (n - 3) ((ss.drop 3).map Value.string)) => parseUntil_isE A' (n - 3) c' (ss.drop 3) W hw hc' hr' (fun t ht => hs t (List.mem_of_mem_drop ht)) U up uy hU
  have hup := Mo.uParse_ok (ss.drop 3)
  rw [hU] at hup
  simp only at hup
  obtain ⟨m, hm⟩ : ∃ m, min n 3 = m := ⟨_, rfl⟩
  have hLm : (ss.take 3).length = m := by rw [List.length_take, hlen]; omega
  have hget : ∀ k x, k < m → (ss[k]? = some x ↔ (ss.take 3)[k]? = some x) := by
    intro k x hk
    rw [List.getElem?_take, if_pos (by omega)]
  have HX := Lib.hid hX
  have HP := Lib.hid hP.symm
  have HPu := Lib.hid hPu
  have HUp := Lib.hid hup
  have HR := Lib.hid hr
  have HS := Lib.hid hs
  have HW := Lib.hid hW
  have HWa := Lib.hid hWa
  have HLm := Lib.hid hLm
  have HLen := Lib.hid hlen
  have HGet := Lib.hid hget
  have HCm := Lib.hid hc
  unfold maxLen at hc
  have hA0 : At ((w.alloc (.cells (Er.E.zero.cells.toArray) 62)).alloc (.cells (Er.E.zero.cells.toArray) 62)) w.heap.size Er.E.zero.cells := (At.new w _ _).alloc _ _
  have hA1 : At ((w.alloc (.cells (Er.E.zero.cells.toArray) 62)).alloc (.cells (Er.E.zero.cells.toArray) 62)) (w.heap.size + 1) Er.E.zero.cells := by
    have := At.new (w.alloc (.cells (Er.E.zero.cells.toArray) 62)) (Er.E.zero.cells.toArray) 62
    simpa using this
  have hBB : Below w.heap.size w ((w.alloc (.cells (Er.E.zero.cells.toArray) 62)).alloc (.cells (Er.E.zero.cells.toArray) 62)) := ((Below.refl _ _).alloc (Nat.le_refl _) _).alloc (by simp) _
  have HA0 := Lib.hid hA0
  have HA1 := Lib.hid hA1
  have HBB := Lib.hid hBB
  have hmn : m ≤ n ∧ m ≤ 3 ∧ (m = n ∨ m = 3) := by omega
  have hmin : min (n : Int) 3 = (m : Int) := by omega
  have m1 : (0 : Int) ≤ (m : Int) := by omega
  have m2 : (m : Int) ≤ (c : Int) := by omega
  obtain ⟨mn1, mn2, mn3⟩ := hmn
  have HMax : Hid (max (min (n : Int) 3) 0 = (m : Int)) := by show _ = _; omega
  have HMinN : Hid ((min (n : Int) 3).toNat = m) := by show _ = _; omega
  clear hP hX hm hLm hget hr hs hW hWa hlen hA0 hA1 hBB hmin hPu hU hup
  go_enter Tryz.func71, Tryz.ntmps71
  go_wp2
  rw [HMax.out, HMinN.out]
  go_loopw [18] (Er.PRel w m (ss.take 3) P) (fun i _ => m - (intOf i).toNat)
  case atStart => exact ⟨0, Er.E.zero, by omega, rfl, HA1.out, HA0.out, HBB.out, HP.out⟩
  case round =>
    obtain ⟨k, r, hk, rfl, HU, HZ, HB, HK⟩ := hrel
    have huz := HU.out.lt
    by_cases hlt : k < m
    · obtain ⟨ad, x, rfl, hnm, hcell⟩ : ∃ ad nm, A = some ad ∧ Hid (ss[k]? = some nm) ∧ wr.cell? (ad.add k) = some (.string nm) := reads_str (HR.out.below HB.out) (show k < n by omega)
      have q2 : (0 : Int) ≤ (k : Int) := by omega
      have q3 : (k : Int) < (m : Int) := by omega
      have hsz : x.size ≤ 1000000 := HS.out x (List.mem_iff_getElem?.2 ⟨k, hnm.out⟩)
      have hnm3 := (HGet.out k x hlt).1 hnm.out
      have HRd := Lib.hid (eread_any k (by omega) r x (w.heap.size + 1) wr hsz HU.out w HB.out (Nat.le_succ _) HW.out HWa.out)
      have hbad := Er.run_bad (ss.take 3) k r x P HK.out hnm3
      have hnext := Er.run_next (ss.take 3) k r x P HK.out hnm3
      obtain ⟨r2, why, hst⟩ : ∃ r2 why, Er.estep k r x = (r2, why) := ⟨_, _, rfl⟩
      rw [hst] at HRd hbad hnext
      by_cases hy : why = 0
      · have HN := Lib.hid (hnext hy)
        subst hy
        clear hbad hnext hst hnm3 hsz
        go_wp2_with fail
        refine HRd.out.mono ?_
        rintro e w1 ⟨rfl, hA2, hg2⟩
        have HU2 := Lib.hid hA2
        have HZ2 := Lib.hid (HZ.out.grown hg2 (by omega))
        have HB2 := Lib.hid (HB.out.grown hg2 HB.out.size (fun j hj => by injection hj with hj; omega))
        clear hA2 hg2
        go_wp2
        go_roundw
        case rel => exact ⟨k + 1, r2, by omega, by go_num, HU2, HZ2, HB2, HN⟩
        case measure => simp [intOf]; omega
      · have HXb : Hid (Er.parse ss = (Er.E.zero, (k : Int), why)) := by
          show _ = _
          rw [HX.out, hbad hy, if_neg hy]
        have q4 : (why != 0) = true := by simpa using hy
        have q5 : (why == 0) = false := by simpa using hy
        clear hbad hnext hst hnm3 hsz hy
        go_wp2_with fail
        refine HRd.out.mono ?_
        rintro e w1 ⟨rfl, hA2, hg2⟩
        have HZ2 := Lib.hid (HZ.out.grown hg2 (by omega))
        have HB2 := Lib.hid (HB.out.grown hg2 HB.out.size (fun j hj => by injection hj with hj; omega))
        have z1 := HZ2.out.lt
        clear hA2 hg2
        obtain ⟨⟨d0, d1, d2, d3, d4, d5, d6, d7, d8, d9, d10, d11, d12⟩, ⟨e0, e1, e2, e3, e4, e5, e6, e7, e8, e9, e10, e11, e12⟩⟩ := HZ2.out.thirteen
        go_wp2
        refine bodyPost_ret (v := .tuple #[Er.E.zero.v, .int .i64 k, .int .i64 why]) (by simp [results, Tryz.results71, go_sem, Er.E.v, Er.E.zero, Mo.U.zero, *]) rfl ⟨?_, ?_⟩
        · rw [HXb.out]
        · exact (((((((((((((HB2.out).setCell (p := ⟨w.heap.size, _, none⟩) (Nat.le_refl _) _).setCell (p := ⟨w.heap.size, _, none⟩) (Nat.le_refl _) _).setCell (p := ⟨w.heap.size, _, none⟩) (Nat.le_refl _) _).setCell (p := ⟨w.heap.size, _, none⟩) (Nat.le_refl _) _).setCell (p := ⟨w.heap.size, _, none⟩) (Nat.le_refl _) _).setCell (p := ⟨w.heap.size, _, none⟩) (Nat.le_refl _) _).setCell (p := ⟨w.heap.size, _, none⟩) (Nat.le_refl _) _).setCell (p := ⟨w.heap.size, _, none⟩) (Nat.le_refl _) _).setCell (p := ⟨w.heap.size, _, none⟩) (Nat.le_refl _) _).setCell (p := ⟨w.heap.size, _, none⟩) (Nat.le_refl _) _).setCell (p := ⟨w.heap.size, _, none⟩) (Nat.le_refl _) _).setCell (p := ⟨w.heap.size, _, none⟩) (Nat.le_refl _) _).setCell (p := ⟨w.heap.size, _, none⟩) (Nat.le_refl _) _
    · obtain rfl : k = m := by omega
      have hE := Er.run_end (ss.take 3) k r P HK.out HLm.out
      have HZ2 := HZ
      have HB2 := HB
      have z1 := HZ2.out.lt
      have q3 : ¬ (k : Int) < (k : Int) := by omega
      by_cases h9 : n < 3
      · have HXb : Hid (Er.parse ss = (Er.E.zero, (n : Int), 5)) := by
          show _ = _
          rw [HX.out, hE, if_pos rfl, if_pos h9]
        have q6 : (n : Int) < 3 := by omega
        clear hE
        obtain ⟨⟨d0, d1, d2, d3, d4, d5, d6, d7, d8, d9, d10, d11, d12⟩, ⟨e0, e1, e2, e3, e4, e5, e6, e7, e8, e9, e10, e11, e12⟩⟩ := HZ2.out.thirteen
        go_wp2
        refine bodyPost_ret (v := .tuple #[Er.E.zero.v, .int .i64 n, .int .i64 5]) (by simp [results, Tryz.results71, go_sem, Er.E.v, Er.E.zero, Mo.U.zero, *]) rfl ⟨?_, ?_⟩
        · rw [HXb.out]
        · exact (((((((((((((HB2.out).setCell (p := ⟨w.heap.size, _, none⟩) (Nat.le_refl _) _).setCell (p := ⟨w.heap.size, _, none⟩) (Nat.le_refl _) _).setCell (p := ⟨w.heap.size, _, none⟩) (Nat.le_refl _) _).setCell (p := ⟨w.heap.size, _, none⟩) (Nat.le_refl _) _).setCell (p := ⟨w.heap.size, _, none⟩) (Nat.le_refl _) _).setCell (p := ⟨w.heap.size, _, none⟩) (Nat.le_refl _) _).setCell (p := ⟨w.heap.size, _, none⟩) (Nat.le_refl _) _).setCell (p := ⟨w.heap.size, _, none⟩) (Nat.le_refl _) _).setCell (p := ⟨w.heap.size, _, none⟩) (Nat.le_refl _) _).setCell (p := ⟨w.heap.size, _, none⟩) (Nat.le_refl _) _).setCell (p := ⟨w.heap.size, _, none⟩) (Nat.le_refl _) _).setCell (p := ⟨w.heap.size, _, none⟩) (Nat.le_refl _) _).setCell (p := ⟨w.heap.size, _, none⟩) (Nat.le_refl _) _
      have q6 : ¬ (n : Int) < 3 := by omega
      by_cases h10 : n = 3
      · have HXb : Hid (Er.parse ss = (r, 0, 0)) := by
          show _ = _
          rw [HX.out, hE, if_pos rfl, if_neg h9, if_pos h10]
        have q7 : ((n : Int) == 3) = true := by rw [beq_iff_eq]; omega
        clear hE h10
        obtain ⟨rs, rk, rv, rr, rf, re, ⟨ry, rm, rdk, rdn, rdd, rsec, rc⟩⟩ := r
        obtain ⟨⟨c0, c1, c2, c3, c4, c5, c6, c7, c8, c9, c10, c11, c12⟩, ⟨f0, f1, f2, f3, f4, f5, f6, f7, f8, f9, f10, f11, f12⟩⟩ := HU.out.thirteen
        obtain ⟨⟨d0, d1, d2, d3, d4, d5, d6, d7, d8, d9, d10, d11, d12⟩, ⟨e0, e1, e2, e3, e4, e5, e6, e7, e8, e9, e10, e11, e12⟩⟩ := HZ2.out.thirteen
        go_wp2
        refine bodyPost_ret (v := .tuple #[(Er.E.mk rs rk rv rr rf re ⟨ry, rm, rdk, rdn, rdd, rsec, rc⟩).v, .int .i64 0, .int .i64 0]) (by simp [results, Tryz.results71, go_sem, Er.E.v, *]) rfl ⟨?_, ?_⟩
        · rw [HXb.out]
        · exact (((((((((((((HB2.out).setCell (p := ⟨w.heap.size, _, none⟩) (Nat.le_refl _) _).setCell (p := ⟨w.heap.size, _, none⟩) (Nat.le_refl _) _).setCell (p := ⟨w.heap.size, _, none⟩) (Nat.le_refl _) _).setCell (p := ⟨w.heap.size, _, none⟩) (Nat.le_refl _) _).setCell (p := ⟨w.heap.size, _, none⟩) (Nat.le_refl _) _).setCell (p := ⟨w.heap.size, _, none⟩) (Nat.le_refl _) _).setCell (p := ⟨w.heap.size, _, none⟩) (Nat.le_refl _) _).setCell (p := ⟨w.heap.size, _, none⟩) (Nat.le_refl _) _).setCell (p := ⟨w.heap.size, _, none⟩) (Nat.le_refl _) _).setCell (p := ⟨w.heap.size, _, none⟩) (Nat.le_refl _) _).setCell (p := ⟨w.heap.size, _, none⟩) (Nat.le_refl _) _).setCell (p := ⟨w.heap.size, _, none⟩) (Nat.le_refl _) _).setCell (p := ⟨w.heap.size, _, none⟩) (Nat.le_refl _) _
      have q7 : ((n : Int) == 3) = false := by rw [beq_eq_false_iff_ne]; omega
      obtain ⟨ad, hAd⟩ : ∃ ad, A = some ad := by obtain ⟨ad, e, _⟩ := HR.out.2 (by omega); exact ⟨ad, e⟩
      subst hAd
      have HRf := Lib.hid (reads_from HR.out 3 (by omega))
      have q8 : (3 : Int) ≤ (n : Int) := by omega
      have q9 : (n : Int) ≤ (c : Int) := by omega
      have HN3 : Hid ((n : Int) - 3 = ((n - 3 : Nat) : Int)) := by show _ = _; omega
      have hUp := HUp.out
      by_cases hu : uy = 0
      · have HXb : Hid (Er.parse ss = (r.until_ U, 0, 0)) := by
          show _ = _
          rw [HX.out, hE, if_pos rfl, if_neg h9, if_neg h10, if_pos hu]
        subst hu
        obtain ⟨rs, rk, rv, rr, rf, re, ⟨ry, rm, rdk, rdn, rdd, rsec, rc⟩⟩ := r
        obtain ⟨vy, vm, vk, vn, vd, vs, vc⟩ := U
        unfold Mo.U.v at HPu
        simp only at HPu
        clear hE hUp
        go_wp2_with fail
        refine (HPu.out _ _ wr (HW.out.below HB.out) (by unfold maxLen; omega) ((HRf.out.below HB.out).more HB.out.size)).mono ?_
        rintro e w1 ⟨rfl, hb⟩
        have HU3 := Lib.hid (HU.out.call hb)
        have HZ2 := Lib.hid (HZ.out.call hb)
        have HB2 := Lib.hid (below_then HB.out hb)
        have z2 := HU3.out.lt
        have hz2 := HB2.out.size
        clear hb
        obtain ⟨⟨c0, c1, c2, c3, c4, c5, c6, c7, c8, c9, c10, c11, c12⟩, ⟨f0, f1, f2, f3, f4, f5, f6, f7, f8, f9, f10, f11, f12⟩⟩ := HU3.out.thirteen
        go_upto_region 16 with fail
        go_cut [] (fun wx => Hid (At wx (w.heap.size + 1) [.int .i64 rs, .int .u8 rk, .int .i64 rv, .string rr, .string rf, .bool true, .int .i64 vy, .int .i64 vm, .int .u8 vk, .int .i64 vn, .int .i64 vd, .int .i64 vs, .int .u8 vc]) ∧ Hid (At wx w.heap.size Er.E.zero.cells) ∧ Hid (Below w.heap.size w wx))
        case first =>
          go_region
          go_wp2
          go_meet
          exact ⟨((((((((((HU3.out).set 5 (.bool true)).set 6 (.int .i64 vy)).set 7 (.int .i64 vm)).set 8 (.int .u8 vk)).set 9 (.int .i64 vn)).set 10 (.int .i64 vd)).set 11 (.int .i64 vs)).set 12 (.int .u8 vc)).alloc #[.int .i64 vy, .int .i64 vm, .int .u8 vk, .int .i64 vn, .int .i64 vd, .int .i64 vs, .int .u8 vc] 60).drew ⟨1, rfl⟩, ((((((((((HZ2.out).set_other ⟨w.heap.size + 1, 5, none⟩ (.bool true) (by simp)).set_other ⟨w.heap.size + 1, 6, none⟩ (.int .i64 vy) (by simp)).set_other ⟨w.heap.size + 1, 7, none⟩ (.int .i64 vm) (by simp)).set_other ⟨w.heap.size + 1, 8, none⟩ (.int .u8 vk) (by simp)).set_other ⟨w.heap.size + 1, 9, none⟩ (.int .i64 vn) (by simp)).set_other ⟨w.heap.size + 1, 10, none⟩ (.int .i64 vd) (by simp)).set_other ⟨w.heap.size + 1, 11, none⟩ (.int .i64 vs) (by simp)).set_other ⟨w.heap.size + 1, 12, none⟩ (.int .u8 vc) (by simp)).alloc #[.int .i64 vy, .int .i64 vm, .int .u8 vk, .int .i64 vn, .int .i64 vd, .int .i64 vs, .int .u8 vc] 60).drew ⟨1, rfl⟩, ((((((((((HB2.out).setCell (p := ⟨w.heap.size + 1, 5, none⟩) (Nat.le_succ _) (.bool true)).setCell (p := ⟨w.heap.size + 1, 6, none⟩) (Nat.le_succ _) (.int .i64 vy)).setCell (p := ⟨w.heap.size + 1, 7, none⟩) (Nat.le_succ _) (.int .i64 vm)).setCell (p := ⟨w.heap.size + 1, 8, none⟩) (Nat.le_succ _) (.int .u8 vk)).setCell (p := ⟨w.heap.size + 1, 9, none⟩) (Nat.le_succ _) (.int .i64 vn)).setCell (p := ⟨w.heap.size + 1, 10, none⟩) (Nat.le_succ _) (.int .i64 vd)).setCell (p := ⟨w.heap.size + 1, 11, none⟩) (Nat.le_succ _) (.int .i64 vs)).setCell (p := ⟨w.heap.size + 1, 12, none⟩) (Nat.le_succ _) (.int .u8 vc)).alloc (by simp; omega) (.cells #[.int .i64 vy, .int .i64 vm, .int .u8 vk, .int .i64 vn, .int .i64 vd, .int .i64 vs, .int .u8 vc] 60)).drew⟩
        case rest =>
        obtain ⟨HU4, HZ4, HB4⟩ := hcut
        have z4 := HU4.out.lt
        clear HU3 HZ2 HB2 z2 hz2 c0 f0 c1 f1 c2 f2 c3 f3 c4 f4 c5 f5 c6 f6 c7 f7 c8 f8 c9 f9 c10 f10 c11 f11 c12 f12
        obtain ⟨⟨c0, c1, c2, c3, c4, c5, c6, c7, c8, c9, c10, c11, c12⟩, ⟨f0, f1, f2, f3, f4, f5, f6, f7, f8, f9, f10, f11, f12⟩⟩ := At.thirteen (e := Er.E.mk rs rk rv rr rf true ⟨vy, vm, vk, vn, vd, vs, vc⟩) HU4.out
        obtain ⟨⟨d0, d1, d2, d3, d4, d5, d6, d7, d8, d9, d10, d11, d12⟩, ⟨e0, e1, e2, e3, e4, e5, e6, e7, e8, e9, e10, e11, e12⟩⟩ := HZ4.out.thirteen
        simp only at c0 c1 c2 c3 c4 c5 c6 c7 c8 c9 c10 c11 c12
        go_wp2
        refine bodyPost_ret (v := .tuple #[(Er.E.mk rs rk rv rr rf true ⟨vy, vm, vk, vn, vd, vs, vc⟩).v, .int .i64 0, .int .i64 0]) (by simp [results, Tryz.results71, go_sem, Er.E.v, *]) rfl ⟨?_, ?_⟩
        · rw [HXb.out]
          rfl
        · exact (((((((((((((HB4.out).setCell (p := ⟨w.heap.size, _, none⟩) (Nat.le_refl _) _).setCell (p := ⟨w.heap.size, _, none⟩) (Nat.le_refl _) _).setCell (p := ⟨w.heap.size, _, none⟩) (Nat.le_refl _) _).setCell (p := ⟨w.heap.size, _, none⟩) (Nat.le_refl _) _).setCell (p := ⟨w.heap.size, _, none⟩) (Nat.le_refl _) _).setCell (p := ⟨w.heap.size, _, none⟩) (Nat.le_refl _) _).setCell (p := ⟨w.heap.size, _, none⟩) (Nat.le_refl _) _).setCell (p := ⟨w.heap.size, _, none⟩) (Nat.le_refl _) _).setCell (p := ⟨w.heap.size, _, none⟩) (Nat.le_refl _) _).setCell (p := ⟨w.heap.size, _, none⟩) (Nat.le_refl _) _).setCell (p := ⟨w.heap.size, _, none⟩) (Nat.le_refl _) _).setCell (p := ⟨w.heap.size, _, none⟩) (Nat.le_refl _) _).setCell (p := ⟨w.heap.size, _, none⟩) (Nat.le_refl _) _
      · have HXb : Hid (Er.parse ss = (Er.E.zero, 3 + up, uy)) := by
          show _ = _
          rw [HX.out, hE, if_pos rfl, if_neg h9, if_neg h10, if_neg hu]
        have q10 : (uy != 0) = true := by simpa using hu
        have q11 : (uy == 0) = false := by simpa using hu
        have hup2 : 0 ≤ up ∧ up ≤ 4 := by
          rcases hUp with ⟨x, _⟩ | ⟨_, _, a, b, _⟩
          · exact absurd x hu
          · exact ⟨a, b⟩
        obtain ⟨hup3, hup4⟩ := hup2
        have wr3 : IntKind.i64.wrap (3 + up) = 3 + up := by simp [IntKind.wrap, IntKind.signed, IntKind.bits]; omega
        obtain ⟨vy, vm, vk, vn, vd, vs, vc⟩ := U
        unfold Mo.U.v at HPu
        simp only at HPu
        clear hE hUp hu
        go_wp2_with fail
        refine (HPu.out _ _ wr (HW.out.below HB.out) (by unfold maxLen; omega) ((HRf.out.below HB.out).more HB.out.size)).mono ?_
        rintro e w1 ⟨rfl, hb⟩
        have HZ2 := Lib.hid (HZ.out.call hb)
        have HB2 := Lib.hid (below_then HB.out hb)
        have z2 := HZ2.out.lt
        have hz2 := HB2.out.size
        clear hb
        obtain ⟨⟨d0, d1, d2, d3, d4, d5, d6, d7, d8, d9, d10, d11, d12⟩, ⟨e0, e1, e2, e3, e4, e5, e6, e7, e8, e9, e10, e11, e12⟩⟩ := HZ2.out.thirteen
        go_wp2
        refine bodyPost_ret (v := .tuple #[Er.E.zero.v, .int .i64 (3 + up), .int .i64 uy]) (by simp [results, Tryz.results71, go_sem, Er.E.v, Er.E.zero, Mo.U.zero, *]) rfl ⟨?_, ?_⟩
        · rw [HXb.out]
        · exact ((((((((((((((HB2.out).setCell (p := ⟨w.heap.size, _, none⟩) (Nat.le_refl _) _).setCell (p := ⟨w.heap.size, _, none⟩) (Nat.le_refl _) _).setCell (p := ⟨w.heap.size, _, none⟩) (Nat.le_refl _) _).setCell (p := ⟨w.heap.size, _, none⟩) (Nat.le_refl _) _).setCell (p := ⟨w.heap.size, _, none⟩) (Nat.le_refl _) _).setCell (p := ⟨w.heap.size, _, none⟩) (Nat.le_refl _) _).setCell (p := ⟨w.heap.size, _, none⟩) (Nat.le_refl _) _).setCell (p := ⟨w.heap.size, _, none⟩) (Nat.le_refl _) _).setCell (p := ⟨w.heap.size, _, none⟩) (Nat.le_refl _) _).setCell (p := ⟨w.heap.size, _, none⟩) (Nat.le_refl _) _).setCell (p := ⟨w.heap.size, _, none⟩) (Nat.le_refl _) _).setCell (p := ⟨w.heap.size, _, none⟩) (Nat.le_refl _) _).setCell (p := ⟨w.heap.size, _, none⟩) (Nat.le_refl _) _).alloc (by simp; omega) _
end Go.Proofs.YtlhoggalhjadgaaGreatDoor

/- (*reader).rule. -/
namespace Go.Proofs.YtlhoggalhjadgaaGreatDoor
open Go.RowKit

namespace Src
/-- All blocks that lay there stay as they are, but for the reader's own and the zones' row. -/
def Kept (g : Nat) (zv : Value) (w w' : World) : Prop := ∀ h : Nat, h < w.heap.size → h ≠ g → zv.ownBlock ≠ some h → w'.heap[h]? = w.heap[h]?
/-- What a reading method leaves. -/
def Post (B g : Nat) (zv : Value) (w : World) : Out S → Ending → World → Prop
  | .ok s', e, w' => e = .returned (.tuple #[.int .i64 0, .int .i64 0]) ∧ Below g w w' ∧ ∃ rv zv lv evs, Held B w' g s' rv zv lv evs
  | .bad p y, e, w' => e = .returned (.tuple #[.int .i64 p, .int .i64 y]) ∧ Below g w w' ∧ Kept g zv w w'
theorem kept_of {g : Nat} {zv : Value} {w w' : World} (hb : Below w.heap.size w w') (hg : g ≤ w.heap.size) : Below g w w' ∧ Kept g zv w w' := ⟨hb.mono hg, fun h hl _ _ => hb.block h hl⟩
end Src
set_option maxHeartbeats 400000 in
set_option maxRecDepth 100000 in
theorem rdRule_full (B g : Nat) (s : Src.S) (A : Option Addr) (n c : Nat) (R : Nat) (rA : Option Addr) (zv lv : Value) (evs : List Value) (w : World)
    (H : Src.Held B w g s (.slice rA s.rules.length R) zv lv evs) (hl : s.rules.length = 4096) :
    Calls Tryz.prog 53 #[.pointer (some ⟨g, 0, none⟩), .slice A n c] w (Src.Post B g zv w (.bad 0 6)) := by
  have h0 := Lib.hid (H.at_.cell 0 _ rfl)
  have hc0 : w.cell? ⟨g, 0, none⟩ = some (.slice rA s.rules.length R) := h0.out
  have hlt := H.at_.lt
  go_enter Tryz.func53, Tryz.ntmps53
  rw [hl] at hc0
  go_wp2
  go_ret2
  exact ⟨rfl, Src.kept_of (Below.refl _ _) (Nat.le_of_lt hlt)⟩
set_option maxHeartbeats 400000 in
set_option maxRecDepth 100000 in
theorem rdRule_bad (B g : Nat) (s : Src.S) (ad : Addr) (n c : Nat) (ss : List ByteArray) (R : Nat) (rA : Option Addr) (zv lv : Value) (evs : List Value) (w : World) (hW : Wp w) (hn : n ≤ c) (hc : c ≤ maxLen) (h1 : 2 ≤ n)
    (hr : Reads w w.heap.size 1 (some ad) n (ss.map Value.string)) (hs : ∀ t ∈ ss, t.size ≤ 1000000)
    (H : Src.Held B w g s (.slice rA s.rules.length R) zv lv evs) (hl : s.rules.length ≠ 4096) (P : Ru.R × Int × Int) (hP : Ru.parse (ss.drop 1) = P) (hP1 : 0 ≤ P.2.1 ∧ P.2.1 ≤ 9) (hP2 : P.2.2 ≠ 0) :
    Calls Tryz.prog 53 #[.pointer (some ⟨g, 0, none⟩), .slice (some ad) n c] w (Src.Post B g zv w (.bad (1 + P.2.1) P.2.2)) := by
  unfold maxLen at hc
  obtain ⟨r, pl, wy⟩ := P
  simp only at hP1 hP2
  have h0 := Lib.hid (H.at_.cell 0 _ rfl)
  have hc0 : w.cell? ⟨g, 0, none⟩ = some (.slice rA s.rules.length R) := h0.out
  have hlt := H.at_.lt
  generalize hL : s.rules.length = L at hc0 hl
  have e1 : ((L : Int) == 4096) = false := by rw [beq_eq_false_iff_ne]; omega
  have HW := Lib.hid hW
  have HR := Lib.hid (reads_from hr 1 (by omega))
  have e2 : (wy == 0) = false := by rw [beq_eq_false_iff_ne]; exact hP2
  have hwp : IntKind.i64.wrap (1 + pl) = 1 + pl := by
    exact IntWalk.i64_in _ (by omega)
  go_enter Tryz.func53, Tryz.ntmps53
  go_wp2_with fail
  refine (ruParse_any (some (ad.add 1)) (n - 1) (c - 1) (ss.drop 1) _ HW.out (by omega) (by unfold maxLen; omega) HR.out (fun t ht => hs t (List.mem_of_mem_drop ht))).mono ?_
  rintro e w2 ⟨rfl, HD⟩
  rw [hP]
  have HD := Lib.hid HD
  simp only [Ru.R.v]
  go_wp2_with fail
  go_ret2
  exact ⟨rfl, Src.kept_of (HD.out.alloc HD.out.size _) (Nat.le_of_lt hlt)⟩
end Go.Proofs.YtlhoggalhjadgaaGreatDoor

/- How a reader lies in memory, what more is read: a rule, a zone, a link, an era. -/
namespace Go.Proofs.YtlhoggalhjadgaaGreatDoor
open Go.RowKit

section
variable {B : Nat} {w w' : World} {rs : List Row} {r : Row}
theorem Many.drewN (h : Many B w rs) (k : Nat) : Many B (w.drewN k) rs := ⟨fun r hr => h.own r hr, h.apart⟩
/-- The row at the head is written, or has grown into a new block. -/
theorem Many.grow1 {v' : Value} {n' : Nat} {xs' : List Value} (h : Many B w (r :: rs)) (hown : w'.ownsRow B r.e r.size v' n' xs') (hg : w.grownBy w' r.v.ownBlock) (hat : v'.ownBlock = r.v.ownBlock ∨ v'.ownBlock = some w.heap.size) :
    Many B w' (⟨r.e, r.size, v', n', xs'⟩ :: rs) := by
  have ha := List.pairwise_cons.1 h.apart
  have hk : ∀ x ∈ rs, w'.ownsRow B x.e x.size x.v x.n x.xs := fun x hx => (h.own x (List.mem_cons_of_mem _ hx)).kept hg (ha.1 x hx).symm
  refine ⟨fun x hx => ?_, List.pairwise_cons.2 ⟨fun x hx => ?_, ha.2⟩⟩
  · rcases List.mem_cons.1 hx with rfl | hx
    · exact hown
    · exact hk x hx
  · show apartV v' x.v
    rcases hat with e | e
    · unfold apartV; rw [e]; exact ha.1 x hx
    · refine apartV.symm ?_
      unfold apartV
      rw [e]
      cases ex : x.v.ownBlock with
      | none => exact .inl rfl
      | some k =>
        right
        have := ((h.own x (List.mem_cons_of_mem _ hx)).lt k ex).2
        intro z
        have hk : k = w.heap.size := Option.some.inj z
        omega
/-- What is read lies elsewhere than a row that grows. -/
theorem Reads.far {B0 size n : Nat} {ad : Addr} {xs : List Value} {row : Option Nat} (h : Reads w B0 size (some ad) n xs) (hg : w.grownBy w' row) (hl : ad.block < w.heap.size) (hne : row ≠ some ad.block) : Reads w' w'.heap.size size (some ad) n xs := by
  refine ⟨h.1, fun hn => ?_⟩
  obtain ⟨ad', e, hb, hc⟩ := h.2 hn
  injection e with e
  subst e
  exact ⟨ad, rfl, Nat.lt_of_lt_of_le hl hg.size, fun j u hu => (hg.cell_far _ (by rw [block_of_add]; exact hl) (by rw [block_of_add]; exact fun x => hne x.symm)).trans (hc j u hu)⟩
theorem Reads.set_far {B0 size n : Nat} {ad p : Addr} {xs : List Value} (h : Reads w B0 size (some ad) n xs) (hne : ad.block ≠ p.block) (u : Value) : Reads (w.setCell p u) B0 size (some ad) n xs := by
  refine ⟨h.1, fun hn => ?_⟩
  obtain ⟨ad', e, hb, hc⟩ := h.2 hn
  injection e with e
  subst e
  exact ⟨ad, rfl, hb, fun j u hu => (World.cell?_setCell_other _ _ _ _ (fun e => hne (by rw [e, block_of_add]))).trans (hc j u hu)⟩
end
namespace Src
theorem zoneCells_app : ∀ (a b : List (Txt × List Er.E)) (va vb : List Value), va.length = a.length → zoneCells (a ++ b) (va ++ vb) = zoneCells a va ++ zoneCells b vb
  | [], b, [], vb, _ => rfl
  | z :: a, b, v :: va, vb, h => by
    have := zoneCells_app a b va vb (by simpa using h)
    simp only [List.cons_append, zoneCells, this]
theorem eraRows_app : ∀ (a b : List (Txt × List Er.E)) (va vb : List Value), va.length = a.length → eraRows (a ++ b) (va ++ vb) = eraRows a va ++ eraRows b vb
  | [], b, [], vb, _ => rfl
  | z :: a, b, v :: va, vb, h => by
    have := eraRows_app a b va vb (by simpa using h)
    simp only [List.cons_append, eraRows, this]
theorem zoneCells_len : ∀ (a : List (Txt × List Er.E)) (va : List Value), va.length = a.length → (zoneCells a va).length = 2 * a.length
  | [], [], _ => rfl
  | z :: a, v :: va, h => by
    have := zoneCells_len a va (by simpa using h)
    simp only [zoneCells, List.length_cons, this]
    omega
theorem addEra_last (e : Er.E) (zs : List (Txt × List Er.E)) (nm : Txt) (es : List Er.E) : addEra e (zs ++ [(nm, es)]) = zs ++ [(nm, es ++ [e])] := by
  rw [addEra_app _ _ _ (by simp)]
  rfl
theorem lastEras_last (zs : List (Txt × List Er.E)) (nm : Txt) (es : List Er.E) : lastEras (zs ++ [(nm, es)]) = es.length := by
  rw [lastEras_app _ _ (by simp)]
  rfl
section
variable {B : Nat} {w w' w2 : World} {g : Nat} {s : S} {rv rv' zv zv' lv lv' : Value} {evs : List Value}
theorem Held.drewN (h : Held B w g s rv zv lv evs) (k : Nat) : Held B (w.drewN k) g s rv zv lv evs := ⟨h.at_.drew ⟨k, rfl⟩, h.many.drewN k, h.below, h.evs_len⟩
theorem Held.apart_g (h : Held B w g s rv zv lv evs) {r : Row} (hr : r ∈ ruleRow rv s :: zoneRow zv evs s :: linkRow lv s :: eraRows s.zones evs) : ∀ k, r.v.ownBlock = some k → g ≠ k := fun k hk e => by
  have := ((h.many.own _ hr).lt k hk).1
  have := h.below
  omega
theorem Held.apart_era {zs : List (Txt × List Er.E)} {nm : Txt} {es : List Er.E} {evs0 : List Value} {ev : Value} (h : Held B w g s rv zv lv (evs0 ++ [ev])) (hz : s.zones = zs ++ [(nm, es)]) : apartV zv ev := by
  have hl : evs0.length = zs.length := by
    have := h.evs_len
    rw [hz] at this
    simp at this
    omega
  have he : eraRows s.zones (evs0 ++ [ev]) = eraRows zs evs0 ++ [eraRow ev es] := by
    rw [hz, eraRows_app _ _ _ _ hl]
    rfl
  exact (List.pairwise_cons.1 (List.pairwise_cons.1 h.many.apart).2).1 (eraRow ev es) (by simp [he])
theorem Held.own_era {zs : List (Txt × List Er.E)} {nm : Txt} {es : List Er.E} {evs0 : List Value} {ev : Value} (h : Held B w g s rv zv lv (evs0 ++ [ev])) (hz : s.zones = zs ++ [(nm, es)]) : w.ownsRow B 62 13 ev es.length (es.flatMap Er.E.cells) ∧ ∀ k, ev.ownBlock = some k → g ≠ k := by
  have hl : evs0.length = zs.length := by
    have := h.evs_len
    rw [hz] at this
    simp at this
    omega
  have he : eraRows s.zones (evs0 ++ [ev]) = eraRows zs evs0 ++ [eraRow ev es] := by
    rw [hz, eraRows_app _ _ _ _ hl]
    rfl
  have hm : eraRow ev es ∈ ruleRow rv s :: zoneRow zv (evs0 ++ [ev]) s :: linkRow lv s :: eraRows s.zones (evs0 ++ [ev]) := by simp [he]
  exact ⟨h.many.own _ hm, h.apart_g (r := eraRow ev es) hm⟩
/-- A rule more. -/
theorem Held.rule1 (h : Held B w g s rv zv lv evs) (r : Ru.R)
    (hown : w'.ownsRow B 47 11 rv' (s.rules.length + 1) (s.rules.flatMap Ru.R.cells ++ r.cells)) (hg : w.grownBy w' rv.ownBlock) (hat : rv'.ownBlock = rv.ownBlock ∨ rv'.ownBlock = some w.heap.size) :
    Held B (w'.setCell ⟨g, 0, none⟩ rv') g { s with rules := s.rules ++ [r] } rv' zv lv evs := by
  have a1 := (Sc.At.grownO h.at_ hg (h.apart_g (r := ruleRow rv s) List.mem_cons_self)).set 0 rv'
  have m1 := (h.many.grow1 hown hg hat).setBelow (p := ⟨g, 0, none⟩) h.below rv'
  refine ⟨a1, ?_, h.below, h.evs_len⟩
  have e : ruleRow rv' { s with rules := s.rules ++ [r] } = ⟨47, 11, rv', s.rules.length + 1, s.rules.flatMap Ru.R.cells ++ r.cells⟩ := by
    simp [ruleRow]
  rw [e]
  exact m1
/-- A link more. -/
theorem Held.link1 (h : Held B w g s rv zv lv evs) (a b : Txt)
    (hown : w'.ownsRow B 56 2 lv' (s.links.length + 1) ((s.links.flatMap fun k => [.string (bts k.1), .string (bts k.2)]) ++ [.string (bts a), .string (bts b)])) (hg : w.grownBy w' lv.ownBlock) (hat : lv'.ownBlock = lv.ownBlock ∨ lv'.ownBlock = some w.heap.size) :
    Held B (w'.setCell ⟨g, 2, none⟩ lv') g { s with links := s.links ++ [(a, b)] } rv zv lv' evs := by
  have a1 := (Sc.At.grownO h.at_ hg (h.apart_g (r := linkRow lv s) (by simp))).set 2 lv'
  have p1 : (ruleRow rv s :: zoneRow zv evs s :: linkRow lv s :: eraRows s.zones evs).Perm (linkRow lv s :: ruleRow rv s :: zoneRow zv evs s :: eraRows s.zones evs) :=
    ((List.Perm.swap _ _ _).cons _).trans (List.Perm.swap _ _ _)
  have m1 := ((h.many.perm p1).grow1 (r := linkRow lv s) hown hg hat).setBelow (p := ⟨g, 2, none⟩) h.below lv'
  refine ⟨a1, ?_, h.below, h.evs_len⟩
  have e : linkRow lv' { s with links := s.links ++ [(a, b)] } = ⟨56, 2, lv', s.links.length + 1, (s.links.flatMap fun k => [.string (bts k.1), .string (bts k.2)]) ++ [.string (bts a), .string (bts b)]⟩ := by
    simp [linkRow]
  rw [e]
  exact m1.perm ((List.Perm.swap _ _ _).trans ((List.Perm.swap _ _ _).cons _))
/-- A zone more, that has no eras. -/
theorem Held.zone1 (h : Held B w g s rv zv lv evs) (nm : Txt)
    (hown : w'.ownsRow B 53 2 zv' (s.zones.length + 1) (zoneCells s.zones evs ++ [.string (bts nm), .slice none 0 0])) (hg : w.grownBy w' zv.ownBlock) (hat : zv'.ownBlock = zv.ownBlock ∨ zv'.ownBlock = some w.heap.size) :
    Held B (w'.setCell ⟨g, 1, none⟩ zv') g { s with zones := s.zones ++ [(nm, [])] } rv zv' lv (evs ++ [.slice none 0 0]) := by
  have a1 := (Sc.At.grownO h.at_ hg (h.apart_g (r := zoneRow zv evs s) (by simp))).set 1 zv'
  have p1 : (ruleRow rv s :: zoneRow zv evs s :: linkRow lv s :: eraRows s.zones evs).Perm (zoneRow zv evs s :: ruleRow rv s :: linkRow lv s :: eraRows s.zones evs) := List.Perm.swap _ _ _
  have m1 := Many.add0 (((h.many.perm p1).grow1 (r := zoneRow zv evs s) hown hg hat).setBelow (p := ⟨g, 1, none⟩) h.below zv') 62 13
  refine ⟨a1, ?_, h.below, by simp [h.evs_len]⟩
  have e : zoneRow zv' (evs ++ [.slice none 0 0]) { s with zones := s.zones ++ [(nm, [])] } = ⟨53, 2, zv', s.zones.length + 1, zoneCells s.zones evs ++ [.string (bts nm), .slice none 0 0]⟩ := by
    simp [zoneRow, zoneCells_app _ _ _ _ h.evs_len, zoneCells]
  have e2 : eraRows (s.zones ++ [(nm, [])]) (evs ++ [.slice none 0 0]) = eraRows s.zones evs ++ [⟨62, 13, .slice none 0 0, 0, []⟩] := by
    rw [eraRows_app _ _ _ _ h.evs_len]
    rfl
  rw [e, e2]
  refine m1.perm ?_
  refine (List.Perm.cons _ (List.Perm.swap _ _ _)).trans ?_
  refine List.Perm.symm ?_
  exact List.perm_append_singleton _ (ruleRow rv s :: ⟨53, 2, zv', s.zones.length + 1, zoneCells s.zones evs ++ [.string (bts nm), .slice none 0 0]⟩ :: linkRow lv s :: eraRows s.zones evs)
/-- An era more. -/
theorem Held.era1 {zs : List (Txt × List Er.E)} {nm : Txt} {es : List Er.E} {evs0 : List Value} {ev ev' : Value} {zb cap : Nat} (h : Held B w g s rv zv lv evs) (e : Er.E) (hz : s.zones = zs ++ [(nm, es)]) (hv : evs = evs0 ++ [ev])
    (hzv : zv = .slice (some ⟨zb, 0, none⟩) s.zones.length cap)
    (hown : w'.ownsRow B 62 13 ev' (es.length + 1) (es.flatMap Er.E.cells ++ e.cells)) (hg : w.grownBy w' ev.ownBlock) (hat : ev'.ownBlock = ev.ownBlock ∨ ev'.ownBlock = some w.heap.size) :
    Held B ((w'.setCell ⟨zb, 2 * zs.length + 1, none⟩ ev').setCell ⟨g, 3, none⟩ (.bool e.en)) g { s with zones := addEra e s.zones, op := e.en } rv zv lv (evs0 ++ [ev']) := by
  obtain ⟨rules, zones, links, op⟩ := s
  simp only at hz hzv
  subst hz hv
  have hl : evs0.length = zs.length := by
    have := h.evs_len
    simp at this
    omega
  have he : eraRows (zs ++ [(nm, es)]) (evs0 ++ [ev]) = eraRows zs evs0 ++ [eraRow ev es] := by
    rw [eraRows_app _ _ _ _ hl]
    rfl
  have hzne : g ≠ zb := h.apart_g (r := zoneRow zv (evs0 ++ [ev]) ⟨rules, zs ++ [(nm, es)], links, op⟩) (by simp) zb (by subst hzv; rfl)
  have hene := h.apart_g (r := eraRow ev es) (by simp [he])
  have a1 := ((Sc.At.grownO h.at_ hg hene).set_other ⟨zb, 2 * zs.length + 1, none⟩ ev' (fun x => hzne x.symm)).set 3 (.bool e.en)
  have m0 := h.many
  simp only [he] at m0
  obtain ⟨R, hR⟩ : ∃ R, ruleRow rv ⟨rules, zs ++ [(nm, es)], links, op⟩ = R := ⟨_, rfl⟩
  obtain ⟨L, hL⟩ : ∃ L, linkRow lv ⟨rules, zs ++ [(nm, es)], links, op⟩ = L := ⟨_, rfl⟩
  rw [hR, hL] at m0
  have p1 : (R :: zoneRow zv (evs0 ++ [ev]) ⟨rules, zs ++ [(nm, es)], links, op⟩ :: L :: (eraRows zs evs0 ++ [eraRow ev es])).Perm (eraRow ev es :: R :: zoneRow zv (evs0 ++ [ev]) ⟨rules, zs ++ [(nm, es)], links, op⟩ :: L :: eraRows zs evs0) :=
    List.perm_append_singleton (eraRow ev es) (R :: zoneRow zv (evs0 ++ [ev]) ⟨rules, zs ++ [(nm, es)], links, op⟩ :: L :: eraRows zs evs0)
  have m1 := (m0.perm p1).grow1 (r := eraRow ev es) hown hg hat
  have m2 := m1.perm ((List.Perm.cons _ (List.Perm.swap _ _ _)).trans (List.Perm.swap _ _ _))
  unfold zoneRow at m2
  subst hzv
  have m3 := (m2.store (2 * zs.length + 1) ev').setBelow (p := ⟨g, 3, none⟩) h.below (.bool e.en)
  refine ⟨a1, ?_, h.below, by simp [hl, addEra_last]⟩
  have e1 : zoneRow (.slice (some ⟨zb, 0, none⟩) (zs ++ [(nm, es)]).length cap) (evs0 ++ [ev']) ⟨rules, addEra e (zs ++ [(nm, es)]), links, e.en⟩ = ⟨53, 2, .slice (some ⟨zb, 0, none⟩) (zs ++ [(nm, es)]).length cap, (zs ++ [(nm, es)]).length, (zoneCells (zs ++ [(nm, es)]) (evs0 ++ [ev])).set (2 * zs.length + 1) ev'⟩ := by
    unfold zoneRow
    rw [addEra_last, zoneCells_app _ _ _ _ hl, zoneCells_app _ _ _ _ hl]
    have : 2 * zs.length + 1 = (zoneCells zs evs0).length + 1 := by rw [zoneCells_len _ _ hl]
    rw [this, List.set_append_right _ _ (by omega)]
    simp [zoneCells]
  have e2 : eraRows (addEra e (zs ++ [(nm, es)])) (evs0 ++ [ev']) = eraRows zs evs0 ++ [⟨62, 13, ev', es.length + 1, es.flatMap Er.E.cells ++ e.cells⟩] := by
    rw [addEra_last, eraRows_app _ _ _ _ hl]
    simp [eraRows, eraRow]
  have e3 : ruleRow rv ⟨rules, addEra e (zs ++ [(nm, es)]), links, e.en⟩ = R := by rw [← hR]; rfl
  have e4 : linkRow lv ⟨rules, addEra e (zs ++ [(nm, es)]), links, e.en⟩ = L := by rw [← hL]; rfl
  show Many B _ (_ :: _ :: _ :: _)
  rw [e1, e2, e3, e4]
  refine m3.perm ?_
  refine (List.Perm.swap _ _ _).trans ?_
  refine (List.Perm.cons _ (List.Perm.swap _ _ _)).trans ?_
  exact (List.perm_append_singleton _ (R :: _ :: L :: eraRows zs evs0)).symm
end
end Src
end Go.Proofs.YtlhoggalhjadgaaGreatDoor
