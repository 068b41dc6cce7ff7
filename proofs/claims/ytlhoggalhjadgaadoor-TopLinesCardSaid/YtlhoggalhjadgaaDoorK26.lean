/- The contract of era.Parse. -/
import Derived.Test.YtlhoggalhjadgaaDoorK25
import Derived.Test.YtlhoggalhjadgaaDoorK18
import Derived.RegionTactic
import Derived.Deep.DeepCutAuto
import Derived.Test.YtlhoggalhjadgaaDoorK14
import Derived.Deep.QuietTactic
import Derived.BigQuiet
import Derived.Test.YtlhoggalhjadgaaDoorK22
namespace Go.Proofs.YtlhoggalhjadgaaDoor
open Go.RowKit

theorem At.thirteen {w : World} {g : Nat} {e : Er.E} (h : At w g e.cells) :
    (w.cell? ⟨g, 0, none⟩ = some (.int .i64 e.std) ∧ w.cell? ⟨g, 1, none⟩ = some (.int .u8 e.k) ∧ w.cell? ⟨g, 2, none⟩ = some (.int .i64 e.sv) ∧ w.cell? ⟨g, 3, none⟩ = some (.string e.ru) ∧ w.cell? ⟨g, 4, none⟩ = some (.string e.fm) ∧ w.cell? ⟨g, 5, none⟩ = some (.bool e.en) ∧ w.cell? ⟨g, 6, none⟩ = some (.int .i64 e.u.y) ∧ w.cell? ⟨g, 7, none⟩ = some (.int .i64 e.u.m) ∧ w.cell? ⟨g, 8, none⟩ = some (.int .u8 e.u.k) ∧ w.cell? ⟨g, 9, none⟩ = some (.int .i64 e.u.n) ∧ w.cell? ⟨g, 10, none⟩ = some (.int .i64 e.u.d) ∧ w.cell? ⟨g, 11, none⟩ = some (.int .i64 e.u.s) ∧ w.cell? ⟨g, 12, none⟩ = some (.int .u8 e.u.c)) ∧ (w.frozen? ⟨g, 0, none⟩ = false ∧ w.frozen? ⟨g, 1, none⟩ = false ∧ w.frozen? ⟨g, 2, none⟩ = false ∧ w.frozen? ⟨g, 3, none⟩ = false ∧ w.frozen? ⟨g, 4, none⟩ = false ∧ w.frozen? ⟨g, 5, none⟩ = false ∧ w.frozen? ⟨g, 6, none⟩ = false ∧ w.frozen? ⟨g, 7, none⟩ = false ∧ w.frozen? ⟨g, 8, none⟩ = false ∧ w.frozen? ⟨g, 9, none⟩ = false ∧ w.frozen? ⟨g, 10, none⟩ = false ∧ w.frozen? ⟨g, 11, none⟩ = false ∧ w.frozen? ⟨g, 12, none⟩ = false) :=
  ⟨⟨h.cell 0 _ rfl, h.cell 1 _ rfl, h.cell 2 _ rfl, h.cell 3 _ rfl, h.cell 4 _ rfl, h.cell 5 _ rfl, h.cell 6 _ rfl, h.cell 7 _ rfl, h.cell 8 _ rfl, h.cell 9 _ rfl, h.cell 10 _ rfl, h.cell 11 _ rfl, h.cell 12 _ rfl⟩, ⟨h.free 0 _ rfl, h.free 1 _ rfl, h.free 2 _ rfl, h.free 3 _ rfl, h.free 4 _ rfl, h.free 5 _ rfl, h.free 6 _ rfl, h.free 7 _ rfl, h.free 8 _ rfl, h.free 9 _ rfl, h.free 10 _ rfl, h.free 11 _ rfl, h.free 12 _ rfl⟩⟩
theorem parseUntil_isE (A : Option Addr) (n c : Nat) (ss : List ByteArray) (w : World) (hW : Wp w) (hn : n ≤ maxLen) (hr : Reads w w.heap.size 1 A n (ss.map Value.string)) (hs : ∀ t ∈ ss, t.size ≤ 1000000) (u : Mo.U) (a b : Int) (h : Mo.uParse ss = (u, a, b)) :
    Calls Tryd.prog 24 #[.slice A n c] w fun e w' => e = .returned (.tuple #[u.v, .int .i64 a, .int .i64 b]) ∧ Below w.heap.size w w' := calls_val (parseUntil_any A n c ss w hW hn hr hs) (by rw [h])
def Er.PRel (w : World) (m : Nat) (L : List ByteArray) (P : Er.E × Int × Int) (i : Value) (wr : World) : Prop :=
  ∃ (k : Nat) (r : Er.E), k ≤ m ∧ i = .int .i64 k ∧ Hid (At wr (w.heap.size + 1) r.cells) ∧ Hid (At wr w.heap.size Er.E.zero.cells) ∧ Hid (Below w.heap.size w wr) ∧ Hid (P = Er.run (L.drop k) k r)
theorem reads_from {w : World} {B n : Nat} {ad : Addr} {l : List ByteArray} (h : Reads w B 1 (some ad) n (l.map Value.string)) (k : Nat) (hk : k < n) : Reads w B 1 (some (ad.add k)) (n - k) ((l.drop k).map Value.string) := by
  have hl : l.length = n := by have := h.1; simpa using this
  obtain ⟨ad', e, hb, hc⟩ := h.2 (by omega)
  injection e with e
  subst e
  refine ⟨by simp; omega, fun _ => ⟨_, rfl, by rw [block_of_add]; exact hb, fun j v hj => ?_⟩⟩
  rw [add_of_add]
  refine hc (k + j) v ?_
  rw [List.map_drop, List.getElem?_drop] at hj
  exact hj
set_option maxHeartbeats 4000000 in
set_option maxRecDepth 100000 in
theorem erParse_any (A : Option Addr) (n c : Nat) (ss : List ByteArray) (w : World) (hW : Wp w) (hWa : Wa w) (hn : n ≤ c) (hc : c ≤ maxLen) (hr : Reads w w.heap.size 1 A n (ss.map Value.string)) (hs : ∀ t ∈ ss, t.size ≤ 1000000) :
    Calls Tryd.prog 9 #[.slice A n c] w fun e w' => e = .returned (.tuple #[(Er.parse ss).1.v, .int .i64 (Er.parse ss).2.1, .int .i64 (Er.parse ss).2.2]) ∧ Below w.heap.size w w' := by
  have hlen : ss.length = n := by have := hr.1; simpa using this
  obtain ⟨P, hP⟩ : ∃ P, Er.run (ss.take 3) 0 Er.E.zero = P := ⟨_, rfl⟩
  obtain ⟨U, up, uy, hU⟩ : ∃ U a b, Mo.uParse (ss.drop 3) = (U, a, b) := ⟨_, _, _, rfl⟩
  have hX : Er.parse ss = if P.2.2 = 0 then (if n < 3 then (Er.E.zero, (n : Int), 5) else if n = 3 then (P.1, 0, 0) else if uy = 0 then (P.1.until_ U, 0, 0) else (Er.E.zero, 3 + up, uy)) else P := by unfold Er.parse; rw [hP, hlen, hU]
  have hPu := fun (A' : Option Addr) (c' : Nat) W hw (hc' : n - 3 ≤ maxLen) (hr' : Reads W W.heap.size 1 A' (n - 3) ((ss.drop 3).map Value.string)) => parseUntil_isE A' (n - 3) c' (ss.drop 3) W hw hc' hr' (fun t ht => hs t (List.mem_of_mem_drop ht)) U up uy hU
  have hup := Mo.uParse_ok (ss.drop 3)
  rw [hU] at hup
  simp only at hup
  obtain ⟨m, hm⟩ : ∃ m, min n 3 = m := ⟨_, rfl⟩
  have hLm : (ss.take 3).length = m := by rw [List.length_take, hlen]; omega
  have hget : ∀ k x, k < m → (ss[k]? = some x ↔ (ss.take 3)[k]? = some x) := by
    intro k x hk
    rw [List.getElem?_take, if_pos (by omega)]
  have HX := Lib.hid hX
  have HP := Lib.hid hP.symm
  have HPu := Lib.hid hPu
  have HUp := Lib.hid hup
  have HR := Lib.hid hr
  have HS := Lib.hid hs
  have HW := Lib.hid hW
  have HWa := Lib.hid hWa
  have HLm := Lib.hid hLm
  have HLen := Lib.hid hlen
  have HGet := Lib.hid hget
  have HCm := Lib.hid hc
  unfold maxLen at hc
  have hA0 : At ((w.alloc (.cells (Er.E.zero.cells.toArray) 34)).alloc (.cells (Er.E.zero.cells.toArray) 34)) w.heap.size Er.E.zero.cells := (At.new w _ _).alloc _ _
  have hA1 : At ((w.alloc (.cells (Er.E.zero.cells.toArray) 34)).alloc (.cells (Er.E.zero.cells.toArray) 34)) (w.heap.size + 1) Er.E.zero.cells := by
    have := At.new (w.alloc (.cells (Er.E.zero.cells.toArray) 34)) (Er.E.zero.cells.toArray) 34
    simpa using this
  have hBB : Below w.heap.size w ((w.alloc (.cells (Er.E.zero.cells.toArray) 34)).alloc (.cells (Er.E.zero.cells.toArray) 34)) := ((Below.refl _ _).alloc (Nat.le_refl _) _).alloc (by simp) _
  have HA0 := Lib.hid hA0
  have HA1 := Lib.hid hA1
  have HBB := Lib.hid hBB
  have hmn : m ≤ n ∧ m ≤ 3 ∧ (m = n ∨ m = 3) := by omega
  have hmin : min (n : Int) 3 = (m : Int) := by omega
  have m1 : (0 : Int) ≤ (m : Int) := by omega
  have m2 : (m : Int) ≤ (c : Int) := by omega
  obtain ⟨mn1, mn2, mn3⟩ := hmn
  have HMax : Hid (max (min (n : Int) 3) 0 = (m : Int)) := by show _ = _; omega
  have HMinN : Hid ((min (n : Int) 3).toNat = m) := by show _ = _; omega
  clear hP hX hm hLm hget hr hs hW hWa hlen hA0 hA1 hBB hmin hPu hU hup
  go_enter Tryd.func9, Tryd.ntmps9
  go_wp2
  rw [HMax.out, HMinN.out]
  go_loopw [18] (Er.PRel w m (ss.take 3) P) (fun i _ => m - (intOf i).toNat)
  case atStart => exact ⟨0, Er.E.zero, by omega, rfl, HA1.out, HA0.out, HBB.out, HP.out⟩
  case round =>
    obtain ⟨k, r, hk, rfl, HU, HZ, HB, HK⟩ := hrel
    have huz := HU.out.lt
    by_cases hlt : k < m
    · obtain ⟨ad, x, rfl, hnm, hcell⟩ : ∃ ad nm, A = some ad ∧ Hid (ss[k]? = some nm) ∧ wr.cell? (ad.add k) = some (.string nm) := reads_str (HR.out.below HB.out) (show k < n by omega)
      have q2 : (0 : Int) ≤ (k : Int) := by omega
      have q3 : (k : Int) < (m : Int) := by omega
      have hsz : x.size ≤ 1000000 := HS.out x (List.mem_iff_getElem?.2 ⟨k, hnm.out⟩)
      have hnm3 := (HGet.out k x hlt).1 hnm.out
      have HRd := Lib.hid (eread_any k (by omega) r x (w.heap.size + 1) wr hsz HU.out w HB.out (Nat.le_succ _) HW.out HWa.out)
      have hbad := Er.run_bad (ss.take 3) k r x P HK.out hnm3
      have hnext := Er.run_next (ss.take 3) k r x P HK.out hnm3
      obtain ⟨r2, why, hst⟩ : ∃ r2 why, Er.estep k r x = (r2, why) := ⟨_, _, rfl⟩
      rw [hst] at HRd hbad hnext
      by_cases hy : why = 0
      · have HN := Lib.hid (hnext hy)
        subst hy
        clear hbad hnext hst hnm3 hsz
        go_wp2_with fail
        refine HRd.out.mono ?_
        rintro e w1 ⟨rfl, hA2, hg2⟩
        have HU2 := Lib.hid hA2
        have HZ2 := Lib.hid (HZ.out.grown hg2 (by omega))
        have HB2 := Lib.hid (HB.out.grown hg2 HB.out.size (fun j hj => by injection hj with hj; omega))
        clear hA2 hg2
        go_wp2
        go_roundw
        case rel => exact ⟨k + 1, r2, by omega, by go_num, HU2, HZ2, HB2, HN⟩
        case measure => simp [intOf]; omega
      · have HXb : Hid (Er.parse ss = (Er.E.zero, (k : Int), why)) := by
          show _ = _
          rw [HX.out, hbad hy, if_neg hy]
        have q4 : (why != 0) = true := by simpa using hy
        have q5 : (why == 0) = false := by simpa using hy
        clear hbad hnext hst hnm3 hsz hy
        go_wp2_with fail
        refine HRd.out.mono ?_
        rintro e w1 ⟨rfl, hA2, hg2⟩
        have HZ2 := Lib.hid (HZ.out.grown hg2 (by omega))
        have HB2 := Lib.hid (HB.out.grown hg2 HB.out.size (fun j hj => by injection hj with hj; omega))
        have z1 := HZ2.out.lt
        clear hA2 hg2
        obtain ⟨⟨d0, d1, d2, d3, d4, d5, d6, d7, d8, d9, d10, d11, d12⟩, ⟨e0, e1, e2, e3, e4, e5, e6, e7, e8, e9, e10, e11, e12⟩⟩ := HZ2.out.thirteen
        go_wp2
        refine bodyPost_ret (v := .tuple #[Er.E.zero.v, .int .i64 k, .int .i64 why]) (by simp [results, Tryd.results9, go_sem, Er.E.v, Er.E.zero, Mo.U.zero, *]) rfl ⟨?_, ?_⟩
        · rw [HXb.out]
        · exact (((((((((((((HB2.out).setCell (p := ⟨w.heap.size, _, none⟩) (Nat.le_refl _) _).setCell (p := ⟨w.heap.size, _, none⟩) (Nat.le_refl _) _).setCell (p := ⟨w.heap.size, _, none⟩) (Nat.le_refl _) _).setCell (p := ⟨w.heap.size, _, none⟩) (Nat.le_refl _) _).setCell (p := ⟨w.heap.size, _, none⟩) (Nat.le_refl _) _).setCell (p := ⟨w.heap.size, _, none⟩) (Nat.le_refl _) _).setCell (p := ⟨w.heap.size, _, none⟩) (Nat.le_refl _) _).setCell (p := ⟨w.heap.size, _, none⟩) (Nat.le_refl _) _).setCell (p := ⟨w.heap.size, _, none⟩) (Nat.le_refl _) _).setCell (p := ⟨w.heap.size, _, none⟩) (Nat.le_refl _) _).setCell (p := ⟨w.heap.size, _, none⟩) (Nat.le_refl _) _).setCell (p := ⟨w.heap.size, _, none⟩) (Nat.le_refl _) _).setCell (p := ⟨w.heap.size, _, none⟩) (Nat.le_refl _) _
    · obtain rfl : k = m := by omega
      have hE := Er.run_end (ss.take 3) k r P HK.out HLm.out
      have HZ2 := HZ
      have HB2 := HB
      have z1 := HZ2.out.lt
      have q3 : ¬ (k : Int) < (k : Int) := by omega
      by_cases h9 : n < 3
      · have HXb : Hid (Er.parse ss = (Er.E.zero, (n : Int), 5)) := by
          show _ = _
          rw [HX.out, hE, if_pos rfl, if_pos h9]
        have q6 : (n : Int) < 3 := by omega
        clear hE
        obtain ⟨⟨d0, d1, d2, d3, d4, d5, d6, d7, d8, d9, d10, d11, d12⟩, ⟨e0, e1, e2, e3, e4, e5, e6, e7, e8, e9, e10, e11, e12⟩⟩ := HZ2.out.thirteen
        go_wp2
        refine bodyPost_ret (v := .tuple #[Er.E.zero.v, .int .i64 n, .int .i64 5]) (by simp [results, Tryd.results9, go_sem, Er.E.v, Er.E.zero, Mo.U.zero, *]) rfl ⟨?_, ?_⟩
        · rw [HXb.out]
        · exact (((((((((((((HB2.out).setCell (p := ⟨w.heap.size, _, none⟩) (Nat.le_refl _) _).setCell (p := ⟨w.heap.size, _, none⟩) (Nat.le_refl _) _).setCell (p := ⟨w.heap.size, _, none⟩) (Nat.le_refl _) _).setCell (p := ⟨w.heap.size, _, none⟩) (Nat.le_refl _) _).setCell (p := ⟨w.heap.size, _, none⟩) (Nat.le_refl _) _).setCell (p := ⟨w.heap.size, _, none⟩) (Nat.le_refl _) _).setCell (p := ⟨w.heap.size, _, none⟩) (Nat.le_refl _) _).setCell (p := ⟨w.heap.size, _, none⟩) (Nat.le_refl _) _).setCell (p := ⟨w.heap.size, _, none⟩) (Nat.le_refl _) _).setCell (p := ⟨w.heap.size, _, none⟩) (Nat.le_refl _) _).setCell (p := ⟨w.heap.size, _, none⟩) (Nat.le_refl _) _).setCell (p := ⟨w.heap.size, _, none⟩) (Nat.le_refl _) _).setCell (p := ⟨w.heap.size, _, none⟩) (Nat.le_refl _) _
      have q6 : ¬ (n : Int) < 3 := by omega
      by_cases h10 : n = 3
      · have HXb : Hid (Er.parse ss = (r, 0, 0)) := by
          show _ = _
          rw [HX.out, hE, if_pos rfl, if_neg h9, if_pos h10]
        have q7 : ((n : Int) == 3) = true := by rw [beq_iff_eq]; omega
        clear hE h10
        obtain ⟨rs, rk, rv, rr, rf, re, ⟨ry, rm, rdk, rdn, rdd, rsec, rc⟩⟩ := r
        obtain ⟨⟨c0, c1, c2, c3, c4, c5, c6, c7, c8, c9, c10, c11, c12⟩, ⟨f0, f1, f2, f3, f4, f5, f6, f7, f8, f9, f10, f11, f12⟩⟩ := HU.out.thirteen
        obtain ⟨⟨d0, d1, d2, d3, d4, d5, d6, d7, d8, d9, d10, d11, d12⟩, ⟨e0, e1, e2, e3, e4, e5, e6, e7, e8, e9, e10, e11, e12⟩⟩ := HZ2.out.thirteen
        go_wp2
        refine bodyPost_ret (v := .tuple #[(Er.E.mk rs rk rv rr rf re ⟨ry, rm, rdk, rdn, rdd, rsec, rc⟩).v, .int .i64 0, .int .i64 0]) (by simp [results, Tryd.results9, go_sem, Er.E.v, *]) rfl ⟨?_, ?_⟩
        · rw [HXb.out]
        · exact (((((((((((((HB2.out).setCell (p := ⟨w.heap.size, _, none⟩) (Nat.le_refl _) _).setCell (p := ⟨w.heap.size, _, none⟩) (Nat.le_refl _) _).setCell (p := ⟨w.heap.size, _, none⟩) (Nat.le_refl _) _).setCell (p := ⟨w.heap.size, _, none⟩) (Nat.le_refl _) _).setCell (p := ⟨w.heap.size, _, none⟩) (Nat.le_refl _) _).setCell (p := ⟨w.heap.size, _, none⟩) (Nat.le_refl _) _).setCell (p := ⟨w.heap.size, _, none⟩) (Nat.le_refl _) _).setCell (p := ⟨w.heap.size, _, none⟩) (Nat.le_refl _) _).setCell (p := ⟨w.heap.size, _, none⟩) (Nat.le_refl _) _).setCell (p := ⟨w.heap.size, _, none⟩) (Nat.le_refl _) _).setCell (p := ⟨w.heap.size, _, none⟩) (Nat.le_refl _) _).setCell (p := ⟨w.heap.size, _, none⟩) (Nat.le_refl _) _).setCell (p := ⟨w.heap.size, _, none⟩) (Nat.le_refl _) _
      have q7 : ((n : Int) == 3) = false := by rw [beq_eq_false_iff_ne]; omega
      obtain ⟨ad, hAd⟩ : ∃ ad, A = some ad := by obtain ⟨ad, e, _⟩ := HR.out.2 (by omega); exact ⟨ad, e⟩
      subst hAd
      have HRf := Lib.hid (reads_from HR.out 3 (by omega))
      have q8 : (3 : Int) ≤ (n : Int) := by omega
      have q9 : (n : Int) ≤ (c : Int) := by omega
      have HN3 : Hid ((n : Int) - 3 = ((n - 3 : Nat) : Int)) := by show _ = _; omega
      have hUp := HUp.out
      by_cases hu : uy = 0
      · have HXb : Hid (Er.parse ss = (r.until_ U, 0, 0)) := by
          show _ = _
          rw [HX.out, hE, if_pos rfl, if_neg h9, if_neg h10, if_pos hu]
        subst hu
        obtain ⟨rs, rk, rv, rr, rf, re, ⟨ry, rm, rdk, rdn, rdd, rsec, rc⟩⟩ := r
        obtain ⟨vy, vm, vk, vn, vd, vs, vc⟩ := U
        unfold Mo.U.v at HPu
        simp only at HPu
        clear hE hUp
        go_wp2_with fail
        refine (HPu.out _ _ wr (HW.out.below HB.out) (by unfold maxLen; omega) ((HRf.out.below HB.out).more HB.out.size)).mono ?_
        rintro e w1 ⟨rfl, hb⟩
        have HU3 := Lib.hid (HU.out.call hb)
        have HZ2 := Lib.hid (HZ.out.call hb)
        have HB2 := Lib.hid (below_then HB.out hb)
        have z2 := HU3.out.lt
        have hz2 := HB2.out.size
        clear hb
        obtain ⟨⟨c0, c1, c2, c3, c4, c5, c6, c7, c8, c9, c10, c11, c12⟩, ⟨f0, f1, f2, f3, f4, f5, f6, f7, f8, f9, f10, f11, f12⟩⟩ := HU3.out.thirteen
        go_upto_region 16 with fail
        go_cut [] (fun wx => Hid (At wx (w.heap.size + 1) [.int .i64 rs, .int .u8 rk, .int .i64 rv, .string rr, .string rf, .bool true, .int .i64 vy, .int .i64 vm, .int .u8 vk, .int .i64 vn, .int .i64 vd, .int .i64 vs, .int .u8 vc]) ∧ Hid (At wx w.heap.size Er.E.zero.cells) ∧ Hid (Below w.heap.size w wx))
        case first =>
          go_region
          go_wp2
          go_meet
          exact ⟨((((((((((HU3.out).set 5 (.bool true)).set 6 (.int .i64 vy)).set 7 (.int .i64 vm)).set 8 (.int .u8 vk)).set 9 (.int .i64 vn)).set 10 (.int .i64 vd)).set 11 (.int .i64 vs)).set 12 (.int .u8 vc)).alloc #[.int .i64 vy, .int .i64 vm, .int .u8 vk, .int .i64 vn, .int .i64 vd, .int .i64 vs, .int .u8 vc] 32).drew ⟨1, rfl⟩, ((((((((((HZ2.out).set_other ⟨w.heap.size + 1, 5, none⟩ (.bool true) (by simp)).set_other ⟨w.heap.size + 1, 6, none⟩ (.int .i64 vy) (by simp)).set_other ⟨w.heap.size + 1, 7, none⟩ (.int .i64 vm) (by simp)).set_other ⟨w.heap.size + 1, 8, none⟩ (.int .u8 vk) (by simp)).set_other ⟨w.heap.size + 1, 9, none⟩ (.int .i64 vn) (by simp)).set_other ⟨w.heap.size + 1, 10, none⟩ (.int .i64 vd) (by simp)).set_other ⟨w.heap.size + 1, 11, none⟩ (.int .i64 vs) (by simp)).set_other ⟨w.heap.size + 1, 12, none⟩ (.int .u8 vc) (by simp)).alloc #[.int .i64 vy, .int .i64 vm, .int .u8 vk, .int .i64 vn, .int .i64 vd, .int .i64 vs, .int .u8 vc] 32).drew ⟨1, rfl⟩, ((((((((((HB2.out).setCell (p := ⟨w.heap.size + 1, 5, none⟩) (Nat.le_succ _) (.bool true)).setCell (p := ⟨w.heap.size + 1, 6, none⟩) (Nat.le_succ _) (.int .i64 vy)).setCell (p := ⟨w.heap.size + 1, 7, none⟩) (Nat.le_succ _) (.int .i64 vm)).setCell (p := ⟨w.heap.size + 1, 8, none⟩) (Nat.le_succ _) (.int .u8 vk)).setCell (p := ⟨w.heap.size + 1, 9, none⟩) (Nat.le_succ _) (.int .i64 vn)).setCell (p := ⟨w.heap.size + 1, 10, none⟩) (Nat.le_succ _) (.int .i64 vd)).setCell (p := ⟨w.heap.size + 1, 11, none⟩) (Nat.le_succ _) (.int .i64 vs)).setCell (p := ⟨w.heap.size + 1, 12, none⟩) (Nat.le_succ _) (.int .u8 vc)).alloc (by simp; omega) (.cells #[.int .i64 vy, .int .i64 vm, .int .u8 vk, .int .i64 vn, .int .i64 vd, .int .i64 vs, .int .u8 vc] 32)).drew⟩
        case rest =>
        obtain ⟨HU4, HZ4, HB4⟩ := hcut
        have z4 := HU4.out.lt
        clear HU3 HZ2 HB2 z2 hz2 c0 f0 c1 f1 c2 f2 c3 f3 c4 f4 c5 f5 c6 f6 c7 f7 c8 f8 c9 f9 c10 f10 c11 f11 c12 f12
        obtain ⟨⟨c0, c1, c2, c3, c4, c5, c6, c7, c8, c9, c10, c11, c12⟩, ⟨f0, f1, f2, f3, f4, f5, f6, f7, f8, f9, f10, f11, f12⟩⟩ := At.thirteen (e := Er.E.mk rs rk rv rr rf true ⟨vy, vm, vk, vn, vd, vs, vc⟩) HU4.out
        obtain ⟨⟨d0, d1, d2, d3, d4, d5, d6, d7, d8, d9, d10, d11, d12⟩, ⟨e0, e1, e2, e3, e4, e5, e6, e7, e8, e9, e10, e11, e12⟩⟩ := HZ4.out.thirteen
        simp only at c0 c1 c2 c3 c4 c5 c6 c7 c8 c9 c10 c11 c12
        go_wp2
        refine bodyPost_ret (v := .tuple #[(Er.E.mk rs rk rv rr rf true ⟨vy, vm, vk, vn, vd, vs, vc⟩).v, .int .i64 0, .int .i64 0]) (by simp [results, Tryd.results9, go_sem, Er.E.v, *]) rfl ⟨?_, ?_⟩
        · rw [HXb.out]
          rfl
        · exact (((((((((((((HB4.out).setCell (p := ⟨w.heap.size, _, none⟩) (Nat.le_refl _) _).setCell (p := ⟨w.heap.size, _, none⟩) (Nat.le_refl _) _).setCell (p := ⟨w.heap.size, _, none⟩) (Nat.le_refl _) _).setCell (p := ⟨w.heap.size, _, none⟩) (Nat.le_refl _) _).setCell (p := ⟨w.heap.size, _, none⟩) (Nat.le_refl _) _).setCell (p := ⟨w.heap.size, _, none⟩) (Nat.le_refl _) _).setCell (p := ⟨w.heap.size, _, none⟩) (Nat.le_refl _) _).setCell (p := ⟨w.heap.size, _, none⟩) (Nat.le_refl _) _).setCell (p := ⟨w.heap.size, _, none⟩) (Nat.le_refl _) _).setCell (p := ⟨w.heap.size, _, none⟩) (Nat.le_refl _) _).setCell (p := ⟨w.heap.size, _, none⟩) (Nat.le_refl _) _).setCell (p := ⟨w.heap.size, _, none⟩) (Nat.le_refl _) _).setCell (p := ⟨w.heap.size, _, none⟩) (Nat.le_refl _) _
      · have HXb : Hid (Er.parse ss = (Er.E.zero, 3 + up, uy)) := by
          show _ = _
          rw [HX.out, hE, if_pos rfl, if_neg h9, if_neg h10, if_neg hu]
        have q10 : (uy != 0) = true := by simpa using hu
        have q11 : (uy == 0) = false := by simpa using hu
        have hup2 : 0 ≤ up ∧ up ≤ 4 := by
          rcases hUp with ⟨x, _⟩ | ⟨_, _, a, b, _⟩
          · exact absurd x hu
          · exact ⟨a, b⟩
        obtain ⟨hup3, hup4⟩ := hup2
        have wr3 : IntKind.i64.wrap (3 + up) = 3 + up := by simp [IntKind.wrap, IntKind.signed, IntKind.bits]; omega
        obtain ⟨vy, vm, vk, vn, vd, vs, vc⟩ := U
        unfold Mo.U.v at HPu
        simp only at HPu
        clear hE hUp hu
        go_wp2_with fail
        refine (HPu.out _ _ wr (HW.out.below HB.out) (by unfold maxLen; omega) ((HRf.out.below HB.out).more HB.out.size)).mono ?_
        rintro e w1 ⟨rfl, hb⟩
        have HZ2 := Lib.hid (HZ.out.call hb)
        have HB2 := Lib.hid (below_then HB.out hb)
        have z2 := HZ2.out.lt
        have hz2 := HB2.out.size
        clear hb
        obtain ⟨⟨d0, d1, d2, d3, d4, d5, d6, d7, d8, d9, d10, d11, d12⟩, ⟨e0, e1, e2, e3, e4, e5, e6, e7, e8, e9, e10, e11, e12⟩⟩ := HZ2.out.thirteen
        go_wp2
        refine bodyPost_ret (v := .tuple #[Er.E.zero.v, .int .i64 (3 + up), .int .i64 uy]) (by simp [results, Tryd.results9, go_sem, Er.E.v, Er.E.zero, Mo.U.zero, *]) rfl ⟨?_, ?_⟩
        · rw [HXb.out]
        · exact ((((((((((((((HB2.out).setCell (p := ⟨w.heap.size, _, none⟩) (Nat.le_refl _) _).setCell (p := ⟨w.heap.size, _, none⟩) (Nat.le_refl _) _).setCell (p := ⟨w.heap.size, _, none⟩) (Nat.le_refl _) _).setCell (p := ⟨w.heap.size, _, none⟩) (Nat.le_refl _) _).setCell (p := ⟨w.heap.size, _, none⟩) (Nat.le_refl _) _).setCell (p := ⟨w.heap.size, _, none⟩) (Nat.le_refl _) _).setCell (p := ⟨w.heap.size, _, none⟩) (Nat.le_refl _) _).setCell (p := ⟨w.heap.size, _, none⟩) (Nat.le_refl _) _).setCell (p := ⟨w.heap.size, _, none⟩) (Nat.le_refl _) _).setCell (p := ⟨w.heap.size, _, none⟩) (Nat.le_refl _) _).setCell (p := ⟨w.heap.size, _, none⟩) (Nat.le_refl _) _).setCell (p := ⟨w.heap.size, _, none⟩) (Nat.le_refl _) _).setCell (p := ⟨w.heap.size, _, none⟩) (Nat.le_refl _) _).alloc (by simp; omega) _
end Go.Proofs.YtlhoggalhjadgaaDoor
/- The contract of the reference's Texts: whether two lists of texts are one. -/
namespace Go.Proofs.YtlhoggalhjadgaaDoor
open Go.RowKit

theorem list_next {α : Type} {l m : List α} {k : Nat} {a : α} (h : l.take k = m.take k) (h1 : l[k]? = some a) (h2 : m[k]? = some a) : l.take (k + 1) = m.take (k + 1) := by
  rw [List.take_add_one, List.take_add_one, h, h1, h2]
set_option maxHeartbeats 1000000 in
theorem refTexts_any (A A' : Option Addr) (n n' c c' : Nat) (ss ts : List ByteArray) (w : World) (hn : n ≤ maxLen) (hn' : n' ≤ maxLen) (hr : Reads w w.heap.size 1 A n (ss.map Value.string)) (hr' : Reads w w.heap.size 1 A' n' (ts.map Value.string)) :
    Calls Tryd.prog 11 #[.slice A n c, .slice A' n' c'] w fun e w' => e = .returned (.bool (decide (ss = ts))) ∧ Drew w w' := by
  unfold maxLen at hn hn'
  have h1 : ss.length = n := by have := hr.1; simpa using this
  have h2 : ts.length = n' := by have := hr'.1; simpa using this
  by_cases he : n = n'
  · subst he
    have q0 : ((n : Int) != (n : Int)) = false := by simp
    have H1 := Lib.hid h1
    have H2 := Lib.hid h2
    have HR := Lib.hid hr
    have HR' := Lib.hid hr'
    clear h1 h2 hr hr'
    go_enter Tryd.func11, Tryd.ntmps11
    go_wp2
    go_loopw [13] (fun i wr => ∃ k : Nat, k ≤ n ∧ i = .int .i64 k ∧ Hid (Drew w wr) ∧ Hid (ss.take k = ts.take k)) (fun i _ => n - (intOf i).toNat)
    case atStart => exact ⟨0, Nat.zero_le _, rfl, Drew.refl w, rfl⟩
    case round =>
      obtain ⟨k, hk, rfl, HD, HE⟩ := hrel
      by_cases hlt : k < n
      · obtain ⟨ad, x, rfl, hx, hcell⟩ : ∃ ad nm, A = some ad ∧ Hid (ss[k]? = some nm) ∧ wr.cell? (ad.add k) = some (.string nm) := reads_str (HR.out.of_drew HD.out) hlt
        obtain ⟨ad', y, rfl, hy, hcell'⟩ : ∃ ad nm, A' = some ad ∧ Hid (ts[k]? = some nm) ∧ wr.cell? (ad.add k) = some (.string nm) := reads_str (HR'.out.of_drew HD.out) hlt
        have q1 : (0 : Int) ≤ (k : Int) := by omega
        have q2 : (k : Int) < (n : Int) := by omega
        by_cases hxy : x = y
        · subst hxy
          have HN := Lib.hid (list_next HE.out hx.out hy.out)
          go_wp2
          go_quiet (fail)
          go_wp2
          go_roundw
          case rel => exact ⟨k + 1, by omega, by go_num, by first | exact HD.out | exact HD.out.drewN _, HN⟩
          case measure => simp [intOf]; omega
        · have qe : (x.toList == y.toList) = false := by
            rw [beq_eq_false_iff_ne]
            intro e
            apply hxy
            rw [ByteArray.toList_eq, ByteArray.toList_eq] at e
            apply ByteArray.ext
            exact Array.ext' e
          have qe' : ¬ x.toList = y.toList := by simpa using qe
          have HN : Hid (decide (ss = ts) = false) := by
            show decide (ss = ts) = false
            apply decide_eq_false
            intro e
            apply hxy
            have a := hx.out
            rw [e, hy.out] at a
            exact (Option.some.inj a).symm
          clear hxy
          go_wp2
          go_quiet (fail)
          go_wp2
          go_ret
          exact ⟨ret_bool (by rw [HN.out]), by first | exact HD.out | exact HD.out.drewN _⟩
      · obtain rfl : k = n := by omega
        have HN : Hid (decide (ss = ts) = true) := by
          show decide (ss = ts) = true
          apply decide_eq_true
          have e := HE.out
          rw [List.take_of_length_le (by have := H1.out; omega), List.take_of_length_le (by have := H2.out; omega)] at e
          exact e
        go_wp2
        go_ret
        exact ⟨ret_bool (by rw [HN.out]), HD.out⟩
  · have q0 : ((n : Int) != (n' : Int)) = true := by simp; omega
    have HN : Hid (decide (ss = ts) = false) := by
      show decide (ss = ts) = false
      apply decide_eq_false
      intro e
      apply he
      rw [← h1, ← h2, e]
    clear h1 h2 hr hr' he
    go_enter Tryd.func11, Tryd.ntmps11
    go_wp2
    go_ret
    exact ⟨ret_bool (by rw [HN.out]), Drew.refl w⟩
end Go.Proofs.YtlhoggalhjadgaaDoor
/- The statements' own 'lives' of package rule. -/
namespace Go.Proofs.YtlhoggalhjadgaaDoor
open Go.RowKit

instance : DecidableEq Ru.R := fun a b => decidable_of_iff (a.nm = b.nm ∧ a.fr = b.fr ∧ a.tt = b.tt ∧ a.mo = b.mo ∧ a.k = b.k ∧ a.n = b.n ∧ a.d = b.d ∧ a.s = b.s ∧ a.c = b.c ∧ a.sv = b.sv ∧ a.lt = b.lt) (by cases a; cases b; simp)
theorem ruParse_is (A : Option Addr) (n c : Nat) (ss : List ByteArray) (w : World) (hW : Wp w) (hn : n ≤ c) (hc : c ≤ maxLen) (hr : Reads w w.heap.size 1 A n (ss.map Value.string)) (hs : ∀ t ∈ ss, t.size ≤ 1000000) (r : Ru.R) (a b : Int) (h : Ru.parse ss = (r, a, b)) :
    Calls Tryd.prog 7 #[.slice A n c] w fun e w' => e = .returned (.tuple #[r.v, .int .i64 a, .int .i64 b]) ∧ Below w.heap.size w w' := calls_val (ruParse_any A n c ss w hW hn hc hr hs) (by rw [h])
theorem reads_at (w : World) (g : Nat) (l : List ByteArray) (t : TypeId) (hg : g = w.heap.size) : Reads (w.alloc (.cells (strCells l) t)) (w.alloc (.cells (strCells l) t)).heap.size 1 (some ⟨g, 0, none⟩) l.length (l.map Value.string) := by
  subst hg
  exact reads_new w l t
theorem texts_yes (A A' : Option Addr) (n n' c c' : Nat) (ss ts : List ByteArray) (w : World) (hn : n ≤ maxLen) (hn' : n' ≤ maxLen) (hr : Reads w w.heap.size 1 A n (ss.map Value.string)) (hr' : Reads w w.heap.size 1 A' n' (ts.map Value.string)) (h : ss = ts) :
    Calls Tryd.prog 11 #[.slice A n c, .slice A' n' c'] w fun e w' => e = .returned (.bool true) ∧ Below w.heap.size w w' :=
  (calls_bool (refTexts_any A A' n n' c c' ss ts w hn hn' hr hr') (by rw [h]; simp)).mono fun _ _ ⟨a, d⟩ => ⟨a, d.below _⟩
theorem itoa_1981 : Lib.itoa 1981 = [49, 57, 56, 49] := by
  unfold Lib.itoa
  rw [if_neg (by decide)]
  rw [Lib.decDigits, dif_neg (by decide), Lib.decDigits, dif_neg (by decide), Lib.decDigits, dif_neg (by decide), Lib.decDigits, dif_pos (by decide)]
  rfl
def Ru.eu : Ru.R := ⟨⟨#[69, 85]⟩, 1981, 9999, 3, 1, 0, 0, 3600, 2, 3600, ⟨#[83]⟩⟩
def Ru.euL : List ByteArray := [⟨#[69, 85]⟩, ⟨#[49, 57, 56, 49]⟩, ⟨#[109, 97, 120]⟩, ⟨#[45]⟩, ⟨#[77, 97, 114]⟩, ⟨#[108, 97, 115, 116, 83, 117, 110]⟩, ⟨#[49, 58, 48, 48, 117]⟩, ⟨#[49, 58, 48, 48]⟩, ⟨#[83]⟩]
theorem eu_ok : Ru.eu.Ok := ⟨by decide +kernel, ⟨by decide +kernel, by decide +kernel, by decide +kernel⟩, ⟨by decide +kernel, by decide +kernel⟩, by decide +kernel, by decide +kernel, by decide +kernel, by decide +kernel⟩
theorem eu_texts : Ru.eu.texts = Ru.euL := by
  have e1 : (⟨(Mo.text 3600 2).toArray⟩ : ByteArray) = ⟨#[49, 58, 48, 48, 117]⟩ := by unfold Mo.text; rw [text_eq]; decide +kernel
  have e2 : (⟨(Ck.text 3600).toArray⟩ : ByteArray) = ⟨#[49, 58, 48, 48]⟩ := by rw [text_eq]; decide +kernel
  unfold Ru.R.texts Ru.eu
  simp only [itoa_1981, e1, e2]
  decide +kernel

end Go.Proofs.YtlhoggalhjadgaaDoor
