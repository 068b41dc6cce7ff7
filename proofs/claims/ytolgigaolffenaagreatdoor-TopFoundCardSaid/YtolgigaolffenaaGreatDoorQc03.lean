/- Package stamp: an instant as a stamp with a year, and back. -/
import Derived.Test.YtolgigaolffenaaGreatDoorQ06
import Derived.Test.YtolgigaolffenaaGreatDoorQ08
import Derived.Test.YtolgigaolffenaaGreatDoorQ01
import Derived.Deep.QuietTactic
import Derived.BigQuiet
import Derived.Test.YtolgigaolffenaaGreatDoorQc02
import Derived.Test.YtolgigaolffenaaGreatDoorQ38
import Derived.Test.YtolgigaolffenaaGreatDoorQ34

namespace Go.Proofs.YtolgigaolffenaaGreatDoor
open Go.RowKit Go.Sort

namespace Sm
structure S where
  y : Int
  mo : Int
  dw : Int
  d : Int
  h : Int
  mi : Int
  s : Int
  ms : Int
def S.v (s : S) : Value := .agg #[.int .u16 s.y, .int .u16 s.mo, .int .u16 s.dw, .int .u16 s.d, .int .u16 s.h, .int .u16 s.mi, .int .u16 s.s, .int .u16 s.ms]
def exact (n o : Int) : S := ⟨Cv.yearOf n, Cv.monthOf n, dow n, Cv.dayOf n, o / 3600000, o / 60000 % 60, o / 1000 % 60, o % 1000⟩
theorem day_in {n : Int} (h1 : -719162 ≤ n) (h2 : n < 2932897) : Cv.Valid (Cv.yearOf n) (Cv.monthOf n) (Cv.dayOf n) ∧ 1 ≤ Cv.dayOf n ∧ Cv.dayOf n ≤ 31 ∧ 1 ≤ Cv.monthOf n ∧ Cv.monthOf n ≤ 12 ∧ Cv.yearOf n ≤ 9999 := by
  have h := (Cv.num_of n h1 h2).1
  have k := valid_31 h
  obtain ⟨a1, a2, a3, a4, a5, a6⟩ := h
  exact ⟨⟨a1, a2, a3, a4, a5, a6⟩, k.1, k.2, a3, a4, a2⟩
theorem dow_in (n : Int) : 0 ≤ dow n ∧ dow n ≤ 6 := by unfold dow; omega
theorem wr16 {x : Int} (h : 0 ≤ x) (h2 : x < 65536) : IntKind.u16.wrap x = x := by
  rw [IntKind.wrap_u16]
  omega
theorem hour {o : Int} (h1 : 0 ≤ o) (h2 : o < 86400000) : o.tdiv 3600000 = o / 3600000 ∧ 0 ≤ o / 3600000 ∧ o / 3600000 ≤ 23 := ⟨Int.tdiv_eq_ediv_of_nonneg h1, by omega, by omega⟩
theorem minutes {o : Int} (h1 : 0 ≤ o) (h2 : o < 86400000) : o.tdiv 60000 = o / 60000 ∧ 0 ≤ o / 60000 ∧ o / 60000 < 1440 := ⟨Int.tdiv_eq_ediv_of_nonneg h1, by omega, by omega⟩
theorem seconds {o : Int} (h1 : 0 ≤ o) (h2 : o < 86400000) : o.tdiv 1000 = o / 1000 ∧ 0 ≤ o / 1000 ∧ o / 1000 < 86400 := ⟨Int.tdiv_eq_ediv_of_nonneg h1, by omega, by omega⟩
theorem mills {o : Int} (h1 : 0 ≤ o) : o.tmod 1000 = o % 1000 ∧ 0 ≤ o % 1000 ∧ o % 1000 ≤ 999 := ⟨Int.tmod_eq_emod_of_nonneg h1, by omega, by omega⟩
theorem sixty {m : Int} (h1 : 0 ≤ m) : m.tmod 60 = m % 60 ∧ 0 ≤ m % 60 ∧ m % 60 ≤ 59 := ⟨Int.tmod_eq_emod_of_nonneg h1, by omega, by omega⟩
theorem over (x : Int) : 0 ≤ x % 86400000 ∧ x % 86400000 < 86400000 ∧ x = x / 86400000 * 86400000 + x % 86400000 := by omega
theorem quo (x : Int) : (x.tdiv 86400000 = x / 86400000 ∧ x.tmod 86400000 = x % 86400000) ∨ (x.tdiv 86400000 = x / 86400000 + 1 ∧ x.tmod 86400000 = x % 86400000 - 86400000) := by
  by_cases hp : 0 ≤ x
  · exact .inl ⟨Int.tdiv_eq_ediv_of_nonneg hp, Int.tmod_eq_emod_of_nonneg hp⟩
  · obtain ⟨u, rfl⟩ : ∃ u, x = -u := ⟨-x, by omega⟩
    rw [Int.neg_tdiv, Int.neg_tmod, Int.tdiv_eq_ediv_of_nonneg (by omega), Int.tmod_eq_emod_of_nonneg (by omega)]
    omega
end Sm
theorem exact_results {tmps : Array Value} {w : World} {a : Nat} {Y m dw d hh mi ss mx : Int} (h2 : tmps[2]?.getD undef = .pointer (some ⟨a, 0, none⟩)) (h3 : tmps[3]?.getD undef = .int .i64 0) (hA : At w a [.int .u16 Y, .int .u16 m, .int .u16 dw, .int .u16 d, .int .u16 hh, .int .u16 mi, .int .u16 ss, .int .u16 mx]) :
    (results Tryz.f30 tmps).run Tryz.prog w = .ok (.tuple #[.agg #[.int .u16 Y, .int .u16 m, .int .u16 dw, .int .u16 d, .int .u16 hh, .int .u16 mi, .int .u16 ss, .int .u16 mx], .int .i64 0]) w := by
  have c0 := hA.cell 0 _ rfl
  have c1 := hA.cell 1 _ rfl
  have c2 := hA.cell 2 _ rfl
  have c3 := hA.cell 3 _ rfl
  have c4 := hA.cell 4 _ rfl
  have c5 := hA.cell 5 _ rfl
  have c6 := hA.cell 6 _ rfl
  have c7 := hA.cell 7 _ rfl
  simp [results, Tryz.f30, go_sem, h2, h3, c0, c1, c2, c3, c4, c5, c6, c7]
set_option maxHeartbeats 16000000 in
set_option maxRecDepth 100000 in
theorem stampExact_any (x : Int) (w : World) (h1 : -719162 ≤ x / 86400000) (h2 : x / 86400000 < 2932897) (hy : 1601 ≤ Cv.yearOf (x / 86400000)) :
    Calls Tryz.prog 30 #[.int .i64 x] w fun e w' => e = .returned (.tuple #[(Sm.exact (x / 86400000) (x % 86400000)).v, .int .i64 0]) ∧ Below w.heap.size w w' := by
  have hqu := Sm.quo x
  obtain ⟨ho3, ho2, hx⟩ := Sm.over x
  obtain ⟨n, hn⟩ : ∃ n, x / 86400000 = n := ⟨_, rfl⟩
  obtain ⟨o, ho⟩ : ∃ o, x % 86400000 = o := ⟨_, rfl⟩
  rw [hn] at h1 h2 hy
  rw [hn, ho] at hqu hx
  rw [ho] at ho3 ho2
  rw [hn, ho]
  have t1 : -62135596800000 ≤ x := by omega
  have t2 : x ≤ 253402300800000 := by omega
  clear hn ho hx
  obtain ⟨_, d1, d2, m1, m2, y2⟩ := Sm.day_in h1 h2
  have w1 := Sm.dow_in n
  have HO := Lib.hid fun W => of_ok n W h1 h2
  have HWd := Lib.hid fun W => (civWeekday_any n W).mono fun e w' h => (⟨h.1, h.2.symm⟩ : _ ∧ w' = W)
  unfold Sm.exact Sm.S.v
  simp only
  obtain ⟨Y, hY⟩ : ∃ q, Cv.yearOf n = q := ⟨_, rfl⟩
  obtain ⟨m, hm⟩ : ∃ q, Cv.monthOf n = q := ⟨_, rfl⟩
  obtain ⟨d, hd⟩ : ∃ q, Cv.dayOf n = q := ⟨_, rfl⟩
  obtain ⟨dw, hdw⟩ : ∃ q, dow n = q := ⟨_, rfl⟩
  rw [hY, hm, hd] at HO
  rw [hY, hm, hd, hdw]
  rw [hY] at hy y2
  rw [hm] at m1 m2
  rw [hd] at d1 d2
  rw [hdw] at w1 HWd
  obtain ⟨g, hg⟩ : ∃ g, w.heap.size = g := ⟨_, rfl⟩
  obtain ⟨W1, hW1⟩ : ∃ W, w.alloc (.cells #[.int .u16 0, .int .u16 0, .int .u16 0, .int .u16 0, .int .u16 0, .int .u16 0, .int .u16 0, .int .u16 0] 84) = W := ⟨_, rfl⟩
  have hb1 : Below w.heap.size w W1 := by rw [← hW1]; exact (Below.refl _ _).alloc (Nat.le_refl _) _
  have hX1 : At W1 g [.int .u16 0, .int .u16 0, .int .u16 0, .int .u16 0, .int .u16 0, .int .u16 0, .int .u16 0, .int .u16 0] := by rw [← hW1, ← hg]; exact At.new _ _ _
  have hgw : w.heap.size ≤ g := by omega
  have HB1 := Lib.hid hb1
  have HX1 := Lib.hid hX1
  have HW1 := Lib.hid hW1
  obtain ⟨a1, b11, b12⟩ := Sm.hour ho3 ho2
  obtain ⟨a2, b21, b22⟩ := Sm.minutes ho3 ho2
  obtain ⟨a4, b41, b42⟩ := Sm.seconds ho3 ho2
  obtain ⟨a6, b61, b62⟩ := Sm.mills ho3
  obtain ⟨a3, b31, b32⟩ := Sm.sixty b21
  obtain ⟨a5, b51, b52⟩ := Sm.sixty b41
  obtain ⟨hh, hhh⟩ : ∃ q, o / 3600000 = q := ⟨_, rfl⟩
  obtain ⟨mt, hmt⟩ : ∃ q, o / 60000 = q := ⟨_, rfl⟩
  rw [hmt] at a2 a3 b21 b22 b31 b32 ⊢
  obtain ⟨mi, hmi⟩ : ∃ q, mt % 60 = q := ⟨_, rfl⟩
  obtain ⟨sx, hsx⟩ : ∃ q, o / 1000 = q := ⟨_, rfl⟩
  rw [hsx] at a4 a5 b41 b42 b51 b52 ⊢
  obtain ⟨ss, hss⟩ : ∃ q, sx % 60 = q := ⟨_, rfl⟩
  obtain ⟨mx, hmx⟩ : ∃ q, o % 1000 = q := ⟨_, rfl⟩
  rw [hhh] at a1 b11 b12
  rw [hmi] at a3 b31 b32
  rw [hss] at a5 b51 b52
  rw [hmx] at a6 b61 b62
  rw [hhh, hmi, hss, hmx]
  clear hhh hmt hmi hsx hss hmx
  have u1 : IntKind.u16.wrap Y = Y := Sm.wr16 (by omega) (by omega)
  have u2 : IntKind.u16.wrap m = m := Sm.wr16 (by omega) (by omega)
  have u3 : IntKind.u16.wrap dw = dw := Sm.wr16 (by omega) (by omega)
  have u4 : IntKind.u16.wrap d = d := Sm.wr16 (by omega) (by omega)
  have u5 : IntKind.u16.wrap hh = hh := Sm.wr16 (by omega) (by omega)
  have u6 : IntKind.u16.wrap mi = mi := Sm.wr16 (by omega) (by omega)
  have u7 : IntKind.u16.wrap ss = ss := Sm.wr16 (by omega) (by omega)
  have u8 : IntKind.u16.wrap mx = mx := Sm.wr16 (by omega) (by omega)
  have v1 : IntKind.i64.wrap hh = hh := by rw [IntKind.wrap_i64]; omega
  have v2 : IntKind.i64.wrap mt = mt := by rw [IntKind.wrap_i64]; omega
  have v3 : IntKind.i64.wrap mi = mi := by rw [IntKind.wrap_i64]; omega
  have v4 : IntKind.i64.wrap sx = sx := by rw [IntKind.wrap_i64]; omega
  have v5 : IntKind.i64.wrap ss = ss := by rw [IntKind.wrap_i64]; omega
  have v6 : IntKind.i64.wrap mx = mx := by rw [IntKind.wrap_i64]; omega
  have p1 : ¬ Y < 1601 := by omega
  have p2 : ¬ 9999 < Y := by omega
  have HA := Lib.hid (And.intro a1 (And.intro a2 (And.intro a3 (And.intro a4 (And.intro a5 a6)))))
  have HU := Lib.hid (And.intro u1 (And.intro u2 (And.intro u3 (And.intro u4 (And.intro u5 (And.intro u6 (And.intro u7 u8)))))))
  have HV := Lib.hid (And.intro v1 (And.intro v2 (And.intro v3 (And.intro v4 (And.intro v5 v6)))))
  clear hY hm hd hdw hb1 hX1 hW1 d1 d2 m1 m2 y2 w1 hy b11 b12 b21 b22 b31 b32 b41 b42 b51 b52 b61 b62 a1 a2 a3 a4 a5 a6 u1 u2 u3 u4 u5 u6 u7 u8 v1 v2 v3 v4 v5 v6
  rcases hqu with ⟨e1, e2⟩ | ⟨e1, e2⟩
  · have hno : ¬ o < 0 := by omega
    go_enter Tryz.func30, Tryz.ntmps30
    go_wp2_with fail
    rw [HW1.out]
    refine (HO.out _).mono ?_
    rintro e v2 ⟨rfl, hb⟩
    obtain ⟨W2, hW2⟩ : ∃ W, v2.alloc (.cells #[.int .i64 Y, .int .i64 m, .int .i64 d] 152) = W := ⟨_, rfl⟩
    have hbn : Below v2.heap.size v2 W2 := by rw [← hW2]; exact (Below.refl _ _).alloc (Nat.le_refl _) _
    obtain ⟨g2, hg2⟩ : ∃ g, v2.heap.size = g := ⟨_, rfl⟩
    have hA2 : At W2 g2 [.int .i64 Y, .int .i64 m, .int .i64 d] := by rw [← hW2, ← hg2]; exact At.new _ _ _
    have hbb : Below W1.heap.size W1 W2 := hb.trans (hbn.mono hb.size)
    have HB2 := Lib.hid (HB1.out.trans (hbb.mono HB1.out.size))
    have HX2 := Lib.hid (HX1.out.call hbb)
    have HW2 := Lib.hid hW2
    have HG2 := Lib.hid hg2
    obtain ⟨c0, c1, c2, _⟩ := hA2.three
    have zc := hA2.lt
    clear hb hbn hbb hW2 hg2 hA2
    go_upto_region 5 with fail
    rw [HW2.out]
    try rw [HG2.out]
    go_upto_region 7 with fail
    obtain ⟨a1, a2, a3, a4, a5, a6⟩ := HA.out
    obtain ⟨u1, u2, u3, u4, u5, u6, u7, u8⟩ := HU.out
    obtain ⟨v1, v2, v3, v4, v5, v6⟩ := HV.out
    refine wp_region_quiet_tail (C := fun w' => ∃ j, w' = W2.drewN j) 27 (by kernel_rfl) (by kernel_rfl) ⟨1, rfl⟩ ?_
    repeat (quiet_step (first | (go_at_call 65; exact Calls.quiet_of_same (HWd.out _))))
    refine wpQuiet_nil ?_
    intro wz hwz
    obtain ⟨nq, rfl⟩ := hwz
    obtain ⟨W3, hW3⟩ : ∃ X, W2.drewN nq = X := ⟨_, rfl⟩
    have hb3 : Below W2.heap.size W2 W3 := by rw [← hW3]; exact (show Drew W2 (W2.drewN nq) from ⟨nq, rfl⟩).below _
    rw [hW3]
    have HB3 := Lib.hid (HB2.out.trans (hb3.mono HB2.out.size))
    have hX3 := HX2.out.call hb3
    have y0 := hX3.cell 0 _ rfl
    have y1 := hX3.cell 1 _ rfl
    have y2 := hX3.cell 2 _ rfl
    have y3 := hX3.cell 3 _ rfl
    have y4 := hX3.cell 4 _ rfl
    have y5 := hX3.cell 5 _ rfl
    have y6 := hX3.cell 6 _ rfl
    have y7 := hX3.cell 7 _ rfl
    have f0 := hX3.free 0 _ rfl
    have f1 := hX3.free 1 _ rfl
    have f2 := hX3.free 2 _ rfl
    have f3 := hX3.free 3 _ rfl
    have f4 := hX3.free 4 _ rfl
    have f5 := hX3.free 5 _ rfl
    have f6 := hX3.free 6 _ rfl
    have f7 := hX3.free 7 _ rfl
    have zy := hX3.lt
    clear hW3 hb3 c0 c1 c2 zc
    show wpList _ _ _ (_ :: _) _ _
    go_wp2_with fail
    have hF := (((((((hX3.set 0 (.int .u16 Y)).set 1 (.int .u16 m)).set 2 (.int .u16 dw)).set 3 (.int .u16 d)).set 4 (.int .u16 hh)).set 5 (.int .u16 mi)).set 6 (.int .u16 ss)).set 7 (.int .u16 mx)
    refine bodyPost_ret (exact_results rfl rfl hF) rfl ⟨rfl, ?_⟩
    exact (((((((HB3.out.setCell (p := ⟨g, 0, none⟩) hgw _).setCell (p := ⟨g, 1, none⟩) hgw _).setCell (p := ⟨g, 2, none⟩) hgw _).setCell (p := ⟨g, 3, none⟩) hgw _).setCell (p := ⟨g, 4, none⟩) hgw _).setCell (p := ⟨g, 5, none⟩) hgw _).setCell (p := ⟨g, 6, none⟩) hgw _).setCell (p := ⟨g, 7, none⟩) hgw _
  · have hno : o - 86400000 < 0 := by omega
    go_enter Tryz.func30, Tryz.ntmps30
    go_wp2_with fail
    rw [HW1.out]
    refine (HO.out _).mono ?_
    rintro e v2 ⟨rfl, hb⟩
    obtain ⟨W2, hW2⟩ : ∃ W, v2.alloc (.cells #[.int .i64 Y, .int .i64 m, .int .i64 d] 152) = W := ⟨_, rfl⟩
    have hbn : Below v2.heap.size v2 W2 := by rw [← hW2]; exact (Below.refl _ _).alloc (Nat.le_refl _) _
    obtain ⟨g2, hg2⟩ : ∃ g, v2.heap.size = g := ⟨_, rfl⟩
    have hA2 : At W2 g2 [.int .i64 Y, .int .i64 m, .int .i64 d] := by rw [← hW2, ← hg2]; exact At.new _ _ _
    have hbb : Below W1.heap.size W1 W2 := hb.trans (hbn.mono hb.size)
    have HB2 := Lib.hid (HB1.out.trans (hbb.mono HB1.out.size))
    have HX2 := Lib.hid (HX1.out.call hbb)
    have HW2 := Lib.hid hW2
    have HG2 := Lib.hid hg2
    obtain ⟨c0, c1, c2, _⟩ := hA2.three
    have zc := hA2.lt
    clear hb hbn hbb hW2 hg2 hA2
    go_upto_region 5 with fail
    rw [HW2.out]
    try rw [HG2.out]
    go_upto_region 7 with fail
    obtain ⟨a1, a2, a3, a4, a5, a6⟩ := HA.out
    obtain ⟨u1, u2, u3, u4, u5, u6, u7, u8⟩ := HU.out
    obtain ⟨v1, v2, v3, v4, v5, v6⟩ := HV.out
    refine wp_region_quiet_tail (C := fun w' => ∃ j, w' = W2.drewN j) 27 (by kernel_rfl) (by kernel_rfl) ⟨1, rfl⟩ ?_
    repeat (quiet_step (first | (go_at_call 65; exact Calls.quiet_of_same (HWd.out _))))
    refine wpQuiet_nil ?_
    intro wz hwz
    obtain ⟨nq, rfl⟩ := hwz
    obtain ⟨W3, hW3⟩ : ∃ X, W2.drewN nq = X := ⟨_, rfl⟩
    have hb3 : Below W2.heap.size W2 W3 := by rw [← hW3]; exact (show Drew W2 (W2.drewN nq) from ⟨nq, rfl⟩).below _
    rw [hW3]
    have HB3 := Lib.hid (HB2.out.trans (hb3.mono HB2.out.size))
    have hX3 := HX2.out.call hb3
    have y0 := hX3.cell 0 _ rfl
    have y1 := hX3.cell 1 _ rfl
    have y2 := hX3.cell 2 _ rfl
    have y3 := hX3.cell 3 _ rfl
    have y4 := hX3.cell 4 _ rfl
    have y5 := hX3.cell 5 _ rfl
    have y6 := hX3.cell 6 _ rfl
    have y7 := hX3.cell 7 _ rfl
    have f0 := hX3.free 0 _ rfl
    have f1 := hX3.free 1 _ rfl
    have f2 := hX3.free 2 _ rfl
    have f3 := hX3.free 3 _ rfl
    have f4 := hX3.free 4 _ rfl
    have f5 := hX3.free 5 _ rfl
    have f6 := hX3.free 6 _ rfl
    have f7 := hX3.free 7 _ rfl
    have zy := hX3.lt
    clear hW3 hb3 c0 c1 c2 zc
    show wpList _ _ _ (_ :: _) _ _
    go_wp2_with fail
    have hF := (((((((hX3.set 0 (.int .u16 Y)).set 1 (.int .u16 m)).set 2 (.int .u16 dw)).set 3 (.int .u16 d)).set 4 (.int .u16 hh)).set 5 (.int .u16 mi)).set 6 (.int .u16 ss)).set 7 (.int .u16 mx)
    refine bodyPost_ret (exact_results rfl rfl hF) rfl ⟨rfl, ?_⟩
    exact (((((((HB3.out.setCell (p := ⟨g, 0, none⟩) hgw _).setCell (p := ⟨g, 1, none⟩) hgw _).setCell (p := ⟨g, 2, none⟩) hgw _).setCell (p := ⟨g, 3, none⟩) hgw _).setCell (p := ⟨g, 4, none⟩) hgw _).setCell (p := ⟨g, 5, none⟩) hgw _).setCell (p := ⟨g, 6, none⟩) hgw _).setCell (p := ⟨g, 7, none⟩) hgw _
end Go.Proofs.YtolgigaolffenaaGreatDoor

/- What the laws of the tenth stage ask first. -/
namespace Go.Proofs.YtolgigaolffenaaGreatDoor
open Go.RowKit

theorem right_one (p : Ln.Sp) : Lo.Right [p] := ⟨by simp, fun k x y hx hy => by
  cases k <;> simp at hy⟩
set_option maxHeartbeats 8000000 in
set_option maxRecDepth 200000 in
theorem begins10_any (w : World) : Calls Tryz.prog 27 #[] w fun e w' => e = .returned (.bool true) ∧ Below w.heap.size w w' := by
  obtain ⟨W1, hW1⟩ : ∃ W, w.alloc (.cells #[.int .i64 0, .int .i64 5, .bool false] 71) = W := ⟨_, rfl⟩
  have hb1 : Below w.heap.size w W1 := by rw [← hW1]; exact (Below.refl _ _).alloc (Nat.le_refl _) _
  have hA1 : At W1 w.heap.size [.int .i64 0, .int .i64 5, .bool false] := by rw [← hW1]; exact At.new _ _ _
  have HLa := Lib.hid (lookAt_any [⟨0, 5, false⟩] 7 (some ⟨w.heap.size, 0, none⟩) 1 1 W1 rfl (by omega) (right_one _) (fun x hx => by
    obtain rfl : _ = x := by simpa using hx
    decide) (Lit.reads hA1 rfl))
  have he : Sm.exact (0 / 86400000) (0 % 86400000) = ⟨1970, 1, 4, 1, 0, 0, 0, 0⟩ := by
    have h1 : Cv.yearOf 0 = 1970 := by decide +kernel
    have h2 : Cv.monthOf 0 = 1 := by decide +kernel
    have h3 : Cv.dayOf 0 = 1 := by decide +kernel
    have h4 : dow 0 = 4 := by decide +kernel
    show Sm.S.mk (Cv.yearOf 0) (Cv.monthOf 0) (dow 0) (Cv.dayOf 0) _ _ _ _ = _
    rw [h1, h2, h3, h4]
    rfl
  have HEx := Lib.hid fun W => he ▸ stampExact_any 0 W (by decide) (by decide) (by decide +kernel)
  have HB1 := Lib.hid hb1
  have HW1 := Lib.hid hW1
  have hq1 : ∀ W, (Op.equalIn 10000 71 (.agg #[.int .i64 0, .int .i64 5, .bool false]) (.agg #[.int .i64 0, .int .i64 5, .bool false])).run Tryz.prog W = .ok true W := fun W => by kernel_rfl
  have hq2 : ∀ W, (Op.equalIn 10000 84 (.agg #[.int .u16 1970, .int .u16 1, .int .u16 4, .int .u16 1, .int .u16 0, .int .u16 0, .int .u16 0, .int .u16 0]) (.agg #[.int .u16 1970, .int .u16 1, .int .u16 4, .int .u16 1, .int .u16 0, .int .u16 0, .int .u16 0, .int .u16 0])).run Tryz.prog W = .ok true W := fun W => by kernel_rfl
  clear hb1 hA1 hW1 he
  go_enter Tryz.func27, Tryz.ntmps27
  go_wp2_with fail
  rw [HW1.out]
  refine HLa.out.mono ?_
  rintro e v2 ⟨⟨k, x, hA, hx, rfl⟩, hb2⟩
  obtain ⟨rfl, rfl⟩ : k = 0 ∧ x = ⟨0, 5, false⟩ := by
    cases k with
    | zero =>
      obtain rfl : _ = x := by simpa using hx
      exact ⟨rfl, rfl⟩
    | succ k => simp at hx
  unfold Ln.Sp.v
  simp only
  obtain ⟨W2, hW2⟩ : ∃ W, v2.alloc (.cells #[.int .i64 0, .int .i64 5, .bool false] 71) = W := ⟨_, rfl⟩
  have hbn : Below v2.heap.size v2 W2 := by rw [← hW2]; exact (Below.refl _ _).alloc (Nat.le_refl _) _
  obtain ⟨g2, hg2⟩ : ∃ g, v2.heap.size = g := ⟨_, rfl⟩
  have hA2 : At W2 g2 [.int .i64 0, .int .i64 5, .bool false] := by rw [← hW2, ← hg2]; exact At.new _ _ _
  have HB2 := Lib.hid (HB1.out.trans ((hb2.trans (hbn.mono hb2.size)).mono HB1.out.size))
  have HA2 := Lib.hid hA2
  have HW2 := Lib.hid hW2
  have HG2 := Lib.hid hg2
  clear hb2 hbn hW2 hA2 hg2 hA hx
  go_wp2_with fail
  rw [HW2.out]
  try rw [HG2.out]
  refine (HEx.out W2).mono ?_
  rintro e v3 ⟨rfl, hb3⟩
  unfold Sm.S.v
  simp only
  obtain ⟨c0, c1, c2, _⟩ := (HA2.out.call hb3).three
  have zc := (HA2.out.call hb3).lt
  have HB3 := Lib.hid (HB2.out.trans (hb3.mono HB2.out.size))
  have HB4 := Lib.hid (HB3.out.alloc HB3.out.size (.cells #[.int .u16 1970, .int .u16 1, .int .u16 4, .int .u16 1, .int .u16 0, .int .u16 0, .int .u16 0, .int .u16 0] 84))
  clear hb3
  go_wp2
  go_ret
  exact ⟨by first | rfl | exact ret_bool (by decide), HB4.out⟩
end Go.Proofs.YtolgigaolffenaaGreatDoor

/- TopFound: the walk. -/
namespace Go.Proofs.YtolgigaolffenaaGreatDoor
open Go.RowKit Go.Shelf

set_option maxHeartbeats 16000000 in
set_option maxRecDepth 200000 in
theorem topFound_any (s : Src.S) (z lo hi t : Int) (rv zv lv : Value) (evs : List Value) (w : World) (hR : Src.SrcR w w.heap.size s rv zv lv evs) (hw : Src.Wide s) (hW : Wo w) (hA : Wa w) (hz : -9223372036854775808 ≤ z ∧ z < 9223372036854775808)
    (hlo : -9223372036854775808 ≤ lo ∧ lo < 9223372036854775808) (hhi : -9223372036854775808 ≤ hi ∧ hi < 9223372036854775808) :
    Calls Tryz.prog 8 #[.agg #[rv, zv, lv], .int .i64 z, .int .i64 lo, .int .i64 hi, .int .i64 t] w fun e w' => e = .returned (.bool true) ∧ Below w.heap.size w w' := by
  have hcc : ∀ x ∈ s.zones, ∀ e ∈ x.2, 0 ≤ e.u.c := fun x hx e he => ((hw.zones x hx).2 e he).1
  have hsz : Src.Few s → Vd.Sz s := fun hf => ⟨⟨by have := hf.nr; omega, by have := hf.nz; omega, by have := hf.nl; omega⟩, fun x hx => by have := (hf.zones x hx).1; omega, hw.smw⟩
  have hwc : ∀ r ∈ s.rules, 0 ≤ r.c := fun r hr => (hw.rules r hr).1
  have HNe0 := Lib.hid fun W (hb : Below w.heap.size w W) => near16_some s rv zv lv evs 2100 W (hR.call hb) hw (by omega)
  have HLn := Lib.hid fun (hf : Src.Few s) W (hb : Below w.heap.size w W) => lnOf_any s z lo hi rv zv lv evs W (hR.call hb) (hsz hf) (hW.below hb) (hA.below hb) hz hlo hhi hcc hwc
  have HAt0 := Lib.hid fun (hf : Src.Few s) t' (h1 : -9223372036854775808 ≤ t' ∧ t' < 9223372036854775808) W (hb : Below w.heap.size w W) => idAt_any s z t' rv zv lv evs W (hR.call hb) (hsz hf) (hW.below hb) (hA.below hb) hz h1 hcc hwc
  have HRu := Lib.hid fun (hf : Src.Few s) (h : Vd.well s = true) => Eg.rules_ok2 h (hsz hf).lims.rules
  obtain ⟨rA, rc, rfl, _⟩ := hR.rules
  obtain ⟨zA, zc, rfl, _⟩ := hR.zones
  obtain ⟨lA, lc, rfl, _⟩ := hR.links
  obtain ⟨n1, hn1⟩ : ∃ n, s.rules.length = n := ⟨_, rfl⟩
  obtain ⟨n2, hn2⟩ : ∃ n, s.zones.length = n := ⟨_, rfl⟩
  obtain ⟨n3, hn3⟩ : ∃ n, s.links.length = n := ⟨_, rfl⟩
  rw [hn1, hn2, hn3] at HNe0 HLn HAt0
  rw [hn1, hn2, hn3]
  obtain ⟨W1, hW1⟩ : ∃ W, w.alloc (.cells #[.slice rA n1 rc, .slice zA n2 zc, .slice lA n3 lc] 26) = W := ⟨_, rfl⟩
  have hb1 : Below w.heap.size w W1 := by rw [← hW1]; exact (Below.refl _ _).alloc (Nat.le_refl _) _
  have hA1 : At W1 w.heap.size [.slice rA n1 rc, .slice zA n2 zc, .slice lA n3 lc] := by rw [← hW1]; exact At.new _ _ _
  have HBg := Lib.hid (begins10_any W1)
  have HA1 := Lib.hid hA1
  have HB1 := Lib.hid hb1
  have HW1 := Lib.hid hW1
  obtain ⟨X, hX⟩ : ∃ x, IntKind.i64.wrap (hi - lo) = x := ⟨_, rfl⟩
  clear hn1 hn2 hn3 hb1 hA1 hW1 hR hw hW hA hcc hsz hwc
  go_enter Tryz.func8, Tryz.ntmps8
  go_wp2_with fail
  rw [HW1.out]
  refine HBg.out.mono ?_
  rintro e w2 ⟨rfl, hb2⟩
  have HA2 := Lib.hid (HA1.out.call hb2)
  have HB2 := Lib.hid (HB1.out.trans (hb2.mono HB1.out.size))
  obtain ⟨b0, b1, b2, _⟩ := HA2.out.three
  have zz := HA2.out.lt
  clear hb2
  have HNe := Lib.hid (HNe0.out w2 HB2.out)
  go_wp2_with fail
  refine HNe.out.mono ?_
  rintro e w3 ⟨he, hb3⟩
  have HA3 := Lib.hid (HA2.out.call hb3)
  have HB3 := Lib.hid (HB2.out.trans (hb3.mono HB2.out.size))
  clear hb3 b0 b1 b2 zz HNe
  obtain ⟨b0, b1, b2, _⟩ := HA3.out.three
  have zz := HA3.out.lt
  rcases he with rfl | ⟨rfl, hfew⟩
  · clear hX
    go_wp2
    go_ret
    exact ⟨rfl, HB3.out⟩
  have hc : lo < 1600 ∨ (¬ lo < 1600 ∧ 2098 < hi) ∨ (¬ lo < 1600 ∧ ¬ 2098 < hi ∧ 30 < X) ∨ (¬ lo < 1600 ∧ ¬ 2098 < hi ∧ ¬ 30 < X) := by omega
  rcases hc with k1 | ⟨k1, k2⟩ | ⟨k1, k2, k3⟩ | ⟨k1, k2, k3⟩
  · go_wp2
    go_ret
    exact ⟨rfl, HB3.out⟩
  · go_wp2
    go_ret
    exact ⟨rfl, HB3.out⟩
  · go_wp2
    go_ret
    exact ⟨rfl, HB3.out⟩
  have HC1 := Lib.hid (HLn.out hfew w3 HB3.out)
  go_wp2_with fail
  refine HC1.out.mono ?_
  rintro e w4 ⟨hb4, h4⟩
  have HA4 := Lib.hid (HA3.out.call hb4)
  have HB4 := Lib.hid (HB3.out.trans (hb4.mono HB3.out.size))
  clear hb4 b0 b1 b2 zz HC1
  rcases h4 with ⟨hno, rfl⟩ | ⟨hwe, hno, rfl⟩ | ⟨_, _, _, hx, rfl⟩ | ⟨x, v, hwe, hx, hin, rfl, ho4⟩
  · clear hno
    go_wp2
    go_ret
    exact ⟨rfl, HB4.out⟩
  · clear hno
    go_wp2
    go_ret
    exact ⟨rfl, HB4.out⟩
  · clear hx
    go_wp2
    go_ret
    exact ⟨rfl, HB4.out⟩
  obtain ⟨vA, vc, rfl, hv1, hv2⟩ := own_slice_cap ho4
  have hzo := Eg.zone_ok hwe (show x ∈ s.zones by
    unfold Eg.zoneAt at hx
    split at hx
    · exact List.mem_of_getElem? hx
    · cases hx)
  have hRu := HRu.out hfew hwe
  have hcov := Ln.lineOf_cov hRu hzo hin
  have hlen := Tp.len_le hRu hzo hin
  have hne := Ln.lineOf_ne hRu hzo hin
  have hys := Ln.years_in hin.1 hin.2.1 hin.2.2.1
  obtain ⟨fr, hfr⟩ : ∃ q, Oc.D lo * 86400 = q := ⟨_, rfl⟩
  obtain ⟨te, hte⟩ : ∃ q, Oc.D (hi + 1) * 86400 = q := ⟨_, rfl⟩
  have hinT : ∀ t', fr ≤ t' → t' < te → Ln.InT t' := fun t' h1 h2 => Ln.inT_of hin (by rw [hfr]; exact h1) (by rw [hte]; exact h2)
  obtain ⟨f, hf⟩ : ∃ f, Ln.st s.rules x.2 (Eg.ends s.rules x.2) = f := ⟨_, rfl⟩
  have HAt : Hid (∀ W t' o d, Below w.heap.size w W → fr ≤ t' → t' < te → f t' = (o, d) → Calls Tryz.prog 23 #[.agg #[.slice rA n1 rc, .slice zA n2 zc, .slice lA n3 lc], .int .i64 z, .int .i64 t'] W fun e w' => (∃ ab, e = .returned (.tuple #[.agg #[.int .i64 o, .bool d, .string ab], .int .i64 0])) ∧ Below W.heap.size W w') := fun W t' o d hb h1 h2 h3 => by
    have hT := hinT t' h1 h2
    have hTd := hT.1
    refine (HAt0.out hfew t' (by unfold Ln.InDays at hTd; omega) W hb).mono ?_
    rintro e w' ⟨rfl, hb'⟩
    rw [Ln.atT_of hwe hx hT]
    have h4 := Ln.stAt_st s.rules x.2 t'
    rw [hf, h3] at h4
    injection h4 with h5 h6
    exact ⟨⟨_, by unfold Ln.St.v; simp only; rw [h5, h6]⟩, hb'⟩
  rw [hfr, hte, hf] at hcov
  obtain ⟨L, hL⟩ : ∃ L, Ln.lineOf s x.2 lo hi = L := ⟨_, rfl⟩
  rw [hL] at hcov hlen hne ho4 hv1
  rw [hL]
  obtain ⟨n, hn⟩ : ∃ n, L.length = n := ⟨_, rfl⟩
  rw [hn] at hlen hv1 ho4
  rw [hn]
  have hn0 : 0 < n := by
    cases L with
    | nil => exact absurd rfl hne
    | cons a L => rw [← hn]; exact Nat.succ_pos _
  have e1 : Ln.begin_ lo = (fr, 0) := by unfold Ln.begin_; rw [if_pos (by have := hin.1; have := hin.2.1; have := hin.2.2.1; omega), hfr]
  have e2 : Ln.begin_ (hi + 1) = (te, 0) := by unfold Ln.begin_; rw [if_pos (by have := hin.1; have := hin.2.1; have := hin.2.2.1; omega), hte]
  have HBf := Lib.hid fun W => e1 ▸ lnBegin_any lo W
  have HBt := Lib.hid fun W => e2 ▸ lnBegin_any (hi + 1) W
  have wt : IntKind.i64.wrap (hi + 1) = hi + 1 := by rw [IntKind.wrap_i64]; omega
  have hlt := hys.1
  rw [hfr, hte] at hlt
  have hrt := Lo.right_cov hcov hlt
  have HCv := Lib.hid hcov
  have HN := Lib.hid hn
  have HR4 := Lib.hid (Reads.of_own ho4)
  have h0 : ∀ x, L[0]? = some x → x.fr = fr := fun x hx => by
    cases L with
    | nil => cases hx
    | cons a L =>
      obtain rfl : a = x := by simpa using hx
      exact hcov.1
  have HF0 := Lib.hid h0
  have HFt := Lib.hid (show -62135596800 ≤ fr ∧ te ≤ 253402300800 by
    have h1 := hys.2.1
    have h2 := hys.2.2.1
    rw [hfr] at h1
    rw [hte] at h2
    unfold Ln.InDays at h1 h2
    omega)
  have HCk := Lib.hid fun W (hb : Below w4.heap.size w4 W) => lookCheck_any L vA n vc W hn (by omega) hrt ((HR4.out.below hb).more hb.size)
  have HLa := Lib.hid fun (h : fr ≤ t) W (hb : Below w4.heap.size w4 W) => lookAt_any L t vA n vc W hn (by omega) hrt (fun x hx => by rw [HF0.out x hx]; exact h) ((HR4.out.below hb).more hb.size)
  have HLn := Lib.hid fun W (hb : Below w4.heap.size w4 W) => lookNext_any L t vA n vc W hn (by omega) hrt ((HR4.out.below hb).more hb.size)
  clear hcov hn hL hf hfr hte hys hinT e1 e2 hne hwe hx hzo hRu hin hfew hX ho4 k1 k2 k3 hrt h0 hlt
  go_wp2_with fail
  refine (HBf.out _).mono ?_
  rintro e w5 ⟨rfl, rfl⟩
  go_wp2_with fail
  refine (HBt.out _).mono ?_
  rintro e w5 ⟨rfl, rfl⟩
  go_wp2_with fail
  refine (HCk.out w4 (Below.refl _ _)).mono ?_
  rintro e w5 ⟨rfl, hb5⟩
  have HB5 := Lib.hid (HB4.out.trans (hb5.mono HB4.out.size))
  have HAs5 := Lib.hid (HA4.out.call hb5)
  have HD5 := Lib.hid hb5
  clear hb5
  by_cases h1 : t < fr
  · go_wp2
    go_ret
    exact ⟨rfl, HB5.out⟩
  by_cases h2 : te ≤ t
  · go_wp2
    go_ret
    exact ⟨rfl, HB5.out⟩
  have HC6 := Lib.hid (HLa.out (by omega) w5 HD5.out)
  go_wp2_with fail
  refine HC6.out.mono ?_
  rintro e v6 ⟨⟨k, x6, hAb, hx6, rfl⟩, hb⟩
  unfold Ln.Sp.v
  obtain ⟨n', x', e', hx', hft, -⟩ := Lo.cov_from HCv.out (show fr ≤ t by omega) (show t < te by omega) hAb
  obtain rfl : n' = k := by omega
  rw [hx6] at hx'
  obtain rfl := Option.some.inj hx'
  obtain ⟨w6, hw6⟩ : ∃ W, v6.alloc (.cells #[.int .i64 x6.fr, .int .i64 x6.off, .bool x6.dst] 71) = W := ⟨_, rfl⟩
  have hbn : Below v6.heap.size v6 w6 := by rw [← hw6]; exact (Below.refl _ _).alloc (Nat.le_refl _) _
  obtain ⟨g6, hg6⟩ : ∃ g, v6.heap.size = g := ⟨_, rfl⟩
  have hA6 : At w6 g6 [.int .i64 x6.fr, .int .i64 x6.off, .bool x6.dst] := by rw [← hw6, ← hg6]; exact At.new _ _ _
  have hbb : Below w5.heap.size w5 w6 := hb.trans (hbn.mono hb.size)
  have HB6 := Lib.hid (HB5.out.trans (hbb.mono HB5.out.size))
  have HAs6 := Lib.hid (HAs5.out.call hbb)
  have HD6 := Lib.hid (below_then HD5.out hbb)
  have HS6 := Lib.hid hA6
  have HW6 := Lib.hid hw6
  have HG6 := Lib.hid hg6
  have HAb := Lib.hid hAb
  have HX6 := Lib.hid hx6
  have HFt6 := Lib.hid hft
  clear hb hbn hA6 hbb hw6 hg6 hAb hx6 hft e' HC6
  have HCt6 := Lib.hid (HAt.out w6 (t) x6.off x6.dst HB6.out (by omega) (by omega) HFt6.out)
  obtain ⟨b0, b1, b2, _⟩ := HAs6.out.three
  have zz := HAs6.out.lt
  go_upto_region 15 with fail
  rw [HW6.out]
  try rw [HG6.out]
  go_wp2_with fail
  refine HCt6.out.mono ?_
  rintro e v7 ⟨⟨ab, rfl⟩, hb⟩
  obtain ⟨w7, hw7⟩ : ∃ W, v7.alloc (.cells #[.int .i64 x6.off, .bool x6.dst, .string ab] 31) = W := ⟨_, rfl⟩
  have hbn : Below v7.heap.size v7 w7 := by rw [← hw7]; exact (Below.refl _ _).alloc (Nat.le_refl _) _
  obtain ⟨g7, hg7⟩ : ∃ g, v7.heap.size = g := ⟨_, rfl⟩
  have hA7 : At w7 g7 [.int .i64 x6.off, .bool x6.dst, .string ab] := by rw [← hw7, ← hg7]; exact At.new _ _ _
  have hbb : Below w6.heap.size w6 w7 := hb.trans (hbn.mono hb.size)
  have HB7 := Lib.hid (HB6.out.trans (hbb.mono HB6.out.size))
  have HAs7 := Lib.hid (HAs6.out.call hbb)
  have HBB7 := Lib.hid hbb
  have HS7 := Lib.hid hA7
  have HW7 := Lib.hid hw7
  have HG7 := Lib.hid hg7
  clear hb hbn hA7 hbb hw7 hg7 b0 b1 b2 zz
  have HS67 := Lib.hid (HS6.out.call HBB7.out)
  have HD7 := Lib.hid (below_then HD6.out HBB7.out)
  obtain ⟨c0, c1, c2, _⟩ := HS67.out.three
  obtain ⟨d0, d1, d2, _⟩ := HS7.out.three
  have zc := HS67.out.lt
  have zd := HS7.out.lt
  have q1 : (x6.off != x6.off) = false := by simp
  have q2 : (x6.dst != x6.dst) = false := by simp
  have HC8 := Lib.hid (HLn.out w7 HD7.out)
  go_upto_region 16 with fail
  rw [HW7.out]
  try rw [HG7.out]
  go_wp2_with fail
  refine HC8.out.mono ?_
  rintro e v8 ⟨⟨r, hAb, hor⟩, hb⟩
  have hr : r = n' + 1 := Lo.Ab.one hAb HAb.out
  clear q1 q2 c0 c1 c2 d0 d1 d2 zc zd HC8
  rcases hor with ⟨hrl, rfl⟩ | ⟨x8, hx8, rfl⟩
  · have HB8 := Lib.hid ((HB7.out.trans (hb.mono HB7.out.size)).alloc (HB7.out.trans (hb.mono HB7.out.size)).size (.cells #[.int .i64 0, .int .i64 0, .bool false] 71))
    unfold Ln.Sp.v
    simp only
    clear hb hAb hr hrl
    go_wp2
    go_ret
    exact ⟨rfl, HB8.out⟩
  · unfold Ln.Sp.v
    obtain ⟨t1, t2, t3⟩ := Ln.Cov.two HCv.out n' x6 x8 HX6.out (by rw [← hr]; exact hx8)
    obtain ⟨i1, i2, i3⟩ := Ln.Cov.in_ HCv.out (n' + 1) x8 (by rw [← hr]; exact hx8)
    have htl := hAb.hi r x8 (Nat.le_refl _) hx8
    obtain ⟨w8, hw8⟩ : ∃ W, v8.alloc (.cells #[.int .i64 x8.fr, .int .i64 x8.off, .bool x8.dst] 71) = W := ⟨_, rfl⟩
    have hbn : Below v8.heap.size v8 w8 := by rw [← hw8]; exact (Below.refl _ _).alloc (Nat.le_refl _) _
    obtain ⟨g8, hg8⟩ : ∃ g, v8.heap.size = g := ⟨_, rfl⟩
    have hA8 : At w8 g8 [.int .i64 x8.fr, .int .i64 x8.off, .bool x8.dst] := by rw [← hw8, ← hg8]; exact At.new _ _ _
    have hbb : Below w7.heap.size w7 w8 := hb.trans (hbn.mono hb.size)
    have HB8 := Lib.hid (HB7.out.trans (hbb.mono HB7.out.size))
    have HAs8 := Lib.hid (HAs7.out.call hbb)
    have HS68 := Lib.hid (HS67.out.call hbb)
    have HS8 := Lib.hid hA8
    have HW8 := Lib.hid hw8
    have HG8 := Lib.hid hg8
    have HT2 := Lib.hid t2
    have HT3 := Lib.hid t3
    have HI3 := Lib.hid i3
    have hFt1 := HFt.out.1
    have hFt2 := HFt.out.2
    have wx : IntKind.i64.wrap (x8.fr - 1) = x8.fr - 1 := by rw [IntKind.wrap_i64]; omega
    clear hb hbn hA8 hbb hw8 hg8 hAb hx8 hr t2 t3 i3
    obtain ⟨c0, c1, c2, _⟩ := HS8.out.three
    have zc := HS8.out.lt
    have HCt8 := Lib.hid (HAt.out w8 (x8.fr - 1) x6.off x6.dst HB8.out (by omega) (by omega) HT3.out)
    obtain ⟨b0, b1, b2, _⟩ := HAs8.out.three
    have zz := HAs8.out.lt
    go_upto_region 19 with fail
    rw [HW8.out]
    try rw [HG8.out]
    go_wp2_with fail
    refine HCt8.out.mono ?_
    rintro e v9 ⟨⟨ab9, rfl⟩, hb⟩
    obtain ⟨w9, hw9⟩ : ∃ W, v9.alloc (.cells #[.int .i64 x6.off, .bool x6.dst, .string ab9] 31) = W := ⟨_, rfl⟩
    have hbn : Below v9.heap.size v9 w9 := by rw [← hw9]; exact (Below.refl _ _).alloc (Nat.le_refl _) _
    obtain ⟨g9, hg9⟩ : ∃ g, v9.heap.size = g := ⟨_, rfl⟩
    have hA9 : At w9 g9 [.int .i64 x6.off, .bool x6.dst, .string ab9] := by rw [← hw9, ← hg9]; exact At.new _ _ _
    have hbb : Below w8.heap.size w8 w9 := hb.trans (hbn.mono hb.size)
    have HB9 := Lib.hid (HB8.out.trans (hbb.mono HB8.out.size))
    have HAs9 := Lib.hid (HAs8.out.call hbb)
    have HBB9 := Lib.hid hbb
    have HS9 := Lib.hid hA9
    have HW9 := Lib.hid hw9
    have HG9 := Lib.hid hg9
    clear hb hbn hA9 hbb hw9 hg9 b0 b1 b2 zz
    have HS89 := Lib.hid (HS8.out.call HBB9.out)
    have HS69 := Lib.hid (HS68.out.call HBB9.out)
    clear c0 c1 c2 zc
    obtain ⟨c0, c1, c2, _⟩ := HS89.out.three
    have zc := HS89.out.lt
    have HCt9 := Lib.hid (HAt.out w9 (x8.fr) x8.off x8.dst HB9.out (by omega) (by omega) HI3.out)
    obtain ⟨b0, b1, b2, _⟩ := HAs9.out.three
    have zz := HAs9.out.lt
    go_upto_region 22 with fail
    rw [HW9.out]
    try rw [HG9.out]
    go_wp2_with fail
    refine HCt9.out.mono ?_
    rintro e v10 ⟨⟨ab10, rfl⟩, hb⟩
    obtain ⟨w10, hw10⟩ : ∃ W, v10.alloc (.cells #[.int .i64 x8.off, .bool x8.dst, .string ab10] 31) = W := ⟨_, rfl⟩
    have hbn : Below v10.heap.size v10 w10 := by rw [← hw10]; exact (Below.refl _ _).alloc (Nat.le_refl _) _
    obtain ⟨g10, hg10⟩ : ∃ g, v10.heap.size = g := ⟨_, rfl⟩
    have hA10 : At w10 g10 [.int .i64 x8.off, .bool x8.dst, .string ab10] := by rw [← hw10, ← hg10]; exact At.new _ _ _
    have hbb : Below w9.heap.size w9 w10 := hb.trans (hbn.mono hb.size)
    have HB10 := Lib.hid (HB9.out.trans (hbb.mono HB9.out.size))
    have HAs10 := Lib.hid (HAs9.out.call hbb)
    have HBB10 := Lib.hid hbb
    have HS10 := Lib.hid hA10
    have HW10 := Lib.hid hw10
    have HG10 := Lib.hid hg10
    clear hb hbn hA10 hbb hw10 hg10 b0 b1 b2 zz
    have HS810 := Lib.hid (HS89.out.call HBB10.out)
    have HS610 := Lib.hid (HS69.out.call HBB10.out)
    have HS910 := Lib.hid (HS9.out.call HBB10.out)
    clear c0 c1 c2 zc
    obtain ⟨c0, c1, c2, _⟩ := HS810.out.three
    have zc := HS810.out.lt
    obtain ⟨d0, d1, d2, _⟩ := HS610.out.three
    have zd := HS610.out.lt
    obtain ⟨f0, f1, f2, _⟩ := HS910.out.three
    have zf := HS910.out.lt
    obtain ⟨h0, h1', h2', _⟩ := HS10.out.three
    have zh := HS10.out.lt
    by_cases ho : x8.off = x6.off
    · have p1 : (x8.off != x6.off) = false := by simp [ho]
      have hd : ¬ x8.dst = x6.dst := by
        intro e
        rw [Ln.alike_iff.2 ⟨ho.symm, e.symm⟩] at HT2
        cases HT2.out
      have hd2 : (x8.dst == x6.dst) = false := by rw [beq_eq_false_iff_ne]; exact hd
      have hd3 : (x8.dst != x6.dst) = true := by rw [bne_iff_ne]; exact hd
      have HD := Lib.hid hd
      clear ho hd
      go_upto_region 23 with fail
      rw [HW10.out]
      try rw [HG10.out]
      go_wp2
      all_goals
        go_ret
        first
        | exact ⟨rfl, HB10.out⟩
        | exact ⟨ret_bool (by simp [HD.out]), HB10.out⟩
        | (exfalso; exact HD.out (by assumption))
    · have p1 : (x8.off != x6.off) = true := by rw [bne_iff_ne]; exact ho
      go_upto_region 23 with fail
      rw [HW10.out]
      try rw [HG10.out]
      go_wp2
      go_ret
      exact ⟨rfl, HB10.out⟩
end Go.Proofs.YtolgigaolffenaaGreatDoor

/- TopFound at a row's arguments. -/
namespace Go.Proofs.YtolgigaolffenaaGreatDoor
open Go.RowKit

theorem topFound_row (s : Src.S) (rv zv lv : Value) (evs : List Value) (z lo hi t : Int) (w : World) (hT : Wo w ∧ Wa w) (hR : Src.SrcR w w.heap.size s rv zv lv evs) (hw : Src.Wide s) (hz : (Lit.int .i64 z).wf = true) (hlo : (Lit.int .i64 lo).wf = true) (hhi : (Lit.int .i64 hi).wf = true) (_ : (Lit.int .i64 t).wf = true) :
    Calls Tryz.prog 8 #[.agg #[rv, zv, lv], .int .i64 z, .int .i64 lo, .int .i64 hi, .int .i64 t] w fun e w' => e = .returned (.bool true) ∧ Below w.heap.size w w' :=
  topFound_any s z lo hi t rv zv lv evs w hR hw hT.1 hT.2 (by have := i64_range hz; omega) (by have := i64_range hlo; omega) (by have := i64_range hhi; omega)
end Go.Proofs.YtolgigaolffenaaGreatDoor
