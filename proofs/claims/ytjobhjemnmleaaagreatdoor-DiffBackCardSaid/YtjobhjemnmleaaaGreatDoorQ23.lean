/- ideal.behind: occurrences, the last one first. -/
import Derived.Test.YtjobhjemnmleaaaGreatDoorQ22
set_option maxRecDepth 200000
set_option maxHeartbeats 16000000
namespace Go.Proofs.YtjobhjemnmleaaaGreatDoor
open Go.RowKit Go.Shelf
attribute [local go_sem] Oper.semAt_some
theorem idBehind_any (A : Option Addr) (n c : Nat) (w : World) :
  Calls Tryz.prog 169 #[.slice A n c] w fun e w' => e = .returned (.func (.func 200) #[] #[.pointer (some ⟨w.heap.size, 0, none⟩)]) ∧ w.alloc (.cells #[.slice A n c] 290) = w' := by
 go_enter Tryz.func169, Tryz.ntmps169
 go_wp2;go_ret
 exact ⟨rfl, rfl⟩
theorem take_rev {α : Type} {es : List α} {N r : Nat} {o : α} (hN : es.length = N) (hr : r < N) (ho : es[r]? = some o) : es.reverse.take (N - r) = es.reverse.take (N - (r + 1)) ++ [o] := by
 have e : N - r = (N - (r + 1)) + 1 := by omega
 rw [e, List.take_add_one]
 congr 1
 rw [List.getElem?_reverse (by omega), hN, show N - 1 - (N - (r + 1)) = r by omega, ho];rfl
theorem idBehind1_in (n l bl n₀ : Nat) {α : Type} (f : α → Oc.E) (es : List α) (A : Option Addr) (N c : Nat) (hN : es.length = N) (hNb : N ≤ 1000000000) (JY JX : List α → World → Prop)
  (hY : ∀ pre (x : α) W, JY pre W → pre.length < N → YieldAt Fence.wide n Tryz.prog l #[(f x).occv] W fun e W' =>
   (e = .returned (.bool true) ∧ JY (pre ++ [x]) W' ∧ Below n₀ W W') ∨ (e = .returned (.bool false) ∧ JX (pre ++ [x]) W'))
  (W : World) (hc : W.cell? ⟨bl, 0, none⟩ = some (.slice A N c)) (hbl : bl < n₀) (hR : Reads W n₀ 5 A N (es.flatMap fun a => (f a).occ)) (hn0 : n₀ ≤ W.heap.size) (h0 : JY [] W) :
  CallsIn Fence.wide (n + 1) Tryz.prog 200 #[.func (.yield l) #[] #[], .pointer (some ⟨bl, 0, none⟩)] W fun e W' => (∃ v, e = .returned v) ∧ ((∃ ys, ys = es.reverse ∧ JY ys W') ∨ (∃ pre, (∃ j, pre = es.reverse.take j) ∧ JX pre W')) := by
 have HRs : Hid (∀ W', Below n₀ W W' → W'.cell? ⟨bl, 0, none⟩ = some (.slice A N c) ∧ Reads W' n₀ 5 A N (es.flatMap fun a => (f a).occ)) := fun W' hb => ⟨(hb.cell (p := ⟨bl, 0, none⟩) hbl).trans hc, hR.below hb⟩
 have HN := Lib.hid hN;have HH0 : Hid (JY (es.reverse.take (N - N)) W) := by
  show JY _ _
  rw [Nat.sub_self];exact h0
 have w1 : IntKind.i64.wrap ((N : Int) - 1) = (N : Int) - 1 := by rw [IntKind.wrap_i64]; omega
 have hbl2 : bl < W.heap.size := by omega
 clear hR hN h0;refine callsIn_of_wp Tryz.func200 rfl trivial ?_ rfl;simp only [Tryz.ntmps200, List.size_toArray, List.length_cons, List.length_nil, Nat.reduceAdd, Nat.reduceSub, Array.replicate_succ, Array.replicate_zero, List.push_toArray, List.append_toArray, List.nil_append, List.cons_append]
 gi_wp2_with fail
 gi_loopw [3] (fun i wr => ∃ r : Nat, r ≤ N ∧ i = .int .i64 ((r : Int) - 1) ∧ Hid (JY (es.reverse.take (N - r)) wr) ∧ Hid (Below n₀ W wr)) (fun i _ => (intOf i + 1).toNat)
 case atStart => exact ⟨N, Nat.le_refl _, rfl, HH0.out, Below.refl _ _⟩
 case round =>
  obtain ⟨r, hr, rfl, HJ, HB⟩ := hrel;obtain ⟨c0, hRr⟩ := HRs.out wr HB.out;have hzr := HB.out.size;have hbl3 : bl < wr.heap.size := by omega
  rcases Nat.eq_zero_or_pos r with h0r | h0r
  ·subst h0r;have q1 : ¬ (0 : Int) ≤ ((0 : Nat) : Int) - 1 := by omega
   have HJ2 : Hid (JY es.reverse wr) := by
    have h := HJ.out;rw [Nat.sub_zero, List.take_of_length_le (by rw [List.length_reverse, HN.out]; exact Nat.le_refl _)] at h;exact h
   clear HJ
   gi_wp2_with fail
   go_end0
   exact ⟨⟨_, rfl⟩, .inl HJ2.out⟩
  ·obtain ⟨r, rfl⟩ : ∃ k, r = k + 1 := ⟨r - 1, by omega⟩
   have e1' : (((r + 1 : Nat) : Int) - 1) = (r : Int) := by omega
   rw [e1'];have q1 : (0 : Int) ≤ (r : Int) := by omega
   have q2 : (r : Int) < (N : Int) := by omega
   have w2 : IntKind.i64.wrap ((r : Int) - 1) = (r : Int) - 1 := by rw [IntKind.wrap_i64]; omega
   obtain ⟨ad, o, rfl, hab, Ho, HLo⟩ := Ix.reads_cells (enc := fun a => (f a).occ) (m := 5) (fun _ => rfl) HN.out hRr (show r < N by omega);have HT := Lib.hid (take_rev HN.out (show r < N by omega) Ho.out);obtain ⟨fn, tmps, assign, body, hy, hR⟩ := hY (es.reverse.take (N - (r + 1))) o wr HJ.out (by rw [List.length_take, List.length_reverse, HN.out]; omega);obtain ⟨q, hq⟩ : ∃ q, f o = q := ⟨_, rfl⟩
   rw [hq] at hy;have HLo2 : Hid (∀ (j : Nat) (v : Value), q.occ[j]? = some v → wr.cell? ((ad.add (r * 5)).add j) = some v) := by
    have h := HLo.out;rw [hq] at h;exact h
   clear hq HLo;have HLo := HLo2;clear HLo2;obtain ⟨on, oc_, os, ob, ol, op, oy⟩ := q;have x0 : wr.cell? (ad.add (r * 5)) = some (.int .i64 on) := HLo.out 0 _ rfl;have x1 : wr.cell? ⟨(ad.add (r * 5)).block, (ad.add (r * 5)).off + 1, none⟩ = some (.int .u8 oc_) := HLo.out 1 _ rfl;have x2 : wr.cell? ⟨(ad.add (r * 5)).block, (ad.add (r * 5)).off + 2, none⟩ = some (.int .i64 os) := HLo.out 2 _ rfl;have x3 : wr.cell? ⟨(ad.add (r * 5)).block, (ad.add (r * 5)).off + 3, none⟩ = some (.int .i64 ob) := HLo.out 3 _ rfl;have x4 : wr.cell? ⟨(ad.add (r * 5)).block, (ad.add (r * 5)).off + 4, none⟩ = some (.string ol) := HLo.out 4 _ rfl;unfold Oc.E.occv at hy;clear Ho HLo hRr hY HJ
   gi_wp2_with fail
   refine hR.mono ?_;rintro e W3 (⟨rfl, hJ3, hk3⟩ | ⟨rfl, hJx3⟩)
   ·have HJ3 : Hid (JY (es.reverse.take (N - r)) W3) := by
     show JY _ _
     rw [HT.out];exact hJ3
    have HB3 := Lib.hid (HB.out.trans hk3);clear hJ3 hk3
    gi_wp2
    go_roundw
    case rel => exact ⟨r, by omega, by first | rfl | (simp; done) | (simp; omega), HJ3.out, HB3.out⟩
    case measure => first | (simp [intOf]; done) | (simp [intOf]; omega)
   ·have HX : Hid (JX (es.reverse.take (N - r)) W3) := by
     show JX _ _
     rw [HT.out];exact hJx3
    clear hJx3
    gi_wp2
    refine bodyPost_ret (results_none rfl _ _ _) rfl ?_;exact ⟨⟨_, rfl⟩, .inr ⟨_, ⟨_, rfl⟩, HX.out⟩⟩
end Go.Proofs.YtjobhjemnmleaaaGreatDoor
namespace Go.Proofs.YtjobhjemnmleaaaGreatDoor
open Go.RowKit Go.Shelf Go.Sort
attribute [local go_sem] Oper.semAt_some
namespace Ln
theorem keeps_mono {B B' : Nat} {W W' : World} (h : KeepsFrom B W W') (hb : B ≤ B') : KeepsFrom B' W W' := ⟨h.size, fun k o hk => h.same k o (Nat.le_trans hb hk)⟩
theorem keeps_below {B : Nat} {W W' : World} (hb : Below W.heap.size W W') : KeepsFrom B W W' := ⟨hb.size, fun k _ _ hk _ => (hb.block k (Array.getElem?_eq_some_iff.1 hk).1).trans hk⟩
theorem frame_all (n : Nat) (a : Act) (hs : a.tmps.size = n) : a = { tmps := ((List.range n).map fun i => a.tmps.getD i undef).toArray, defers := a.defers } := by
 obtain ⟨t, d⟩ := a;simp only at hs
 congr 1
 apply Array.ext
 ·simp [hs]
 ·intro i h1 h2;simp [h1]
theorem ownFrom_mono {β : Type} {B B' : Nat} {I : β → World → Prop} (h : OwnFrom B I) (hb : B ≤ B') : OwnFrom B' I := fun s W W' row hs hg hr => h s W W' row hs hg (fun r e => ⟨Nat.le_trans hb (hr r e).1, (hr r e).2⟩)
structure PB (bD h gd l n : Nat) (w0 W : World) : Prop where
 below : Below n w0 W
 d : Bk W bD #[.pointer (some ⟨gd, 0, none⟩)] 221
 y : Bk W h #[.func (.yield l) #[] #[]] 276
theorem PB.call {bD h gd l n : Nat} {w0 W W' : World} (q : PB bD h gd l n w0 W) (hb : Below W.heap.size W W') (hn : n ≤ w0.heap.size) : PB bD h gd l n w0 W' :=
 ⟨q.below.trans (hb.mono (Nat.le_trans hn q.below.size)), q.d.call hb, q.y.call hb⟩
theorem PB.kp {bD h gd l n : Nat} {w0 W W' : World} (q : PB bD h gd l n w0 W) (hk : Kp n W W') : PB bD h gd l n w0 W' :=
 ⟨q.below.trans hk.below, q.d.kp hk (by decide) (by decide), q.y.kp hk (by decide) (by decide)⟩
theorem PB.grown {bD h gd l n B : Nat} {w0 W W' : World} {row : Option Nat} (q : PB bD h gd l n w0 W) (hg : W.grownBy W' row) (hr : ∀ r, row = some r → B ≤ r ∧ ∃ o : Obj, W.heap[r]? = some o ∧ o.isCells = false) (hn : n ≤ B) (hn2 : n ≤ w0.heap.size) : PB bD h gd l n w0 W' :=
 ⟨q.below.grown hg (Nat.le_trans hn2 q.below.size) (fun r e => Nat.le_trans hn (hr r e).1), q.d.grown hg (fun r e => (hr r e).2), q.y.grown hg (fun r e => (hr r e).2)⟩
theorem Mk.grown {B B' : Nat} {Ds : List Nat} {W W' : World} {row : Option Nat} (h : Mk B Ds W) (hg : W.grownBy W' row) (hr : ∀ r, row = some r → B' ≤ r) (hlt : ∀ D ∈ Ds, D < B') : Mk B Ds W' :=
 ⟨h.nd, fun D hD => ⟨(h.at_ D hD).1, (hg.block D (h.lt D hD) (fun e => by have := hr D e.symm; have := hlt D hD; omega)).trans (h.at_ D hD).2⟩⟩
def PI (rules : List Ru.R) (es : List Er.E) (ends : List Int) (fr te : Int) (m l bD h gd : Nat) (eA2 : Option Addr) (ec2 : Nat) (w0 : World) (BW : Nat) (JY : List Sp → World → Prop) (a : Act) (w : World) : Prop :=
 ∃ (r : Nat) (done : List Sp) (Ds : List Nat), r ≤ m + 1 ∧ a.tmps.size = 49 ∧ a.defers = marks Ds ∧ a.tmps.getD 0 undef = .func (.yield l) #[] #[] ∧ a.tmps.getD 1 undef = .pointer (some ⟨bD, 0, none⟩) ∧ a.tmps.getD 2 undef = .pointer (some ⟨h, 0, none⟩) ∧
  a.tmps.getD 3 undef = .slice eA2 (m + 1) ec2 ∧ a.tmps.getD 4 undef = .int .i64 ((r : Int) - 1) ∧ Hid (pieces rules es ends fr te (m + 1) = done ++ pieces rules es ends fr te r) ∧ Hid (JY done w) ∧ Hid (PB bD h gd l w0.heap.size w0 w) ∧ Hid (Mk BW Ds w)
end Ln
theorem pieces1_in (l bD gd B N : Nat) (s : Src.S) (rv zv lv : Value) (evs : List Value) (kz : Nat) (eA : Option Addr) (m ec : Nat) (fr te : Int) (ends : List Int) (w0 : World) (x : Src.Txt × List Er.E) (JY : List Ln.Sp → World → Prop)
  (hD : Ln.Dr s rv zv lv evs (kz : Int) eA m ec fr te gd w0) (hx : s.zones[kz]? = some x) (hxl : x.2.length = m + 1) (hm : m ≤ 1000)
  (hends : ends.length = m) (hmc : m ≤ ec) (hec : ec ≤ maxLen) (h0c : eA = none → ec = 0) (hRe : Reads w0 w0.heap.size 1 eA m (Ln.i64s ends)) (hE : ∀ e ∈ x.2, IsTime e.std ∧ IsTime e.sv)
  (hd1 : Ln.InDays fr) (hd2 : Ln.InDays (te - 1)) (hy1 : 2 ≤ Ln.yr fr) (hy2 : Ln.yr (te - 1) ≤ 9998) (hN : (Ln.pieces s.rules x.2 ends fr te (m + 1)).length ≤ N)
  (hY : ∀ pre p W, JY pre W → pre.length < N → YieldAt Fence.wide 4 Tryz.prog l #[p.v] W fun e W' => e = .returned (.bool true) ∧ JY (pre ++ [p]) W' ∧ Ln.Kp w0.heap.size W W' ∧ KeepsFrom B W W')
  (W : World) (hJO : OwnFrom W.heap.size JY) (hBW : B ≤ W.heap.size) (hb : Below w0.heap.size w0 W) (hBk : Ln.Bk W bD #[.pointer (some ⟨gd, 0, none⟩)] 221) (h0 : JY [] W) :
  CallsIn Fence.wide 5 Tryz.prog 149 #[.func (.yield l) #[] #[], .pointer (some ⟨bD, 0, none⟩)] W fun e W' => (∃ v, e = .returned v) ∧ JY (Ln.pieces s.rules x.2 ends fr te (m + 1)) W' := by
 have hlen : (s.zones.zip evs).length = s.zones.length := by rw [List.length_zip, hD.src.len]; omega
 have hkz : kz < s.zones.length := (List.getElem?_eq_some_iff.1 hx).1;obtain ⟨zA, zc, rfl, hz1, hzc, hrz⟩ := hD.src.zones;obtain ⟨adz, x1, rfl, hab, Hx1, HL⟩ := Ix.reads_cells (enc := Src.zc) (m := 2) (fun _ => rfl) hlen hrz hkz;obtain ⟨hzk, hzm⟩ : s.zones[kz]? = some x1.1 ∧ x1 ∈ s.zones.zip evs := ⟨(List.getElem?_zip_eq_some.1 Hx1.out).1, List.mem_of_getElem? Hx1.out⟩
 obtain rfl : x1.1 = x := by rw [hzk] at hx; exact Option.some.inj hx
 obtain ⟨eA2, ec2, he2, hmec, hec2, hre⟩ := hD.src.eras x1 hzm;obtain ⟨es, hes⟩ : ∃ l, x1.1.2 = l := ⟨_, rfl⟩
 rw [hes] at he2 hre hmec hxl hE hN ⊢;rw [hxl] at he2 hre hmec;unfold maxLen at hec2 hzc;have HC0 : Hid (∀ W', Below w0.heap.size w0 W' → W'.cell? ⟨gd, 1, none⟩ = some (.slice (some adz) s.zones.length zc) ∧ W'.cell? ⟨gd, 3, none⟩ = some (.int .i64 (kz : Int)) ∧ W'.cell? ⟨(adz.add (kz * 2)).block, (adz.add (kz * 2)).off + 1, none⟩ = some (.slice eA2 (m + 1) ec2) ∧ gd < W'.heap.size ∧ (adz.add (kz * 2)).block < W'.heap.size) := fun W' hb' => by
  have hA := (hD.call hb').at_;have hg := hb'.block (adz.add (kz * 2)).block (by rw [block_of_add]; exact hab);refine ⟨hA.cell 1 _ rfl, hA.cell 3 _ rfl, (World.cell?_of_block (by exact hg)).trans (by rw [← he2]; exact HL.out 1 _ rfl), hA.lt, ?_⟩;rw [block_of_add];exact Nat.lt_of_lt_of_le hab hb'.size
 obtain ⟨n2, hn2⟩ : ∃ n, s.zones.length = n := ⟨_, rfl⟩
 rw [hn2] at HC0 hkz hz1;have HN2 := Lib.hid hn2;have HWh : Hid (∀ W' k, Below w0.heap.size w0 W' → k ≤ m → Calls Tryz.prog 150 #[.pointer (some ⟨gd, 0, none⟩), .int .i64 (k : Int)] W' fun e w' => e = .returned (.tuple #[.int .i64 (Ln.maxs ends fr k), .int .i64 (Ln.upto ends te k)]) ∧ Below W'.heap.size W' w') := fun W' k hb' hk => lnWhile_any ends fr te k m ec gd _ _ _ _ eA W' hends hk hmc hec h0c (hD.call hb').at_ ((hRe.below hb').more hb'.size)
 obtain ⟨h, hh⟩ : ∃ h, W.heap.size = h := ⟨_, rfl⟩
 obtain ⟨W1, hW1⟩ : ∃ X, W.alloc (.cells #[.func (.yield l) #[] #[]] 276) = X := ⟨_, rfl⟩
 have hb1 : Below W.heap.size W W1 := by rw [← hW1]; exact (Below.refl _ _).alloc (Nat.le_refl _) _
 have hy1' : Ln.Bk W1 h #[.func (.yield l) #[] #[]] 276 := by rw [← hW1, ← hh]; exact Ln.Bk.new _ _ _
 have hP1 : Ln.PB bD h gd l w0.heap.size w0 W1 := ⟨hb.trans (hb1.mono hb.size), hBk.call hb1, hy1'⟩
 have hJb : ∀ pre X X', JY pre X → Below X.heap.size X X' → JY pre X' := fun pre X X' hj hbx => hJO pre X X' none hj (grown_of_ hbx none) (fun r e => (by cases e))
 have HJ1 := Lib.hid (hJb [] W W1 h0 hb1);have HP1 := Lib.hid hP1;have HW1 := Lib.hid hW1;have HH := Lib.hid hh;have HJb := Lib.hid hJb;have HJO := Lib.hid hJO;have HY := Lib.hid hY;have HN := Lib.hid hN;have HD := Lib.hid hD;have HE := Lib.hid hE;have HRe := Lib.hid hre;have HXl := Lib.hid hxl;have HEn := Lib.hid hends;have HDs := Lib.hid (And.intro hd1 (And.intro hd2 (And.intro hy1 hy2)));have q1 : (0 : Int) ≤ (kz : Int) := by omega
 have q2 : (kz : Int) < (n2 : Int) := by omega
 have d0 := hP1.d.at_.cell 0 _ rfl;have zd := hP1.d.lt;obtain ⟨g1, g3, gz, zg, zz⟩ := HC0.out W1 hP1.below;clear hD hx hxl hends hRe hE hd1 hd2 hy1 hy2 hN hY hJO hb hBk h0 hlen hrz Hx1 HL hzk hzm he2 hre hes hh hW1 hb1 hy1' hP1 hJb hn2 h0c;refine callsIn_of_wp_marks Tryz.func149 rfl trivial ?_ rfl;simp only [Tryz.ntmps149, List.size_toArray, List.length_cons, List.length_nil, Nat.reduceAdd, Nat.reduceSub, Array.replicate_succ, Array.replicate_zero, List.push_toArray, List.append_toArray, List.nil_append, List.cons_append];refine wpIn_wide.2 ?_;go_wp2_with fail
 rw [HW1.out, HH.out];go_quiet (fail)
 obtain ⟨Wd, hWd⟩ : ∃ X, W1.drewN nq = X := ⟨_, rfl⟩
 have hbd : Below W1.heap.size W1 Wd := by rw [← hWd]; exact (show Drew W1 (W1.drewN nq) from ⟨nq, rfl⟩).below _
 rw [hWd];have HPd := Lib.hid (HP1.out.call hbd (Nat.le_refl _));have HJd := Lib.hid (HJb.out _ _ _ HJ1.out hbd);have w1 : IntKind.i64.wrap (((m : Int) + 1) - 1) = (m : Int) := by rw [IntKind.wrap_i64]; omega
 have w2 : wrap64 (((m : Int) + 1) - 1) = (m : Int) := by unfold wrap64; omega
 clear hWd hbd d0 zd g1 g3 gz zg zz;go_wp2_with fail
 clear w1 w2;refine (wpIn_wide (n := 5)).1 ?_;refine wpIn_loop (Ln.PI s.rules es ends fr te m l bD h gd eA2 ec2 w0 W.heap.size JY) (fun a _ => (intOf (a.tmps.getD 4 undef) + 1).toNat) ?start ?round
 case start => exact ⟨m + 1, [], [], Nat.le_refl _, rfl, rfl, rfl, rfl, rfl, rfl, by show _ = Value.int .i64 (((m + 1 : Nat) : Int) - 1); rw [show (((m + 1 : Nat) : Int) - 1) = (m : Int) by omega]; rfl, rfl, HJd.out, HPd.out, Ln.Mk.nil _ _⟩
 case round =>
  rintro a wr ⟨r, done, Ds, hr, hsz, hdf, s0, s1, s2, s3, s4, HEq, HJr, HPr, HMr⟩;have hmu : (intOf (a.tmps.getD 4 undef) + 1).toNat = r := by
   rw [s4];show (((r : Int) - 1) + 1).toNat = r
   omega
  rw [hmu];have ef := Ln.frame_all 49 a hsz;obtain ⟨u, hu⟩ : ∃ u : Nat → Value, (fun i => a.tmps.getD i undef) = u := ⟨_, rfl⟩
  rw [hu, hdf] at ef;have e0 : u 0 = _ := (congrFun hu 0).symm.trans s0;have e1 : u 1 = _ := (congrFun hu 1).symm.trans s1;have e2 : u 2 = _ := (congrFun hu 2).symm.trans s2;have e3 : u 3 = _ := (congrFun hu 3).symm.trans s3;have e4 : u 4 = _ := (congrFun hu 4).symm.trans s4;have ef2 : a = { tmps := (u 0 :: u 1 :: u 2 :: u 3 :: u 4 :: u 5 :: u 6 :: u 7 :: u 8 :: u 9 :: u 10 :: u 11 :: u 12 :: u 13 :: u 14 :: u 15 :: u 16 :: u 17 :: u 18 :: u 19 :: u 20 :: u 21 :: u 22 :: u 23 :: u 24 :: u 25 :: u 26 :: u 27 :: u 28 :: u 29 :: u 30 :: u 31 :: u 32 :: u 33 :: u 34 :: u 35 :: u 36 :: u 37 :: u 38 :: u 39 :: u 40 :: u 41 :: u 42 :: u 43 :: u 44 :: u 45 :: u 46 :: u 47 :: u 48 :: [] : List Value).toArray, defers := Ln.marks Ds } := ef;rw [e0, e1, e2, e3, e4] at ef2;rw [ef2];clear hmu ef hu e0 e1 e2 e3 e4 ef2 s0 s1 s2 s3 s4 hsz hdf;rcases Nat.eq_zero_or_pos r with h0r | h0r
  ·subst h0r;have p1 : ¬ (0 : Int) ≤ ((0 : Nat) : Int) - 1 := by omega
   have hfull : Ln.pieces s.rules es ends fr te (m + 1) = done := by
    have := HEq.out;rw [this];simp [Ln.pieces]
   gi_wp2
   exact Ln.leaves_marks (B := W.heap.size) (fun w => JY done w) (fun w D hj hB hk => HJO.out.putObj _ hj hB hk rfl) (fun w hj => ⟨_, results_none rfl _ _ _, ⟨_, rfl⟩, hj⟩) Ds wr HMr.out HJr.out
  ·obtain ⟨r, rfl⟩ : ∃ k, r = k + 1 := ⟨r - 1, by omega⟩
   have e1' : (((r + 1 : Nat) : Int) - 1) = (r : Int) := by omega
   rw [e1'];have p1 : (0 : Int) ≤ (r : Int) := by omega
   have p2 : (r : Int) < (m : Int) + 1 := by omega
   have d0 := HPr.out.d.at_.cell 0 _ rfl;have zd := HPr.out.d.lt;have hWh := HWh.out wr r HPr.out.below (by omega);obtain ⟨f, hf⟩ : ∃ f, Ln.maxs ends fr r = f := ⟨_, rfl⟩
   obtain ⟨t, ht⟩ : ∃ t, Ln.upto ends te r = t := ⟨_, rfl⟩
   have hEq := HEq.out;rw [show Ln.pieces s.rules es ends fr te (r + 1) = (if Ln.upto ends te r ≤ Ln.maxs ends fr r then [] else Ln.inEra s.rules (es.getD r Er.E.zero) (Ln.maxs ends fr r) (Ln.upto ends te r)) ++ Ln.pieces s.rules es ends fr te r from rfl, hf, ht] at hEq;rw [hf, ht] at hWh;have hfb : fr ≤ f := by rw [← hf]; exact (Ln.maxs_ge ends fr r).1
   have htb : t ≤ te := by rw [← ht]; unfold Ln.upto; split <;> omega
   have HW := Lib.hid hWh;have HEq2 := Lib.hid hEq;clear hWh hf ht hEq HEq
   gi_wp2_with fail
   refine ⟨trivial, (callsIn_wide.2 HW.out).mono ?_⟩;rintro e w3 ⟨rfl, hb3⟩;have HP3 := Lib.hid (HPr.out.call hb3 (Nat.le_refl _));have HJ3 := Lib.hid (HJb.out _ _ _ HJr.out hb3);have HM3 := Lib.hid (HMr.out.call hb3);have hws : W.heap.size ≤ w3.heap.size ∨ True := .inr trivial;clear hb3 d0 zd HPr HJr HMr hws
   by_cases htf : t ≤ f
   ·have hEq := HEq2.out;rw [if_pos htf, List.nil_append] at hEq;have HEq3 := Lib.hid hEq;have w4 : IntKind.i64.wrap ((r : Int) - 1) = (r : Int) - 1 := by rw [IntKind.wrap_i64]; omega
    clear hEq
    gi_wp2
    refine ⟨⟨r, done, Ds, by omega, rfl, rfl, rfl, rfl, rfl, rfl, rfl, HEq3.out, HJ3.out, HP3.out, HM3.out⟩, ?_⟩;show (((r : Int) - 1) + 1).toNat < r + 1
    omega
   ·have hEq := HEq2.out;rw [if_neg htf] at hEq;have hft : f < t := by omega
    obtain ⟨ad2, xe, rfl, habe, Hxe, HLe⟩ := Ix.reads_cells (enc := Er.E.cells) (m := 13) (fun _ => rfl) HXl.out (HRe.out.below HP3.out.below) (show r < m + 1 by omega);have hxe : es.getD r Er.E.zero = xe := by rw [List.getD, Hxe.out]; rfl
    rw [hxe] at hEq;obtain ⟨hxs, hxv⟩ := HE.out xe (List.mem_of_getElem? Hxe.out);have hab3 : (ad2.add (r * 13)).block < w3.heap.size := by rw [block_of_add]; exact Nat.lt_of_lt_of_le habe HP3.out.below.size
    have d0 := HP3.out.d.at_.cell 0 _ rfl;have zd := HP3.out.d.lt;have HEq3 := Lib.hid hEq;have HXe := Lib.hid (And.intro hxs hxv);clear hEq hxe hxs hxv htf Hxe;obtain ⟨std, ek, esv, ru, fm, en, ⟨y, mm, dk, dn, dd, sc, cc⟩⟩ := xe;simp only at HXe;have y0 : w3.cell? (ad2.add (r * 13)) = some (.int .i64 std) := HLe.out 0 _ rfl;have y1 : w3.cell? ⟨(ad2.add (r * 13)).block, (ad2.add (r * 13)).off + 1, none⟩ = some (.int .u8 ek) := HLe.out 1 _ rfl;have y2 : w3.cell? ⟨(ad2.add (r * 13)).block, (ad2.add (r * 13)).off + 2, none⟩ = some (.int .i64 esv) := HLe.out 2 _ rfl;have y3 : w3.cell? ⟨(ad2.add (r * 13)).block, (ad2.add (r * 13)).off + 3, none⟩ = some (.string ru) := HLe.out 3 _ rfl;have y4 : w3.cell? ⟨(ad2.add (r * 13)).block, (ad2.add (r * 13)).off + 4, none⟩ = some (.string fm) := HLe.out 4 _ rfl;have y5 : w3.cell? ⟨(ad2.add (r * 13)).block, (ad2.add (r * 13)).off + 5, none⟩ = some (.bool en) := HLe.out 5 _ rfl;have y6 : w3.cell? ⟨(ad2.add (r * 13)).block, (ad2.add (r * 13)).off + 6, none⟩ = some (.int .i64 y) := HLe.out 6 _ rfl;have y7 : w3.cell? ⟨(ad2.add (r * 13)).block, (ad2.add (r * 13)).off + 7, none⟩ = some (.int .i64 mm) := HLe.out 7 _ rfl;have y8 : w3.cell? ⟨(ad2.add (r * 13)).block, (ad2.add (r * 13)).off + 8, none⟩ = some (.int .u8 dk) := HLe.out 8 _ rfl;have y9 : w3.cell? ⟨(ad2.add (r * 13)).block, (ad2.add (r * 13)).off + 9, none⟩ = some (.int .i64 dn) := HLe.out 9 _ rfl;have y10 : w3.cell? ⟨(ad2.add (r * 13)).block, (ad2.add (r * 13)).off + 10, none⟩ = some (.int .i64 dd) := HLe.out 10 _ rfl
    have y11 : w3.cell? ⟨(ad2.add (r * 13)).block, (ad2.add (r * 13)).off + 11, none⟩ = some (.int .i64 sc) := HLe.out 11 _ rfl;have y12 : w3.cell? ⟨(ad2.add (r * 13)).block, (ad2.add (r * 13)).off + 12, none⟩ = some (.int .u8 cc) := HLe.out 12 _ rfl
    gi_wp2_with fail
    refine wpIn_wide.2 ?_;refine wp_region_quiet_tail (C := fun w' => ∃ j, w' = w3.drewN j) 7 (by kernel_rfl) (by kernel_rfl) ⟨1, rfl⟩ ?_
    repeat (quiet_step (fail))
    refine wpQuiet_nil ?_;intro wz hwz;obtain ⟨nq2, rfl⟩ := hwz;obtain ⟨wd, hwd⟩ : ∃ X, w3.drewN nq2 = X := ⟨_, rfl⟩
    have hbd2 : Below w3.heap.size w3 wd := by rw [← hwd]; exact (show Drew w3 (w3.drewN nq2) from ⟨nq2, rfl⟩).below _
    rw [hwd];show wpList _ _ _ (_ :: _) _ _
    go_wp2_with fail
    refine (inEra_any gd ⟨std, ek, esv, ru, fm, en, ⟨y, mm, dk, dn, dd, sc, cc⟩⟩ f t _).mono ?_;rintro e Wi ⟨rfl, hWi⟩;obtain ⟨hz, hhz⟩ : ∃ n, wd.heap.size = n := ⟨_, rfl⟩
    have hbi : Below wd.heap.size wd Wi := by
     rw [← hWi];exact ((((Below.refl wd.heap.size wd).alloc (Nat.le_refl _) _).alloc (by simp) _).alloc (by simp; omega) _).alloc (by simp; omega) _
    have b1 : Ln.Bk Wi hz #[.pointer (some ⟨gd, 0, none⟩)] 221 := by rw [← hWi, ← hhz]; exact (((Ln.Bk.new _ _ _).alloc _).alloc _).alloc _
    have b2 : Ln.Bk Wi (hz + 1) (Er.E.cells ⟨std, ek, esv, ru, fm, en, ⟨y, mm, dk, dn, dd, sc, cc⟩⟩).toArray 191 := by
     have := ((Ln.Bk.new (wd.alloc (.cells #[.pointer (some ⟨gd, 0, none⟩)] 221)) (Er.E.cells ⟨std, ek, esv, ru, fm, en, ⟨y, mm, dk, dn, dd, sc, cc⟩⟩).toArray 191).alloc (.cells #[.int .i64 f] 2)).alloc (.cells #[.int .i64 t] 2);rw [hWi, World.size_alloc, hhz] at this;exact this
    have b3 : Ln.Bk Wi (hz + 2) #[.int .i64 f] 2 := by
     have := (Ln.Bk.new ((wd.alloc (.cells #[.pointer (some ⟨gd, 0, none⟩)] 221)).alloc (.cells (Er.E.cells ⟨std, ek, esv, ru, fm, en, ⟨y, mm, dk, dn, dd, sc, cc⟩⟩).toArray 191)) #[.int .i64 f] 2).alloc (.cells #[.int .i64 t] 2);rw [hWi, World.size_alloc, World.size_alloc, hhz] at this;exact this
    have b4 : Ln.Bk Wi (hz + 3) #[.int .i64 t] 2 := by
     have := Ln.Bk.new (((wd.alloc (.cells #[.pointer (some ⟨gd, 0, none⟩)] 221)).alloc (.cells (Er.E.cells ⟨std, ek, esv, ru, fm, en, ⟨y, mm, dk, dn, dd, sc, cc⟩⟩).toArray 191)).alloc (.cells #[.int .i64 f] 2)) #[.int .i64 t] 2;rw [hWi, World.size_alloc, World.size_alloc, World.size_alloc, hhz] at this;exact this
    have hbw := below_then hbd2 hbi;have HPi := Lib.hid (HP3.out.call hbw (Nat.le_refl _));have HJi := Lib.hid (HJb.out _ _ _ HJ3.out hbw);have HMi := Lib.hid (HM3.out.call hbw);have hDlt : ∀ D ∈ Ds, D < Wi.heap.size := HMi.out.lt;have hBWi : W.heap.size ≤ Wi.heap.size := by
     have := HPi.out.y.lt;have := HH.out;omega
    have hw0i : w0.heap.size ≤ Wi.heap.size := HPi.out.below.size;have hEB : Ln.EB (hz + 1) (hz + 2) hz (hz + 3) gd w0.heap.size ⟨std, ek, esv, ru, fm, en, ⟨y, mm, dk, dn, dd, sc, cc⟩⟩ f t w0 Wi := ⟨HPi.out.below, b2, b3, b1, b4⟩
    obtain ⟨hd1, hd2, hy1, hy2⟩ := HDs.out;have hdf : Ln.InDays f := hd1.of hd2 hfb (by omega);have hdt : Ln.InDays (t - 1) := hd1.of hd2 (by omega) (by omega);have hyf : 2 ≤ Ln.yr f := by
     have a := Ln.yr_bd hdf;have b := Ln.yr_bd hd1;rcases Int.lt_or_le (Ln.yr f) (Ln.yr fr) with q | q
     ·have := Oc.D_mono (show Ln.yr f + 1 ≤ Ln.yr fr by omega);omega
     ·omega
    have hyt : Ln.yr (t - 1) ≤ 9998 := by
     have a := Ln.yr_bd hdt;have b := Ln.yr_bd hd2;rcases Int.lt_or_le (Ln.yr (te - 1)) (Ln.yr (t - 1)) with q | q
     ·have := Oc.D_mono (show Ln.yr (te - 1) + 1 ≤ Ln.yr (t - 1) by omega);omega
     ·omega
    have hseq := inEra_stops 3 (hz + 1) (hz + 2) hz (hz + 3) gd s rv (.slice (some adz) n2 zc) lv evs (kz : Int) eA m ec fr te ⟨std, ek, esv, ru, fm, en, ⟨y, mm, dk, dn, dd, sc, cc⟩⟩ f t w0 (by rw [← HN2.out]; exact HD.out) HXe.out.1 HXe.out.2 hft hdf hdt hyf hyt Wi hEB;obtain ⟨xs, hxs⟩ : ∃ xs, Ln.inEra s.rules ⟨std, ek, esv, ru, fm, en, ⟨y, mm, dk, dn, dd, sc, cc⟩⟩ f t = xs := ⟨_, rfl⟩
    have hEq := HEq3.out;rw [hxs] at hseq hEq;have hlenN : ∀ pre : List Ln.Sp, pre.length < xs.length → (done ++ pre).length < N := fun pre hl => by
     have := HN.out;rw [hEq, List.length_append, List.length_append] at this;rw [List.length_append];omega
    have HEq4 := Lib.hid hEq;have HSq := Lib.hid hseq;have HLn := Lib.hid hlenN;have HDl := Lib.hid hDlt;rw [hhz];clear hWi hbi b1 b2 b3 b4 hbw hbd2 hwd hDlt hEB hd1 hd2 hy1 hy2 hdf hdt hyf hyt hseq hxs hEq hlenN d0 zd;go_wp2_with fail
    gi_wp2_with fail
    refine wpIn_rangeFunc_ownH (F := Fence.wide) (n := 5) rfl (by decide) (gf := 185) (lb := #[.pointer (some ⟨hz + 1, 0, none⟩), .pointer (some ⟨hz + 2, 0, none⟩), .pointer (some ⟨hz, 0, none⟩), .pointer (some ⟨hz + 3, 0, none⟩)]) rfl trivial (enters_of Tryz.func185 (by kernel_rfl) rfl)
     HSq.out (fun h k => h.trans k) (fun X l' o o' h1 h2 h3 h4 => Ln.Kp.put hw0i X l' o o' h1 h2 h3 h4) (Below.refl _ _) (fun _ => rfl)
     (fun pre X => JY (done ++ pre) X ∧ Ln.PB bD h gd l w0.heap.size w0 X ∧ Ln.Mk W.heap.size Ds X) (fun _ _ _ => False)
     (fun pre X X' row hs hg hr => ⟨(Ln.ownFrom_mono HJO.out hBWi) _ X X' row hs.1 hg hr, hs.2.1.grown hg hr hw0i (Nat.le_refl _), hs.2.2.grown hg (fun r e => (hr r e).1) HDl.out⟩)
     (fun _ _ _ _ _ hs _ _ => hs)
     ⟨by show JY _ _; rw [List.append_nil]; exact HJi.out, HPi.out, HMi.out⟩
     (fun p a' X => ∃ Bx, Ln.Bk X Bx #[.int .i64 p.fr, .int .i64 p.off, .bool p.dst] 164 ∧ a'.tmps.size = 49 ∧ a'.defers = [] ∧ a'.tmps.getD 2 undef = .pointer (some ⟨h, 0, none⟩) ∧ a'.tmps.getD 7 undef = .pointer (some ⟨Bx, 0, none⟩))
     (fun p a' _ X X' row hs hg hr => by obtain ⟨Bx, h1, h2⟩ := hs; exact ⟨Bx, h1.grown hg (fun r e => (hr r e).2), h2⟩)
     ?assign ?body ?done ?stop
    case assign =>
     rintro l' pre p X K ⟨i1, i2, i3⟩ hK;have hal : Below X.heap.size X (X.alloc (.cells #[.int .i64 p.fr, .int .i64 p.off, .bool p.dst] 164)) := (Below.refl _ _).alloc (Nat.le_refl _) _;unfold Ln.Sp.v
     gi_wp2
     exact hK _ _ (Ln.keeps_below hal) (Ln.Kp.of_below hal i2.below.size) ⟨HJb.out _ _ _ i1 hal, i2.call hal (Nat.le_refl _), i3.call hal⟩ ⟨X.heap.size, Ln.Bk.new _ _ _, rfl, rfl, rfl, rfl⟩
    case body =>
     rintro l' pre p a' X hl' _ ⟨i1, i2, i3⟩ ⟨Bx, hBx, hsz, hdf, s2, s7⟩ hlen;have ef := Ln.frame_all 49 a' hsz;obtain ⟨v, hu⟩ : ∃ v : Nat → Value, (fun i => a'.tmps.getD i undef) = v := ⟨_, rfl⟩
     rw [hu, hdf] at ef;have e2 : v 2 = _ := (congrFun hu 2).symm.trans s2;have e7 : v 7 = _ := (congrFun hu 7).symm.trans s7;have ef2 : a' = { tmps := (v 0 :: v 1 :: v 2 :: v 3 :: v 4 :: v 5 :: v 6 :: v 7 :: v 8 :: v 9 :: v 10 :: v 11 :: v 12 :: v 13 :: v 14 :: v 15 :: v 16 :: v 17 :: v 18 :: v 19 :: v 20 :: v 21 :: v 22 :: v 23 :: v 24 :: v 25 :: v 26 :: v 27 :: v 28 :: v 29 :: v 30 :: v 31 :: v 32 :: v 33 :: v 34 :: v 35 :: v 36 :: v 37 :: v 38 :: v 39 :: v 40 :: v 41 :: v 42 :: v 43 :: v 44 :: v 45 :: v 46 :: v 47 :: v 48 :: [] : List Value).toArray, defers := [] } := ef;rw [e2, e7] at ef2;rw [ef2];have c0 := hBx.at_.cell 0 _ rfl;have c1 := hBx.at_.cell 1 _ rfl;have c2 := hBx.at_.cell 2 _ rfl;have zx := hBx.lt;have y0 := i2.y.at_.cell 0 _ rfl;have zy := i2.y.lt;obtain ⟨fn, tmps, assign, body, hy, hR⟩ := HY.out _ p X i1 (HLn.out pre hlen);unfold Ln.Sp.v at hy;have HI2 := Lib.hid i2;have HI3 := Lib.hid i3;clear ef hu e2 e7 ef2 s2 s7 hsz hdf hBx i1 i2 i3
     gi_wp2_with fail
     refine (Ln.round_in (Ln.round_any hR)).mono ?_;rintro e X3 ⟨rfl, hj, hkp, hkf⟩;have HE1 : Hid (KeepsFrom Wi.heap.size X X3 ∧ Ln.Kp w0.heap.size X X3 ∧ JY (done ++ (pre ++ [p])) X3 ∧ Ln.PB bD h gd l w0.heap.size w0 X3 ∧ Ln.Mk W.heap.size Ds X3) := ⟨Ln.keeps_mono hkf (Nat.le_trans hBW hBWi), hkp, by rw [← List.append_assoc]; exact hj, HI2.out.kp hkp, HI3.out.keeps (Ln.keeps_mono hkf hBW)⟩
     clear hj hkp hkf
     gi_wp2
     exact HE1.out
    case stop =>
     rintro D c pre X _ _ hs _;exact hs.elim
    case done =>
     rintro D ys X hDD rfl ⟨i1, i2, i3⟩ hK;have HE1 := Lib.hid (And.intro i1 i2);have hMk : Ln.Mk W.heap.size (D :: Ds) X := ⟨List.nodup_cons.2 ⟨fun hm => by have := HDl.out D hm; omega, i3.nd⟩, fun E hE => by
      rcases List.mem_cons.1 hE with rfl | hE
      ·exact ⟨Nat.le_trans hBWi hDD, hK⟩
      ·exact i3.at_ E hE⟩
     have HMk := Lib.hid hMk;have w4 : IntKind.i64.wrap ((r : Int) - 1) = (r : Int) - 1 := by rw [IntKind.wrap_i64]; omega
     clear i1 i2 i3 hMk hK
     gi_wp2
     refine ⟨⟨r, done ++ ys, D :: Ds, by omega, rfl, rfl, rfl, rfl, rfl, rfl, rfl, by show _ = _; rw [HEq4.out, List.append_assoc], HE1.out.1, HE1.out.2, HMk.out⟩, ?_⟩;show (((r : Int) - 1) + 1).toNat < r + 1
     omega
end Go.Proofs.YtjobhjemnmleaaaGreatDoor
