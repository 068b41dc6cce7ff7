/- How many pieces a line has. -/
import Derived.Test.YtolgigaolffenaaGreatDoorQ11
import Derived.Test.YtolgigaolffenaaGreatDoorQ19
import Derived.Test.YtolgigaolffenaaGreatDoorQ26
import Derived.RangeFuncNested
import Derived.RangeFuncBound
import Derived.RangeFuncCalls
import Derived.RangeFuncLeaves
import Derived.Shelf.Abstract
import Derived.Shelf.AbstractIn
import Derived.Shelf.RegionOpen
import Derived.OwnWalkIn
import Derived.TacticsInMore
import Derived.LoopNIn
import Derived.LoopIn
import Derived.Laws.EntriesVeiled
import Derived.Test.YtolgigaolffenaaGreatDoorQ01
import Derived.Orders
import Derived.RegionTactic

namespace Go.Proofs.YtolgigaolffenaaGreatDoor
open Go.RowKit

namespace Oc
theorem of_len (l : List Ru.R) (lo hi : Int) {k : Nat} (h : hi - lo + 1 ≤ k) : (of l lo hi).length ≤ l.length + k * l.length := by
  unfold of
  rw [List.length_map, (perm_isort _).length_eq]
  unfold ofU
  rw [List.length_append]
  have h1 := backs_len l lo (pls l 0)
  have h2 := pls_len l 0
  have h3 := years_len l (yrs (hi - lo + 1).toNat lo)
  rw [yrs_len] at h3
  have h4 : (hi - lo + 1).toNat * l.length ≤ k * l.length := Nat.mul_le_mul_right _ (by omega)
  omega
end Oc
namespace Ln
theorem inEra_len {rules : List Ru.R} (hl : rules.length ≤ 4096) (e : Er.E) (fr te : Int) {k : Nat} (h : yr (te - 1) - yr fr + 3 ≤ k) : (inEra rules e fr te).length ≤ 4096 + k * 4096 + 1 := by
  unfold inEra
  split
  · have h1 := inGo_len e.std fr (Oc.of (Src.ofName e.ru rules) (yr fr - 1) (yr (te - 1) + 1)).reverse te
    have h2 := Oc.of_len (Src.ofName e.ru rules) (yr fr - 1) (yr (te - 1) + 1) (k := k) (by omega)
    have h3 : (Src.ofName e.ru rules).length ≤ 4096 := Nat.le_trans (List.length_filter_le _ _) hl
    have h4 : k * (Src.ofName e.ru rules).length ≤ k * 4096 := Nat.mul_le_mul_left _ h3
    rw [List.length_reverse] at h1
    omega
  · simp
theorem yr_le {a b : Int} (ha : InDays a) (hb : InDays b) (h : a ≤ b) : yr a ≤ yr b := by
  have h1 := yr_bd ha
  have h2 := yr_bd hb
  by_cases q : yr a ≤ yr b
  · exact q
  · have := Oc.D_mono (show yr b + 1 ≤ yr a by omega)
    omega
theorem pieces_len {rules : List Ru.R} {eras : List Er.E} {ends : List Int} {fr te : Int} (hl : rules.length ≤ 4096) (hd1 : InDays fr) (hd2 : InDays (te - 1)) (hy : yr (te - 1) - yr fr ≤ 400) :
    ∀ k, (pieces rules eras ends fr te k).length ≤ k * 2000000
  | 0 => by simp [pieces]
  | k + 1 => by
    have ih := pieces_len hl hd1 hd2 hy (eras := eras) (ends := ends) k
    unfold pieces
    rw [List.length_append]
    split
    · simp only [List.length_nil]
      omega
    · rename_i hgt
      have hup : upto ends te k ≤ te := by unfold upto; split <;> omega
      have hm := maxs_ge ends fr k
      have i1 : InDays (maxs ends fr k) := hd1.of hd2 hm.1 (by omega)
      have i2 : InDays (upto ends te k - 1) := hd1.of hd2 (by omega) (by omega)
      have h1 := yr_le hd1 i1 hm.1
      have h2 := yr_le i2 hd2 (by omega)
      have h3 := inEra_len hl (eras.getD k Er.E.zero) (maxs ends fr k) (upto ends te k) (k := 403) (by omega)
      omega
theorem years_in {lo hi : Int} (h1 : 1 < lo) (h2 : hi < 9999) (h3 : lo ≤ hi) : Oc.D lo * 86400 < Oc.D (hi + 1) * 86400 ∧ InDays (Oc.D lo * 86400) ∧ InDays (Oc.D (hi + 1) * 86400 - 1) ∧ yr (Oc.D lo * 86400) = lo ∧ yr (Oc.D (hi + 1) * 86400 - 1) = hi := by
  have a := d_bd (y := lo) (by omega) (by omega)
  have b := d_bd (y := hi + 1) (by omega) (by omega)
  have c := Oc.D_mono (show lo + 1 ≤ hi + 1 by omega)
  have d := Oc.D_next lo
  have e := Oc.D_next hi
  have i1 : InDays (Oc.D lo * 86400) := by unfold InDays; omega
  have i2 : InDays (Oc.D (hi + 1) * 86400 - 1) := by unfold InDays; omega
  exact ⟨by omega, i1, i2, yr_of i1 (by omega) (by omega), yr_of i2 (by omega) (by omega)⟩
def lineOf (s : Src.S) (eras : List Er.E) (lo hi : Int) : List Sp := line s.rules eras (Eg.ends s.rules eras) (Oc.D lo * 86400) (Oc.D (hi + 1) * 86400)
def InY (lo hi : Int) : Prop := 1 < lo ∧ hi < 9999 ∧ lo ≤ hi ∧ hi - lo < 400
def OfRet (s : Src.S) (z lo hi : Int) (B : Nat) (e : Ending) (w' : World) : Prop :=
  (Vd.well s = false ∧ e = .returned (.tuple #[.slice none 0 0, .int .i64 2])) ∨ (Vd.well s = true ∧ Eg.zoneAt s z = none ∧ e = .returned (.tuple #[.slice none 0 0, .int .i64 3])) ∨
  (∃ x, Vd.well s = true ∧ Eg.zoneAt s z = some x ∧ ¬ InY lo hi ∧ e = .returned (.tuple #[.slice none 0 0, .int .i64 1])) ∨
  (∃ x v, Vd.well s = true ∧ Eg.zoneAt s z = some x ∧ InY lo hi ∧ e = .returned (.tuple #[v, .int .i64 0]) ∧ w'.ownsRow B 71 3 v (lineOf s x.2 lo hi).length ((lineOf s x.2 lo hi).flatMap Sp.cells))
end Ln
end Go.Proofs.YtolgigaolffenaaGreatDoor

/- Two lines, one behind the other. -/
namespace Go.Proofs.YtolgigaolffenaaGreatDoor
open Go.RowKit

namespace Ln
def join : List Sp → List Sp → List Sp
  | [], C => C
  | [a], C => match C with
    | [] => [a]
    | x :: C => if alike a x = true then a :: C else a :: x :: C
  | a :: b :: B, C => a :: join (b :: B) C
theorem join_head (b : Sp) (B C : List Sp) : (join (b :: B) C).head? = some b := by
  cases B with
  | nil =>
    cases C with
    | nil => rfl
    | cons x C =>
      unfold join
      simp only
      split <;> rfl
  | cons c B => rfl
theorem Cov.join {f : Int → Int × Bool} {m te : Int} : ∀ {B C : List Sp} {c : Int}, B ≠ [] → Cov f m c B → Cov f te m C → Cov f te c (join B C)
  | [], C, c, hn, _, _ => absurd rfl hn
  | [a], C, c, _, ⟨h0, d, h1, h2, h3, h4, _⟩, hC => by
    obtain rfl : d = m := h4
    cases C with
    | nil =>
      have e : d = te := hC
      subst e
      exact ⟨h0, d, h1, Int.le_refl _, h3, rfl, fun b hb => by cases hb⟩
    | cons x C =>
      have hle := hC.le
      obtain ⟨k0, d', k1, k2, k3, k4, k5⟩ := hC
      unfold Ln.join
      simp only
      by_cases ha : alike a x = true
      · rw [if_pos ha]
        rw [alike_iff] at ha
        refine ⟨h0, d', by omega, k2, fun t g1 g2 => ?_, k4, fun b hb => ?_⟩
        · by_cases q : t < d
          · exact h3 t g1 q
          · rw [k3 t (by omega) g2, ha.1, ha.2]
        · have := k5 b hb
          unfold alike at this ⊢
          rw [ha.1, ha.2]
          exact this
      · rw [if_neg ha]
        refine ⟨h0, d, h1, hle, h3, ⟨k0, d', k1, k2, k3, k4, k5⟩, fun b hb => ?_⟩
        obtain rfl : x = b := by simpa using hb
        simpa using ha
  | a :: b :: B, C, c, _, ⟨h0, d, h1, h2, h3, h4, h5⟩, hC => by
    have ih := Cov.join (B := b :: B) (by simp) h4 hC
    refine ⟨h0, d, h1, Int.le_trans h2 hC.le, h3, ih, fun x hx => ?_⟩
    rw [join_head] at hx
    exact h5 x hx
theorem join_end (B : List Sp) (l : Sp) (C : List Sp) : join (B ++ [l]) C = B ++ [l] ++ (match C with
    | [] => []
    | x :: C => if alike l x = true then C else x :: C) := by
  induction B with
  | nil =>
    cases C with
    | nil => rfl
    | cons x C =>
      show (if alike l x = true then l :: C else l :: x :: C) = l :: (if alike l x = true then C else x :: C)
      split <;> rfl
  | cons b B ih =>
    cases B with
    | nil =>
      show b :: join [l] C = _
      have := ih
      simp only [List.nil_append] at this
      rw [this]
      rfl
    | cons c B =>
      show b :: join (c :: (B ++ [l])) C = _
      have := ih
      simp only [List.cons_append] at this
      rw [this]
      simp
theorem lineOf_cov {s : Src.S} {eras : List Er.E} (hr : Eg.RulesOk s.rules) (hz : Eg.ZoneOk eras) {lo hi : Int} (h : InY lo hi) : Cov (st s.rules eras (Eg.ends s.rules eras)) (Oc.D (hi + 1) * 86400) (Oc.D lo * 86400) (lineOf s eras lo hi) := by
  obtain ⟨h1, h2, h3, _⟩ := h
  obtain ⟨k1, k2, k3, _⟩ := years_in h1 h2 h3
  exact line_cov (hz.fit hr) (by rw [Eg.ends_len]; have := hz.len.1; omega) k1 k2 k3
theorem lineOf_ne {s : Src.S} {eras : List Er.E} (hr : Eg.RulesOk s.rules) (hz : Eg.ZoneOk eras) {lo hi : Int} (h : InY lo hi) : lineOf s eras lo hi ≠ [] := by
  intro e
  have hc := lineOf_cov hr hz h
  rw [e] at hc
  have e2 : Oc.D lo * 86400 = Oc.D (hi + 1) * 86400 := hc
  have := (years_in h.1 h.2.1 h.2.2.1).1
  omega
theorem parts {s : Src.S} {eras : List Er.E} (hr : Eg.RulesOk s.rules) (hz : Eg.ZoneOk eras) {lo mid hi : Int} (h : InY lo hi) (h1 : lo ≤ mid) (h2 : mid < hi) : lineOf s eras lo hi = join (lineOf s eras lo mid) (lineOf s eras (mid + 1) hi) := by
  have i1 : InY lo mid := by unfold InY at h ⊢; omega
  have i2 : InY (mid + 1) hi := by unfold InY at h ⊢; omega
  exact (lineOf_cov hr hz h).one (Cov.join (lineOf_ne hr hz i1) (lineOf_cov hr hz i1) (lineOf_cov hr hz i2))
end Ln
end Go.Proofs.YtolgigaolffenaaGreatDoor

/- drawing.while: how long an era holds, as far as it is drawn. -/
namespace Go.Proofs.YtolgigaolffenaaGreatDoor
open Go.RowKit

namespace Ln
def i64s (l : List Int) : List Value := l.map fun t => .int .i64 t
end Ln
set_option maxHeartbeats 4000000 in
set_option maxRecDepth 100000 in
theorem lnWhile_any (ends : List Int) (fr te : Int) (k m ec gd : Nat) (rv zv lv : Value) (z : Int) (eA : Option Addr) (w : World) (hm : ends.length = m) (hk : k ≤ m) (hm2 : m ≤ ec) (hec : ec ≤ maxLen) (h0 : eA = none → ec = 0)
    (hA : At w gd [rv, zv, lv, .int .i64 z, .slice eA m ec, .int .i64 fr, .int .i64 te]) (hR : Reads w w.heap.size 1 eA m (Ln.i64s ends)) :
    Calls Tryz.prog 143 #[.pointer (some ⟨gd, 0, none⟩), .int .i64 (k : Int)] w fun e w' => e = .returned (.tuple #[.int .i64 (Ln.maxs ends fr k), .int .i64 (Ln.upto ends te k)]) ∧ Below w.heap.size w w' := by
  unfold maxLen at hec
  have a4 := hA.cell 4 _ rfl
  have a5 := hA.cell 5 _ rfl
  have a6 := hA.cell 6 _ rfl
  have za := hA.lt
  have q1 : (k : Int) ≤ (ec : Int) := by omega
  have q2 : (0 : Int) ≤ (k : Int) := by omega
  have q3 : k ≤ ec := by omega
  have HA := Lib.hid hA
  have HR := Lib.hid hR
  have HM := Lib.hid hm
  have HD : Hid (∀ n, Below w.heap.size w (w.drewN n)) := fun n => (show Drew w (w.drewN n) from ⟨n, rfl⟩).below w.heap.size
  rcases eA with _ | ad
  · obtain rfl := h0 rfl
    obtain rfl : k = 0 := by omega
    obtain rfl : m = 0 := by omega
    have e1 : Ln.maxs ends fr 0 = fr := rfl
    have e2 : Ln.upto ends te 0 = te := by
      obtain rfl : ends = [] := List.eq_nil_of_length_eq_zero hm
      rfl
    rw [e1, e2]
    clear hA hR hm h0 e1 e2 hk hm2 hec
    go_enter Tryz.func143, Tryz.ntmps143
    go_wp2_with fail
    go_quiet (fail)
    go_wp2_with fail
    go_loopw [6, 25] (fun v i wr => v = .int .i64 fr ∧ i = .int .i64 0 ∧ Hid (Below w.heap.size w wr)) (fun _ _ _ => 0)
    case atStart => exact ⟨rfl, rfl, HD.out _⟩
    case round =>
      obtain ⟨rfl, rfl, HB⟩ := hrel
      have hA9 := HA.out.call HB.out
      have b4 := hA9.cell 4 _ rfl
      have zb := hA9.lt
      clear hA9 a4 a5 a6
      go_wp2
      go_ret2
      exact ⟨rfl, HB.out⟩
  · have hkl : k ≤ ends.length := by omega
    obtain ⟨U, hU⟩ : ∃ U, Ln.upto ends te k = U := ⟨_, rfl⟩
    rw [hU]
    have HU := Lib.hid hU
    clear hA hR hm h0 hU
    go_enter Tryz.func143, Tryz.ntmps143
    go_wp2_with fail
    go_quiet (fail)
    go_wp2_with fail
    go_loopw [6, 25] (fun v i wr => ∃ j : Nat, j ≤ k ∧ i = .int .i64 (j : Int) ∧ v = .int .i64 (Ln.maxs ends fr j) ∧ Hid (Below w.heap.size w wr)) (fun _ i _ => k - (intOf i).toNat)
    case atStart => exact ⟨0, Nat.zero_le _, rfl, rfl, HD.out _⟩
    case round =>
      obtain ⟨j, hj, rfl, rfl, HB⟩ := hrel
      by_cases hlt : j < k
      · obtain ⟨ad', u, e, hab, hu, hcu⟩ := (HR.out.below HB.out).at_ (show j < m by omega)
        obtain rfl : ad = ad' := by injection e
        obtain ⟨x, hx⟩ : ∃ x, ends[j]? = some x := ⟨_, List.getElem?_eq_getElem (by rw [HM.out]; omega)⟩
        have hux : u = .int .i64 x := by
          unfold Ln.i64s at hu
          rw [List.getElem?_map, hx] at hu
          exact (Option.some.inj hu).symm
        subst hux
        have hst := Ln.maxs_succ ends fr j hx
        obtain ⟨M, hM⟩ : ∃ M, Ln.maxs ends fr j = M := ⟨_, rfl⟩
        rw [hM] at hst ⊢
        have p1 : (0 : Int) ≤ (j : Int) := by omega
        have p2 : (j : Int) < (k : Int) := by omega
        have HS := Lib.hid hst
        clear hst hM hx hu e
        go_wp2
        go_roundw
        case rel => exact ⟨j + 1, by omega, by go_num, by rw [HS.out], HB.out⟩
        case measure => simp [intOf]; omega
      · obtain rfl : j = k := by omega
        have p2 : ¬ (j : Int) < (j : Int) := by omega
        have hA9 := HA.out.call HB.out
        have b4 := hA9.cell 4 _ rfl
        have zb := hA9.lt
        have HR9 := Lib.hid (HR.out.below HB.out)
        clear hA9 a4 a5 a6
        by_cases hjm : j < m
        · obtain ⟨ad', u, e, hab, hu, hcu⟩ := HR9.out.at_ hjm
          obtain rfl : ad = ad' := by injection e
          obtain ⟨x, hx⟩ : ∃ x, ends[j]? = some x := ⟨_, List.getElem?_eq_getElem (by rw [HM.out]; omega)⟩
          have hux : u = .int .i64 x := by
            unfold Ln.i64s at hu
            rw [List.getElem?_map, hx] at hu
            exact (Option.some.inj hu).symm
          subst hux
          have hup : Ln.upto ends te j = min te x := by unfold Ln.upto; rw [hx]
          obtain rfl : U = min te x := HU.out.symm.trans hup
          have p3 : (j : Int) < (m : Int) := by omega
          clear hu e hx hup HU
          go_wp2
          go_ret2
          exact ⟨rfl, HB.out⟩
        · have hup : Ln.upto ends te j = te := by
            unfold Ln.upto
            rw [List.getElem?_eq_none (by rw [HM.out]; omega)]
          obtain rfl : U = te := HU.out.symm.trans hup
          have p3 : ¬ (j : Int) < (m : Int) := by omega
          clear hup HU
          go_wp2
          go_ret2
          exact ⟨rfl, HB.out⟩
end Go.Proofs.YtolgigaolffenaaGreatDoor

/- What the two iterators of package line ask of a round: what lies below a height is kept, and so is what is no span's and no slice of spans' above it. -/
namespace Go.Proofs.YtolgigaolffenaaGreatDoor
open Go.RowKit Go.Shelf
attribute [local go_sem] Oper.semAt_some

namespace Ln
def Bk (W : World) (k : Nat) (cs : Array Value) (t : TypeId) : Prop := W.heap[k]? = some (.cells cs t (0, 0))
def Ty (W W' : World) : Prop := ∀ (k : Nat) (cs : Array Value) (t : TypeId) (m : Nat × Nat), W.heap[k]? = some (.cells cs t m) → t ≠ 71 → t ≠ 66 → W'.heap[k]? = W.heap[k]?
structure Kp (n : Nat) (W W' : World) : Prop where
  below : Below n W W'
  ty : Ty W W'
section
variable {n : Nat} {W W' W'' : World} {k : Nat} {cs : Array Value} {t : TypeId}
theorem Bk.lt (h : Bk W k cs t) : k < W.heap.size := (Array.getElem?_eq_some_iff.1 h).1
theorem Bk.new (W : World) (cs : Array Value) (t : TypeId) : Bk (W.alloc (.cells cs t)) W.heap.size cs t := World.alloc_heap_new W _
theorem Bk.call (h : Bk W k cs t) (hb : Below W.heap.size W W') : Bk W' k cs t := (hb.block k h.lt).trans h
theorem Bk.alloc (h : Bk W k cs t) (o : Obj) : Bk (W.alloc o) k cs t := h.call ((Below.refl _ _).alloc (Nat.le_refl _) _)
theorem Bk.kp (h : Bk W k cs t) (hk : Kp n W W') (h1 : t ≠ 71) (h2 : t ≠ 66) : Bk W' k cs t := (hk.ty k cs t _ h h1 h2).trans h
theorem Bk.at_ (h : Bk W k cs t) : At W k cs.toList := by
  refine ⟨h.lt, fun i v hi => ⟨?_, ?_⟩⟩
  · have : W.heap[k]? = some (.cells cs t (0, 0)) := h
    simp [World.cell?, this]
    simpa using hi
  · have : W.heap[k]? = some (.cells cs t (0, 0)) := h
    simp [World.frozen?, this]
theorem Bk.grown {row : Option Nat} (h : Bk W k cs t) (hg : W.grownBy W' row) (hr : ∀ r, row = some r → ∃ o : Obj, W.heap[r]? = some o ∧ o.isCells = false) : Bk W' k cs t := by
  refine (hg.block k h.lt (fun e => ?_)).trans h
  obtain ⟨o, ho, hc⟩ := hr k e.symm
  rw [show W.heap[k]? = _ from h] at ho
  cases ho
  cases hc
theorem Ty.trans (h : Ty W W') (k : Ty W' W'') : Ty W W'' := fun i cs t m hi h1 h2 => by
  have e := h i cs t m hi h1 h2
  exact (k i cs t m (e.trans hi) h1 h2).trans e
theorem Ty.of_below (hb : Below W.heap.size W W') : Ty W W' := fun i _ _ _ hi _ _ => hb.block i (Array.getElem?_eq_some_iff.1 hi).1
theorem Kp.refl (n : Nat) (W : World) : Kp n W W := ⟨Below.refl _ _, fun _ _ _ _ _ _ _ => rfl⟩
theorem Kp.trans (h : Kp n W W') (k : Kp n W' W'') : Kp n W W'' := ⟨h.below.trans k.below, h.ty.trans k.ty⟩
theorem Kp.of_below (hb : Below W.heap.size W W') (hn : n ≤ W.heap.size) : Kp n W W' := ⟨hb.mono hn, Ty.of_below hb⟩
theorem Kp.then_ (h : Kp n W W') (hb : Below W'.heap.size W' W'') (hn : n ≤ W.heap.size) : Kp n W W'' := h.trans (Kp.of_below hb (Nat.le_trans hn h.below.size))
theorem Kp.put {w : World} (hn : n ≤ w.heap.size) (W : World) (l : Nat) (o o' : Obj) (hl : w.heap.size ≤ l) (h : W.heap[l]? = some o) (hc : o.isCells = false) (_ : o.isWalk = false) : Kp n W (W.putObj l o') := by
  refine ⟨(Below.refl n W).grown (grownBy_putObj' W l o') (by have := (Array.getElem?_eq_some_iff.1 h).1; omega) (fun k e => by cases e; omega), fun i cs t m hi _ _ => ?_⟩
  refine World.putObj_heap_other (fun e => ?_)
  subst e
  rw [h] at hi
  cases hi
  cases hc
end
structure Dr (s : Src.S) (rv zv lv : Value) (evs : List Value) (z : Int) (eA : Option Addr) (m ec : Nat) (fr te : Int) (gd : Nat) (w0 : World) : Prop where
  src : Src.SrcR w0 w0.heap.size s rv zv lv evs
  at_ : At w0 gd [rv, zv, lv, .int .i64 z, .slice eA m ec, .int .i64 fr, .int .i64 te]
  wo : Wo w0
  ok : Eg.RulesOk s.rules
  wc : ∀ r ∈ s.rules, 0 ≤ r.c
theorem Dr.call {s : Src.S} {rv zv lv : Value} {evs : List Value} {z : Int} {eA : Option Addr} {m ec : Nat} {fr te : Int} {gd : Nat} {w0 w : World} (h : Dr s rv zv lv evs z eA m ec fr te gd w0) (hb : Below w0.heap.size w0 w) : Dr s rv zv lv evs z eA m ec fr te gd w :=
  ⟨h.src.call hb, h.at_.call hb, h.wo.below hb, h.ok, h.wc⟩
structure EB (bE bF bD bT gd n : Nat) (e : Er.E) (fr te : Int) (w0 W : World) : Prop where
  below : Below n w0 W
  e : Bk W bE e.cells.toArray 53
  f : Bk W bF #[.int .i64 fr] 2
  d : Bk W bD #[.pointer (some ⟨gd, 0, none⟩)] 201
  t : Bk W bT #[.int .i64 te] 2
theorem EB.call {bE bF bD bT gd n : Nat} {e : Er.E} {fr te : Int} {w0 W W' : World} (h : EB bE bF bD bT gd n e fr te w0 W) (hb : Below W.heap.size W W') (hn : n ≤ w0.heap.size) : EB bE bF bD bT gd n e fr te w0 W' :=
  ⟨h.below.trans (hb.mono (Nat.le_trans hn h.below.size)), h.e.call hb, h.f.call hb, h.d.call hb, h.t.call hb⟩
theorem EB.kp {bE bF bD bT gd n : Nat} {e : Er.E} {fr te : Int} {w0 W W' : World} (h : EB bE bF bD bT gd n e fr te w0 W) (hk : Kp n W W') : EB bE bF bD bT gd n e fr te w0 W' :=
  ⟨h.below.trans hk.below, h.e.kp hk (by decide) (by decide), h.f.kp hk (by decide) (by decide), h.d.kp hk (by decide) (by decide), h.t.kp hk (by decide) (by decide)⟩
theorem own_kp {n base : Nat} {W W' : World} {e : TypeId} {size k : Nat} {v : Value} {xs : List Value} (h : W.ownsRow base e size v k xs) (hk : Kp n W W') (h1 : e ≠ 71) (h2 : e ≠ 66) : W'.ownsRow base e size v k xs := by
  refine ⟨h.1, ?_⟩
  rcases h.2 with hn | ⟨g, cap, cur, hv, hb, hg, rest⟩
  · exact .inl hn
  · exact .inr ⟨g, cap, cur, hv, hb, (hk.ty g cur e _ hg h1 h2).trans hg, rest⟩
def OcOk (std : Int) (o : Oc.E) : Prop := 0 ≤ o.c ∧ IsTime o.sv ∧ (Mo.ins o.n o.c std o.bf).2 = 0
theorem oc_ok {rules : List Ru.R} {std lo hi : Int} (hr : Eg.RulesOk rules) (hc : ∀ r ∈ rules, 0 ≤ r.c) (hs : IsTime std) : ∀ o ∈ Oc.of rules lo hi, OcOk std o := by
  intro o ho
  unfold Oc.of at ho
  obtain ⟨e, he, rfl⟩ := List.mem_map.1 ho
  have hev : Oc.Ev rules e := ((Oc.mem_ofU e).1 ((Oc.mem_isort e _).1 he)).1
  obtain ⟨i1, i2, _⟩ := hev.inT
  have hb := Oc.before_is hr.time hev
  have h3 := (Oc.ins_ok i1 i2 hs hb).1
  obtain ⟨r, h4, h5, h6⟩ := hev
  have hm := List.mem_of_getElem? h4
  refine ⟨?_, ?_, h3⟩
  · show 0 ≤ e.c
    rw [h6]
    exact hc r hm
  · show IsTime e.sv
    rw [h6]
    exact hr.time r hm
end Ln
end Go.Proofs.YtolgigaolffenaaGreatDoor

/- drawing.inEra: the pieces of an era, the last one first. -/
namespace Go.Proofs.YtolgigaolffenaaGreatDoor
open Go.RowKit Go.Shelf
attribute [local go_sem] Oper.semAt_some

theorem inEra_any (gd : Nat) (e : Er.E) (fr te : Int) (w : World) :
    Calls Tryz.prog 144 #[.pointer (some ⟨gd, 0, none⟩), e.v, .int .i64 fr, .int .i64 te] w fun r w' => r = .returned (.func (.func 165) #[] #[.pointer (some ⟨w.heap.size + 1, 0, none⟩), .pointer (some ⟨w.heap.size + 2, 0, none⟩), .pointer (some ⟨w.heap.size, 0, none⟩), .pointer (some ⟨w.heap.size + 3, 0, none⟩)]) ∧
      ((((w.alloc (.cells #[.pointer (some ⟨gd, 0, none⟩)] 201)).alloc (.cells e.cells.toArray 53)).alloc (.cells #[.int .i64 fr] 2)).alloc (.cells #[.int .i64 te] 2)) = w' := by
  unfold Er.E.v Er.E.cells
  go_enter Tryz.func144, Tryz.ntmps144
  go_wp2
  go_ret
  exact ⟨rfl, rfl⟩
namespace Ln
def SqRet (xs : List Sp) (JY JX : List Sp → World → Prop) (e : Ending) (W' : World) : Prop :=
  (∃ v, e = .returned v) ∧ ((∃ ys, ys = xs ∧ JY ys W') ∨ (∃ pre : List Sp, True ∧ JX pre W'))
def Yd (n : Nat) (JY JX : List Sp → World → Prop) (pre : List Sp) (x : Sp) (W : World) (e : Ending) (W' : World) : Prop :=
  ∃ b, e = .returned (.bool b) ∧ ((b = true ∧ JY (pre ++ [x]) W' ∧ Kp n W W') ∨ (b = false ∧ JX (pre ++ [x]) W'))
end Ln
set_option maxHeartbeats 4000000 in
set_option maxRecDepth 100000 in
theorem inEra1_one (n : Nat) (l bE bF bD bT gd n₀ : Nat) (e : Er.E) (fr te : Int) (w0 : World) (JY JX : List Ln.Sp → World → Prop)
    (hk : e.k ≠ 2) (h1 : IsTime e.std) (h2 : IsTime e.sv)
    (hY : ∀ pre x W, JY pre W → pre.length < 1 → YieldAt Fence.wide n Tryz.prog l #[x.v] W (Ln.Yd n₀ JY JX pre x W))
    (hJ : ∀ pre W W', JY pre W → Below W.heap.size W W' → JY pre W')
    (W : World) (hB : Ln.EB bE bF bD bT gd n₀ e fr te w0 W) (h0 : JY [] W) :
    CallsIn Fence.wide (n + 1) Tryz.prog 165 #[.func (.yield l) #[] #[], .pointer (some ⟨bE, 0, none⟩), .pointer (some ⟨bF, 0, none⟩), .pointer (some ⟨bD, 0, none⟩), .pointer (some ⟨bT, 0, none⟩)] W (Ln.SqRet [Ln.piece fr e.std e.sv] JY JX) := by
  obtain ⟨std, ek, esv, ru, fm, en, ⟨y, m, dk, dn, dd, sc, cc⟩⟩ := e
  simp only at hk h1 h2 ⊢
  have hA := hB.e.at_
  have e0 := hA.cell 0 _ rfl
  have e1 := hA.cell 1 _ rfl
  have e2 := hA.cell 2 _ rfl
  have f0 := hB.f.at_.cell 0 _ rfl
  have z1 := hB.e.lt
  have z2 := hB.f.lt
  have k1 : (ek != 2) = true := by simpa using hk
  have HP := Lib.hid fun W => lnPiece_any fr std esv W h1 h2
  obtain ⟨p, hp⟩ : ∃ p, Ln.piece fr std esv = p := ⟨_, rfl⟩
  rw [hp] at HP ⊢
  have HY := Lib.hid fun W hW => hY [] p W hW (Nat.lt_succ_self 0)
  have HJ := Lib.hid fun W' hb => hJ [] W W' h0 hb
  unfold Ln.Sp.v at HP HY
  clear hk h1 h2 hY hJ hB hA h0 hp
  refine callsIn_of_wp Tryz.func165 rfl trivial ?_ rfl
  simp only [Tryz.ntmps165, List.size_toArray, List.length_cons, List.length_nil, Nat.reduceAdd, Nat.reduceSub, Array.replicate_succ, Array.replicate_zero, List.push_toArray, List.append_toArray, List.nil_append, List.cons_append]
  gi_wp2_with fail
  refine ⟨trivial, (callsIn_wide.2 (HP.out _)).mono ?_⟩
  rintro e w3 ⟨rfl, hb3⟩
  obtain ⟨fn, tmps, assign, body, hy, hR⟩ := HY.out _ (HJ.out _ hb3)
  clear hb3
  gi_wp2_with fail
  refine hR.mono ?_
  rintro e W3 ⟨b, rfl, hres⟩
  have HRes := Lib.hid hres
  clear hres
  gi_wp2
  refine bodyPost_ret (results_none rfl _ _ _) rfl ⟨⟨_, rfl⟩, ?_⟩
  rcases HRes.out with ⟨rfl, h1, _⟩ | ⟨rfl, h1⟩
  · exact .inl ⟨_, rfl, h1⟩
  · exact .inr ⟨_, trivial, h1⟩
end Go.Proofs.YtolgigaolffenaaGreatDoor

/- A region that draws its order, by an invariant: what is done, what the slots hold, the world. -/
namespace Go.Proofs.YtolgigaolffenaaGreatDoor
open Go.RowKit

namespace Od
def slots (a : Act) : Nat → Value := fun k => a.tmps.getD k undef
def upd {α : Type} (f : Nat → α) (i : Nat) (v : α) : Nat → α := fun j => if j = i then v else f j
def updo (u : Nat → Value) (d : Option Tmp) (v : Value) : Nat → Value := match d with
  | some k => upd u k v
  | none => u
theorem slots_put {a : Act} {d : Option Tmp} {v : Value} (h : ∀ k, d = some k → k < a.tmps.size) : slots (a.put d v) = updo (slots a) d v := by
  cases d with
  | none => rfl
  | some k =>
    have hk := h k rfl
    funext j
    show (a.tmps.setIfInBounds k v).getD j undef = if j = k then v else a.tmps.getD j undef
    by_cases e : j = k
    · subst e
      rw [if_pos rfl]
      simp [Array.getD, hk]
    · rw [if_neg e]
      simp only [Array.getD_eq_getD_getElem?, Array.getElem?_setIfInBounds, if_neg (Ne.symm e)]
theorem size_put {a : Act} {d : Option Tmp} {v : Value} : (a.put d v).tmps.size = a.tmps.size := by
  cases d with
  | none => rfl
  | some k => show (a.tmps.setIfInBounds k v).size = _; simp
theorem defers_put {a : Act} {d : Option Tmp} {v : Value} : (a.put d v).defers = a.defers := by cases d <;> rfl
theorem count_set : ∀ (l : List Bool) (i : Nat), l[i]? = some false → (l.set i true).count false + 1 = l.count false
  | [], i, h => by simp at h
  | x :: l, 0, h => by
    simp at h
    subst h
    simp
  | x :: l, i + 1, h => by
    have := count_set l i (by simpa using h)
    simp only [List.set_cons_succ, List.count_cons]
    omega
theorem all_true : ∀ (l : List Bool), l.count false = 0 → ∀ x ∈ l, x = true
  | [], _, x, hx => by cases hx
  | y :: l, h, x, hx => by
    simp only [List.count_cons] at h
    have h1 : l.count false = 0 := by omega
    have h2 : y = true := by
      cases y
      · simp at h
      · rfl
    rcases List.mem_cons.1 hx with rfl | hx
    · exact h2
    · exact all_true l h1 x hx
theorem ord_of {ops : Array Oper} (h : ((List.range ops.size).all fun j => match ops[j]? with
    | some o => o.after.toList.all fun e => !Region.binds .any e || decide (e.on < j)
    | none => true) = true) : ∀ (j : Nat) o, ops[j]? = some o → ∀ e ∈ o.after, Region.binds .any e = true → e.on < j := by
  intro j o hj e he hbi
  have h1 := List.all_eq_true.1 h j (List.mem_range.2 (Array.getElem?_eq_some_iff.1 hj).1)
  rw [hj] at h1
  have h2 := List.all_eq_true.1 h1 e (Array.mem_toList_iff.2 he)
  rw [hbi] at h2
  exact of_decide_eq_true (by simpa using h2)
theorem dst_of {ops : Array Oper} {N : Nat} (h : ((List.range ops.size).all fun j => match ops[j]? with
    | some o => (match o.dst with
      | some d => decide (d < N)
      | none => true)
    | none => true) = true) : ∀ (j : Nat) o d, ops[j]? = some o → o.dst = some d → d < N := by
  intro j o d hj hd
  have h1 := List.all_eq_true.1 h j (List.mem_range.2 (Array.getElem?_eq_some_iff.1 hj).1)
  rw [hj] at h1
  simp only [hd] at h1
  exact of_decide_eq_true h1
section
variable {P : Program} {ops : Array Oper} {Q : Exit → Act → World → Prop}
theorem ready_nil_all {s : Array Bool} (hs : s.size = ops.size) (hord : ∀ (j : Nat) o, ops[j]? = some o → ∀ e ∈ o.after, Region.binds .any e = true → e.on < j) (h : Region.ready .any ops s = []) : ∀ j, j < ops.size → s.getD j false = true := by
  intro j
  induction j using Nat.strongRecOn with
  | ind j ih =>
    intro hj
    cases hb : s.getD j false with
    | true => rfl
    | false =>
      exfalso
      have hb' : s.getD j true = false := by
        have : j < s.size := by omega
        simp [Array.getD, this] at hb ⊢
        exact hb
      have : j ∈ Region.ready .any ops s := mem_ready.2 ⟨hb', ops[j], Array.getElem?_eq_getElem hj, fun e he hbi => ih e.on (hord j _ (Array.getElem?_eq_getElem hj) e he hbi) (by have := hord j _ (Array.getElem?_eq_getElem hj) e he hbi; omega)⟩
      rw [h] at this
      cases this
theorem wpAny_inv (N : Nat) (hord : ∀ (j : Nat) o, ops[j]? = some o → ∀ e ∈ o.after, Region.binds .any e = true → e.on < j) (hdst : ∀ (j : Nat) o d, ops[j]? = some o → o.dst = some d → d < N)
    (J : (Nat → Bool) → (Nat → Value) → World → Prop)
    (hstep : ∀ i o, ops[i]? = some o → ∀ (b : Nat → Bool) (a : Act) (w : World), J b (slots a) w → b i = false → (∀ e ∈ o.after, Region.binds .any e = true → b e.on = true) → a.defers = [] →
      ∀ K : Act → World → Prop, (∀ v w', J (upd b i true) (updo (slots a) o.dst v) w' → K (a.put o.dst v) w') → if Region.wanted o (yielded ops a.tmps) = true then Oper.wp P o a w K Q else K (a.put o.dst undef) w)
    (hend : ∀ (a : Act) (w : World), J (fun j => decide (j < ops.size)) (slots a) w → a.tmps.size = N → a.defers = [] → Q .normal a w) :
    ∀ (g : Nat) (s : Array Bool) (a : Act) (w : World), s.size = ops.size → s.toList.count false ≤ g → a.tmps.size = N → a.defers = [] → J (fun j => s.getD j false) (slots a) w → wpAny P .any ops Q g s a w := by
  have fin : ∀ (s : Array Bool) (a : Act) (w : World), s.size = ops.size → (∀ j, j < ops.size → s.getD j false = true) → a.tmps.size = N → a.defers = [] → J (fun j => s.getD j false) (slots a) w → Q .normal a w := by
    intro s a w hs hall hN hd hJ
    refine hend a w ?_ hN hd
    have : (fun j => s.getD j false) = fun j => decide (j < ops.size) := by
      funext j
      by_cases hj : j < ops.size
      · rw [hall j hj, decide_eq_true hj]
      · rw [decide_eq_false hj]
        simp [Array.getD, hs, hj]
    rw [this] at hJ
    exact hJ
  intro g
  induction g with
  | zero =>
    intro s a w hs hc hN hd hJ
    have hall : ∀ j, j < ops.size → s.getD j false = true := by
      intro j hj
      have hj' : j < s.size := by omega
      have := all_true s.toList (by omega) s[j] (by simp)
      simp [Array.getD, hj', this]
    have hr : Region.ready .any ops s = [] := by
      cases e : Region.ready .any ops s with
      | nil => rfl
      | cons i l =>
        exfalso
        obtain ⟨h1, o, ho, _⟩ := mem_ready.1 (show i ∈ Region.ready .any ops s by rw [e]; exact List.mem_cons_self)
        have hi : i < ops.size := (Array.getElem?_eq_some_iff.1 ho).1
        have h2 := hall i hi
        have hi' : i < s.size := by omega
        simp [Array.getD, hi'] at h1 h2
        rw [h1] at h2
        cases h2
    exact ⟨hr, fin s a w hs hall hN hd hJ⟩
  | succ g ih =>
    intro s a w hs hc hN hd hJ
    refine ⟨fun hr => fin s a w hs (ready_nil_all hs hord hr) hN hd hJ, fun i hi => ?_⟩
    obtain ⟨h1, o, ho, hdep⟩ := mem_ready.1 hi
    have hio : i < ops.size := (Array.getElem?_eq_some_iff.1 ho).1
    have hi' : i < s.size := by omega
    have hsi : s[i] = false := by simpa [Array.getD, hi'] using h1
    refine wpOp_step ho fun K hK => hstep i o ho (fun j => s.getD j false) a w hJ (by simp [Array.getD, hi', hsi]) hdep hd K fun v w' hJ' => hK _ _ (ih _ _ _ (by simp [hs]) ?_ (by rw [size_put]; exact hN) (by rw [defers_put]; exact hd) ?_)
    · have := count_set s.toList i (by simp [hi', hsi])
      rw [Array.toList_setIfInBounds]
      omega
    · rw [slots_put (fun k hk => by rw [hN]; exact hdst i o k ho hk)]
      have : (fun j => (s.setIfInBounds i true).getD j false) = upd (fun j => s.getD j false) i true := by
        funext j
        unfold upd
        by_cases e : j = i
        · subst e
          rw [if_pos rfl]
          simp [Array.getD, hi']
        · rw [if_neg e]
          simp only [Array.getD_eq_getD_getElem?, Array.getElem?_setIfInBounds, if_neg (Ne.symm e)]
      rw [this]
      exact hJ'
theorem wp_region_inv {id : Nat} {a : Act} {w : World} (N : Nat) (hm : P.follows .mixedOrders = true) (hN : a.tmps.size = N) (hd : a.defers = []) (hord : ∀ (j : Nat) o, ops[j]? = some o → ∀ e ∈ o.after, Region.binds .any e = true → e.on < j) (hdst : ∀ (j : Nat) o d, ops[j]? = some o → o.dst = some d → d < N)
    (J : (Nat → Bool) → (Nat → Value) → World → Prop) (h0 : J (fun _ => false) (slots a) w.drew)
    (hstep : ∀ i o, ops[i]? = some o → ∀ (b : Nat → Bool) (a : Act) (w : World), J b (slots a) w → b i = false → (∀ e ∈ o.after, Region.binds .any e = true → b e.on = true) → a.defers = [] →
      ∀ K : Act → World → Prop, (∀ v w', J (upd b i true) (updo (slots a) o.dst v) w' → K (a.put o.dst v) w') → if Region.wanted o (yielded ops a.tmps) = true then Oper.wp P o a w K Q else K (a.put o.dst undef) w)
    (hend : ∀ (a : Act) (w : World), J (fun j => decide (j < ops.size)) (slots a) w → a.tmps.size = N → a.defers = [] → Q .normal a w) : (Code.region id ops true).wp P Q a w := by
  refine wp_region_any hm ?_
  refine wpAny_inv N hord hdst J hstep hend ops.size _ a _ (by simp) (by simp) hN hd ?_
  have : (fun j => (Array.replicate ops.size false).getD j false) = fun _ => false := by
    funext j
    simp [Array.getD]
  rw [this]
  exact h0
end
end Od
end Go.Proofs.YtolgigaolffenaaGreatDoor

/- A drawn region whose operations lay one slot each: what is in the slots is kept, slot by slot, from world to world. -/
namespace Go.Proofs.YtolgigaolffenaaGreatDoor
open Go.RowKit

namespace Rg
open Od
structure J (n : Nat) (sl : Nat → Nat) (P : Nat → Value → World → Prop) (w0 : World) (u0 : Nat → Value) (b : Nat → Bool) (u : Nat → Value) (w : World) : Prop where
  below : Below w0.heap.size w0 w
  old : ∀ j, (∀ k, k < n → sl k ≠ j) → u j = u0 j
  val : ∀ k, k < n → b k = true → P k (u (sl k)) w
section
variable {n : Nat} {sl : Nat → Nat} {P : Nat → Value → World → Prop} {w0 w w' : World} {u0 u : Nat → Value} {b : Nat → Bool}
theorem J.start (w0 w : World) (u0 : Nat → Value) (hb : Below w0.heap.size w0 w) : J n sl P w0 u0 (fun _ => false) u0 w := ⟨hb, fun _ _ => rfl, fun _ _ e => (by cases e)⟩
theorem J.step (h : J n sl P w0 u0 b u w) (hm : ∀ k v W W', P k v W → Below W.heap.size W W' → P k v W') (hi : ∀ j, j < n → ∀ k, k < n → sl j = sl k → j = k) {k : Nat} (hk : k < n) {v : Value} (hb : Below w.heap.size w w') (hv : P k v w') : J n sl P w0 u0 (upd b k true) (upd u (sl k) v) w' := by
  refine ⟨below_then h.below hb, fun j hj => ?_, fun j hj hbj => ?_⟩
  · unfold upd
    rw [if_neg (fun e => hj k hk e.symm)]
    exact h.old j hj
  · by_cases hjk : j = k
    · subst hjk
      unfold upd
      rw [if_pos rfl]
      exact hv
    · have e1 : b j = true := by
        unfold upd at hbj
        rwa [if_neg hjk] at hbj
      unfold upd
      rw [if_neg (fun e => hjk (hi j hj k hk e))]
      exact hm _ _ _ _ (h.val j hj e1) hb
theorem J.put (h : J n sl P w0 u0 b u w) (hm : ∀ k v W W', P k v W → Below W.heap.size W W' → P k v W') (hi : ∀ j, j < n → ∀ k, k < n → sl j = sl k → j = k) {k : Nat} (hk : k < n) {v : Value} (hv : P k v w) : J n sl P w0 u0 (upd b k true) (upd u (sl k) v) w := h.step hm hi hk (Below.refl _ _) hv
end
theorem getD_bool {tm : Array Value} {k : Nat} {x : Bool} (h : tm.getD k undef = .bool x) : tm[k]? = some (.bool x) := by
  rw [Array.getD_eq_getD_getElem?] at h
  cases e : tm[k]? with
  | none => rw [e] at h; cases h
  | some v => rw [e] at h; rw [← h]; rfl
theorem want {ops : Array Oper} {tm : Array Value} {o : Oper} {j t : Nat} {x : Bool} (hg : o.guard = some (j, x)) (hd : (ops[j]?).bind (·.dst) = some t) (hv : tm.getD t undef = .bool x) : Region.wanted o (yielded ops tm) = true := by
  unfold Region.wanted
  rw [hg]
  unfold yielded
  simp only [hd, Option.bind_some, getD_bool hv, beq_self_eq_true]
theorem frame_of (n : Nat) (a : Act) (hs : a.tmps.size = n) (hd : a.defers = []) : a = { tmps := ((List.range n).map fun i => a.tmps.getD i undef).toArray, defers := [] } := by
  obtain ⟨t, d⟩ := a
  simp only at hs hd
  subst hd
  congr 1
  apply Array.ext
  · simp [hs]
  · intro i h1 h2
    simp [h1]
end Rg
end Go.Proofs.YtolgigaolffenaaGreatDoor
