/- What the two iterators of package line ask of a round: what lies below a height is kept, and so is what is no span's and no slice of spans' above it. -/
import Derived.Test.YtjobhjemnmleaaaGreatDoorQ20
import Derived.Orders
set_option maxRecDepth 100000
set_option maxHeartbeats 4000000
namespace Go.Proofs.YtjobhjemnmleaaaGreatDoor
open Go.RowKit Go.Shelf
attribute [local go_sem] Oper.semAt_some
namespace Ln
def Bk (W : World) (k : Nat) (cs : Array Value) (t : TypeId) : Prop := W.heap[k]? = some (.cells cs t (0, 0))
def Ty (W W' : World) : Prop := ∀ (k : Nat) (cs : Array Value) (t : TypeId) (m : Nat × Nat), W.heap[k]? = some (.cells cs t m) → t ≠ 164 → t ≠ 61 → W'.heap[k]? = W.heap[k]?
structure Kp (n : Nat) (W W' : World) : Prop where
 below : Below n W W'
 ty : Ty W W'
section
variable {n : Nat} {W W' W'' : World} {k : Nat} {cs : Array Value} {t : TypeId}
theorem Bk.lt (h : Bk W k cs t) : k < W.heap.size := (Array.getElem?_eq_some_iff.1 h).1
theorem Bk.new (W : World) (cs : Array Value) (t : TypeId) : Bk (W.alloc (.cells cs t)) W.heap.size cs t := World.alloc_heap_new W _
theorem Bk.call (h : Bk W k cs t) (hb : Below W.heap.size W W') : Bk W' k cs t := (hb.block k h.lt).trans h
theorem Bk.alloc (h : Bk W k cs t) (o : Obj) : Bk (W.alloc o) k cs t := h.call ((Below.refl _ _).alloc (Nat.le_refl _) _)
theorem Bk.kp (h : Bk W k cs t) (hk : Kp n W W') (h1 : t ≠ 164) (h2 : t ≠ 61) : Bk W' k cs t := (hk.ty k cs t _ h h1 h2).trans h
theorem Bk.at_ (h : Bk W k cs t) : At W k cs.toList := by
 refine ⟨h.lt, fun i v hi => ⟨?_, ?_⟩⟩
 ·have : W.heap[k]? = some (.cells cs t (0, 0)) := h;simp [World.cell?, this]
  simpa using hi
 ·have : W.heap[k]? = some (.cells cs t (0, 0)) := h;simp [World.frozen?, this]
theorem Bk.grown {row : Option Nat} (h : Bk W k cs t) (hg : W.grownBy W' row) (hr : ∀ r, row = some r → ∃ o : Obj, W.heap[r]? = some o ∧ o.isCells = false) : Bk W' k cs t := by
 refine (hg.block k h.lt (fun e => ?_)).trans h;obtain ⟨o, ho, hc⟩ := hr k e.symm;rw [show W.heap[k]? = _ from h] at ho;cases ho
 cases hc
theorem Ty.trans (h : Ty W W') (k : Ty W' W'') : Ty W W'' := fun i cs t m hi h1 h2 => by
 have e := h i cs t m hi h1 h2;exact (k i cs t m (e.trans hi) h1 h2).trans e
theorem Ty.of_below (hb : Below W.heap.size W W') : Ty W W' := fun i _ _ _ hi _ _ => hb.block i (Array.getElem?_eq_some_iff.1 hi).1
theorem Kp.refl (n : Nat) (W : World) : Kp n W W := ⟨Below.refl _ _, fun _ _ _ _ _ _ _ => rfl⟩
theorem Kp.trans (h : Kp n W W') (k : Kp n W' W'') : Kp n W W'' := ⟨h.below.trans k.below, h.ty.trans k.ty⟩
theorem Kp.of_below (hb : Below W.heap.size W W') (hn : n ≤ W.heap.size) : Kp n W W' := ⟨hb.mono hn, Ty.of_below hb⟩
theorem Kp.then_ (h : Kp n W W') (hb : Below W'.heap.size W' W'') (hn : n ≤ W.heap.size) : Kp n W W'' := h.trans (Kp.of_below hb (Nat.le_trans hn h.below.size))
theorem Kp.put {w : World} (hn : n ≤ w.heap.size) (W : World) (l : Nat) (o o' : Obj) (hl : w.heap.size ≤ l) (h : W.heap[l]? = some o) (hc : o.isCells = false) (_ : o.isWalk = false) : Kp n W (W.putObj l o') := by
 refine ⟨(Below.refl n W).grown (grownBy_putObj' W l o') (by have := (Array.getElem?_eq_some_iff.1 h).1; omega) (fun k e => by cases e; omega), fun i cs t m hi _ _ => ?_⟩;refine World.putObj_heap_other (fun e => ?_);subst e;rw [h] at hi;cases hi
 cases hc
end
structure Dr (s : Src.S) (rv zv lv : Value) (evs : List Value) (z : Int) (eA : Option Addr) (m ec : Nat) (fr te : Int) (gd : Nat) (w0 : World) : Prop where
 src : Src.SrcR w0 w0.heap.size s rv zv lv evs
 at_ : At w0 gd [rv, zv, lv, .int .i64 z, .slice eA m ec, .int .i64 fr, .int .i64 te]
 wo : Wo w0
 ok : Eg.RulesOk s.rules
 wc : ∀ r ∈ s.rules, 0 ≤ r.c
theorem Dr.call {s : Src.S} {rv zv lv : Value} {evs : List Value} {z : Int} {eA : Option Addr} {m ec : Nat} {fr te : Int} {gd : Nat} {w0 w : World} (h : Dr s rv zv lv evs z eA m ec fr te gd w0) (hb : Below w0.heap.size w0 w) : Dr s rv zv lv evs z eA m ec fr te gd w :=
 ⟨h.src.call hb, h.at_.call hb, h.wo.below hb, h.ok, h.wc⟩
structure EB (bE bF bD bT gd n : Nat) (e : Er.E) (fr te : Int) (w0 W : World) : Prop where
 below : Below n w0 W
 e : Bk W bE e.cells.toArray 191
 f : Bk W bF #[.int .i64 fr] 2
 d : Bk W bD #[.pointer (some ⟨gd, 0, none⟩)] 221
 t : Bk W bT #[.int .i64 te] 2
theorem EB.call {bE bF bD bT gd n : Nat} {e : Er.E} {fr te : Int} {w0 W W' : World} (h : EB bE bF bD bT gd n e fr te w0 W) (hb : Below W.heap.size W W') (hn : n ≤ w0.heap.size) : EB bE bF bD bT gd n e fr te w0 W' :=
 ⟨h.below.trans (hb.mono (Nat.le_trans hn h.below.size)), h.e.call hb, h.f.call hb, h.d.call hb, h.t.call hb⟩
theorem EB.kp {bE bF bD bT gd n : Nat} {e : Er.E} {fr te : Int} {w0 W W' : World} (h : EB bE bF bD bT gd n e fr te w0 W) (hk : Kp n W W') : EB bE bF bD bT gd n e fr te w0 W' :=
 ⟨h.below.trans hk.below, h.e.kp hk (by decide) (by decide), h.f.kp hk (by decide) (by decide), h.d.kp hk (by decide) (by decide), h.t.kp hk (by decide) (by decide)⟩
theorem own_kp {n base : Nat} {W W' : World} {e : TypeId} {size k : Nat} {v : Value} {xs : List Value} (h : W.ownsRow base e size v k xs) (hk : Kp n W W') (h1 : e ≠ 164) (h2 : e ≠ 61) : W'.ownsRow base e size v k xs := by
 refine ⟨h.1, ?_⟩;rcases h.2 with hn | ⟨g, cap, cur, hv, hb, hg, rest⟩
 ·exact .inl hn
 ·exact .inr ⟨g, cap, cur, hv, hb, (hk.ty g cur e _ hg h1 h2).trans hg, rest⟩
def OcOk (std : Int) (o : Oc.E) : Prop := 0 ≤ o.c ∧ IsTime o.sv ∧ (Mo.ins o.n o.c std o.bf).2 = 0
theorem oc_ok {rules : List Ru.R} {std lo hi : Int} (hr : Eg.RulesOk rules) (hc : ∀ r ∈ rules, 0 ≤ r.c) (hs : IsTime std) : ∀ o ∈ Oc.of rules lo hi, OcOk std o := by
 intro o ho;unfold Oc.of at ho;obtain ⟨e, he, rfl⟩ := List.mem_map.1 ho;have hev : Oc.Ev rules e := ((Oc.mem_ofU e).1 ((Oc.mem_isort e _).1 he)).1;obtain ⟨i1, i2, _⟩ := hev.inT;have hb := Oc.before_is hr.time hev;have h3 := (Oc.ins_ok i1 i2 hs hb).1;obtain ⟨r, h4, h5, h6⟩ := hev;have hm := List.mem_of_getElem? h4;refine ⟨?_, ?_, h3⟩
 ·show 0 ≤ e.c
  rw [h6];exact hc r hm
 ·show IsTime e.sv
  rw [h6];exact hr.time r hm
end Ln
end Go.Proofs.YtjobhjemnmleaaaGreatDoor
namespace Go.Proofs.YtjobhjemnmleaaaGreatDoor
open Go.RowKit Go.Shelf
attribute [local go_sem] Oper.semAt_some
theorem inEra_any (gd : Nat) (e : Er.E) (fr te : Int) (w : World) :
  Calls Tryz.prog 151 #[.pointer (some ⟨gd, 0, none⟩), e.v, .int .i64 fr, .int .i64 te] w fun r w' => r = .returned (.func (.func 185) #[] #[.pointer (some ⟨w.heap.size + 1, 0, none⟩), .pointer (some ⟨w.heap.size + 2, 0, none⟩), .pointer (some ⟨w.heap.size, 0, none⟩), .pointer (some ⟨w.heap.size + 3, 0, none⟩)]) ∧
   ((((w.alloc (.cells #[.pointer (some ⟨gd, 0, none⟩)] 221)).alloc (.cells e.cells.toArray 191)).alloc (.cells #[.int .i64 fr] 2)).alloc (.cells #[.int .i64 te] 2)) = w' := by
 unfold Er.E.v Er.E.cells;go_enter Tryz.func151, Tryz.ntmps151
 go_wp2;go_ret
 exact ⟨rfl, rfl⟩
namespace Ln
def SqRet (xs : List Sp) (JY JX : List Sp → World → Prop) (e : Ending) (W' : World) : Prop :=
 (∃ v, e = .returned v) ∧ ((∃ ys, ys = xs ∧ JY ys W') ∨ (∃ pre : List Sp, True ∧ JX pre W'))
def Yd (n : Nat) (JY JX : List Sp → World → Prop) (pre : List Sp) (x : Sp) (W : World) (e : Ending) (W' : World) : Prop :=
 ∃ b, e = .returned (.bool b) ∧ ((b = true ∧ JY (pre ++ [x]) W' ∧ Kp n W W') ∨ (b = false ∧ JX (pre ++ [x]) W'))
end Ln
theorem inEra1_one (n : Nat) (l bE bF bD bT gd n₀ : Nat) (e : Er.E) (fr te : Int) (w0 : World) (JY JX : List Ln.Sp → World → Prop)
  (hk : e.k ≠ 2) (h1 : IsTime e.std) (h2 : IsTime e.sv)
  (hY : ∀ pre x W, JY pre W → pre.length < 1 → YieldAt Fence.wide n Tryz.prog l #[x.v] W (Ln.Yd n₀ JY JX pre x W))
  (hJ : ∀ pre W W', JY pre W → Below W.heap.size W W' → JY pre W')
  (W : World) (hB : Ln.EB bE bF bD bT gd n₀ e fr te w0 W) (h0 : JY [] W) :
  CallsIn Fence.wide (n + 1) Tryz.prog 185 #[.func (.yield l) #[] #[], .pointer (some ⟨bE, 0, none⟩), .pointer (some ⟨bF, 0, none⟩), .pointer (some ⟨bD, 0, none⟩), .pointer (some ⟨bT, 0, none⟩)] W (Ln.SqRet [Ln.piece fr e.std e.sv] JY JX) := by
 obtain ⟨std, ek, esv, ru, fm, en, ⟨y, m, dk, dn, dd, sc, cc⟩⟩ := e;simp only at hk h1 h2 ⊢;have hA := hB.e.at_;have e0 := hA.cell 0 _ rfl;have e1 := hA.cell 1 _ rfl;have e2 := hA.cell 2 _ rfl;have f0 := hB.f.at_.cell 0 _ rfl;have z1 := hB.e.lt;have z2 := hB.f.lt;have k1 : (ek != 2) = true := by simpa using hk
 have HP := Lib.hid fun W => lnPiece_any fr std esv W h1 h2
 obtain ⟨p, hp⟩ : ∃ p, Ln.piece fr std esv = p := ⟨_, rfl⟩
 rw [hp] at HP ⊢;have HY := Lib.hid fun W hW => hY [] p W hW (Nat.lt_succ_self 0)
 have HJ := Lib.hid fun W' hb => hJ [] W W' h0 hb
 unfold Ln.Sp.v at HP HY;clear hk h1 h2 hY hJ hB hA h0 hp;refine callsIn_of_wp Tryz.func185 rfl trivial ?_ rfl;simp only [Tryz.ntmps185, List.size_toArray, List.length_cons, List.length_nil, Nat.reduceAdd, Nat.reduceSub, Array.replicate_succ, Array.replicate_zero, List.push_toArray, List.append_toArray, List.nil_append, List.cons_append]
 gi_wp2_with fail
 refine ⟨trivial, (callsIn_wide.2 (HP.out _)).mono ?_⟩;rintro e w3 ⟨rfl, hb3⟩;obtain ⟨fn, tmps, assign, body, hy, hR⟩ := HY.out _ (HJ.out _ hb3);clear hb3
 gi_wp2_with fail
 refine hR.mono ?_;rintro e W3 ⟨b, rfl, hres⟩;have HRes := Lib.hid hres;clear hres
 gi_wp2
 refine bodyPost_ret (results_none rfl _ _ _) rfl ⟨⟨_, rfl⟩, ?_⟩;rcases HRes.out with ⟨rfl, h1, _⟩ | ⟨rfl, h1⟩
 ·exact .inl ⟨_, rfl, h1⟩
 ·exact .inr ⟨_, trivial, h1⟩
end Go.Proofs.YtjobhjemnmleaaaGreatDoor
namespace Go.Proofs.YtjobhjemnmleaaaGreatDoor
open Go.RowKit
namespace Od
def slots (a : Act) : Nat → Value := fun k => a.tmps.getD k undef
def upd {α : Type} (f : Nat → α) (i : Nat) (v : α) : Nat → α := fun j => if j = i then v else f j
def updo (u : Nat → Value) (d : Option Tmp) (v : Value) : Nat → Value := match d with
 | some k => upd u k v
 | none => u
theorem slots_put {a : Act} {d : Option Tmp} {v : Value} (h : ∀ k, d = some k → k < a.tmps.size) : slots (a.put d v) = updo (slots a) d v := by
 cases d with
 | none => rfl
 | some k =>
  have hk := h k rfl
  funext j
  show (a.tmps.setIfInBounds k v).getD j undef = if j = k then v else a.tmps.getD j undef
  by_cases e : j = k
  ·subst e;rw [if_pos rfl];simp [Array.getD, hk]
  ·rw [if_neg e];simp only [Array.getD_eq_getD_getElem?, Array.getElem?_setIfInBounds, if_neg (Ne.symm e)]
theorem size_put {a : Act} {d : Option Tmp} {v : Value} : (a.put d v).tmps.size = a.tmps.size := by
 cases d with
 | none => rfl
 | some k => show (a.tmps.setIfInBounds k v).size = _; simp
theorem defers_put {a : Act} {d : Option Tmp} {v : Value} : (a.put d v).defers = a.defers := by cases d <;> rfl
theorem count_set : ∀ (l : List Bool) (i : Nat), l[i]? = some false → (l.set i true).count false + 1 = l.count false
 | [], i, h => by simp at h
 | x :: l, 0, h => by
  simp at h
  subst h;simp
 | x :: l, i + 1, h => by
  have := count_set l i (by simpa using h);simp only [List.set_cons_succ, List.count_cons];omega
theorem all_true : ∀ (l : List Bool), l.count false = 0 → ∀ x ∈ l, x = true
 | [], _, x, hx => by cases hx
 | y :: l, h, x, hx => by
  simp only [List.count_cons] at h;have h1 : l.count false = 0 := by omega
  have h2 : y = true := by
   cases y
   ·simp at h
   ·rfl
  rcases List.mem_cons.1 hx with rfl | hx
  ·exact h2
  ·exact all_true l h1 x hx
theorem ord_of {ops : Array Oper} (h : ((List.range ops.size).all fun j => match ops[j]? with
  | some o => o.after.toList.all fun e => !Region.binds .any e || decide (e.on < j)
  | none => true) = true) : ∀ (j : Nat) o, ops[j]? = some o → ∀ e ∈ o.after, Region.binds .any e = true → e.on < j := by
 intro j o hj e he hbi;have h1 := List.all_eq_true.1 h j (List.mem_range.2 (Array.getElem?_eq_some_iff.1 hj).1);rw [hj] at h1;have h2 := List.all_eq_true.1 h1 e (Array.mem_toList_iff.2 he);rw [hbi] at h2;exact of_decide_eq_true (by simpa using h2)
theorem dst_of {ops : Array Oper} {N : Nat} (h : ((List.range ops.size).all fun j => match ops[j]? with
  | some o => (match o.dst with
   | some d => decide (d < N)
   | none => true)
  | none => true) = true) : ∀ (j : Nat) o d, ops[j]? = some o → o.dst = some d → d < N := by
 intro j o d hj hd;have h1 := List.all_eq_true.1 h j (List.mem_range.2 (Array.getElem?_eq_some_iff.1 hj).1);rw [hj] at h1;simp only [hd] at h1;exact of_decide_eq_true h1
section
variable {P : Program} {ops : Array Oper} {Q : Exit → Act → World → Prop}
theorem ready_nil_all {s : Array Bool} (hs : s.size = ops.size) (hord : ∀ (j : Nat) o, ops[j]? = some o → ∀ e ∈ o.after, Region.binds .any e = true → e.on < j) (h : Region.ready .any ops s = []) : ∀ j, j < ops.size → s.getD j false = true := by
 intro j
 induction j using Nat.strongRecOn with
 | ind j ih =>
  intro hj;cases hb : s.getD j false with
  | true => rfl
  | false =>
   exfalso
   have hb' : s.getD j true = false := by
    have : j < s.size := by omega
    simp [Array.getD, this] at hb ⊢
    exact hb
   have : j ∈ Region.ready .any ops s := mem_ready.2 ⟨hb', ops[j], Array.getElem?_eq_getElem hj, fun e he hbi => ih e.on (hord j _ (Array.getElem?_eq_getElem hj) e he hbi) (by have := hord j _ (Array.getElem?_eq_getElem hj) e he hbi; omega)⟩;rw [h] at this;cases this
theorem wpAny_inv (N : Nat) (hord : ∀ (j : Nat) o, ops[j]? = some o → ∀ e ∈ o.after, Region.binds .any e = true → e.on < j) (hdst : ∀ (j : Nat) o d, ops[j]? = some o → o.dst = some d → d < N)
  (J : (Nat → Bool) → (Nat → Value) → World → Prop)
  (hstep : ∀ i o, ops[i]? = some o → ∀ (b : Nat → Bool) (a : Act) (w : World), J b (slots a) w → b i = false → (∀ e ∈ o.after, Region.binds .any e = true → b e.on = true) → a.defers = [] →
   ∀ K : Act → World → Prop, (∀ v w', J (upd b i true) (updo (slots a) o.dst v) w' → K (a.put o.dst v) w') → if Region.wanted o (yielded ops a.tmps) = true then Oper.wp P o a w K Q else K (a.put o.dst undef) w)
  (hend : ∀ (a : Act) (w : World), J (fun j => decide (j < ops.size)) (slots a) w → a.tmps.size = N → a.defers = [] → Q .normal a w) :
  ∀ (g : Nat) (s : Array Bool) (a : Act) (w : World), s.size = ops.size → s.toList.count false ≤ g → a.tmps.size = N → a.defers = [] → J (fun j => s.getD j false) (slots a) w → wpAny P .any ops Q g s a w := by
 have fin : ∀ (s : Array Bool) (a : Act) (w : World), s.size = ops.size → (∀ j, j < ops.size → s.getD j false = true) → a.tmps.size = N → a.defers = [] → J (fun j => s.getD j false) (slots a) w → Q .normal a w := by
  intro s a w hs hall hN hd hJ;refine hend a w ?_ hN hd;have : (fun j => s.getD j false) = fun j => decide (j < ops.size) := by
   funext j
   by_cases hj : j < ops.size
   ·rw [hall j hj, decide_eq_true hj]
   ·rw [decide_eq_false hj];simp [Array.getD, hs, hj]
  rw [this] at hJ;exact hJ
 intro g
 induction g with
 | zero =>
  intro s a w hs hc hN hd hJ;have hall : ∀ j, j < ops.size → s.getD j false = true := by
   intro j hj;have hj' : j < s.size := by omega
   have := all_true s.toList (by omega) s[j] (by simp);simp [Array.getD, hj', this]
  have hr : Region.ready .any ops s = [] := by
   cases e : Region.ready .any ops s with
   | nil => rfl
   | cons i l =>
    exfalso
    obtain ⟨h1, o, ho, _⟩ := mem_ready.1 (show i ∈ Region.ready .any ops s by rw [e]; exact List.mem_cons_self);have hi : i < ops.size := (Array.getElem?_eq_some_iff.1 ho).1;have h2 := hall i hi;have hi' : i < s.size := by omega
    simp [Array.getD, hi'] at h1 h2
    rw [h1] at h2;cases h2
  exact ⟨hr, fin s a w hs hall hN hd hJ⟩
 | succ g ih =>
  intro s a w hs hc hN hd hJ;refine ⟨fun hr => fin s a w hs (ready_nil_all hs hord hr) hN hd hJ, fun i hi => ?_⟩;obtain ⟨h1, o, ho, hdep⟩ := mem_ready.1 hi;have hio : i < ops.size := (Array.getElem?_eq_some_iff.1 ho).1;have hi' : i < s.size := by omega
  have hsi : s[i] = false := by simpa [Array.getD, hi'] using h1
  refine wpOp_step ho fun K hK => hstep i o ho (fun j => s.getD j false) a w hJ (by simp [Array.getD, hi', hsi]) hdep hd K fun v w' hJ' => hK _ _ (ih _ _ _ (by simp [hs]) ?_ (by rw [size_put]; exact hN) (by rw [defers_put]; exact hd) ?_)
  ·have := count_set s.toList i (by simp [hi', hsi]);rw [Array.toList_setIfInBounds];omega
  ·rw [slots_put (fun k hk => by rw [hN]; exact hdst i o k ho hk)];have : (fun j => (s.setIfInBounds i true).getD j false) = upd (fun j => s.getD j false) i true := by
    funext j
    unfold upd
    by_cases e : j = i
    ·subst e;rw [if_pos rfl];simp [Array.getD, hi']
    ·rw [if_neg e];simp only [Array.getD_eq_getD_getElem?, Array.getElem?_setIfInBounds, if_neg (Ne.symm e)]
   rw [this];exact hJ'
theorem wp_region_inv {id : Nat} {a : Act} {w : World} (N : Nat) (hm : P.follows .mixedOrders = true) (hN : a.tmps.size = N) (hd : a.defers = []) (hord : ∀ (j : Nat) o, ops[j]? = some o → ∀ e ∈ o.after, Region.binds .any e = true → e.on < j) (hdst : ∀ (j : Nat) o d, ops[j]? = some o → o.dst = some d → d < N)
  (J : (Nat → Bool) → (Nat → Value) → World → Prop) (h0 : J (fun _ => false) (slots a) w.drew)
  (hstep : ∀ i o, ops[i]? = some o → ∀ (b : Nat → Bool) (a : Act) (w : World), J b (slots a) w → b i = false → (∀ e ∈ o.after, Region.binds .any e = true → b e.on = true) → a.defers = [] →
   ∀ K : Act → World → Prop, (∀ v w', J (upd b i true) (updo (slots a) o.dst v) w' → K (a.put o.dst v) w') → if Region.wanted o (yielded ops a.tmps) = true then Oper.wp P o a w K Q else K (a.put o.dst undef) w)
  (hend : ∀ (a : Act) (w : World), J (fun j => decide (j < ops.size)) (slots a) w → a.tmps.size = N → a.defers = [] → Q .normal a w) : (Code.region id ops true).wp P Q a w := by
 refine wp_region_any hm ?_;refine wpAny_inv N hord hdst J hstep hend ops.size _ a _ (by simp) (by simp) hN hd ?_;have : (fun j => (Array.replicate ops.size false).getD j false) = fun _ => false := by
  funext j
  simp [Array.getD]
 rw [this];exact h0
end
end Od
end Go.Proofs.YtjobhjemnmleaaaGreatDoor
namespace Go.Proofs.YtjobhjemnmleaaaGreatDoor
open Go.RowKit
namespace Rg
open Od
structure J (n : Nat) (sl : Nat → Nat) (P : Nat → Value → World → Prop) (w0 : World) (u0 : Nat → Value) (b : Nat → Bool) (u : Nat → Value) (w : World) : Prop where
 below : Below w0.heap.size w0 w
 old : ∀ j, (∀ k, k < n → sl k ≠ j) → u j = u0 j
 val : ∀ k, k < n → b k = true → P k (u (sl k)) w
section
variable {n : Nat} {sl : Nat → Nat} {P : Nat → Value → World → Prop} {w0 w w' : World} {u0 u : Nat → Value} {b : Nat → Bool}
theorem J.start (w0 w : World) (u0 : Nat → Value) (hb : Below w0.heap.size w0 w) : J n sl P w0 u0 (fun _ => false) u0 w := ⟨hb, fun _ _ => rfl, fun _ _ e => (by cases e)⟩
theorem J.step (h : J n sl P w0 u0 b u w) (hm : ∀ k v W W', P k v W → Below W.heap.size W W' → P k v W') (hi : ∀ j, j < n → ∀ k, k < n → sl j = sl k → j = k) {k : Nat} (hk : k < n) {v : Value} (hb : Below w.heap.size w w') (hv : P k v w') : J n sl P w0 u0 (upd b k true) (upd u (sl k) v) w' := by
 refine ⟨below_then h.below hb, fun j hj => ?_, fun j hj hbj => ?_⟩
 ·unfold upd;rw [if_neg (fun e => hj k hk e.symm)];exact h.old j hj
 ·by_cases hjk : j = k
  ·subst hjk;unfold upd;rw [if_pos rfl];exact hv
  ·have e1 : b j = true := by
    unfold upd at hbj
    rwa [if_neg hjk] at hbj
   unfold upd;rw [if_neg (fun e => hjk (hi j hj k hk e))];exact hm _ _ _ _ (h.val j hj e1) hb
theorem J.put (h : J n sl P w0 u0 b u w) (hm : ∀ k v W W', P k v W → Below W.heap.size W W' → P k v W') (hi : ∀ j, j < n → ∀ k, k < n → sl j = sl k → j = k) {k : Nat} (hk : k < n) {v : Value} (hv : P k v w) : J n sl P w0 u0 (upd b k true) (upd u (sl k) v) w := h.step hm hi hk (Below.refl _ _) hv
end
theorem getD_bool {tm : Array Value} {k : Nat} {x : Bool} (h : tm.getD k undef = .bool x) : tm[k]? = some (.bool x) := by
 rw [Array.getD_eq_getD_getElem?] at h;cases e : tm[k]? with
 | none => rw [e] at h; cases h
 | some v => rw [e] at h; rw [← h]; rfl
theorem want {ops : Array Oper} {tm : Array Value} {o : Oper} {j t : Nat} {x : Bool} (hg : o.guard = some (j, x)) (hd : (ops[j]?).bind (·.dst) = some t) (hv : tm.getD t undef = .bool x) : Region.wanted o (yielded ops tm) = true := by
 unfold Region.wanted;rw [hg];unfold yielded;simp only [hd, Option.bind_some, getD_bool hv, beq_self_eq_true]
theorem frame_of (n : Nat) (a : Act) (hs : a.tmps.size = n) (hd : a.defers = []) : a = { tmps := ((List.range n).map fun i => a.tmps.getD i undef).toArray, defers := [] } := by
 obtain ⟨t, d⟩ := a;simp only at hs hd;subst hd
 congr 1
 apply Array.ext
 ·simp [hs]
 ·intro i h1 h2;simp [h1]
end Rg
end Go.Proofs.YtjobhjemnmleaaaGreatDoor
