/- A range over a function whose rounds all go on: a law for iterators that hand their yield on from within a loop of their own (the caller's word holds across that loop's notes, too). -/
import Derived.Test.YtjobhjemnmleaaaGreatDoorQ23
import Derived.OrdersIn
namespace Go.Proofs.YtjobhjemnmleaaaGreatDoor
open Go.RowKit Go.Shelf
namespace Ln
theorem range_all {P : Program} {α : Type} {g : Operand} {ps : Array Tmp} {assign body : Code} {Q : Exit → Act → World → Prop} {a : Act} {w : World}
  {gf : Nat} {lb : Array Value} (hg : a.eval g = .func (.func gf) #[] lb) (eg : ∀ args w, (callFunc gf args).run P w = .ok (.enter gf args) w)
  {encs : α → Array Value} (Kq : World → World → Prop) (xs : List α) (N : Nat)
  (hseq : ∀ (J : List α → World → Prop) (W : World), OwnFrom W.heap.size J → w.heap.size + 2 ≤ W.heap.size → Below w.heap.size w W →
   (∀ pre x W1, J pre W1 → pre.length < N → YieldAt Fence.wide 4 P (w.heap.size + 1) (encs x) W1 fun e W' => e = .returned (.bool true) ∧ J (pre ++ [x]) W' ∧ Kq W1 W' ∧ KeepsFrom (w.heap.size + 2) W1 W') → J [] W →
   CallsIn Fence.wide 5 P gf (#[.func (.yield (w.heap.size + 1)) #[] #[]] ++ lb) W fun e W' => (∃ v, e = .returned v) ∧ J xs W')
  (hKt : ∀ {A B C : World}, Kq A B → Kq B C → Kq A C) (hKb : ∀ (W : World) (o o' : Obj), W.heap[w.heap.size + 1]? = some o → o.isCells = false → o.isWalk = false → Kq W (W.putObj (w.heap.size + 1) o')) (hps : ∀ x, (encs x).size = ps.size)
  (I : List α → World → Prop) (hI : OwnFrom w.heap.size I) (h0 : I [] w) (Ax : α → Act → World → Prop) (hAx : ∀ x a', OwnFrom w.heap.size (fun (_ : Unit) W => Ax x a' W))
  (hassign : ∀ (l : Nat) (pre : List α) (x : α) (W : World) (K : Act → World → Prop), I pre W → (∀ a' W', KeepsFrom w.heap.size W W' → Kq W W' → I pre W' → Ax x a' W' → K a' W') →
   assign.wpIn (Fence.wide.inRound l) 4 P (Exit.then K (fun _ _ _ => False)) { tmps := (ps.zip (encs x)).foldl (fun t (p, v) => t.setIfInBounds p v) a.tmps, defers := [] } W)
  (hbody : ∀ (l : Nat) (pre : List α) (x : α) (a' : Act) (W : World), I pre W → Ax x a' W → pre.length < N → body.wpIn (Fence.wide.inRound l) 4 P (ownPostG w.heap.size Kq I (fun _ _ _ => False) (pre ++ [x]) W) a' W)
  (hdone : ∀ (W : World), I xs W → W.heap[w.heap.size]? = some (.deferred (some [])) → Q .normal { a with defers := { target := .collected w.heap.size, args := #[] } :: a.defers } W) :
  (Code.rangeFunc g ps assign body).wpIn Fence.wide 6 P Q a w := by
 refine wpIn_rangeFunc ?_;intro fn hfn;obtain ⟨D, hD⟩ : ∃ D, w.heap.size = D := ⟨_, rfl⟩
 obtain ⟨rec, hrec⟩ : ∃ rec : LoopState → Option Code → Loop, rec = fun st pe => { state := st, pending := pe, fn, tmps := a.tmps, params := ps, assign, body, defers := w.heap.size } := ⟨_, rfl⟩
 obtain ⟨W1, hW1⟩ : ∃ W1, (w.alloc (.deferred (some []))).alloc (.loop (rec .ready none)) = W1 := ⟨_, rfl⟩
 have hL1 : W1.heap[w.heap.size + 1]? = some (.loop (rec .ready none)) := by
  rw [← hW1];have := World.alloc_heap_new (w.alloc (.deferred (some []))) (.loop (rec .ready none))
  rwa [World.size_alloc] at this
 have hK1 : W1.heap[w.heap.size]? = some (.deferred (some [])) := by
  rw [← hW1];exact (Below.heap_alloc _ _ _ (by simp)).trans (World.alloc_heap_new w _)
 have hI1 : I [] W1 := by rw [← hW1]; exact hI.alloc _ (hI.alloc _ h0)
 have hs1 : W1.heap.size = w.heap.size + 2 := by rw [← hW1, World.size_alloc, World.size_alloc]
 have hb1 : Below w.heap.size w W1 := by rw [← hW1]; exact ((Below.refl _ w).alloc (Nat.le_refl _) _).alloc (by simp) _
 refine ⟨w.heap.size + 1, [{ target := .collected w.heap.size, args := #[] }], W1, { target := .fn (.func gf) lb, args := #[.func (.yield (w.heap.size + 1)) #[] #[]] }, W1, gf,
  #[.func (.yield (w.heap.size + 1)) #[] #[]] ++ lb, W1, ?_, ?_, ?_, ?_, fun _ => (by decide), ?_⟩
 ·rw [← hW1, hrec];exact run_enterLoop_outer _ _ _ _ _
 ·simp only [resolve, hg];simp [go_sem]
 ·intro f' hf'
  trivial
 ·simp [invoke, go_sem, eg]
 ·refine (hseq (fun pre W => I pre W ∧ W.heap[w.heap.size + 1]? = some (.loop (rec .ready none)) ∧ W.heap[w.heap.size]? = some (.deferred (some []))) W1 ?_ (by omega) hb1 ?_ ⟨hI1, hL1, hK1⟩).mono ?_
  ·intro s A B row hs hg' hr;refine ⟨(ownFrom_mono hI (by omega)) s A B row hs.1 hg' hr, (hg'.block _ (Array.getElem?_eq_some_iff.1 hs.2.1).1 (fun e => ?_)).trans hs.2.1, (hg'.block _ (Array.getElem?_eq_some_iff.1 hs.2.2).1 (fun e => ?_)).trans hs.2.2⟩
   ·have := (hr _ e.symm).1;omega
   ·have := (hr _ e.symm).1;omega
  ·rintro pre x W ⟨hi, hl, hk⟩ hlen;have hy := run_yield (P := P) (args := encs x) hl (by rw [hrec]; exact hps x);rw [hrec] at hy;refine ⟨fn, _, assign, body, hy, roundIn_of_wpIn hfn (hassign _ pre x W _ hi ?_)⟩;clear hy;intro a' Wa hkfa hkpa hia hax;have hla := hkfa.same _ _ (by omega) hl rfl;have hka := hkfa.same _ _ (Nat.le_refl _) hk rfl;have hlt := (Array.getElem?_eq_some_iff.1 hla).1;refine ⟨_, run_beginRound hla (by rw [hrec]), ?_⟩;have hl2 : (Wa.putObj (w.heap.size + 1) (.loop { rec .ready none with state := .busy })).heap[w.heap.size + 1]? = some (.loop { rec .ready none with state := .busy }) := World.putObj_heap_same hlt;have hk2 : (Wa.putObj (w.heap.size + 1) (.loop { rec .ready none with state := .busy })).heap[w.heap.size]? = some (.deferred (some [])) := (World.putObj_heap_other (by omega)).trans hka;have hw2 : Kq Wa (Wa.putObj (w.heap.size + 1) (.loop { rec .ready none with state := .busy })) := hKb _ _ _ hla rfl rfl;refine wpIn_mono (hbody _ pre x a' _ (hI.putObj _ hia (by omega) hla rfl) ((hAx x a').putObj (s := ()) _ hax (by omega) hla rfl) hlen) ?_;rintro e a3 W3 hp;cases e with
   | normal =>
    obtain ⟨hk3, hkp3, hi3⟩ := hp;have hl3 := hk3.same _ _ (by omega) hl2 rfl;have hk3' := hk3.same _ _ (Nat.le_refl _) hk2 rfl;have hlt3 := (Array.getElem?_eq_some_iff.1 hl3).1;have hend := run_endRound (P := P) none hl3;rw [hrec] at hend;refine ⟨_, _, hend, rfl, ⟨hI.putObj _ hi3 (by omega) hl3 rfl, ?_, ?_⟩, hKt hkpa (hKt (hKt hw2 hkp3) (hKb _ _ _ hl3 rfl rfl)), ?_⟩
    ·have := World.putObj_heap_same (o := .loop (rec .ready none)) hlt3;rw [hrec] at this ⊢;exact this
    ·exact (World.putObj_heap_other (by omega)).trans hk3'
    ·refine ⟨?_, fun k o hk ho hc => ?_⟩
     ·exact Nat.le_trans hkfa.size (Nat.le_trans (by simp) (Nat.le_trans hk3.size (by simp)))
     ·have h1 := hkfa.same k o (by omega) ho hc;have h2 : (Wa.putObj (w.heap.size + 1) (.loop { rec .ready none with state := .busy })).heap[k]? = some o := (World.putObj_heap_other (by omega)).trans h1;have h3 := hk3.same k o (by omega) h2 hc;exact (World.putObj_heap_other (by omega)).trans h3
   | ret => exact hp.2.elim
   | exit id => exact hp.2.elim
   | goto t => exact hp.2.elim
   | panic ch => exact hp.elim
   | outgrown => exact hp.elim
  ·rintro e W2 ⟨⟨v, rfl⟩, hi, hl, hk⟩;exact ⟨none, _, by have := run_endLoop (P := P) hl (by rw [hrec]; simp); rw [hrec] at this; exact this, hdone _ (hI.putObj _ hi (by omega) hl rfl) ((World.putObj_heap_other (by omega)).trans hk)⟩
end Ln
end Go.Proofs.YtjobhjemnmleaaaGreatDoor
namespace Go.Proofs.YtjobhjemnmleaaaGreatDoor
open Go.RowKit
namespace Od
section
variable {F : Fence} {n : Nat} {P : Program} {ops : Array Oper} {Q : Exit → Act → World → Prop}
theorem wpAnyIn_inv (N : Nat) (hord : ∀ (j : Nat) o, ops[j]? = some o → ∀ e ∈ o.after, Region.binds .any e = true → e.on < j) (hdst : ∀ (j : Nat) o d, ops[j]? = some o → o.dst = some d → d < N)
  (J : (Nat → Bool) → (Nat → Value) → World → Prop)
  (hstep : ∀ i o, ops[i]? = some o → ∀ (b : Nat → Bool) (a : Act) (w : World), J b (slots a) w → b i = false → (∀ e ∈ o.after, Region.binds .any e = true → b e.on = true) → a.defers = [] →
   ∀ K : Act → World → Prop, (∀ v w', J (upd b i true) (updo (slots a) o.dst v) w' → K (a.put o.dst v) w') → if Region.wanted o (yielded ops a.tmps) = true then Oper.wpIn F n P o a w K Q else ((∀ f, o.about P w a.eval = some f → F.fn f) ∧ K (a.put o.dst undef) w))
  (hend : ∀ (a : Act) (w : World), J (fun j => decide (j < ops.size)) (slots a) w → a.tmps.size = N → a.defers = [] → Q .normal a w) :
  ∀ (g : Nat) (s : Array Bool) (a : Act) (w : World), s.size = ops.size → s.toList.count false ≤ g → a.tmps.size = N → a.defers = [] → J (fun j => s.getD j false) (slots a) w → wpAnyIn F n P .any ops Q g s a w := by
 have fin : ∀ (s : Array Bool) (a : Act) (w : World), s.size = ops.size → (∀ j, j < ops.size → s.getD j false = true) → a.tmps.size = N → a.defers = [] → J (fun j => s.getD j false) (slots a) w → Q .normal a w := by
  intro s a w hs hall hN hd hJ;refine hend a w ?_ hN hd;have : (fun j => s.getD j false) = fun j => decide (j < ops.size) := by
   funext j
   by_cases hj : j < ops.size
   ·rw [hall j hj, decide_eq_true hj]
   ·rw [decide_eq_false hj];simp [Array.getD, hs, hj]
  rw [this] at hJ;exact hJ
 intro g
 induction g with
 | zero =>
  intro s a w hs hc hN hd hJ;have hall : ∀ j, j < ops.size → s.getD j false = true := by
   intro j hj;have hj' : j < s.size := by omega
   have := all_true s.toList (by omega) s[j] (by simp);simp [Array.getD, hj', this]
  have hr : Region.ready .any ops s = [] := by
   cases e : Region.ready .any ops s with
   | nil => rfl
   | cons i l =>
    exfalso
    obtain ⟨h1, o, ho, _⟩ := mem_ready.1 (show i ∈ Region.ready .any ops s by rw [e]; exact List.mem_cons_self);have hi : i < ops.size := (Array.getElem?_eq_some_iff.1 ho).1;have h2 := hall i hi;have hi' : i < s.size := by omega
    simp [Array.getD, hi'] at h1 h2
    rw [h1] at h2;cases h2
  exact ⟨hr, fin s a w hs hall hN hd hJ⟩
 | succ g ih =>
  intro s a w hs hc hN hd hJ;refine ⟨fun hr => fin s a w hs (ready_nil_all hs hord hr) hN hd hJ, fun i hi => ?_⟩;obtain ⟨h1, o, ho, hdep⟩ := mem_ready.1 hi;have hio : i < ops.size := (Array.getElem?_eq_some_iff.1 ho).1;have hi' : i < s.size := by omega
  have hsi : s[i] = false := by simpa [Array.getD, hi'] using h1
  refine wpOpIn_step ho fun K hK => hstep i o ho (fun j => s.getD j false) a w hJ (by simp [Array.getD, hi', hsi]) hdep hd K fun v w' hJ' => hK _ _ (ih _ _ _ (by simp [hs]) ?_ (by rw [size_put]; exact hN) (by rw [defers_put]; exact hd) ?_)
  ·have := count_set s.toList i (by simp [hi', hsi]);rw [Array.toList_setIfInBounds];omega
  ·rw [slots_put (fun k hk => by rw [hN]; exact hdst i o k ho hk)];have : (fun j => (s.setIfInBounds i true).getD j false) = upd (fun j => s.getD j false) i true := by
    funext j
    unfold upd
    by_cases e : j = i
    ·subst e;rw [if_pos rfl];simp [Array.getD, hi']
    ·rw [if_neg e];simp only [Array.getD_eq_getD_getElem?, Array.getElem?_setIfInBounds, if_neg (Ne.symm e)]
   rw [this];exact hJ'
theorem wpIn_region_inv {id : Nat} {a : Act} {w : World} (N : Nat) (hm : P.follows .mixedOrders = true) (hN : a.tmps.size = N) (hd : a.defers = []) (hord : ∀ (j : Nat) o, ops[j]? = some o → ∀ e ∈ o.after, Region.binds .any e = true → e.on < j) (hdst : ∀ (j : Nat) o d, ops[j]? = some o → o.dst = some d → d < N)
  (J : (Nat → Bool) → (Nat → Value) → World → Prop) (h0 : J (fun _ => false) (slots a) w.drew)
  (hstep : ∀ i o, ops[i]? = some o → ∀ (b : Nat → Bool) (a : Act) (w : World), J b (slots a) w → b i = false → (∀ e ∈ o.after, Region.binds .any e = true → b e.on = true) → a.defers = [] →
   ∀ K : Act → World → Prop, (∀ v w', J (upd b i true) (updo (slots a) o.dst v) w' → K (a.put o.dst v) w') → if Region.wanted o (yielded ops a.tmps) = true then Oper.wpIn F n P o a w K Q else ((∀ f, o.about P w a.eval = some f → F.fn f) ∧ K (a.put o.dst undef) w))
  (hend : ∀ (a : Act) (w : World), J (fun j => decide (j < ops.size)) (slots a) w → a.tmps.size = N → a.defers = [] → Q .normal a w) : (Code.region id ops true).wpIn F n P Q a w := by
 refine wpIn_region_any hm ?_;refine wpAnyIn_inv N hord hdst J hstep hend ops.size _ a _ (by simp) (by simp) hN hd ?_;have : (fun j => (Array.replicate ops.size false).getD j false) = fun _ => false := by
  funext j
  simp [Array.getD]
 rw [this];exact h0
end
end Od
namespace Rg
theorem notwant {ops : Array Oper} {tm : Array Value} {o : Oper} {j t : Nat} {x y : Bool} (hg : o.guard = some (j, x)) (hd : (ops[j]?).bind (·.dst) = some t) (hv : tm.getD t undef = .bool y) (hne : (y == x) = false) : Region.wanted o (yielded ops tm) = false := by
 unfold Region.wanted;rw [hg];unfold yielded;simp only [hd, Option.bind_some, getD_bool hv];simpa using hne
end Rg
end Go.Proofs.YtjobhjemnmleaaaGreatDoor
