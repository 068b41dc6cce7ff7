/- A region that draws its order, by an invariant: what is done, what the slots hold, the world. -/
import Derived.Test.YtdanbnolbaelhaaGreatDoorE01
import Derived.Orders
import Derived.RegionTactic

namespace Go.Proofs.YtdanbnolbaelhaaGreatDoor
open Go.RowKit

namespace Od
def slots (a : Act) : Nat → Value := fun k => a.tmps.getD k undef
def upd {α : Type} (f : Nat → α) (i : Nat) (v : α) : Nat → α := fun j => if j = i then v else f j
def updo (u : Nat → Value) (d : Option Tmp) (v : Value) : Nat → Value := match d with
  | some k => upd u k v
  | none => u
theorem slots_put {a : Act} {d : Option Tmp} {v : Value} (h : ∀ k, d = some k → k < a.tmps.size) : slots (a.put d v) = updo (slots a) d v := by
  cases d with
  | none => rfl
  | some k =>
    have hk := h k rfl
    funext j
    show (a.tmps.setIfInBounds k v).getD j undef = if j = k then v else a.tmps.getD j undef
    by_cases e : j = k
    · subst e
      rw [if_pos rfl]
      simp [Array.getD, hk]
    · rw [if_neg e]
      simp only [Array.getD_eq_getD_getElem?, Array.getElem?_setIfInBounds, if_neg (Ne.symm e)]
theorem size_put {a : Act} {d : Option Tmp} {v : Value} : (a.put d v).tmps.size = a.tmps.size := by
  cases d with
  | none => rfl
  | some k => show (a.tmps.setIfInBounds k v).size = _; simp
theorem defers_put {a : Act} {d : Option Tmp} {v : Value} : (a.put d v).defers = a.defers := by cases d <;> rfl
theorem count_set : ∀ (l : List Bool) (i : Nat), l[i]? = some false → (l.set i true).count false + 1 = l.count false
  | [], i, h => by simp at h
  | x :: l, 0, h => by
    simp at h
    subst h
    simp
  | x :: l, i + 1, h => by
    have := count_set l i (by simpa using h)
    simp only [List.set_cons_succ, List.count_cons]
    omega
theorem all_true : ∀ (l : List Bool), l.count false = 0 → ∀ x ∈ l, x = true
  | [], _, x, hx => by cases hx
  | y :: l, h, x, hx => by
    simp only [List.count_cons] at h
    have h1 : l.count false = 0 := by omega
    have h2 : y = true := by
      cases y
      · simp at h
      · rfl
    rcases List.mem_cons.1 hx with rfl | hx
    · exact h2
    · exact all_true l h1 x hx
theorem ord_of {ops : Array Oper} (h : ((List.range ops.size).all fun j => match ops[j]? with
    | some o => o.after.toList.all fun e => !Region.binds .any e || decide (e.on < j)
    | none => true) = true) : ∀ (j : Nat) o, ops[j]? = some o → ∀ e ∈ o.after, Region.binds .any e = true → e.on < j := by
  intro j o hj e he hbi
  have h1 := List.all_eq_true.1 h j (List.mem_range.2 (Array.getElem?_eq_some_iff.1 hj).1)
  rw [hj] at h1
  have h2 := List.all_eq_true.1 h1 e (Array.mem_toList_iff.2 he)
  rw [hbi] at h2
  exact of_decide_eq_true (by simpa using h2)
theorem dst_of {ops : Array Oper} {N : Nat} (h : ((List.range ops.size).all fun j => match ops[j]? with
    | some o => (match o.dst with
      | some d => decide (d < N)
      | none => true)
    | none => true) = true) : ∀ (j : Nat) o d, ops[j]? = some o → o.dst = some d → d < N := by
  intro j o d hj hd
  have h1 := List.all_eq_true.1 h j (List.mem_range.2 (Array.getElem?_eq_some_iff.1 hj).1)
  rw [hj] at h1
  simp only [hd] at h1
  exact of_decide_eq_true h1
section
variable {P : Program} {ops : Array Oper} {Q : Exit → Act → World → Prop}
theorem ready_nil_all {s : Array Bool} (hs : s.size = ops.size) (hord : ∀ (j : Nat) o, ops[j]? = some o → ∀ e ∈ o.after, Region.binds .any e = true → e.on < j) (h : Region.ready .any ops s = []) : ∀ j, j < ops.size → s.getD j false = true := by
  intro j
  induction j using Nat.strongRecOn with
  | ind j ih =>
    intro hj
    cases hb : s.getD j false with
    | true => rfl
    | false =>
      exfalso
      have hb' : s.getD j true = false := by
        have : j < s.size := by omega
        simp [Array.getD, this] at hb ⊢
        exact hb
      have : j ∈ Region.ready .any ops s := mem_ready.2 ⟨hb', ops[j], Array.getElem?_eq_getElem hj, fun e he hbi => ih e.on (hord j _ (Array.getElem?_eq_getElem hj) e he hbi) (by have := hord j _ (Array.getElem?_eq_getElem hj) e he hbi; omega)⟩
      rw [h] at this
      cases this
theorem wpAny_inv (N : Nat) (hord : ∀ (j : Nat) o, ops[j]? = some o → ∀ e ∈ o.after, Region.binds .any e = true → e.on < j) (hdst : ∀ (j : Nat) o d, ops[j]? = some o → o.dst = some d → d < N)
    (J : (Nat → Bool) → (Nat → Value) → World → Prop)
    (hstep : ∀ i o, ops[i]? = some o → ∀ (b : Nat → Bool) (a : Act) (w : World), J b (slots a) w → b i = false → (∀ e ∈ o.after, Region.binds .any e = true → b e.on = true) → a.defers = [] →
      ∀ K : Act → World → Prop, (∀ v w', J (upd b i true) (updo (slots a) o.dst v) w' → K (a.put o.dst v) w') → if Region.wanted o (yielded ops a.tmps) = true then Oper.wp P o a w K Q else K (a.put o.dst undef) w)
    (hend : ∀ (a : Act) (w : World), J (fun j => decide (j < ops.size)) (slots a) w → a.tmps.size = N → a.defers = [] → Q .normal a w) :
    ∀ (g : Nat) (s : Array Bool) (a : Act) (w : World), s.size = ops.size → s.toList.count false ≤ g → a.tmps.size = N → a.defers = [] → J (fun j => s.getD j false) (slots a) w → wpAny P .any ops Q g s a w := by
  have fin : ∀ (s : Array Bool) (a : Act) (w : World), s.size = ops.size → (∀ j, j < ops.size → s.getD j false = true) → a.tmps.size = N → a.defers = [] → J (fun j => s.getD j false) (slots a) w → Q .normal a w := by
    intro s a w hs hall hN hd hJ
    refine hend a w ?_ hN hd
    have : (fun j => s.getD j false) = fun j => decide (j < ops.size) := by
      funext j
      by_cases hj : j < ops.size
      · rw [hall j hj, decide_eq_true hj]
      · rw [decide_eq_false hj]
        simp [Array.getD, hs, hj]
    rw [this] at hJ
    exact hJ
  intro g
  induction g with
  | zero =>
    intro s a w hs hc hN hd hJ
    have hall : ∀ j, j < ops.size → s.getD j false = true := by
      intro j hj
      have hj' : j < s.size := by omega
      have := all_true s.toList (by omega) s[j] (by simp)
      simp [Array.getD, hj', this]
    have hr : Region.ready .any ops s = [] := by
      cases e : Region.ready .any ops s with
      | nil => rfl
      | cons i l =>
        exfalso
        obtain ⟨h1, o, ho, _⟩ := mem_ready.1 (show i ∈ Region.ready .any ops s by rw [e]; exact List.mem_cons_self)
        have hi : i < ops.size := (Array.getElem?_eq_some_iff.1 ho).1
        have h2 := hall i hi
        have hi' : i < s.size := by omega
        simp [Array.getD, hi'] at h1 h2
        rw [h1] at h2
        cases h2
    exact ⟨hr, fin s a w hs hall hN hd hJ⟩
  | succ g ih =>
    intro s a w hs hc hN hd hJ
    refine ⟨fun hr => fin s a w hs (ready_nil_all hs hord hr) hN hd hJ, fun i hi => ?_⟩
    obtain ⟨h1, o, ho, hdep⟩ := mem_ready.1 hi
    have hio : i < ops.size := (Array.getElem?_eq_some_iff.1 ho).1
    have hi' : i < s.size := by omega
    have hsi : s[i] = false := by simpa [Array.getD, hi'] using h1
    refine wpOp_step ho fun K hK => hstep i o ho (fun j => s.getD j false) a w hJ (by simp [Array.getD, hi', hsi]) hdep hd K fun v w' hJ' => hK _ _ (ih _ _ _ (by simp [hs]) ?_ (by rw [size_put]; exact hN) (by rw [defers_put]; exact hd) ?_)
    · have := count_set s.toList i (by simp [hi', hsi])
      rw [Array.toList_setIfInBounds]
      omega
    · rw [slots_put (fun k hk => by rw [hN]; exact hdst i o k ho hk)]
      have : (fun j => (s.setIfInBounds i true).getD j false) = upd (fun j => s.getD j false) i true := by
        funext j
        unfold upd
        by_cases e : j = i
        · subst e
          rw [if_pos rfl]
          simp [Array.getD, hi']
        · rw [if_neg e]
          simp only [Array.getD_eq_getD_getElem?, Array.getElem?_setIfInBounds, if_neg (Ne.symm e)]
      rw [this]
      exact hJ'
/-- The region. -/
theorem wp_region_inv {id : Nat} {a : Act} {w : World} (N : Nat) (hm : P.follows .mixedOrders = true) (hN : a.tmps.size = N) (hd : a.defers = []) (hord : ∀ (j : Nat) o, ops[j]? = some o → ∀ e ∈ o.after, Region.binds .any e = true → e.on < j) (hdst : ∀ (j : Nat) o d, ops[j]? = some o → o.dst = some d → d < N)
    (J : (Nat → Bool) → (Nat → Value) → World → Prop) (h0 : J (fun _ => false) (slots a) w.drew)
    (hstep : ∀ i o, ops[i]? = some o → ∀ (b : Nat → Bool) (a : Act) (w : World), J b (slots a) w → b i = false → (∀ e ∈ o.after, Region.binds .any e = true → b e.on = true) → a.defers = [] →
      ∀ K : Act → World → Prop, (∀ v w', J (upd b i true) (updo (slots a) o.dst v) w' → K (a.put o.dst v) w') → if Region.wanted o (yielded ops a.tmps) = true then Oper.wp P o a w K Q else K (a.put o.dst undef) w)
    (hend : ∀ (a : Act) (w : World), J (fun j => decide (j < ops.size)) (slots a) w → a.tmps.size = N → a.defers = [] → Q .normal a w) : (Code.region id ops true).wp P Q a w := by
  refine wp_region_any hm ?_
  refine wpAny_inv N hord hdst J hstep hend ops.size _ a _ (by simp) (by simp) hN hd ?_
  have : (fun j => (Array.replicate ops.size false).getD j false) = fun _ => false := by
    funext j
    simp [Array.getD]
  rw [this]
  exact h0
end
end Od
end Go.Proofs.YtdanbnolbaelhaaGreatDoor

/- A drawn region whose operations lay one slot each: what is in the slots is kept, slot by slot, from world to world. -/
namespace Go.Proofs.YtdanbnolbaelhaaGreatDoor
open Go.RowKit

namespace Rg
open Od
/-- Of n operations those that are done have laid what P says of them, in the slots that sl says; all other slots are as they were. -/
structure J (n : Nat) (sl : Nat → Nat) (P : Nat → Value → World → Prop) (w0 : World) (u0 : Nat → Value) (b : Nat → Bool) (u : Nat → Value) (w : World) : Prop where
  below : Below w0.heap.size w0 w
  old : ∀ j, (∀ k, k < n → sl k ≠ j) → u j = u0 j
  val : ∀ k, k < n → b k = true → P k (u (sl k)) w
section
variable {n : Nat} {sl : Nat → Nat} {P : Nat → Value → World → Prop} {w0 w w' : World} {u0 u : Nat → Value} {b : Nat → Bool}
theorem J.start (w0 w : World) (u0 : Nat → Value) (hb : Below w0.heap.size w0 w) : J n sl P w0 u0 (fun _ => false) u0 w := ⟨hb, fun _ _ => rfl, fun _ _ e => (by cases e)⟩
theorem J.step (h : J n sl P w0 u0 b u w) (hm : ∀ k v W W', P k v W → Below W.heap.size W W' → P k v W') (hi : ∀ j, j < n → ∀ k, k < n → sl j = sl k → j = k) {k : Nat} (hk : k < n) {v : Value} (hb : Below w.heap.size w w') (hv : P k v w') : J n sl P w0 u0 (upd b k true) (upd u (sl k) v) w' := by
  refine ⟨below_then h.below hb, fun j hj => ?_, fun j hj hbj => ?_⟩
  · unfold upd
    rw [if_neg (fun e => hj k hk e.symm)]
    exact h.old j hj
  · by_cases hjk : j = k
    · subst hjk
      unfold upd
      rw [if_pos rfl]
      exact hv
    · have e1 : b j = true := by
        unfold upd at hbj
        rwa [if_neg hjk] at hbj
      unfold upd
      rw [if_neg (fun e => hjk (hi j hj k hk e))]
      exact hm _ _ _ _ (h.val j hj e1) hb
/-- The operation has run in the world as it is. -/
theorem J.put (h : J n sl P w0 u0 b u w) (hm : ∀ k v W W', P k v W → Below W.heap.size W W' → P k v W') (hi : ∀ j, j < n → ∀ k, k < n → sl j = sl k → j = k) {k : Nat} (hk : k < n) {v : Value} (hv : P k v w) : J n sl P w0 u0 (upd b k true) (upd u (sl k) v) w := h.step hm hi hk (Below.refl _ _) hv
end
theorem getD_bool {tm : Array Value} {k : Nat} {x : Bool} (h : tm.getD k undef = .bool x) : tm[k]? = some (.bool x) := by
  rw [Array.getD_eq_getD_getElem?] at h
  cases e : tm[k]? with
  | none => rw [e] at h; cases h
  | some v => rw [e] at h; rw [← h]; rfl
/-- A guarded operation is wanted. -/
theorem want {ops : Array Oper} {tm : Array Value} {o : Oper} {j t : Nat} {x : Bool} (hg : o.guard = some (j, x)) (hd : (ops[j]?).bind (·.dst) = some t) (hv : tm.getD t undef = .bool x) : Region.wanted o (yielded ops tm) = true := by
  unfold Region.wanted
  rw [hg]
  unfold yielded
  simp only [hd, Option.bind_some, getD_bool hv, beq_self_eq_true]
theorem frame_of (n : Nat) (a : Act) (hs : a.tmps.size = n) (hd : a.defers = []) : a = { tmps := ((List.range n).map fun i => a.tmps.getD i undef).toArray, defers := [] } := by
  obtain ⟨t, d⟩ := a
  simp only at hs hd
  subst hd
  congr 1
  apply Array.ext
  · simp [hs]
  · intro i h1 h2
    simp [h1]
end Rg
end Go.Proofs.YtdanbnolbaelhaaGreatDoor
