/- One chain of two appends in a region that draws its order, the last element built of two texts, stored into a field of a copy: the invariant. -/
import Derived.Test.YtajcgoinhpengaaDoorP28
import Derived.Test.YtajcgoinhpengaaDoorP30
import Derived.Test.YtajcgoinhpengaaDoorP19

namespace Go.Proofs.YtajcgoinhpengaaDoor
open Go.RowKit

namespace Tr
open Od
/-- A chain: what its elements are; the slice that is copied; the element put behind. -/
structure Ch where
  e : TypeId
  size : Nat
  X : Value
  nx : Nat
  xs : List Value
  ys : List Value
  a1 : Value
  a2 : Value
def cur (c : Ch) (i : Nat) (b : Nat → Bool) (u : Nat → Value) : Row :=
  if b 8 = true then ⟨c.e, c.size, u (i + 8), c.nx + 1, c.xs ++ c.ys⟩ else if b 3 = true then ⟨c.e, c.size, u (i + 3), c.nx, c.xs⟩ else if b 0 = true then ⟨c.e, c.size, u i, 0, []⟩ else ⟨c.e, c.size, .slice none 0 0, 0, []⟩
def one (c : Ch) (i : Nat) (b : Nat → Bool) (u : Nat → Value) : Row :=
  if b 7 = true then ⟨c.e, c.size, u (i + 7), 1, c.ys⟩ else ⟨c.e, c.size, .slice none 0 0, 0, []⟩
structure J (w0 : World) (u0 : Nat → Value) (i f b3 g : Nat) (c : Ch) (cs : List Value) (b : Nat → Bool) (u : Nat → Value) (w : World) : Prop where
  below : Below g w0 w
  old : ∀ k, k < i → u k = u0 k
  m1 : b 4 = true → u (i + 4) = c.a1
  m2 : b 5 = true → u (i + 5) = c.a2
  p : b 1 = true → u (i + 1) = .pointer (some ⟨b3, f, none⟩)
  x : b 2 = true → u (i + 2) = c.X
  y : b 6 = true → u (i + 6) = .agg c.ys.toArray
  z : b 7 = true → ∃ k, u (i + 7) = .slice (some ⟨k, 0, none⟩) 1 1
  q : b 9 = true → u (i + 9) = .pointer (some ⟨g, f, none⟩)
  d6 : b 8 = true → b 3 = true ∧ b 7 = true
  d3 : b 3 = true → b 0 = true
  d8 : b 10 = true → b 8 = true
  many : Many (g + 1) w [cur c i b u, one c i b u]
  at_ : At w g (if b 10 = true then cs.set f (u (i + 8)) else cs)
section
variable {w0 w w' : World} {u0 u : Nat → Value} {i f b3 g : Nat} {c : Ch} {cs : List Value} {b : Nat → Bool}
theorem no_true {x : Bool} (h : x = false) (h' : x = true) : False := by rw [h] at h'; cases h'
theorem upd_at {α : Type} (f : Nat → α) (i : Nat) (v : α) : upd f i v i = v := by unfold upd; rw [if_pos rfl]
theorem upd_off {α : Type} (f : Nat → α) {i j : Nat} (v : α) (h : j ≠ i) : upd f i v j = f j := by unfold upd; rw [if_neg h]
theorem J.below_size (h : J w0 u0 i f b3 g c cs b u w) : g ≤ w.heap.size := Nat.le_of_lt h.at_.lt
theorem J.lt (h : J w0 u0 i f b3 g c cs b u w) : g + 1 ≤ w.heap.size := h.at_.lt
theorem many_at1 {B : Nat} {r0 r1 : Row} (h : Many B w [r0, r1]) : Many B w [r1, r0] := h.perm (List.Perm.swap _ _ _)
theorem J.p_ (h : J w0 u0 i f b3 g c cs b u w) : J w0 u0 i f b3 g c cs (upd b 1 true) (upd u (i + 1) (.pointer (some ⟨b3, f, none⟩))) w := by
  have e1 : cur c i (upd b 1 true) (upd u (i + 1) (.pointer (some ⟨b3, f, none⟩))) = cur c i b u := by unfold cur; rw [upd_off b _ (by omega), upd_off b _ (by omega), upd_off b _ (by omega), upd_off u _ (by omega), upd_off u _ (by omega), upd_off u _ (by omega)]
  have e2 : one c i (upd b 1 true) (upd u (i + 1) (.pointer (some ⟨b3, f, none⟩))) = one c i b u := by unfold one; rw [upd_off b _ (by omega), upd_off u _ (by omega)]
  refine ⟨h.below, fun k hk => by rw [upd_off _ _ (by omega)]; exact h.old k hk, fun e => by rw [upd_off _ _ (by omega)] at e ⊢; exact h.m1 e, fun e => by rw [upd_off _ _ (by omega)] at e ⊢; exact h.m2 e, fun _ => by rw [upd_at], fun e => by rw [upd_off _ _ (by omega)] at e ⊢; exact h.x e, fun e => by rw [upd_off _ _ (by omega)] at e ⊢; exact h.y e, fun e => by rw [upd_off _ _ (by omega)] at e ⊢; exact h.z e, fun e => by rw [upd_off _ _ (by omega)] at e ⊢; exact h.q e, ?_, ?_, ?_, by rw [e1, e2]; exact h.many, ?_⟩
  · rw [upd_off b _ (by omega), upd_off b _ (by omega), upd_off b _ (by omega)]; exact h.d6
  · rw [upd_off b _ (by omega), upd_off b _ (by omega)]; exact h.d3
  · rw [upd_off b _ (by omega), upd_off b _ (by omega)]; exact h.d8
  · rw [upd_off b _ (by omega), upd_off u _ (by omega)]; exact h.at_
theorem J.x_ (h : J w0 u0 i f b3 g c cs b u w) : J w0 u0 i f b3 g c cs (upd b 2 true) (upd u (i + 2) (c.X)) w := by
  have e1 : cur c i (upd b 2 true) (upd u (i + 2) (c.X)) = cur c i b u := by unfold cur; rw [upd_off b _ (by omega), upd_off b _ (by omega), upd_off b _ (by omega), upd_off u _ (by omega), upd_off u _ (by omega), upd_off u _ (by omega)]
  have e2 : one c i (upd b 2 true) (upd u (i + 2) (c.X)) = one c i b u := by unfold one; rw [upd_off b _ (by omega), upd_off u _ (by omega)]
  refine ⟨h.below, fun k hk => by rw [upd_off _ _ (by omega)]; exact h.old k hk, fun e => by rw [upd_off _ _ (by omega)] at e ⊢; exact h.m1 e, fun e => by rw [upd_off _ _ (by omega)] at e ⊢; exact h.m2 e, fun e => by rw [upd_off _ _ (by omega)] at e ⊢; exact h.p e, fun _ => by rw [upd_at], fun e => by rw [upd_off _ _ (by omega)] at e ⊢; exact h.y e, fun e => by rw [upd_off _ _ (by omega)] at e ⊢; exact h.z e, fun e => by rw [upd_off _ _ (by omega)] at e ⊢; exact h.q e, ?_, ?_, ?_, by rw [e1, e2]; exact h.many, ?_⟩
  · rw [upd_off b _ (by omega), upd_off b _ (by omega), upd_off b _ (by omega)]; exact h.d6
  · rw [upd_off b _ (by omega), upd_off b _ (by omega)]; exact h.d3
  · rw [upd_off b _ (by omega), upd_off b _ (by omega)]; exact h.d8
  · rw [upd_off b _ (by omega), upd_off u _ (by omega)]; exact h.at_
theorem J.m1_ (h : J w0 u0 i f b3 g c cs b u w) : J w0 u0 i f b3 g c cs (upd b 4 true) (upd u (i + 4) (c.a1)) w := by
  have e1 : cur c i (upd b 4 true) (upd u (i + 4) (c.a1)) = cur c i b u := by unfold cur; rw [upd_off b _ (by omega), upd_off b _ (by omega), upd_off b _ (by omega), upd_off u _ (by omega), upd_off u _ (by omega), upd_off u _ (by omega)]
  have e2 : one c i (upd b 4 true) (upd u (i + 4) (c.a1)) = one c i b u := by unfold one; rw [upd_off b _ (by omega), upd_off u _ (by omega)]
  refine ⟨h.below, fun k hk => by rw [upd_off _ _ (by omega)]; exact h.old k hk, fun _ => by rw [upd_at], fun e => by rw [upd_off _ _ (by omega)] at e ⊢; exact h.m2 e, fun e => by rw [upd_off _ _ (by omega)] at e ⊢; exact h.p e, fun e => by rw [upd_off _ _ (by omega)] at e ⊢; exact h.x e, fun e => by rw [upd_off _ _ (by omega)] at e ⊢; exact h.y e, fun e => by rw [upd_off _ _ (by omega)] at e ⊢; exact h.z e, fun e => by rw [upd_off _ _ (by omega)] at e ⊢; exact h.q e, ?_, ?_, ?_, by rw [e1, e2]; exact h.many, ?_⟩
  · rw [upd_off b _ (by omega), upd_off b _ (by omega), upd_off b _ (by omega)]; exact h.d6
  · rw [upd_off b _ (by omega), upd_off b _ (by omega)]; exact h.d3
  · rw [upd_off b _ (by omega), upd_off b _ (by omega)]; exact h.d8
  · rw [upd_off b _ (by omega), upd_off u _ (by omega)]; exact h.at_
theorem J.m2_ (h : J w0 u0 i f b3 g c cs b u w) : J w0 u0 i f b3 g c cs (upd b 5 true) (upd u (i + 5) (c.a2)) w := by
  have e1 : cur c i (upd b 5 true) (upd u (i + 5) (c.a2)) = cur c i b u := by unfold cur; rw [upd_off b _ (by omega), upd_off b _ (by omega), upd_off b _ (by omega), upd_off u _ (by omega), upd_off u _ (by omega), upd_off u _ (by omega)]
  have e2 : one c i (upd b 5 true) (upd u (i + 5) (c.a2)) = one c i b u := by unfold one; rw [upd_off b _ (by omega), upd_off u _ (by omega)]
  refine ⟨h.below, fun k hk => by rw [upd_off _ _ (by omega)]; exact h.old k hk, fun e => by rw [upd_off _ _ (by omega)] at e ⊢; exact h.m1 e, fun _ => by rw [upd_at], fun e => by rw [upd_off _ _ (by omega)] at e ⊢; exact h.p e, fun e => by rw [upd_off _ _ (by omega)] at e ⊢; exact h.x e, fun e => by rw [upd_off _ _ (by omega)] at e ⊢; exact h.y e, fun e => by rw [upd_off _ _ (by omega)] at e ⊢; exact h.z e, fun e => by rw [upd_off _ _ (by omega)] at e ⊢; exact h.q e, ?_, ?_, ?_, by rw [e1, e2]; exact h.many, ?_⟩
  · rw [upd_off b _ (by omega), upd_off b _ (by omega), upd_off b _ (by omega)]; exact h.d6
  · rw [upd_off b _ (by omega), upd_off b _ (by omega)]; exact h.d3
  · rw [upd_off b _ (by omega), upd_off b _ (by omega)]; exact h.d8
  · rw [upd_off b _ (by omega), upd_off u _ (by omega)]; exact h.at_
theorem J.y_ (h : J w0 u0 i f b3 g c cs b u w) : J w0 u0 i f b3 g c cs (upd b 6 true) (upd u (i + 6) (.agg c.ys.toArray)) w := by
  have e1 : cur c i (upd b 6 true) (upd u (i + 6) (.agg c.ys.toArray)) = cur c i b u := by unfold cur; rw [upd_off b _ (by omega), upd_off b _ (by omega), upd_off b _ (by omega), upd_off u _ (by omega), upd_off u _ (by omega), upd_off u _ (by omega)]
  have e2 : one c i (upd b 6 true) (upd u (i + 6) (.agg c.ys.toArray)) = one c i b u := by unfold one; rw [upd_off b _ (by omega), upd_off u _ (by omega)]
  refine ⟨h.below, fun k hk => by rw [upd_off _ _ (by omega)]; exact h.old k hk, fun e => by rw [upd_off _ _ (by omega)] at e ⊢; exact h.m1 e, fun e => by rw [upd_off _ _ (by omega)] at e ⊢; exact h.m2 e, fun e => by rw [upd_off _ _ (by omega)] at e ⊢; exact h.p e, fun e => by rw [upd_off _ _ (by omega)] at e ⊢; exact h.x e, fun _ => by rw [upd_at], fun e => by rw [upd_off _ _ (by omega)] at e ⊢; exact h.z e, fun e => by rw [upd_off _ _ (by omega)] at e ⊢; exact h.q e, ?_, ?_, ?_, by rw [e1, e2]; exact h.many, ?_⟩
  · rw [upd_off b _ (by omega), upd_off b _ (by omega), upd_off b _ (by omega)]; exact h.d6
  · rw [upd_off b _ (by omega), upd_off b _ (by omega)]; exact h.d3
  · rw [upd_off b _ (by omega), upd_off b _ (by omega)]; exact h.d8
  · rw [upd_off b _ (by omega), upd_off u _ (by omega)]; exact h.at_
theorem J.q_ (h : J w0 u0 i f b3 g c cs b u w) : J w0 u0 i f b3 g c cs (upd b 9 true) (upd u (i + 9) (.pointer (some ⟨g, f, none⟩))) w := by
  have e1 : cur c i (upd b 9 true) (upd u (i + 9) (.pointer (some ⟨g, f, none⟩))) = cur c i b u := by unfold cur; rw [upd_off b _ (by omega), upd_off b _ (by omega), upd_off b _ (by omega), upd_off u _ (by omega), upd_off u _ (by omega), upd_off u _ (by omega)]
  have e2 : one c i (upd b 9 true) (upd u (i + 9) (.pointer (some ⟨g, f, none⟩))) = one c i b u := by unfold one; rw [upd_off b _ (by omega), upd_off u _ (by omega)]
  refine ⟨h.below, fun k hk => by rw [upd_off _ _ (by omega)]; exact h.old k hk, fun e => by rw [upd_off _ _ (by omega)] at e ⊢; exact h.m1 e, fun e => by rw [upd_off _ _ (by omega)] at e ⊢; exact h.m2 e, fun e => by rw [upd_off _ _ (by omega)] at e ⊢; exact h.p e, fun e => by rw [upd_off _ _ (by omega)] at e ⊢; exact h.x e, fun e => by rw [upd_off _ _ (by omega)] at e ⊢; exact h.y e, fun e => by rw [upd_off _ _ (by omega)] at e ⊢; exact h.z e, fun _ => by rw [upd_at], ?_, ?_, ?_, by rw [e1, e2]; exact h.many, ?_⟩
  · rw [upd_off b _ (by omega), upd_off b _ (by omega), upd_off b _ (by omega)]; exact h.d6
  · rw [upd_off b _ (by omega), upd_off b _ (by omega)]; exact h.d3
  · rw [upd_off b _ (by omega), upd_off b _ (by omega)]; exact h.d8
  · rw [upd_off b _ (by omega), upd_off u _ (by omega)]; exact h.at_
theorem J.bs (h : J w0 u0 i f b3 g c cs b u w) (hb : b 0 = false) : J w0 u0 i f b3 g c cs (upd b 0 true) (upd u i (.slice (some ⟨w.heap.size, 0, none⟩) 0 0)) (w.alloc (.cells #[] c.e)) := by
  have hb3 : b 3 = false := by
    cases e : b 3 with
    | false => rfl
    | true => exact (no_true hb (h.d3 e)).elim
  have hb6 : b 8 = false := by
    cases e : b 8 with
    | false => rfl
    | true => exact (no_true hb3 (h.d6 e).1).elim
  have hb8 : b 10 = false := by
    cases e : b 10 with
    | false => rfl
    | true => exact (no_true hb6 (h.d8 e)).elim
  have e1 : cur c i b u = ⟨c.e, c.size, .slice none 0 0, 0, []⟩ := by unfold cur; simp [hb, hb3, hb6]
  have e2 : cur c i (upd b 0 true) (upd u i (.slice (some ⟨w.heap.size, 0, none⟩) 0 0)) = ⟨c.e, c.size, .slice (some ⟨w.heap.size, 0, none⟩) 0 0, 0, []⟩ := by
    unfold cur
    simp [upd, hb3, hb6]
  have e3 : one c i (upd b 0 true) (upd u i (.slice (some ⟨w.heap.size, 0, none⟩) 0 0)) = one c i b u := by unfold one; rw [upd_off b _ (by omega), upd_off u _ (by omega)]
  have hm := h.many
  rw [e1] at hm
  have hm' := hm.grow1 (v' := .slice (some ⟨w.heap.size, 0, none⟩) 0 0) (n' := 0) (xs' := []) (World.ownsRow_made w #[] 0 h.lt (Nat.zero_le _) (by simp)) (World.grownBy_alloc w _ none) (.inr rfl)
  refine ⟨h.below.alloc h.below_size _, fun k hk => by rw [upd_off _ _ (by omega)]; exact h.old k hk, fun e => by rw [upd_off _ _ (by omega)] at e ⊢; exact h.m1 e, fun e => by rw [upd_off _ _ (by omega)] at e ⊢; exact h.m2 e, fun e => by rw [upd_off _ _ (by omega)] at e ⊢; exact h.p e, fun e => by rw [upd_off _ _ (by omega)] at e ⊢; exact h.x e, fun e => by rw [upd_off _ _ (by omega)] at e ⊢; exact h.y e, fun e => by rw [upd_off _ _ (by omega)] at e ⊢; exact h.z e, fun e => by rw [upd_off _ _ (by omega)] at e ⊢; exact h.q e, ?_, ?_, ?_, by rw [e2, e3]; exact hm', ?_⟩
  · rw [upd_off b _ (by omega), upd_off b _ (by omega), upd_off b _ (by omega)]; exact h.d6
  · intro _; exact upd_at _ _ _
  · rw [upd_off b _ (by omega), upd_off b _ (by omega)]; exact h.d8
  · rw [upd_off b _ (by omega), upd_off u _ (by omega)]; exact h.at_.allocO _
theorem J.one_ (h : J w0 u0 i f b3 g c cs b u w) (hb : b 7 = false) (hl : c.ys.length = c.size) : J w0 u0 i f b3 g c cs (upd b 7 true) (upd u (i + 7) (.slice (some ⟨w.heap.size, 0, none⟩) 1 1)) (w.alloc (.cells c.ys.toArray c.e)) := by
  have hb6 : b 8 = false := by
    cases e : b 8 with
    | false => rfl
    | true => exact (no_true hb (h.d6 e).2).elim
  have hb8 : b 10 = false := by
    cases e : b 10 with
    | false => rfl
    | true => exact (no_true hb6 (h.d8 e)).elim
  have e1 : one c i b u = ⟨c.e, c.size, .slice none 0 0, 0, []⟩ := by unfold one; simp [hb]
  have e2 : one c i (upd b 7 true) (upd u (i + 7) (.slice (some ⟨w.heap.size, 0, none⟩) 1 1)) = ⟨c.e, c.size, .slice (some ⟨w.heap.size, 0, none⟩) 1 1, 1, c.ys⟩ := by
    unfold one
    simp [upd]
  have e3 : cur c i (upd b 7 true) (upd u (i + 7) (.slice (some ⟨w.heap.size, 0, none⟩) 1 1)) = cur c i b u := by unfold cur; rw [upd_off b _ (by omega), upd_off b _ (by omega), upd_off b _ (by omega), upd_off u _ (by omega), upd_off u _ (by omega), upd_off u _ (by omega)]
  have hm := many_at1 h.many
  rw [e1] at hm
  have hown : (w.alloc (.cells c.ys.toArray c.e)).ownsRow (g + 1) c.e c.size (.slice (some ⟨w.heap.size, 0, none⟩) 1 1) 1 c.ys :=
    ⟨by simp [hl], .inr ⟨w.heap.size, 1, c.ys.toArray, rfl, h.lt, heap_alloc_new w _, Nat.le_refl _, by unfold maxLen; omega, by simp [hl], by simp [← hl]⟩⟩
  have hm' := hm.grow1 hown (World.grownBy_alloc w _ none) (.inr rfl)
  refine ⟨h.below.alloc h.below_size _, fun k hk => by rw [upd_off _ _ (by omega)]; exact h.old k hk, fun e => by rw [upd_off _ _ (by omega)] at e ⊢; exact h.m1 e, fun e => by rw [upd_off _ _ (by omega)] at e ⊢; exact h.m2 e, fun e => by rw [upd_off _ _ (by omega)] at e ⊢; exact h.p e, fun e => by rw [upd_off _ _ (by omega)] at e ⊢; exact h.x e, fun e => by rw [upd_off _ _ (by omega)] at e ⊢; exact h.y e, fun _ => by rw [upd_at]; exact ⟨_, rfl⟩, fun e => by rw [upd_off _ _ (by omega)] at e ⊢; exact h.q e, ?_, ?_, ?_, by rw [e2, e3]; exact many_at1 hm', ?_⟩
  · rw [upd_off b _ (by omega), upd_off b _ (by omega)]; intro e; exact (no_true hb6 e).elim
  · rw [upd_off b _ (by omega), upd_off b _ (by omega)]; exact h.d3
  · rw [upd_off b _ (by omega), upd_off b _ (by omega)]; exact h.d8
  · rw [upd_off b _ (by omega), upd_off u _ (by omega)]; exact h.at_.allocO _
theorem J.own_ap (h : J w0 u0 i f b3 g c cs b u w) (hb : b 3 = false) (hd : b 0 = true) : w.ownsRow (g + 1) c.e c.size (u i) 0 [] := by
  have hb6 : b 8 = false := by
    cases e : b 8 with
    | false => rfl
    | true => exact (no_true hb (h.d6 e).1).elim
  have e1 : cur c i b u = ⟨c.e, c.size, u i, 0, []⟩ := by unfold cur; simp [hb, hb6, hd]
  have hm := h.many.own (cur c i b u) (by simp)
  rw [e1] at hm
  exact hm
theorem J.ap (h : J w0 u0 i f b3 g c cs b u w) (hb : b 3 = false) {v' : Value} (hd : b 0 = true) (hown : w'.ownsRow (g + 1) c.e c.size v' c.nx c.xs) (hg : w.grownBy w' (u i).ownBlock) (hat : v'.ownBlock = (u i).ownBlock ∨ v'.ownBlock = some w.heap.size) : J w0 u0 i f b3 g c cs (upd b 3 true) (upd u (i + 3) v') w' := by
  have hb6 : b 8 = false := by
    cases e : b 8 with
    | false => rfl
    | true => exact (no_true hb (h.d6 e).1).elim
  have hb8 : b 10 = false := by
    cases e : b 10 with
    | false => rfl
    | true => exact (no_true hb6 (h.d8 e)).elim
  have e1 : cur c i b u = ⟨c.e, c.size, u i, 0, []⟩ := by unfold cur; simp [hb, hb6, hd]
  have e2 : cur c i (upd b 3 true) (upd u (i + 3) v') = ⟨c.e, c.size, v', c.nx, c.xs⟩ := by
    unfold cur
    simp [upd, hb6]
  have e3 : one c i (upd b 3 true) (upd u (i + 3) v') = one c i b u := by unfold one; rw [upd_off b _ (by omega), upd_off u _ (by omega)]
  have hm := h.many
  rw [e1] at hm
  have hown0 := hm.own _ List.mem_cons_self
  have hm' := hm.grow1 (r := ⟨c.e, c.size, u i, 0, []⟩) hown hg hat
  have hl : ∀ k, (u i).ownBlock = some k → g + 1 ≤ k := fun k hk => (hown0.lt k hk).1
  refine ⟨h.below.grown hg h.below_size (fun k hk => by have := hl k hk; omega), fun k hk => by rw [upd_off _ _ (by omega)]; exact h.old k hk, fun e => by rw [upd_off _ _ (by omega)] at e ⊢; exact h.m1 e, fun e => by rw [upd_off _ _ (by omega)] at e ⊢; exact h.m2 e, fun e => by rw [upd_off _ _ (by omega)] at e ⊢; exact h.p e, fun e => by rw [upd_off _ _ (by omega)] at e ⊢; exact h.x e, fun e => by rw [upd_off _ _ (by omega)] at e ⊢; exact h.y e, fun e => by rw [upd_off _ _ (by omega)] at e ⊢; exact h.z e, fun e => by rw [upd_off _ _ (by omega)] at e ⊢; exact h.q e, ?_, ?_, ?_, by rw [e2, e3]; exact hm', ?_⟩
  · rw [upd_off b _ (by omega)]; intro e; exact (no_true hb6 e).elim
  · intro _; rw [upd_off b _ (by omega)]; exact hd
  · rw [upd_off b _ (by omega), upd_off b _ (by omega)]; exact h.d8
  · have ha := h.at_
    rw [hb8, if_neg (by decide)] at ha
    rw [upd_off b _ (by omega), hb8, if_neg (by decide)]
    exact Sc.At.grownO ha hg (fun k hk => by have := hl k hk; omega)
theorem J.own_aq (h : J w0 u0 i f b3 g c cs b u w) (hb : b 8 = false) (hd : b 3 = true) : w.ownsRow (g + 1) c.e c.size (u (i + 3)) c.nx c.xs := by
  have e1 : cur c i b u = ⟨c.e, c.size, u (i + 3), c.nx, c.xs⟩ := by unfold cur; simp [hb, hd]
  have hm := h.many.own (cur c i b u) (by simp)
  rw [e1] at hm
  exact hm
theorem J.aq (h : J w0 u0 i f b3 g c cs b u w) (hb : b 8 = false) {v' : Value} (hd : b 3 = true) (hz : b 7 = true) (hown : w'.ownsRow (g + 1) c.e c.size v' (c.nx + 1) (c.xs ++ c.ys)) (hg : w.grownBy w' (u (i + 3)).ownBlock) (hat : v'.ownBlock = (u (i + 3)).ownBlock ∨ v'.ownBlock = some w.heap.size) : J w0 u0 i f b3 g c cs (upd b 8 true) (upd u (i + 8) v') w' := by
  have hb8 : b 10 = false := by
    cases e : b 10 with
    | false => rfl
    | true => exact (no_true hb (h.d8 e)).elim
  have e1 : cur c i b u = ⟨c.e, c.size, u (i + 3), c.nx, c.xs⟩ := by unfold cur; simp [hb, hd]
  have e2 : cur c i (upd b 8 true) (upd u (i + 8) v') = ⟨c.e, c.size, v', (c.nx + 1), (c.xs ++ c.ys)⟩ := by
    unfold cur
    simp [upd]
  have e3 : one c i (upd b 8 true) (upd u (i + 8) v') = one c i b u := by unfold one; rw [upd_off b _ (by omega), upd_off u _ (by omega)]
  have hm := h.many
  rw [e1] at hm
  have hown0 := hm.own _ List.mem_cons_self
  have hm' := hm.grow1 (r := ⟨c.e, c.size, u (i + 3), c.nx, c.xs⟩) hown hg hat
  have hl : ∀ k, (u (i + 3)).ownBlock = some k → g + 1 ≤ k := fun k hk => (hown0.lt k hk).1
  refine ⟨h.below.grown hg h.below_size (fun k hk => by have := hl k hk; omega), fun k hk => by rw [upd_off _ _ (by omega)]; exact h.old k hk, fun e => by rw [upd_off _ _ (by omega)] at e ⊢; exact h.m1 e, fun e => by rw [upd_off _ _ (by omega)] at e ⊢; exact h.m2 e, fun e => by rw [upd_off _ _ (by omega)] at e ⊢; exact h.p e, fun e => by rw [upd_off _ _ (by omega)] at e ⊢; exact h.x e, fun e => by rw [upd_off _ _ (by omega)] at e ⊢; exact h.y e, fun e => by rw [upd_off _ _ (by omega)] at e ⊢; exact h.z e, fun e => by rw [upd_off _ _ (by omega)] at e ⊢; exact h.q e, ?_, ?_, ?_, by rw [e2, e3]; exact hm', ?_⟩
  · intro _; rw [upd_off b _ (by omega), upd_off b _ (by omega)]; exact ⟨hd, hz⟩
  · rw [upd_off b _ (by omega), upd_off b _ (by omega)]; exact h.d3
  · rw [upd_off b _ (by omega)]; intro e; exact (no_true hb8 e).elim
  · have ha := h.at_
    rw [hb8, if_neg (by decide)] at ha
    rw [upd_off b _ (by omega), hb8, if_neg (by decide)]
    exact Sc.At.grownO ha hg (fun k hk => by have := hl k hk; omega)
theorem J.store_ (h : J w0 u0 i f b3 g c cs b u w) (h6 : b 8 = true) (hb : b 10 = false) : J w0 u0 i f b3 g c cs (upd b 10 true) u (w.setCell ⟨g, f, none⟩ (u (i + 8))) := by
  have e1 : cur c i (upd b 10 true) u = cur c i b u := by unfold cur; rw [upd_off b _ (by omega), upd_off b _ (by omega), upd_off b _ (by omega)]
  have e2 : one c i (upd b 10 true) u = one c i b u := by unfold one; rw [upd_off b _ (by omega)]
  have ha := h.at_
  rw [hb, if_neg (by decide)] at ha
  refine ⟨h.below.setCell (Nat.le_refl _) _, h.old, fun e => by rw [upd_off _ _ (by omega)] at e; exact h.m1 e, fun e => by rw [upd_off _ _ (by omega)] at e; exact h.m2 e, fun e => by rw [upd_off _ _ (by omega)] at e; exact h.p e, fun e => by rw [upd_off _ _ (by omega)] at e; exact h.x e, fun e => by rw [upd_off _ _ (by omega)] at e; exact h.y e, fun e => by rw [upd_off _ _ (by omega)] at e; exact h.z e, fun e => by rw [upd_off _ _ (by omega)] at e; exact h.q e, ?_, ?_, ?_, by rw [e1, e2]; exact h.many.setBelow (Nat.lt_succ_self _) _, ?_⟩
  · rw [upd_off b _ (by omega), upd_off b _ (by omega), upd_off b _ (by omega)]; exact h.d6
  · rw [upd_off b _ (by omega), upd_off b _ (by omega)]; exact h.d3
  · intro _; rw [upd_off b _ (by omega)]; exact h6
  · rw [upd_at, if_pos rfl]; exact ha.set f _
theorem J.full (h : J w0 u0 i f b3 g c cs b u w) (hb : b 8 = true) : w.ownsRow (g + 1) c.e c.size (u (i + 8)) (c.nx + 1) (c.xs ++ c.ys) := by
  have e1 : cur c i b u = ⟨c.e, c.size, u (i + 8), c.nx + 1, c.xs ++ c.ys⟩ := by unfold cur; simp [hb]
  have hm := h.many.own (cur c i b u) (by simp)
  rw [e1] at hm
  exact hm
theorem J.single (h : J w0 u0 i f b3 g c cs b u w) (hb : b 7 = true) : w.ownsRow (g + 1) c.e c.size (u (i + 7)) 1 c.ys := by
  have e1 : one c i b u = ⟨c.e, c.size, u (i + 7), 1, c.ys⟩ := by unfold one; simp [hb]
  have hm := h.many.own (one c i b u) (by simp)
  rw [e1] at hm
  exact hm
/-- The beginning. -/
theorem J.start (w0 w : World) (u0 : Nat → Value) (i f b3 g : Nat) (c : Ch) (cs : List Value) (hb : Below g w0 w) (ha : At w g cs) : J w0 u0 i f b3 g c cs (fun _ => false) u0 w := by
  refine ⟨hb, fun _ _ => rfl, fun e => (by cases e), fun e => (by cases e), fun e => (by cases e), fun e => (by cases e), fun e => (by cases e), fun e => (by cases e), fun e => (by cases e), fun e => (by cases e), fun e => (by cases e), fun e => (by cases e), ?_, ?_⟩
  · exact Many.add0 (Many.add0 Many.nil_ _ _) _ _
  · rw [if_neg (by decide)]; exact ha
end
theorem cells_one {α : Type} (enc : α → List Value) (h : ∀ x, ∀ v ∈ enc x, v.oneCell' = true) (l : List α) : ∀ v ∈ l.flatMap enc, v.oneCell' = true := by
  intro v hv
  rw [List.mem_flatMap] at hv
  obtain ⟨x, _, hx⟩ := hv
  exact h x v hx
theorem row_reads {w : World} {B size n c : Nat} {A : Option Addr} {xs : List Value} (h : Src.RowR w B size n (.slice A n c) xs) : Reads w B size A n xs := by
  obtain ⟨A', c', e, _, _, hr⟩ := h
  injection e with e1 _ e2
  subst e1
  exact hr
theorem pq_alloc {p : World → Prop} (h : Hid (∀ W W', p W → Below W.heap.size W W' → p W')) {W : World} (hp : p W) (o : Obj) : p (W.alloc o) := h.out W _ hp ((Below.refl _ _).alloc (Nat.le_refl _) _)
/-- A source with a link more. -/
theorem src_link {W : World} {B : Nat} {s : Src.S} {rv zv lv lv' : Value} {evs : List Value} {k : Src.Txt × Src.Txt} {n : Nat} (h : Src.SrcR W B s rv zv lv evs) (hn : s.links.length = n) (hr : Src.RowR W B 2 (n + 1) lv' (s.links.flatMap Src.lc ++ [.string (Src.bts k.1), .string (Src.bts k.2)])) :
    Src.SrcR W B ⟨s.rules, s.zones, s.links ++ [k], s.op⟩ rv zv lv' evs :=
  ⟨h.rules, h.zones, by simpa [List.flatMap_append, hn, Src.lc] using hr, h.len, h.eras⟩
theorem link_one (l : List (Src.Txt × Src.Txt)) : ∀ v ∈ l.flatMap Src.lc, v.oneCell' = true := cells_one _ (fun x v hv => by
  unfold Src.lc at hv
  simp only [List.mem_cons, List.not_mem_nil, or_false] at hv
  rcases hv with rfl | rfl <;> rfl) l
end Tr
end Go.Proofs.YtajcgoinhpengaaDoor

/- A link more, of a new name, in plain words: what leads where, what is missing, and which key the new name has. -/
namespace Go.Proofs.YtajcgoinhpengaaDoor
open Go.RowKit

namespace Lk
theorem first_more {l : List ByteArray} {x fresh : ByteArray} (h : x ≠ fresh) : first (l ++ [fresh]) x = first l x := by
  induction l with
  | nil => simp only [List.nil_append, first]; rw [if_neg (fun e => h e.symm)]; rfl
  | cons a r ih => rw [List.cons_append]; simp only [first]; rw [ih]
theorem first_new {l : List ByteArray} {fresh : ByteArray} (h : fresh ∉ l) : first (l ++ [fresh]) fresh = some l.length := by
  induction l with
  | nil => simp [first]
  | cons a r ih =>
    have h1 : a ≠ fresh := fun e => h (by simp [e])
    have h2 := ih fun e => h (by simp [e])
    rw [List.cons_append]
    simp only [first]
    rw [if_neg h1, h2]
    simp
theorem getD_more {l : List ByteArray} {j : Nat} {x d : ByteArray} (h : j < l.length) : (l ++ [x]).getD j d = l.getD j d := by
  simp only [List.getD, List.getElem?_append_left h]
theorem getD_new {l : List ByteArray} {x d : ByteArray} : (l ++ [x]).getD l.length d = x := by
  simp [List.getD]
/-- With fuel enough a link more changes nothing of what does not meet it. -/
theorem find_more {zn ln tg : List ByteArray} {fresh name : ByteArray} (hl : tg.length = ln.length) (ht : fresh ∉ tg) :
    ∀ (f f' : Nat) (K K' : Kn) (done : List ByteArray) (x : ByteArray), done.Nodup → (∀ d ∈ done, d ∈ ln) → ln.length + 1 ≤ f + done.length → ln.length + 1 ≤ f' + done.length → (∀ y ∈ done, K y ≠ none) → (∀ y, y ≠ fresh → K' y = K y) → x ≠ fresh →
      find zn (ln ++ [fresh]) (tg ++ [name]) f' K' x = find zn ln tg f K x
  | 0, f', K, K', done, x, hn, hd, h1, h2, hk, he, hx => by have := nodup_len done ln hn hd; omega
  | f + 1, 0, K, K', done, x, hn, hd, h1, h2, hk, he, hx => by have := nodup_len done ln hn hd; omega
  | f + 1, f' + 1, K, K', done, x, hn, hd, h1, h2, hk, he, hx => by
    unfold find
    rw [he x hx]
    cases hK : K x with
    | some e => rfl
    | none =>
      simp only
      cases first zn x with
      | some i => rfl
      | none =>
        simp only
        rw [first_more hx]
        cases hj : first ln x with
        | none => rfl
        | some j =>
          simp only
          have hjl := first_lt hj
          have hxl : x ∈ ln := List.mem_of_getElem? (first_some hj)
          rw [getD_more (by rw [hl]; exact hjl)]
          have hnx : tg.getD j ⟨#[]⟩ ≠ fresh := by
            intro e
            apply ht
            rw [← e, List.getD, List.getElem?_eq_getElem (by rw [hl]; exact hjl), Option.getD_some]
            exact List.getElem_mem _
          rw [find_more hl ht f f' (mark K x loop) (mark K' x loop) (x :: done) _ (List.nodup_cons.2 ⟨fun hm => hk x hm hK, hn⟩) (fun d hd' => by rcases List.mem_cons.1 hd' with rfl | h; exact hxl; exact hd d h) (by rw [List.length_cons]; omega) (by rw [List.length_cons]; omega) (fun y hy => by unfold mark; split; exact fun h => (by cases h); rename_i hne; exact hk y ((List.mem_cons.1 hy).resolve_left hne)) (fun y hy => by unfold mark; split; rfl; exact he y hy) hnx]
end Lk
namespace Ca
/-- A source with a link more. -/
def more (s : Src.S) (name fresh : ByteArray) : Src.S := ⟨s.rules, s.zones, s.links ++ [(tl name, tl fresh)], s.op⟩
theorem bts_tl (x : ByteArray) : Src.bts (tl x) = x := rfl
theorem more_ln (s : Src.S) (name fresh : ByteArray) : Lk.ln (more s name fresh) = Lk.ln s ++ [fresh] := by
  unfold Lk.ln more
  rw [List.map_append]
  rfl
theorem more_tg (s : Src.S) (name fresh : ByteArray) : Lk.tg (more s name fresh) = Lk.tg s ++ [name] := by
  unfold Lk.tg more
  rw [List.map_append]
  rfl
theorem more_zn (s : Src.S) (name fresh : ByteArray) : Lk.zn (more s name fresh) = Lk.zn s := rfl
theorem tg_ln (s : Src.S) : (Lk.tg s).length = (Lk.ln s).length := by unfold Lk.tg Lk.ln; rw [List.length_map, List.length_map]
theorem ln_len (s : Src.S) : (Lk.ln s).length = s.links.length := by unfold Lk.ln; rw [List.length_map]
section
variable {s : Src.S} {name fresh : ByteArray}
theorem walk_more (ht : fresh ∉ Lk.tg s) {x : ByteArray} (hx : x ≠ fresh) : Lk.walk (more s name fresh) x = Lk.walk s x := by
  unfold Lk.walk
  rw [more_ln, more_tg, more_zn]
  refine Lk.find_more (tg_ln s) ht _ _ _ _ [] x List.nodup_nil (fun d h => by cases h) ?_ ?_ (fun y h => by cases h) (fun y _ => rfl) hx
  · rw [ln_len, List.length_nil]; omega
  · rw [ln_len, List.length_nil]; unfold more; rw [List.length_append]; omega
theorem walk_new (hz : fresh ∉ Lk.zn s) (hl : fresh ∉ Lk.ln s) (ht : fresh ∉ Lk.tg s) : (Lk.walk (more s name fresh) fresh).2 = if name = fresh then Lk.loop else (Lk.walk s name).2 := by
  have e : Lk.walk (more s name fresh) fresh = Lk.find (Lk.zn s) (Lk.ln s ++ [fresh]) (Lk.tg s ++ [name]) (s.links.length + 1 + 1) (fun _ => none) fresh := by
    unfold Lk.walk
    rw [more_ln, more_tg, more_zn]
    unfold more
    rw [List.length_append]
    rfl
  rw [e]
  unfold Lk.find
  simp only
  rw [Lk.first_none.2 hz]
  simp only
  rw [Lk.first_new hl]
  simp only
  rw [ln_len, show s.links.length = (Lk.tg s).length by rw [tg_ln, ln_len], Lk.getD_new]
  split
  · rename_i hn
    subst hn
    unfold Lk.find
    have hm : Lk.mark (fun _ => none) name Lk.loop name = some Lk.loop := by unfold Lk.mark; rw [if_pos rfl]
    rw [hm]
  · rename_i hn
    rw [Lk.find_more (tg_ln s) ht ((Lk.tg s).length + 1) _ (fun _ => none) _ [] name List.nodup_nil (fun d h => by cases h) (by rw [tg_ln, List.length_nil]; omega) (by rw [tg_ln, List.length_nil]; omega) (fun y h => by cases h) (fun y hy => by unfold Lk.mark; rw [if_neg hy]) hn]
    unfold Lk.walk
    rw [tg_ln, ln_len]
theorem lead_more (ht : fresh ∉ Lk.tg s) {x : ByteArray} (hx : x ≠ fresh) : lead (more s name fresh) x = lead s x := by unfold lead; rw [walk_more ht hx]
theorem miss_more (ht : fresh ∉ Lk.tg s) : ∀ (r seen a : List ByteArray), fresh ∉ r → miss (more s name fresh) r seen a = miss s r seen a
  | [], _, _, _ => rfl
  | z :: r, seen, a, h => by
    have h1 : z ≠ fresh := fun e => h (by simp [e])
    unfold miss
    rw [miss_more ht r _ _ fun e => h (by simp [e])]
    unfold missStep
    rw [lead_more ht h1]
theorem fresh_flat {l : List E} (h : ∀ e ∈ l, fresh ∉ e.zones) : ∀ p ∈ flat l 0, p.2 ≠ fresh := by
  intro p hp e
  obtain ⟨j, x, hj, _, hx⟩ := (flat_mem l 0 p.1 p.2).1 hp
  rw [e] at hx
  exact h x (List.mem_of_getElem? hj) hx
theorem missing_more {l : List E} (ht : fresh ∉ Lk.tg s) (h : ∀ e ∈ l, fresh ∉ e.zones) : missing l (more s name fresh) = missing l s := by
  unfold missing
  refine miss_more ht _ _ _ fun hm => ?_
  obtain ⟨p, hp, e⟩ := List.mem_map.1 hm
  exact fresh_flat h p hp e
/-- One of a chart's zones leads there. -/
def listed (l : List E) (s : Src.S) (i : Int) : Prop := ∃ e ∈ l, ∃ z ∈ e.zones, (Lk.walk s z).2.2 = 0 ∧ (Lk.walk s z).2.1 = i
theorem key_new {l : List E} (hc : chk l = 0) (hb : Src.srcB (more s name fresh) = true) (hz : fresh ∉ Lk.zn s) (hl : fresh ∉ Lk.ln s) (ht : fresh ∉ Lk.tg s) (h : ∀ e ∈ l, fresh ∉ e.zones) :
    ((name = fresh ∨ (Lk.walk s name).2.2 ≠ 0) → (keyA l (more s name fresh) fresh).1 = ⟨#[]⟩ ∧ (keyA l (more s name fresh) fresh).2 ≠ 0) ∧
    (name ≠ fresh → (Lk.walk s name).2.2 = 0 → ((keyA l (more s name fresh) fresh).2 = 0 ↔ listed l s (Lk.walk s name).2.1)) := by
  have hf : (flat l 0).find? (fun p => decide (p.2 = fresh)) = none := by
    rw [List.find?_eq_none]
    intro p hp
    simpa using fresh_flat h p hp
  unfold keyA
  rw [if_pos hc, if_pos hb, hf]
  simp only
  rw [walk_new hz hl ht]
  constructor
  · intro hh
    by_cases hn : name = fresh
    · rw [if_pos hn, if_neg (by decide)]
      exact ⟨rfl, by decide⟩
    · have h2 := hh.resolve_left hn
      rw [if_neg hn, if_neg h2]
      exact ⟨rfl, h2⟩
  · intro hn h0
    rw [if_neg hn, if_pos h0]
    constructor
    · intro hk
      cases hq : (flat l 0).find? fun p => decide (lead (more s name fresh) p.2 = (Lk.walk s name).2.1) with
      | none => rw [hq] at hk; exact absurd (show (3 : Int) = 0 from hk) (by decide)
      | some p =>
        have hp := List.mem_of_find?_eq_some hq
        have hd : lead (more s name fresh) p.2 = (Lk.walk s name).2.1 := by simpa using List.find?_some hq
        rw [lead_more ht (fresh_flat h p hp)] at hd
        obtain ⟨j, x, hj, _, hx⟩ := (flat_mem l 0 p.1 p.2).1 hp
        refine ⟨x, List.mem_of_getElem? hj, p.2, hx, ?_⟩
        unfold lead at hd
        split at hd
        · rename_i h1
          exact ⟨h1, hd⟩
        · have := walk_pos s name
          omega
    · rintro ⟨e, he, z, hz', h1, h2⟩
      obtain ⟨j, hj⟩ := List.mem_iff_getElem?.1 he
      have hm : (j, z) ∈ flat l 0 := (flat_mem l 0 j z).2 ⟨j, e, hj, by omega, hz'⟩
      cases hq : (flat l 0).find? fun p => decide (lead (more s name fresh) p.2 = (Lk.walk s name).2.1) with
      | some p => rfl
      | none =>
        exfalso
        have h3 := List.find?_eq_none.1 hq (j, z) hm
        apply h3
        have h4 : lead (more s name fresh) z = (Lk.walk s name).2.1 := by
          rw [lead_more ht (fresh_flat h _ hm)]
          unfold lead
          rw [if_pos h1, h2]
        simpa using h4
end
end Ca
end Go.Proofs.YtajcgoinhpengaaDoor
