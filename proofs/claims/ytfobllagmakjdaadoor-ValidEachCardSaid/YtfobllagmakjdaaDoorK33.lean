/- One chain of two appends in a region that draws its order, stored into a field of a copy: the invariant. -/
import Derived.Test.YtfobllagmakjdaaDoorK32
namespace Go.Proofs.YtfobllagmakjdaaDoor
open Go.RowKit

namespace Vo
open Od
/-- A chain: what its elements are; the slice that is copied; the element put behind. -/
structure Ch where
  e : TypeId
  size : Nat
  X : Value
  nx : Nat
  xs : List Value
  ys : List Value
def cur (c : Ch) (i : Nat) (b : Nat → Bool) (u : Nat → Value) : Row :=
  if b 6 = true then ⟨c.e, c.size, u (i + 6), c.nx + 1, c.xs ++ c.ys⟩ else if b 3 = true then ⟨c.e, c.size, u (i + 3), c.nx, c.xs⟩ else if b 0 = true then ⟨c.e, c.size, u i, 0, []⟩ else ⟨c.e, c.size, .slice none 0 0, 0, []⟩
def one (c : Ch) (i : Nat) (b : Nat → Bool) (u : Nat → Value) : Row :=
  if b 5 = true then ⟨c.e, c.size, u (i + 5), 1, c.ys⟩ else ⟨c.e, c.size, .slice none 0 0, 0, []⟩
structure J (w0 : World) (u0 : Nat → Value) (i f b3 g : Nat) (c : Ch) (cs : List Value) (b : Nat → Bool) (u : Nat → Value) (w : World) : Prop where
  below : Below g w0 w
  old : ∀ k, k < i → u k = u0 k
  p : b 1 = true → u (i + 1) = .pointer (some ⟨b3, f, none⟩)
  x : b 2 = true → u (i + 2) = c.X
  y : b 4 = true → u (i + 4) = .agg c.ys.toArray
  z : b 5 = true → ∃ k, u (i + 5) = .slice (some ⟨k, 0, none⟩) 1 1
  q : b 7 = true → u (i + 7) = .pointer (some ⟨g, f, none⟩)
  d6 : b 6 = true → b 3 = true ∧ b 5 = true
  d3 : b 3 = true → b 0 = true
  d8 : b 8 = true → b 6 = true
  many : Many (g + 1) w [cur c i b u, one c i b u]
  at_ : At w g (if b 8 = true then cs.set f (u (i + 6)) else cs)
section
variable {w0 w w' : World} {u0 u : Nat → Value} {i f b3 g : Nat} {c : Ch} {cs : List Value} {b : Nat → Bool}
theorem no_true {x : Bool} (h : x = false) (h' : x = true) : False := by rw [h] at h'; cases h'
theorem upd_at {α : Type} (f : Nat → α) (i : Nat) (v : α) : upd f i v i = v := by unfold upd; rw [if_pos rfl]
theorem upd_off {α : Type} (f : Nat → α) {i j : Nat} (v : α) (h : j ≠ i) : upd f i v j = f j := by unfold upd; rw [if_neg h]
theorem J.below_size (h : J w0 u0 i f b3 g c cs b u w) : g ≤ w.heap.size := Nat.le_of_lt h.at_.lt
theorem J.lt (h : J w0 u0 i f b3 g c cs b u w) : g + 1 ≤ w.heap.size := h.at_.lt
theorem many_at1 {B : Nat} {r0 r1 : Row} (h : Many B w [r0, r1]) : Many B w [r1, r0] := h.perm (List.Perm.swap _ _ _)
theorem J.p_ (h : J w0 u0 i f b3 g c cs b u w) : J w0 u0 i f b3 g c cs (upd b 1 true) (upd u (i + 1) (.pointer (some ⟨b3, f, none⟩))) w := by
  have e1 : cur c i (upd b 1 true) (upd u (i + 1) (.pointer (some ⟨b3, f, none⟩))) = cur c i b u := by unfold cur; rw [upd_off b _ (by omega), upd_off b _ (by omega), upd_off b _ (by omega), upd_off u _ (by omega), upd_off u _ (by omega), upd_off u _ (by omega)]
  have e2 : one c i (upd b 1 true) (upd u (i + 1) (.pointer (some ⟨b3, f, none⟩))) = one c i b u := by unfold one; rw [upd_off b _ (by omega), upd_off u _ (by omega)]
  refine ⟨h.below, fun k hk => by rw [upd_off _ _ (by omega)]; exact h.old k hk, fun _ => by rw [upd_at], fun e => by rw [upd_off _ _ (by omega)] at e ⊢; exact h.x e, fun e => by rw [upd_off _ _ (by omega)] at e ⊢; exact h.y e, fun e => by rw [upd_off _ _ (by omega)] at e ⊢; exact h.z e, fun e => by rw [upd_off _ _ (by omega)] at e ⊢; exact h.q e, ?_, ?_, ?_, by rw [e1, e2]; exact h.many, ?_⟩
  · rw [upd_off b _ (by omega), upd_off b _ (by omega), upd_off b _ (by omega)]; exact h.d6
  · rw [upd_off b _ (by omega), upd_off b _ (by omega)]; exact h.d3
  · rw [upd_off b _ (by omega), upd_off b _ (by omega)]; exact h.d8
  · rw [upd_off b _ (by omega), upd_off u _ (by omega)]; exact h.at_
theorem J.x_ (h : J w0 u0 i f b3 g c cs b u w) : J w0 u0 i f b3 g c cs (upd b 2 true) (upd u (i + 2) (c.X)) w := by
  have e1 : cur c i (upd b 2 true) (upd u (i + 2) (c.X)) = cur c i b u := by unfold cur; rw [upd_off b _ (by omega), upd_off b _ (by omega), upd_off b _ (by omega), upd_off u _ (by omega), upd_off u _ (by omega), upd_off u _ (by omega)]
  have e2 : one c i (upd b 2 true) (upd u (i + 2) (c.X)) = one c i b u := by unfold one; rw [upd_off b _ (by omega), upd_off u _ (by omega)]
  refine ⟨h.below, fun k hk => by rw [upd_off _ _ (by omega)]; exact h.old k hk, fun e => by rw [upd_off _ _ (by omega)] at e ⊢; exact h.p e, fun _ => by rw [upd_at], fun e => by rw [upd_off _ _ (by omega)] at e ⊢; exact h.y e, fun e => by rw [upd_off _ _ (by omega)] at e ⊢; exact h.z e, fun e => by rw [upd_off _ _ (by omega)] at e ⊢; exact h.q e, ?_, ?_, ?_, by rw [e1, e2]; exact h.many, ?_⟩
  · rw [upd_off b _ (by omega), upd_off b _ (by omega), upd_off b _ (by omega)]; exact h.d6
  · rw [upd_off b _ (by omega), upd_off b _ (by omega)]; exact h.d3
  · rw [upd_off b _ (by omega), upd_off b _ (by omega)]; exact h.d8
  · rw [upd_off b _ (by omega), upd_off u _ (by omega)]; exact h.at_
theorem J.y_ (h : J w0 u0 i f b3 g c cs b u w) : J w0 u0 i f b3 g c cs (upd b 4 true) (upd u (i + 4) (.agg c.ys.toArray)) w := by
  have e1 : cur c i (upd b 4 true) (upd u (i + 4) (.agg c.ys.toArray)) = cur c i b u := by unfold cur; rw [upd_off b _ (by omega), upd_off b _ (by omega), upd_off b _ (by omega), upd_off u _ (by omega), upd_off u _ (by omega), upd_off u _ (by omega)]
  have e2 : one c i (upd b 4 true) (upd u (i + 4) (.agg c.ys.toArray)) = one c i b u := by unfold one; rw [upd_off b _ (by omega), upd_off u _ (by omega)]
  refine ⟨h.below, fun k hk => by rw [upd_off _ _ (by omega)]; exact h.old k hk, fun e => by rw [upd_off _ _ (by omega)] at e ⊢; exact h.p e, fun e => by rw [upd_off _ _ (by omega)] at e ⊢; exact h.x e, fun _ => by rw [upd_at], fun e => by rw [upd_off _ _ (by omega)] at e ⊢; exact h.z e, fun e => by rw [upd_off _ _ (by omega)] at e ⊢; exact h.q e, ?_, ?_, ?_, by rw [e1, e2]; exact h.many, ?_⟩
  · rw [upd_off b _ (by omega), upd_off b _ (by omega), upd_off b _ (by omega)]; exact h.d6
  · rw [upd_off b _ (by omega), upd_off b _ (by omega)]; exact h.d3
  · rw [upd_off b _ (by omega), upd_off b _ (by omega)]; exact h.d8
  · rw [upd_off b _ (by omega), upd_off u _ (by omega)]; exact h.at_
theorem J.q_ (h : J w0 u0 i f b3 g c cs b u w) : J w0 u0 i f b3 g c cs (upd b 7 true) (upd u (i + 7) (.pointer (some ⟨g, f, none⟩))) w := by
  have e1 : cur c i (upd b 7 true) (upd u (i + 7) (.pointer (some ⟨g, f, none⟩))) = cur c i b u := by unfold cur; rw [upd_off b _ (by omega), upd_off b _ (by omega), upd_off b _ (by omega), upd_off u _ (by omega), upd_off u _ (by omega), upd_off u _ (by omega)]
  have e2 : one c i (upd b 7 true) (upd u (i + 7) (.pointer (some ⟨g, f, none⟩))) = one c i b u := by unfold one; rw [upd_off b _ (by omega), upd_off u _ (by omega)]
  refine ⟨h.below, fun k hk => by rw [upd_off _ _ (by omega)]; exact h.old k hk, fun e => by rw [upd_off _ _ (by omega)] at e ⊢; exact h.p e, fun e => by rw [upd_off _ _ (by omega)] at e ⊢; exact h.x e, fun e => by rw [upd_off _ _ (by omega)] at e ⊢; exact h.y e, fun e => by rw [upd_off _ _ (by omega)] at e ⊢; exact h.z e, fun _ => by rw [upd_at], ?_, ?_, ?_, by rw [e1, e2]; exact h.many, ?_⟩
  · rw [upd_off b _ (by omega), upd_off b _ (by omega), upd_off b _ (by omega)]; exact h.d6
  · rw [upd_off b _ (by omega), upd_off b _ (by omega)]; exact h.d3
  · rw [upd_off b _ (by omega), upd_off b _ (by omega)]; exact h.d8
  · rw [upd_off b _ (by omega), upd_off u _ (by omega)]; exact h.at_
theorem J.bs (h : J w0 u0 i f b3 g c cs b u w) (hb : b 0 = false) : J w0 u0 i f b3 g c cs (upd b 0 true) (upd u i (.slice (some ⟨w.heap.size, 0, none⟩) 0 0)) (w.alloc (.cells #[] c.e)) := by
  have hb3 : b 3 = false := by
    cases e : b 3 with
    | false => rfl
    | true => exact (no_true hb (h.d3 e)).elim
  have hb6 : b 6 = false := by
    cases e : b 6 with
    | false => rfl
    | true => exact (no_true hb3 (h.d6 e).1).elim
  have hb8 : b 8 = false := by
    cases e : b 8 with
    | false => rfl
    | true => exact (no_true hb6 (h.d8 e)).elim
  have e1 : cur c i b u = ⟨c.e, c.size, .slice none 0 0, 0, []⟩ := by unfold cur; simp [hb, hb3, hb6]
  have e2 : cur c i (upd b 0 true) (upd u i (.slice (some ⟨w.heap.size, 0, none⟩) 0 0)) = ⟨c.e, c.size, .slice (some ⟨w.heap.size, 0, none⟩) 0 0, 0, []⟩ := by
    unfold cur
    simp [upd, hb3, hb6]
  have e3 : one c i (upd b 0 true) (upd u i (.slice (some ⟨w.heap.size, 0, none⟩) 0 0)) = one c i b u := by unfold one; rw [upd_off b _ (by omega), upd_off u _ (by omega)]
  have hm := h.many
  rw [e1] at hm
  have hm' := hm.grow1 (v' := .slice (some ⟨w.heap.size, 0, none⟩) 0 0) (n' := 0) (xs' := []) (World.ownsRow_made w #[] 0 h.lt (Nat.zero_le _) (by simp)) (World.grownBy_alloc w _ none) (.inr rfl)
  refine ⟨h.below.alloc h.below_size _, fun k hk => by rw [upd_off _ _ (by omega)]; exact h.old k hk, fun e => by rw [upd_off _ _ (by omega)] at e ⊢; exact h.p e, fun e => by rw [upd_off _ _ (by omega)] at e ⊢; exact h.x e, fun e => by rw [upd_off _ _ (by omega)] at e ⊢; exact h.y e, fun e => by rw [upd_off _ _ (by omega)] at e ⊢; exact h.z e, fun e => by rw [upd_off _ _ (by omega)] at e ⊢; exact h.q e, ?_, ?_, ?_, by rw [e2, e3]; exact hm', ?_⟩
  · rw [upd_off b _ (by omega), upd_off b _ (by omega), upd_off b _ (by omega)]; exact h.d6
  · intro _; exact upd_at _ _ _
  · rw [upd_off b _ (by omega), upd_off b _ (by omega)]; exact h.d8
  · rw [upd_off b _ (by omega), upd_off u _ (by omega)]; exact h.at_.allocO _
theorem J.one_ (h : J w0 u0 i f b3 g c cs b u w) (hb : b 5 = false) (hl : c.ys.length = c.size) : J w0 u0 i f b3 g c cs (upd b 5 true) (upd u (i + 5) (.slice (some ⟨w.heap.size, 0, none⟩) 1 1)) (w.alloc (.cells c.ys.toArray c.e)) := by
  have hb6 : b 6 = false := by
    cases e : b 6 with
    | false => rfl
    | true => exact (no_true hb (h.d6 e).2).elim
  have hb8 : b 8 = false := by
    cases e : b 8 with
    | false => rfl
    | true => exact (no_true hb6 (h.d8 e)).elim
  have e1 : one c i b u = ⟨c.e, c.size, .slice none 0 0, 0, []⟩ := by unfold one; simp [hb]
  have e2 : one c i (upd b 5 true) (upd u (i + 5) (.slice (some ⟨w.heap.size, 0, none⟩) 1 1)) = ⟨c.e, c.size, .slice (some ⟨w.heap.size, 0, none⟩) 1 1, 1, c.ys⟩ := by
    unfold one
    simp [upd]
  have e3 : cur c i (upd b 5 true) (upd u (i + 5) (.slice (some ⟨w.heap.size, 0, none⟩) 1 1)) = cur c i b u := by unfold cur; rw [upd_off b _ (by omega), upd_off b _ (by omega), upd_off b _ (by omega), upd_off u _ (by omega), upd_off u _ (by omega), upd_off u _ (by omega)]
  have hm := many_at1 h.many
  rw [e1] at hm
  have hown : (w.alloc (.cells c.ys.toArray c.e)).ownsRow (g + 1) c.e c.size (.slice (some ⟨w.heap.size, 0, none⟩) 1 1) 1 c.ys :=
    ⟨by simp [hl], .inr ⟨w.heap.size, 1, c.ys.toArray, rfl, h.lt, heap_alloc_new w _, Nat.le_refl _, by unfold maxLen; omega, by simp [hl], by simp [← hl]⟩⟩
  have hm' := hm.grow1 hown (World.grownBy_alloc w _ none) (.inr rfl)
  refine ⟨h.below.alloc h.below_size _, fun k hk => by rw [upd_off _ _ (by omega)]; exact h.old k hk, fun e => by rw [upd_off _ _ (by omega)] at e ⊢; exact h.p e, fun e => by rw [upd_off _ _ (by omega)] at e ⊢; exact h.x e, fun e => by rw [upd_off _ _ (by omega)] at e ⊢; exact h.y e, fun _ => by rw [upd_at]; exact ⟨_, rfl⟩, fun e => by rw [upd_off _ _ (by omega)] at e ⊢; exact h.q e, ?_, ?_, ?_, by rw [e2, e3]; exact many_at1 hm', ?_⟩
  · rw [upd_off b _ (by omega), upd_off b _ (by omega)]; intro e; exact (no_true hb6 e).elim
  · rw [upd_off b _ (by omega), upd_off b _ (by omega)]; exact h.d3
  · rw [upd_off b _ (by omega), upd_off b _ (by omega)]; exact h.d8
  · rw [upd_off b _ (by omega), upd_off u _ (by omega)]; exact h.at_.allocO _
theorem J.own_ap (h : J w0 u0 i f b3 g c cs b u w) (hb : b 3 = false) (hd : b 0 = true) : w.ownsRow (g + 1) c.e c.size (u i) 0 [] := by
  have hb6 : b 6 = false := by
    cases e : b 6 with
    | false => rfl
    | true => exact (no_true hb (h.d6 e).1).elim
  have e1 : cur c i b u = ⟨c.e, c.size, u i, 0, []⟩ := by unfold cur; simp [hb, hb6, hd]
  have hm := h.many.own (cur c i b u) (by simp)
  rw [e1] at hm
  exact hm
theorem J.ap (h : J w0 u0 i f b3 g c cs b u w) (hb : b 3 = false) {v' : Value} (hd : b 0 = true) (hown : w'.ownsRow (g + 1) c.e c.size v' c.nx c.xs) (hg : w.grownBy w' (u i).ownBlock) (hat : v'.ownBlock = (u i).ownBlock ∨ v'.ownBlock = some w.heap.size) : J w0 u0 i f b3 g c cs (upd b 3 true) (upd u (i + 3) v') w' := by
  have hb6 : b 6 = false := by
    cases e : b 6 with
    | false => rfl
    | true => exact (no_true hb (h.d6 e).1).elim
  have hb8 : b 8 = false := by
    cases e : b 8 with
    | false => rfl
    | true => exact (no_true hb6 (h.d8 e)).elim
  have e1 : cur c i b u = ⟨c.e, c.size, u i, 0, []⟩ := by unfold cur; simp [hb, hb6, hd]
  have e2 : cur c i (upd b 3 true) (upd u (i + 3) v') = ⟨c.e, c.size, v', c.nx, c.xs⟩ := by
    unfold cur
    simp [upd, hb6]
  have e3 : one c i (upd b 3 true) (upd u (i + 3) v') = one c i b u := by unfold one; rw [upd_off b _ (by omega), upd_off u _ (by omega)]
  have hm := h.many
  rw [e1] at hm
  have hown0 := hm.own _ List.mem_cons_self
  have hm' := hm.grow1 (r := ⟨c.e, c.size, u i, 0, []⟩) hown hg hat
  have hl : ∀ k, (u i).ownBlock = some k → g + 1 ≤ k := fun k hk => (hown0.lt k hk).1
  refine ⟨h.below.grown hg h.below_size (fun k hk => by have := hl k hk; omega), fun k hk => by rw [upd_off _ _ (by omega)]; exact h.old k hk, fun e => by rw [upd_off _ _ (by omega)] at e ⊢; exact h.p e, fun e => by rw [upd_off _ _ (by omega)] at e ⊢; exact h.x e, fun e => by rw [upd_off _ _ (by omega)] at e ⊢; exact h.y e, fun e => by rw [upd_off _ _ (by omega)] at e ⊢; exact h.z e, fun e => by rw [upd_off _ _ (by omega)] at e ⊢; exact h.q e, ?_, ?_, ?_, by rw [e2, e3]; exact hm', ?_⟩
  · rw [upd_off b _ (by omega)]; intro e; exact (no_true hb6 e).elim
  · intro _; rw [upd_off b _ (by omega)]; exact hd
  · rw [upd_off b _ (by omega), upd_off b _ (by omega)]; exact h.d8
  · have ha := h.at_
    rw [hb8, if_neg (by decide)] at ha
    rw [upd_off b _ (by omega), hb8, if_neg (by decide)]
    exact Sc.At.grownO ha hg (fun k hk => by have := hl k hk; omega)
theorem J.own_aq (h : J w0 u0 i f b3 g c cs b u w) (hb : b 6 = false) (hd : b 3 = true) : w.ownsRow (g + 1) c.e c.size (u (i + 3)) c.nx c.xs := by
  have e1 : cur c i b u = ⟨c.e, c.size, u (i + 3), c.nx, c.xs⟩ := by unfold cur; simp [hb, hd]
  have hm := h.many.own (cur c i b u) (by simp)
  rw [e1] at hm
  exact hm
theorem J.aq (h : J w0 u0 i f b3 g c cs b u w) (hb : b 6 = false) {v' : Value} (hd : b 3 = true) (hz : b 5 = true) (hown : w'.ownsRow (g + 1) c.e c.size v' (c.nx + 1) (c.xs ++ c.ys)) (hg : w.grownBy w' (u (i + 3)).ownBlock) (hat : v'.ownBlock = (u (i + 3)).ownBlock ∨ v'.ownBlock = some w.heap.size) : J w0 u0 i f b3 g c cs (upd b 6 true) (upd u (i + 6) v') w' := by
  have hb8 : b 8 = false := by
    cases e : b 8 with
    | false => rfl
    | true => exact (no_true hb (h.d8 e)).elim
  have e1 : cur c i b u = ⟨c.e, c.size, u (i + 3), c.nx, c.xs⟩ := by unfold cur; simp [hb, hd]
  have e2 : cur c i (upd b 6 true) (upd u (i + 6) v') = ⟨c.e, c.size, v', (c.nx + 1), (c.xs ++ c.ys)⟩ := by
    unfold cur
    simp [upd]
  have e3 : one c i (upd b 6 true) (upd u (i + 6) v') = one c i b u := by unfold one; rw [upd_off b _ (by omega), upd_off u _ (by omega)]
  have hm := h.many
  rw [e1] at hm
  have hown0 := hm.own _ List.mem_cons_self
  have hm' := hm.grow1 (r := ⟨c.e, c.size, u (i + 3), c.nx, c.xs⟩) hown hg hat
  have hl : ∀ k, (u (i + 3)).ownBlock = some k → g + 1 ≤ k := fun k hk => (hown0.lt k hk).1
  refine ⟨h.below.grown hg h.below_size (fun k hk => by have := hl k hk; omega), fun k hk => by rw [upd_off _ _ (by omega)]; exact h.old k hk, fun e => by rw [upd_off _ _ (by omega)] at e ⊢; exact h.p e, fun e => by rw [upd_off _ _ (by omega)] at e ⊢; exact h.x e, fun e => by rw [upd_off _ _ (by omega)] at e ⊢; exact h.y e, fun e => by rw [upd_off _ _ (by omega)] at e ⊢; exact h.z e, fun e => by rw [upd_off _ _ (by omega)] at e ⊢; exact h.q e, ?_, ?_, ?_, by rw [e2, e3]; exact hm', ?_⟩
  · intro _; rw [upd_off b _ (by omega), upd_off b _ (by omega)]; exact ⟨hd, hz⟩
  · rw [upd_off b _ (by omega), upd_off b _ (by omega)]; exact h.d3
  · rw [upd_off b _ (by omega)]; intro e; exact (no_true hb8 e).elim
  · have ha := h.at_
    rw [hb8, if_neg (by decide)] at ha
    rw [upd_off b _ (by omega), hb8, if_neg (by decide)]
    exact Sc.At.grownO ha hg (fun k hk => by have := hl k hk; omega)
theorem J.store_ (h : J w0 u0 i f b3 g c cs b u w) (h6 : b 6 = true) (hb : b 8 = false) : J w0 u0 i f b3 g c cs (upd b 8 true) u (w.setCell ⟨g, f, none⟩ (u (i + 6))) := by
  have e1 : cur c i (upd b 8 true) u = cur c i b u := by unfold cur; rw [upd_off b _ (by omega), upd_off b _ (by omega), upd_off b _ (by omega)]
  have e2 : one c i (upd b 8 true) u = one c i b u := by unfold one; rw [upd_off b _ (by omega)]
  have ha := h.at_
  rw [hb, if_neg (by decide)] at ha
  refine ⟨h.below.setCell (Nat.le_refl _) _, h.old, fun e => by rw [upd_off _ _ (by omega)] at e; exact h.p e, fun e => by rw [upd_off _ _ (by omega)] at e; exact h.x e, fun e => by rw [upd_off _ _ (by omega)] at e; exact h.y e, fun e => by rw [upd_off _ _ (by omega)] at e; exact h.z e, fun e => by rw [upd_off _ _ (by omega)] at e; exact h.q e, ?_, ?_, ?_, by rw [e1, e2]; exact h.many.setBelow (Nat.lt_succ_self _) _, ?_⟩
  · rw [upd_off b _ (by omega), upd_off b _ (by omega), upd_off b _ (by omega)]; exact h.d6
  · rw [upd_off b _ (by omega), upd_off b _ (by omega)]; exact h.d3
  · intro _; rw [upd_off b _ (by omega)]; exact h6
  · rw [upd_at, if_pos rfl]; exact ha.set f _
theorem J.full (h : J w0 u0 i f b3 g c cs b u w) (hb : b 6 = true) : w.ownsRow (g + 1) c.e c.size (u (i + 6)) (c.nx + 1) (c.xs ++ c.ys) := by
  have e1 : cur c i b u = ⟨c.e, c.size, u (i + 6), c.nx + 1, c.xs ++ c.ys⟩ := by unfold cur; simp [hb]
  have hm := h.many.own (cur c i b u) (by simp)
  rw [e1] at hm
  exact hm
theorem J.single (h : J w0 u0 i f b3 g c cs b u w) (hb : b 5 = true) : w.ownsRow (g + 1) c.e c.size (u (i + 5)) 1 c.ys := by
  have e1 : one c i b u = ⟨c.e, c.size, u (i + 5), 1, c.ys⟩ := by unfold one; simp [hb]
  have hm := h.many.own (one c i b u) (by simp)
  rw [e1] at hm
  exact hm
/-- The beginning. -/
theorem J.start (w0 w : World) (u0 : Nat → Value) (i f b3 g : Nat) (c : Ch) (cs : List Value) (hb : Below g w0 w) (ha : At w g cs) : J w0 u0 i f b3 g c cs (fun _ => false) u0 w := by
  refine ⟨hb, fun _ _ => rfl, fun e => (by cases e), fun e => (by cases e), fun e => (by cases e), fun e => (by cases e), fun e => (by cases e), fun e => (by cases e), fun e => (by cases e), fun e => (by cases e), ?_, ?_⟩
  · exact Many.add0 (Many.add0 Many.nil_ _ _) _ _
  · rw [if_neg (by decide)]; exact ha
end
theorem cells_one {α : Type} (enc : α → List Value) (h : ∀ x, ∀ v ∈ enc x, v.oneCell' = true) (l : List α) : ∀ v ∈ l.flatMap enc, v.oneCell' = true := by
  intro v hv
  rw [List.mem_flatMap] at hv
  obtain ⟨x, _, hx⟩ := hv
  exact h x v hx
theorem rule_one (l : List Ru.R) : ∀ v ∈ l.flatMap Ru.R.cells, v.oneCell' = true := cells_one _ (fun x v hv => by
  unfold Ru.R.cells at hv
  simp only [List.mem_cons, List.not_mem_nil, or_false] at hv
  rcases hv with rfl | rfl | rfl | rfl | rfl | rfl | rfl | rfl | rfl | rfl | rfl <;> rfl) l
theorem zone_one {w : World} {B : Nat} {s : Src.S} {rv zv lv : Value} {evs : List Value} (h : Src.SrcR w B s rv zv lv evs) : ∀ v ∈ (s.zones.zip evs).flatMap Src.zc, v.oneCell' = true := by
  intro v hv
  rw [List.mem_flatMap] at hv
  obtain ⟨p, hp, hx⟩ := hv
  obtain ⟨A, c, e, _⟩ := h.eras p hp
  unfold Src.zc at hx
  simp only [List.mem_cons, List.not_mem_nil, or_false] at hx
  rcases hx with rfl | rfl
  · rfl
  · rw [e]
    rfl
theorem row_reads {w : World} {B size n c : Nat} {A : Option Addr} {xs : List Value} (h : Src.RowR w B size n (.slice A n c) xs) : Reads w B size A n xs := by
  obtain ⟨A', c', e, _, _, hr⟩ := h
  injection e with e1 _ e2
  subst e1
  exact hr
theorem src_rule {W : World} {B : Nat} {s : Src.S} {rv rv' zv lv : Value} {evs : List Value} {r : Ru.R} {n : Nat} (h : Src.SrcR W B s rv zv lv evs) (hn : s.rules.length = n) (hr : Src.RowR W B 11 (n + 1) rv' (s.rules.flatMap Ru.R.cells ++ r.cells)) :
    Src.SrcR W B ⟨s.rules ++ [r], s.zones, s.links, s.op⟩ rv' zv lv evs :=
  ⟨by simpa [List.flatMap_append, hn] using hr, h.zones, h.links, h.len, h.eras⟩
theorem zip_app {α β : Type} : ∀ (a a' : List α) (b b' : List β), b.length = a.length → (a ++ a').zip (b ++ b') = a.zip b ++ a'.zip b'
  | [], a', [], b', _ => rfl
  | x :: a, a', y :: b, b', h => by
    rw [List.cons_append, List.cons_append, List.zip_cons_cons, List.zip_cons_cons, zip_app a a' b b' (by simpa using h), List.cons_append]
theorem src_zone {W : World} {B : Nat} {s : Src.S} {rv zv zv' lv ev : Value} {evs : List Value} {z : Src.Txt × List Er.E} {n : Nat} (h : Src.SrcR W B s rv zv lv evs) (hn : s.zones.length = n)
    (hz : Src.RowR W B 13 z.2.length ev (z.2.flatMap Er.E.cells)) (hr : Src.RowR W B 2 (n + 1) zv' ((s.zones.zip evs).flatMap Src.zc ++ [.string (Src.bts z.1), ev])) :
    Src.SrcR W B ⟨s.rules, s.zones ++ [z], s.links, s.op⟩ rv zv' lv (evs ++ [ev]) := by
  have e : (s.zones ++ [z]).zip (evs ++ [ev]) = s.zones.zip evs ++ [(z, ev)] := zip_app _ _ _ _ h.len
  refine ⟨h.rules, ?_, h.links, by simp [h.len], ?_⟩
  · show Src.RowR W B 2 (s.zones ++ [z]).length zv' (((s.zones ++ [z]).zip (evs ++ [ev])).flatMap Src.zc)
    rw [e, List.flatMap_append, List.length_append, hn]
    exact hr
  · intro p hp
    have hp : p ∈ (s.zones ++ [z]).zip (evs ++ [ev]) := hp
    rw [e] at hp
    rcases List.mem_append.1 hp with hp | hp
    · exact h.eras p hp
    · have e2 : p = (z, ev) := List.mem_singleton.1 hp
      subst e2
      exact hz
theorem src_alone {W : World} {s : Src.S} {rv zv lv ev : Value} {evs : List Value} {z : Src.Txt × List Er.E} {k : Nat} (h : Src.SrcR W W.heap.size s rv zv lv evs)
    (hz : Src.RowR W W.heap.size 13 z.2.length ev (z.2.flatMap Er.E.cells)) (ha : At W k [.string (Src.bts z.1), ev]) :
    Src.SrcR W W.heap.size ⟨s.rules, [z], [], false⟩ rv (.slice (some ⟨k, 0, none⟩) 1 1) (.slice none 0 0) [ev] := by
  refine ⟨h.rules, ⟨_, 1, rfl, Nat.le_refl _, by unfold maxLen; omega, (ha.reads rfl).more (by have := ha.lt; omega)⟩, ⟨none, 0, rfl, Nat.le_refl _, by unfold maxLen; omega, Reads.none_⟩, rfl, ?_⟩
  intro p hp
  have e : p = (z, ev) := by simpa using hp
  subst e
  exact hz
theorem pq_alloc {p : World → Prop} (h : Hid (∀ W W', p W → Below W.heap.size W W' → p W')) {W : World} (hp : p W) (o : Obj) : p (W.alloc o) := h.out W _ hp ((Below.refl _ _).alloc (Nat.le_refl _) _)
theorem check_all (r : Ru.R) (h1 : r.nm.size ≤ maxLen) (h2 : r.lt.size ≤ maxLen) :
    ∃ X : Int, (X == 0) = r.good ∧ ∀ w : World, Calls Tryd.prog 10 #[r.v] w fun e w' => e = .returned (.int .i64 X) ∧ Below w.heap.size w w' := by
  cases hg : r.good
  · have hn : ¬ r.Ok := fun h => by rw [(Ru.R.good_iff r).2 h] at hg; cases hg
    exact ⟨2, rfl, fun W => ruleCheck_badW r W hn h1 h2⟩
  · have hok := (Ru.R.good_iff r).1 hg
    have hz1 : r.nm.size ≤ 1000000 := by have := Src.name_len hok.1; rw [tl_length] at this; omega
    have hz2 : r.lt.size ≤ 1000000 := by
      have hl := hok.2.2.2.2.2.2
      unfold Ab.letter at hl
      simp only [Bool.and_eq_true, decide_eq_true_eq] at hl
      omega
    exact ⟨0, rfl, fun W => ruleCheck_ok r W hok hz1 hz2⟩
end Vo
end Go.Proofs.YtfobllagmakjdaaDoor
