/- markup: many rows of a call's own, no two in one block (XMany, here without era). -/
import Derived.Test.YtjbgmbhifnihaaaDoorMkTag
import Derived.OneCell
namespace Go.Proofs.YtjbgmbhifnihaaaDoor
open Go.RowKit

namespace Mk
/-- A row: what it has of each element, its value, how many, its cells. -/
structure Row where
  e : TypeId
  size : Nat
  v : Value
  n : Nat
  xs : List Value
def apartV (a b : Value) : Prop := a.ownBlock = none ∨ a.ownBlock ≠ b.ownBlock
theorem apartV.symm {a b : Value} (h : apartV a b) : apartV b a := by
  unfold apartV at h ⊢
  rcases h with h | h
  · cases e : b.ownBlock with
    | none => exact .inl rfl
    | some k => right; rw [h]; simp
  · exact .inr fun x => h x.symm
structure Many (B : Nat) (w : World) (rs : List Row) : Prop where
  own : ∀ r ∈ rs, w.ownsRow B r.e r.size r.v r.n r.xs
  apart : rs.Pairwise fun a b => apartV a.v b.v
section
variable {B : Nat} {w w' : World} {rs l1 l2 : List Row} {r : Row}
theorem Many.nil_ : Many B w [] := ⟨fun r h => (by cases h), .nil⟩
theorem Many.call (h : Many B w rs) (hb : Below w.heap.size w w') : Many B w' rs := ⟨fun r hr => own_below (h.own r hr) hb, h.apart⟩
theorem Many.alloc (h : Many B w rs) (o : Obj) : Many B (w.alloc o) rs := ⟨fun r hr => (h.own r hr).alloc o, h.apart⟩
theorem Many.setBelow (h : Many B w rs) {p : Addr} (hp : p.block < B) (u : Value) : Many B (w.setCell p u) rs := ⟨fun r hr => ownsRow_setCell_below (h.own r hr) hp u, h.apart⟩
theorem Many.perm {rs' : List Row} (h : Many B w rs) (hp : rs.Perm rs') : Many B w rs' :=
  ⟨fun r hr => h.own r (hp.mem_iff.2 hr), hp.pairwise h.apart fun h => apartV.symm h⟩
/-- The row at the head is written, or has grown into a new block. -/
theorem Many.grow {v' : Value} {n' : Nat} {xs' : List Value} (h : Many B w (r :: rs)) (o : Obj) (hown : w'.ownsRow B r.e r.size v' n' xs') (hg : (w.alloc o).grownBy w' r.v.ownBlock) (hat : v'.ownBlock = r.v.ownBlock ∨ v'.ownBlock = some (w.alloc o).heap.size) :
    Many B w' (⟨r.e, r.size, v', n', xs'⟩ :: rs) := by
  have ha := List.pairwise_cons.1 h.apart
  have hk : ∀ x ∈ rs, w'.ownsRow B x.e x.size x.v x.n x.xs := fun x hx => ((h.own x (List.mem_cons_of_mem _ hx)).alloc o).kept hg (ha.1 x hx).symm
  refine ⟨fun x hx => ?_, List.pairwise_cons.2 ⟨fun x hx => ?_, ha.2⟩⟩
  · rcases List.mem_cons.1 hx with rfl | hx
    · exact hown
    · exact hk x hx
  · show apartV v' x.v
    rcases hat with e | e
    · unfold apartV; rw [e]; exact ha.1 x hx
    · refine apartV.symm ?_
      unfold apartV
      rw [e]
      cases ex : x.v.ownBlock with
      | none => exact .inl rfl
      | some k =>
        right
        have := ((h.own x (List.mem_cons_of_mem _ hx)).lt k ex).2
        intro z
        have hk : k = (w.alloc o).heap.size := Option.some.inj z
        rw [World.size_alloc] at hk
        omega
/-- A row more, that has no block. -/
theorem Many.add0 (h : Many B w rs) (e : TypeId) (size : Nat) : Many B w (⟨e, size, .slice none 0 0, 0, []⟩ :: rs) :=
  ⟨fun x hx => by rcases List.mem_cons.1 hx with rfl | hx; exact World.ownsRow_nil _ _ _ _; exact h.own x hx, List.pairwise_cons.2 ⟨fun x _ => .inl rfl, h.apart⟩⟩
/-- A row more, whose block was made by a callee. -/
theorem Many.addNew (h : Many B w rs) (hb : Below w.heap.size w w') (hB : B ≤ w.heap.size) (hown : w'.ownsRow w.heap.size r.e r.size r.v r.n r.xs) : Many B w' (r :: rs) := by
  have hB' : w'.ownsRow B r.e r.size r.v r.n r.xs := by
    refine ⟨hown.1, ?_⟩
    rcases hown.2 with hn | ⟨g, cap, cur, hv, h1, rest⟩
    · exact .inl hn
    · exact .inr ⟨g, cap, cur, hv, Nat.le_trans hB h1, rest⟩
  refine ⟨fun x hx => ?_, List.pairwise_cons.2 ⟨fun x hx => ?_, h.apart⟩⟩
  · rcases List.mem_cons.1 hx with rfl | hx
    · exact hB'
    · exact own_below (h.own x hx) hb
  · refine apartV.symm ?_
    unfold apartV
    cases ex : x.v.ownBlock with
    | none => exact .inl rfl
    | some k =>
      right
      have h1 := ((h.own x hx).lt k ex).2
      intro z
      have h2 := (hown.lt k z.symm).1
      omega
/-- A store into the head row's own cells. -/
theorem Many.store {g n cap : Nat} {e : TypeId} {size : Nat} {xs : List Value} (h : Many B w (⟨e, size, .slice (some ⟨g, 0, none⟩) n cap, n, xs⟩ :: rs)) (j : Nat) (u : Value) :
    Many B (w.setCell ⟨g, j, none⟩ u) (⟨e, size, .slice (some ⟨g, 0, none⟩) n cap, n, xs.set j u⟩ :: rs) := by
  have ha := List.pairwise_cons.1 h.apart
  refine ⟨fun x hx => ?_, List.pairwise_cons.2 ⟨fun x hx => ha.1 x hx, ha.2⟩⟩
  rcases List.mem_cons.1 hx with rfl | hx
  · exact ((h.own _ List.mem_cons_self).stored j u).1
  · exact ownsRow_setCell_other (h.own x (List.mem_cons_of_mem _ hx)) (by
      rcases (ha.1 x hx).symm with e | e
      · rw [e]; simp
      · exact e) u
end
end Mk
end Go.Proofs.YtjbgmbhifnihaaaDoor
