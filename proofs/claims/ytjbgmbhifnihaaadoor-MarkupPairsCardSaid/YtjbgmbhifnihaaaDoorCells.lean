/- Words for a block of cells: what it holds, kept over all that is done elsewhere. -/
import Derived.Test.YtjbgmbhifnihaaaDoorMem
namespace Go.Proofs.YtjbgmbhifnihaaaDoor
open Go.RowKit

/-- Block g holds these cells, and none of them is frozen. -/
def At (w : World) (g : Nat) (xs : List Value) : Prop := g < w.heap.size ∧ ∀ i v, xs[i]? = some v → w.cell? ⟨g, i, none⟩ = some v ∧ w.frozen? ⟨g, i, none⟩ = false
section
variable {w w' : World} {g B : Nat} {xs : List Value}
theorem At.new (w : World) (cs : Array Value) (t : TypeId) : At (w.alloc (.cells cs t)) w.heap.size cs.toList := by
  refine ⟨by simp, fun i v h => ⟨?_, ?_⟩⟩
  · rw [World.cell?_alloc_new]
    simpa using h
  · exact World.frozen?_alloc_new ..
theorem At.lt (h : At w g xs) : g < w.heap.size := h.1
theorem At.below (h : At w g xs) (hb : Below B w w') (hg : g < B) : At w' g xs :=
  ⟨Nat.lt_of_lt_of_le h.1 hb.size, fun i v hi => ⟨(hb.cell (p := ⟨g, i, none⟩) hg).trans (h.2 i v hi).1, (hb.frozen (p := ⟨g, i, none⟩) hg).trans (h.2 i v hi).2⟩⟩
theorem At.call (h : At w g xs) (hb : Below w.heap.size w w') : At w' g xs := h.below hb h.1
theorem At.drew (h : At w g xs) (hd : Drew w w') : At w' g xs := by
  obtain ⟨n, rfl⟩ := hd
  exact ⟨h.1, fun i v hi => h.2 i v hi⟩
theorem At.alloc (h : At w g xs) (c : Array Value) (t : TypeId) : At (w.alloc (.cells c t)) g xs :=
  h.below (((Below.refl _ _).alloc (Nat.le_refl _) _) : Below w.heap.size w _) h.1
theorem At.allocO (h : At w g xs) (o : Obj) : At (w.alloc o) g xs :=
  h.below (((Below.refl _ _).alloc (Nat.le_refl _) _) : Below w.heap.size w _) h.1
theorem heap_set (w : World) (p : Addr) (v : Value) : (w.setCell p v).heap.size = w.heap.size := by simp
theorem At.set (h : At w g xs) (i : Nat) (v : Value) : At (w.setCell ⟨g, i, none⟩ v) g (xs.set i v) := by
  refine ⟨by rw [heap_set]; exact h.1, fun j u hj => ⟨?_, ?_⟩⟩
  · by_cases e : i = j
    · subst e
      have hl : i < xs.length := by
        have := (List.getElem?_eq_some_iff.1 hj).1
        simpa using this
      have hu : v = u := by
        rw [List.getElem?_set_self hl] at hj
        exact Option.some.inj hj
      subst hu
      exact World.cell?_setCell_same _ _ _ (h.2 i _ (List.getElem?_eq_getElem hl)).1
    · rw [List.getElem?_set_ne e] at hj
      rw [World.cell?_setCell_other _ _ _ _ (by intro x; injection x with _ y _; exact e y)]
      exact (h.2 j u hj).1
  · rw [World.frozen?_setCell]
    by_cases e : i = j
    · subst e
      have hl : i < xs.length := by
        have := (List.getElem?_eq_some_iff.1 hj).1
        simpa using this
      exact (h.2 i _ (List.getElem?_eq_getElem hl)).2
    · rw [List.getElem?_set_ne e] at hj
      exact (h.2 j u hj).2
theorem At.set_other (h : At w g xs) (p : Addr) (v : Value) (hp : p.block ≠ g) : At (w.setCell p v) g xs := by
  refine ⟨by rw [heap_set]; exact h.1, fun j u hj => ⟨?_, ?_⟩⟩
  · rw [World.cell?_setCell_other _ _ _ _ (by intro x; subst x; exact hp rfl)]
    exact (h.2 j u hj).1
  · rw [World.frozen?_setCell]
    exact (h.2 j u hj).2
theorem At.cell (h : At w g xs) (i : Nat) (v : Value) (hi : xs[i]? = some v) : w.cell? ⟨g, i, none⟩ = some v := (h.2 i v hi).1
theorem At.free (h : At w g xs) (i : Nat) (v : Value) (hi : xs[i]? = some v) : w.frozen? ⟨g, i, none⟩ = false := (h.2 i v hi).2
end
/-- The cells of two, three, .. -/
theorem At.two {w : World} {g : Nat} {a b : Value} (h : At w g [a, b]) : w.cell? ⟨g, 0, none⟩ = some a ∧ w.cell? ⟨g, 1, none⟩ = some b ∧ w.frozen? ⟨g, 0, none⟩ = false ∧ w.frozen? ⟨g, 1, none⟩ = false :=
  ⟨h.cell 0 a rfl, h.cell 1 b rfl, h.free 0 a rfl, h.free 1 b rfl⟩
theorem At.three {w : World} {g : Nat} {a b c : Value} (h : At w g [a, b, c]) : w.cell? ⟨g, 0, none⟩ = some a ∧ w.cell? ⟨g, 1, none⟩ = some b ∧ w.cell? ⟨g, 2, none⟩ = some c ∧
    w.frozen? ⟨g, 0, none⟩ = false ∧ w.frozen? ⟨g, 1, none⟩ = false ∧ w.frozen? ⟨g, 2, none⟩ = false :=
  ⟨h.cell 0 a rfl, h.cell 1 b rfl, h.cell 2 c rfl, h.free 0 a rfl, h.free 1 b rfl, h.free 2 c rfl⟩
theorem At.seven {w : World} {g : Nat} {a b c d e f k : Value} (h : At w g [a, b, c, d, e, f, k]) :
    (w.cell? ⟨g, 0, none⟩ = some a ∧ w.cell? ⟨g, 1, none⟩ = some b ∧ w.cell? ⟨g, 2, none⟩ = some c ∧ w.cell? ⟨g, 3, none⟩ = some d ∧ w.cell? ⟨g, 4, none⟩ = some e ∧ w.cell? ⟨g, 5, none⟩ = some f ∧ w.cell? ⟨g, 6, none⟩ = some k) ∧
    (w.frozen? ⟨g, 0, none⟩ = false ∧ w.frozen? ⟨g, 1, none⟩ = false ∧ w.frozen? ⟨g, 2, none⟩ = false ∧ w.frozen? ⟨g, 3, none⟩ = false ∧ w.frozen? ⟨g, 4, none⟩ = false ∧ w.frozen? ⟨g, 5, none⟩ = false ∧ w.frozen? ⟨g, 6, none⟩ = false) :=
  ⟨⟨h.cell 0 a rfl, h.cell 1 b rfl, h.cell 2 c rfl, h.cell 3 d rfl, h.cell 4 e rfl, h.cell 5 f rfl, h.cell 6 k rfl⟩, ⟨h.free 0 a rfl, h.free 1 b rfl, h.free 2 c rfl, h.free 3 d rfl, h.free 4 e rfl, h.free 5 f rfl, h.free 6 k rfl⟩⟩
end Go.Proofs.YtjbgmbhifnihaaaDoor
