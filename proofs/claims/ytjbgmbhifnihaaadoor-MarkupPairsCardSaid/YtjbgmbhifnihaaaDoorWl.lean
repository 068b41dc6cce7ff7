/- The library's bound, as a fact of a world. -/
import Derived.Test.YtjbgmbhifnihaaaDoorMem
namespace Go.Proofs.YtjbgmbhifnihaaaDoor
open Go.RowKit

/-- The library's bound alone. -/
structure Wl (w : World) : Prop where
  maxl : ∃ m, w.cell? ⟨0, 0, none⟩ = some (.int .i64 m)
theorem Wl.below {w w' : World} (h : Wl w) (hb : Below w.heap.size w w') : Wl w' := by
  obtain ⟨m, hm⟩ := h.maxl
  exact ⟨m, (hb.cell (p := ⟨_, 0, none⟩) (block_lt_of_cell hm)).trans hm⟩
end Go.Proofs.YtjbgmbhifnihaaaDoor
