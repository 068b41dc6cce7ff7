/- The lives of law 14. -/
import Derived.Test.YtfobllagmakjdaaDoorK30
namespace Go.Proofs.YtfobllagmakjdaaDoor
open Go.RowKit

theorem At.reads {w : World} {g size n : Nat} {xs : List Value} (h : At w g xs) (hl : xs.length = n * size) : Reads w w.heap.size size (some ⟨g, 0, none⟩) n xs := by
  refine ⟨hl, fun _ => ⟨_, rfl, h.lt, fun j u hu => ?_⟩⟩
  have e : (⟨g, 0, none⟩ : Addr).add j = ⟨g, j, none⟩ := by
    unfold Addr.add
    split
    · subst_vars; rfl
    · simp
  rw [e]
  exact h.cell j u hu
theorem At.newAt (w : World) (cs : Array Value) (t : TypeId) (g : Nat) (hg : g = w.heap.size) : At (w.alloc (.cells cs t)) g cs.toList := by
  subst hg
  exact At.new w cs t
namespace Lw
def v0 (w : World) : World := w
def v1 (w : World) : World := (v0 w).alloc (.cells #[.int .u8 0, .int .i64 1, .int .i64 0] 29)
def v2 (w : World) : World := (v1 w).alloc (.cells #[.int .i64 0, .int .u8 2, .int .i64 0, .string ⟨#[82]⟩, .string ⟨#[120]⟩, .bool true, .int .i64 2000, .int .i64 1, .int .u8 0, .int .i64 1, .int .i64 0, .int .i64 0, .int .u8 0] 50)
def v3 (w : World) : World := (v2 w).alloc (.cells #[.int .i64 0, .int .u8 0, .int .i64 0, .string ⟨#[]⟩, .string ⟨#[120]⟩, .bool true, .int .i64 2000, .int .i64 1, .int .u8 0, .int .i64 1, .int .i64 0, .int .i64 0, .int .u8 0] 50)
def v4 (w : World) : World := (v3 w).alloc (.cells #[.int .i64 0, .int .u8 0, .int .i64 0, .string ⟨#[]⟩, .string ⟨#[120]⟩, .bool false, .int .i64 0, .int .i64 0, .int .u8 0, .int .i64 0, .int .i64 0, .int .i64 0, .int .u8 0] 50)
def v5 (w : World) : World := (v4 w).alloc (.cells #[.int .i64 0, .int .u8 2, .int .i64 0, .string ⟨#[82]⟩, .string ⟨#[120]⟩, .bool true, .int .i64 2000, .int .i64 1, .int .u8 0, .int .i64 1, .int .i64 0, .int .i64 0, .int .u8 0, .int .i64 0, .int .u8 0, .int .i64 0, .string ⟨#[]⟩, .string ⟨#[120]⟩, .bool true, .int .i64 2000, .int .i64 1, .int .u8 0, .int .i64 1, .int .i64 0, .int .i64 0, .int .u8 0, .int .i64 0, .int .u8 0, .int .i64 0, .string ⟨#[]⟩, .string ⟨#[120]⟩, .bool false, .int .i64 0, .int .i64 0, .int .u8 0, .int .i64 0, .int .i64 0, .int .i64 0, .int .u8 0] 50)
def v6 (w : World) : World := (v5 w).alloc (.cells #[.string ⟨#[65]⟩, .slice (some ⟨w.heap.size + 1 + 1 + 1 + 1, 0, none⟩) 3 3] 37)
def v7 (w : World) : World := (v6 w).alloc (.cells #[.string ⟨#[65]⟩, .string ⟨#[65]⟩, .string ⟨#[113]⟩, .string ⟨#[66]⟩] 55)
def v8 (w : World) : World := (v7 w).alloc (.cells #[.slice none 0 0, .slice (some ⟨w.heap.size + 1 + 1 + 1 + 1 + 1, 0, none⟩) 1 1, .slice (some ⟨w.heap.size + 1 + 1 + 1 + 1 + 1 + 1, 0, none⟩) 2 2] 26)
def v9 (w : World) : World := (v8 w).alloc (.cells #[.int .i64 8, .string ⟨#[65]⟩, .int .i64 3, .string ⟨#[82]⟩, .int .i64 10, .string ⟨#[65]⟩, .int .i64 3, .string ⟨#[66]⟩] 57)
def v10 (w : World) : World := (v9 w).alloc (.cells #[.int .i64 0, .int .u8 0, .int .i64 0, .string ⟨#[]⟩, .string ⟨#[120]⟩, .bool true, .int .i64 2000, .int .i64 1, .int .u8 0, .int .i64 1, .int .i64 0, .int .i64 0, .int .u8 0, .int .i64 0, .int .u8 0, .int .i64 0, .string ⟨#[]⟩, .string ⟨#[120]⟩, .bool false, .int .i64 0, .int .i64 0, .int .u8 0, .int .i64 0, .int .i64 0, .int .i64 0, .int .u8 0] 50)
def v11 (w : World) : World := (v10 w).alloc (.cells #[.string ⟨#[65]⟩, .slice (some ⟨w.heap.size + 1 + 1 + 1 + 1 + 1 + 1 + 1 + 1 + 1, 0, none⟩) 2 2] 37)
def v12 (w : World) : World := (v11 w).alloc (.cells #[.string ⟨#[65]⟩, .string ⟨#[66]⟩] 55)
def v13 (w : World) : World := (v12 w).alloc (.cells #[.slice none 0 0, .slice (some ⟨w.heap.size + 1 + 1 + 1 + 1 + 1 + 1 + 1 + 1 + 1 + 1, 0, none⟩) 1 1, .slice (some ⟨w.heap.size + 1 + 1 + 1 + 1 + 1 + 1 + 1 + 1 + 1 + 1 + 1, 0, none⟩) 1 1] 26)
theorem n0 (w : World) : (v0 w).heap.size = w.heap.size := rfl
theorem n1 (w : World) : (v1 w).heap.size = w.heap.size + 1 := (World.size_alloc _ _).trans (congrArg (· + 1) (n0 w))
theorem n2 (w : World) : (v2 w).heap.size = w.heap.size + 1 + 1 := (World.size_alloc _ _).trans (congrArg (· + 1) (n1 w))
theorem n3 (w : World) : (v3 w).heap.size = w.heap.size + 1 + 1 + 1 := (World.size_alloc _ _).trans (congrArg (· + 1) (n2 w))
theorem n4 (w : World) : (v4 w).heap.size = w.heap.size + 1 + 1 + 1 + 1 := (World.size_alloc _ _).trans (congrArg (· + 1) (n3 w))
theorem n5 (w : World) : (v5 w).heap.size = w.heap.size + 1 + 1 + 1 + 1 + 1 := (World.size_alloc _ _).trans (congrArg (· + 1) (n4 w))
theorem n6 (w : World) : (v6 w).heap.size = w.heap.size + 1 + 1 + 1 + 1 + 1 + 1 := (World.size_alloc _ _).trans (congrArg (· + 1) (n5 w))
theorem n7 (w : World) : (v7 w).heap.size = w.heap.size + 1 + 1 + 1 + 1 + 1 + 1 + 1 := (World.size_alloc _ _).trans (congrArg (· + 1) (n6 w))
theorem n8 (w : World) : (v8 w).heap.size = w.heap.size + 1 + 1 + 1 + 1 + 1 + 1 + 1 + 1 := (World.size_alloc _ _).trans (congrArg (· + 1) (n7 w))
theorem n9 (w : World) : (v9 w).heap.size = w.heap.size + 1 + 1 + 1 + 1 + 1 + 1 + 1 + 1 + 1 := (World.size_alloc _ _).trans (congrArg (· + 1) (n8 w))
theorem n10 (w : World) : (v10 w).heap.size = w.heap.size + 1 + 1 + 1 + 1 + 1 + 1 + 1 + 1 + 1 + 1 := (World.size_alloc _ _).trans (congrArg (· + 1) (n9 w))
theorem n11 (w : World) : (v11 w).heap.size = w.heap.size + 1 + 1 + 1 + 1 + 1 + 1 + 1 + 1 + 1 + 1 + 1 := (World.size_alloc _ _).trans (congrArg (· + 1) (n10 w))
theorem n12 (w : World) : (v12 w).heap.size = w.heap.size + 1 + 1 + 1 + 1 + 1 + 1 + 1 + 1 + 1 + 1 + 1 + 1 := (World.size_alloc _ _).trans (congrArg (· + 1) (n11 w))
theorem n13 (w : World) : (v13 w).heap.size = w.heap.size + 1 + 1 + 1 + 1 + 1 + 1 + 1 + 1 + 1 + 1 + 1 + 1 + 1 := (World.size_alloc _ _).trans (congrArg (· + 1) (n12 w))
theorem b0 (w : World) : Below w.heap.size w (v0 w) := Below.refl _ _
theorem b1 (w : World) : Below w.heap.size w (v1 w) := (b0 w).alloc (b0 w).size _
theorem b2 (w : World) : Below w.heap.size w (v2 w) := (b1 w).alloc (b1 w).size _
theorem b3 (w : World) : Below w.heap.size w (v3 w) := (b2 w).alloc (b2 w).size _
theorem b4 (w : World) : Below w.heap.size w (v4 w) := (b3 w).alloc (b3 w).size _
theorem b5 (w : World) : Below w.heap.size w (v5 w) := (b4 w).alloc (b4 w).size _
theorem b6 (w : World) : Below w.heap.size w (v6 w) := (b5 w).alloc (b5 w).size _
theorem b7 (w : World) : Below w.heap.size w (v7 w) := (b6 w).alloc (b6 w).size _
theorem b8 (w : World) : Below w.heap.size w (v8 w) := (b7 w).alloc (b7 w).size _
theorem b9 (w : World) : Below w.heap.size w (v9 w) := (b8 w).alloc (b8 w).size _
theorem b10 (w : World) : Below w.heap.size w (v10 w) := (b9 w).alloc (b9 w).size _
theorem b11 (w : World) : Below w.heap.size w (v11 w) := (b10 w).alloc (b10 w).size _
theorem b12 (w : World) : Below w.heap.size w (v12 w) := (b11 w).alloc (b11 w).size _
theorem b13 (w : World) : Below w.heap.size w (v13 w) := (b12 w).alloc (b12 w).size _
/-- The world ahead of the questions. -/
abbrev wl (w : World) : World := v13 w
theorem below (w : World) : Below w.heap.size w (wl w) := b13 w
theorem a4_5 (w : World) : At (v5 w) (w.heap.size + 1 + 1 + 1 + 1) [.int .i64 0, .int .u8 2, .int .i64 0, .string ⟨#[82]⟩, .string ⟨#[120]⟩, .bool true, .int .i64 2000, .int .i64 1, .int .u8 0, .int .i64 1, .int .i64 0, .int .i64 0, .int .u8 0, .int .i64 0, .int .u8 0, .int .i64 0, .string ⟨#[]⟩, .string ⟨#[120]⟩, .bool true, .int .i64 2000, .int .i64 1, .int .u8 0, .int .i64 1, .int .i64 0, .int .i64 0, .int .u8 0, .int .i64 0, .int .u8 0, .int .i64 0, .string ⟨#[]⟩, .string ⟨#[120]⟩, .bool false, .int .i64 0, .int .i64 0, .int .u8 0, .int .i64 0, .int .i64 0, .int .i64 0, .int .u8 0] := by
  unfold v5
  exact At.newAt (v4 w) _ _ _ (n4 w).symm
theorem a4_6 (w : World) : At (v6 w) (w.heap.size + 1 + 1 + 1 + 1) [.int .i64 0, .int .u8 2, .int .i64 0, .string ⟨#[82]⟩, .string ⟨#[120]⟩, .bool true, .int .i64 2000, .int .i64 1, .int .u8 0, .int .i64 1, .int .i64 0, .int .i64 0, .int .u8 0, .int .i64 0, .int .u8 0, .int .i64 0, .string ⟨#[]⟩, .string ⟨#[120]⟩, .bool true, .int .i64 2000, .int .i64 1, .int .u8 0, .int .i64 1, .int .i64 0, .int .i64 0, .int .u8 0, .int .i64 0, .int .u8 0, .int .i64 0, .string ⟨#[]⟩, .string ⟨#[120]⟩, .bool false, .int .i64 0, .int .i64 0, .int .u8 0, .int .i64 0, .int .i64 0, .int .i64 0, .int .u8 0] := (a4_5 w).allocO _
theorem a4_7 (w : World) : At (v7 w) (w.heap.size + 1 + 1 + 1 + 1) [.int .i64 0, .int .u8 2, .int .i64 0, .string ⟨#[82]⟩, .string ⟨#[120]⟩, .bool true, .int .i64 2000, .int .i64 1, .int .u8 0, .int .i64 1, .int .i64 0, .int .i64 0, .int .u8 0, .int .i64 0, .int .u8 0, .int .i64 0, .string ⟨#[]⟩, .string ⟨#[120]⟩, .bool true, .int .i64 2000, .int .i64 1, .int .u8 0, .int .i64 1, .int .i64 0, .int .i64 0, .int .u8 0, .int .i64 0, .int .u8 0, .int .i64 0, .string ⟨#[]⟩, .string ⟨#[120]⟩, .bool false, .int .i64 0, .int .i64 0, .int .u8 0, .int .i64 0, .int .i64 0, .int .i64 0, .int .u8 0] := (a4_6 w).allocO _
theorem a4_8 (w : World) : At (v8 w) (w.heap.size + 1 + 1 + 1 + 1) [.int .i64 0, .int .u8 2, .int .i64 0, .string ⟨#[82]⟩, .string ⟨#[120]⟩, .bool true, .int .i64 2000, .int .i64 1, .int .u8 0, .int .i64 1, .int .i64 0, .int .i64 0, .int .u8 0, .int .i64 0, .int .u8 0, .int .i64 0, .string ⟨#[]⟩, .string ⟨#[120]⟩, .bool true, .int .i64 2000, .int .i64 1, .int .u8 0, .int .i64 1, .int .i64 0, .int .i64 0, .int .u8 0, .int .i64 0, .int .u8 0, .int .i64 0, .string ⟨#[]⟩, .string ⟨#[120]⟩, .bool false, .int .i64 0, .int .i64 0, .int .u8 0, .int .i64 0, .int .i64 0, .int .i64 0, .int .u8 0] := (a4_7 w).allocO _
theorem a4_9 (w : World) : At (v9 w) (w.heap.size + 1 + 1 + 1 + 1) [.int .i64 0, .int .u8 2, .int .i64 0, .string ⟨#[82]⟩, .string ⟨#[120]⟩, .bool true, .int .i64 2000, .int .i64 1, .int .u8 0, .int .i64 1, .int .i64 0, .int .i64 0, .int .u8 0, .int .i64 0, .int .u8 0, .int .i64 0, .string ⟨#[]⟩, .string ⟨#[120]⟩, .bool true, .int .i64 2000, .int .i64 1, .int .u8 0, .int .i64 1, .int .i64 0, .int .i64 0, .int .u8 0, .int .i64 0, .int .u8 0, .int .i64 0, .string ⟨#[]⟩, .string ⟨#[120]⟩, .bool false, .int .i64 0, .int .i64 0, .int .u8 0, .int .i64 0, .int .i64 0, .int .i64 0, .int .u8 0] := (a4_8 w).allocO _
theorem a4_10 (w : World) : At (v10 w) (w.heap.size + 1 + 1 + 1 + 1) [.int .i64 0, .int .u8 2, .int .i64 0, .string ⟨#[82]⟩, .string ⟨#[120]⟩, .bool true, .int .i64 2000, .int .i64 1, .int .u8 0, .int .i64 1, .int .i64 0, .int .i64 0, .int .u8 0, .int .i64 0, .int .u8 0, .int .i64 0, .string ⟨#[]⟩, .string ⟨#[120]⟩, .bool true, .int .i64 2000, .int .i64 1, .int .u8 0, .int .i64 1, .int .i64 0, .int .i64 0, .int .u8 0, .int .i64 0, .int .u8 0, .int .i64 0, .string ⟨#[]⟩, .string ⟨#[120]⟩, .bool false, .int .i64 0, .int .i64 0, .int .u8 0, .int .i64 0, .int .i64 0, .int .i64 0, .int .u8 0] := (a4_9 w).allocO _
theorem a4_11 (w : World) : At (v11 w) (w.heap.size + 1 + 1 + 1 + 1) [.int .i64 0, .int .u8 2, .int .i64 0, .string ⟨#[82]⟩, .string ⟨#[120]⟩, .bool true, .int .i64 2000, .int .i64 1, .int .u8 0, .int .i64 1, .int .i64 0, .int .i64 0, .int .u8 0, .int .i64 0, .int .u8 0, .int .i64 0, .string ⟨#[]⟩, .string ⟨#[120]⟩, .bool true, .int .i64 2000, .int .i64 1, .int .u8 0, .int .i64 1, .int .i64 0, .int .i64 0, .int .u8 0, .int .i64 0, .int .u8 0, .int .i64 0, .string ⟨#[]⟩, .string ⟨#[120]⟩, .bool false, .int .i64 0, .int .i64 0, .int .u8 0, .int .i64 0, .int .i64 0, .int .i64 0, .int .u8 0] := (a4_10 w).allocO _
theorem a4_12 (w : World) : At (v12 w) (w.heap.size + 1 + 1 + 1 + 1) [.int .i64 0, .int .u8 2, .int .i64 0, .string ⟨#[82]⟩, .string ⟨#[120]⟩, .bool true, .int .i64 2000, .int .i64 1, .int .u8 0, .int .i64 1, .int .i64 0, .int .i64 0, .int .u8 0, .int .i64 0, .int .u8 0, .int .i64 0, .string ⟨#[]⟩, .string ⟨#[120]⟩, .bool true, .int .i64 2000, .int .i64 1, .int .u8 0, .int .i64 1, .int .i64 0, .int .i64 0, .int .u8 0, .int .i64 0, .int .u8 0, .int .i64 0, .string ⟨#[]⟩, .string ⟨#[120]⟩, .bool false, .int .i64 0, .int .i64 0, .int .u8 0, .int .i64 0, .int .i64 0, .int .i64 0, .int .u8 0] := (a4_11 w).allocO _
theorem a4_13 (w : World) : At (v13 w) (w.heap.size + 1 + 1 + 1 + 1) [.int .i64 0, .int .u8 2, .int .i64 0, .string ⟨#[82]⟩, .string ⟨#[120]⟩, .bool true, .int .i64 2000, .int .i64 1, .int .u8 0, .int .i64 1, .int .i64 0, .int .i64 0, .int .u8 0, .int .i64 0, .int .u8 0, .int .i64 0, .string ⟨#[]⟩, .string ⟨#[120]⟩, .bool true, .int .i64 2000, .int .i64 1, .int .u8 0, .int .i64 1, .int .i64 0, .int .i64 0, .int .u8 0, .int .i64 0, .int .u8 0, .int .i64 0, .string ⟨#[]⟩, .string ⟨#[120]⟩, .bool false, .int .i64 0, .int .i64 0, .int .u8 0, .int .i64 0, .int .i64 0, .int .i64 0, .int .u8 0] := (a4_12 w).allocO _
theorem at4 (w : World) : At (Lw.wl w) (w.heap.size + 1 + 1 + 1 + 1) [.int .i64 0, .int .u8 2, .int .i64 0, .string ⟨#[82]⟩, .string ⟨#[120]⟩, .bool true, .int .i64 2000, .int .i64 1, .int .u8 0, .int .i64 1, .int .i64 0, .int .i64 0, .int .u8 0, .int .i64 0, .int .u8 0, .int .i64 0, .string ⟨#[]⟩, .string ⟨#[120]⟩, .bool true, .int .i64 2000, .int .i64 1, .int .u8 0, .int .i64 1, .int .i64 0, .int .i64 0, .int .u8 0, .int .i64 0, .int .u8 0, .int .i64 0, .string ⟨#[]⟩, .string ⟨#[120]⟩, .bool false, .int .i64 0, .int .i64 0, .int .u8 0, .int .i64 0, .int .i64 0, .int .i64 0, .int .u8 0] := a4_13 w
theorem a5_6 (w : World) : At (v6 w) (w.heap.size + 1 + 1 + 1 + 1 + 1) [.string ⟨#[65]⟩, .slice (some ⟨w.heap.size + 1 + 1 + 1 + 1, 0, none⟩) 3 3] := by
  unfold v6
  exact At.newAt (v5 w) _ _ _ (n5 w).symm
theorem a5_7 (w : World) : At (v7 w) (w.heap.size + 1 + 1 + 1 + 1 + 1) [.string ⟨#[65]⟩, .slice (some ⟨w.heap.size + 1 + 1 + 1 + 1, 0, none⟩) 3 3] := (a5_6 w).allocO _
theorem a5_8 (w : World) : At (v8 w) (w.heap.size + 1 + 1 + 1 + 1 + 1) [.string ⟨#[65]⟩, .slice (some ⟨w.heap.size + 1 + 1 + 1 + 1, 0, none⟩) 3 3] := (a5_7 w).allocO _
theorem a5_9 (w : World) : At (v9 w) (w.heap.size + 1 + 1 + 1 + 1 + 1) [.string ⟨#[65]⟩, .slice (some ⟨w.heap.size + 1 + 1 + 1 + 1, 0, none⟩) 3 3] := (a5_8 w).allocO _
theorem a5_10 (w : World) : At (v10 w) (w.heap.size + 1 + 1 + 1 + 1 + 1) [.string ⟨#[65]⟩, .slice (some ⟨w.heap.size + 1 + 1 + 1 + 1, 0, none⟩) 3 3] := (a5_9 w).allocO _
theorem a5_11 (w : World) : At (v11 w) (w.heap.size + 1 + 1 + 1 + 1 + 1) [.string ⟨#[65]⟩, .slice (some ⟨w.heap.size + 1 + 1 + 1 + 1, 0, none⟩) 3 3] := (a5_10 w).allocO _
theorem a5_12 (w : World) : At (v12 w) (w.heap.size + 1 + 1 + 1 + 1 + 1) [.string ⟨#[65]⟩, .slice (some ⟨w.heap.size + 1 + 1 + 1 + 1, 0, none⟩) 3 3] := (a5_11 w).allocO _
theorem a5_13 (w : World) : At (v13 w) (w.heap.size + 1 + 1 + 1 + 1 + 1) [.string ⟨#[65]⟩, .slice (some ⟨w.heap.size + 1 + 1 + 1 + 1, 0, none⟩) 3 3] := (a5_12 w).allocO _
theorem at5 (w : World) : At (Lw.wl w) (w.heap.size + 1 + 1 + 1 + 1 + 1) [.string ⟨#[65]⟩, .slice (some ⟨w.heap.size + 1 + 1 + 1 + 1, 0, none⟩) 3 3] := a5_13 w
theorem a6_7 (w : World) : At (v7 w) (w.heap.size + 1 + 1 + 1 + 1 + 1 + 1) [.string ⟨#[65]⟩, .string ⟨#[65]⟩, .string ⟨#[113]⟩, .string ⟨#[66]⟩] := by
  unfold v7
  exact At.newAt (v6 w) _ _ _ (n6 w).symm
theorem a6_8 (w : World) : At (v8 w) (w.heap.size + 1 + 1 + 1 + 1 + 1 + 1) [.string ⟨#[65]⟩, .string ⟨#[65]⟩, .string ⟨#[113]⟩, .string ⟨#[66]⟩] := (a6_7 w).allocO _
theorem a6_9 (w : World) : At (v9 w) (w.heap.size + 1 + 1 + 1 + 1 + 1 + 1) [.string ⟨#[65]⟩, .string ⟨#[65]⟩, .string ⟨#[113]⟩, .string ⟨#[66]⟩] := (a6_8 w).allocO _
theorem a6_10 (w : World) : At (v10 w) (w.heap.size + 1 + 1 + 1 + 1 + 1 + 1) [.string ⟨#[65]⟩, .string ⟨#[65]⟩, .string ⟨#[113]⟩, .string ⟨#[66]⟩] := (a6_9 w).allocO _
theorem a6_11 (w : World) : At (v11 w) (w.heap.size + 1 + 1 + 1 + 1 + 1 + 1) [.string ⟨#[65]⟩, .string ⟨#[65]⟩, .string ⟨#[113]⟩, .string ⟨#[66]⟩] := (a6_10 w).allocO _
theorem a6_12 (w : World) : At (v12 w) (w.heap.size + 1 + 1 + 1 + 1 + 1 + 1) [.string ⟨#[65]⟩, .string ⟨#[65]⟩, .string ⟨#[113]⟩, .string ⟨#[66]⟩] := (a6_11 w).allocO _
theorem a6_13 (w : World) : At (v13 w) (w.heap.size + 1 + 1 + 1 + 1 + 1 + 1) [.string ⟨#[65]⟩, .string ⟨#[65]⟩, .string ⟨#[113]⟩, .string ⟨#[66]⟩] := (a6_12 w).allocO _
theorem at6 (w : World) : At (Lw.wl w) (w.heap.size + 1 + 1 + 1 + 1 + 1 + 1) [.string ⟨#[65]⟩, .string ⟨#[65]⟩, .string ⟨#[113]⟩, .string ⟨#[66]⟩] := a6_13 w
theorem a7_8 (w : World) : At (v8 w) (w.heap.size + 1 + 1 + 1 + 1 + 1 + 1 + 1) [.slice none 0 0, .slice (some ⟨w.heap.size + 1 + 1 + 1 + 1 + 1, 0, none⟩) 1 1, .slice (some ⟨w.heap.size + 1 + 1 + 1 + 1 + 1 + 1, 0, none⟩) 2 2] := by
  unfold v8
  exact At.newAt (v7 w) _ _ _ (n7 w).symm
theorem a7_9 (w : World) : At (v9 w) (w.heap.size + 1 + 1 + 1 + 1 + 1 + 1 + 1) [.slice none 0 0, .slice (some ⟨w.heap.size + 1 + 1 + 1 + 1 + 1, 0, none⟩) 1 1, .slice (some ⟨w.heap.size + 1 + 1 + 1 + 1 + 1 + 1, 0, none⟩) 2 2] := (a7_8 w).allocO _
theorem a7_10 (w : World) : At (v10 w) (w.heap.size + 1 + 1 + 1 + 1 + 1 + 1 + 1) [.slice none 0 0, .slice (some ⟨w.heap.size + 1 + 1 + 1 + 1 + 1, 0, none⟩) 1 1, .slice (some ⟨w.heap.size + 1 + 1 + 1 + 1 + 1 + 1, 0, none⟩) 2 2] := (a7_9 w).allocO _
theorem a7_11 (w : World) : At (v11 w) (w.heap.size + 1 + 1 + 1 + 1 + 1 + 1 + 1) [.slice none 0 0, .slice (some ⟨w.heap.size + 1 + 1 + 1 + 1 + 1, 0, none⟩) 1 1, .slice (some ⟨w.heap.size + 1 + 1 + 1 + 1 + 1 + 1, 0, none⟩) 2 2] := (a7_10 w).allocO _
theorem a7_12 (w : World) : At (v12 w) (w.heap.size + 1 + 1 + 1 + 1 + 1 + 1 + 1) [.slice none 0 0, .slice (some ⟨w.heap.size + 1 + 1 + 1 + 1 + 1, 0, none⟩) 1 1, .slice (some ⟨w.heap.size + 1 + 1 + 1 + 1 + 1 + 1, 0, none⟩) 2 2] := (a7_11 w).allocO _
theorem a7_13 (w : World) : At (v13 w) (w.heap.size + 1 + 1 + 1 + 1 + 1 + 1 + 1) [.slice none 0 0, .slice (some ⟨w.heap.size + 1 + 1 + 1 + 1 + 1, 0, none⟩) 1 1, .slice (some ⟨w.heap.size + 1 + 1 + 1 + 1 + 1 + 1, 0, none⟩) 2 2] := (a7_12 w).allocO _
theorem at7 (w : World) : At (Lw.wl w) (w.heap.size + 1 + 1 + 1 + 1 + 1 + 1 + 1) [.slice none 0 0, .slice (some ⟨w.heap.size + 1 + 1 + 1 + 1 + 1, 0, none⟩) 1 1, .slice (some ⟨w.heap.size + 1 + 1 + 1 + 1 + 1 + 1, 0, none⟩) 2 2] := a7_13 w
theorem a8_9 (w : World) : At (v9 w) (w.heap.size + 1 + 1 + 1 + 1 + 1 + 1 + 1 + 1) [.int .i64 8, .string ⟨#[65]⟩, .int .i64 3, .string ⟨#[82]⟩, .int .i64 10, .string ⟨#[65]⟩, .int .i64 3, .string ⟨#[66]⟩] := by
  unfold v9
  exact At.newAt (v8 w) _ _ _ (n8 w).symm
theorem a8_10 (w : World) : At (v10 w) (w.heap.size + 1 + 1 + 1 + 1 + 1 + 1 + 1 + 1) [.int .i64 8, .string ⟨#[65]⟩, .int .i64 3, .string ⟨#[82]⟩, .int .i64 10, .string ⟨#[65]⟩, .int .i64 3, .string ⟨#[66]⟩] := (a8_9 w).allocO _
theorem a8_11 (w : World) : At (v11 w) (w.heap.size + 1 + 1 + 1 + 1 + 1 + 1 + 1 + 1) [.int .i64 8, .string ⟨#[65]⟩, .int .i64 3, .string ⟨#[82]⟩, .int .i64 10, .string ⟨#[65]⟩, .int .i64 3, .string ⟨#[66]⟩] := (a8_10 w).allocO _
theorem a8_12 (w : World) : At (v12 w) (w.heap.size + 1 + 1 + 1 + 1 + 1 + 1 + 1 + 1) [.int .i64 8, .string ⟨#[65]⟩, .int .i64 3, .string ⟨#[82]⟩, .int .i64 10, .string ⟨#[65]⟩, .int .i64 3, .string ⟨#[66]⟩] := (a8_11 w).allocO _
theorem a8_13 (w : World) : At (v13 w) (w.heap.size + 1 + 1 + 1 + 1 + 1 + 1 + 1 + 1) [.int .i64 8, .string ⟨#[65]⟩, .int .i64 3, .string ⟨#[82]⟩, .int .i64 10, .string ⟨#[65]⟩, .int .i64 3, .string ⟨#[66]⟩] := (a8_12 w).allocO _
theorem at8 (w : World) : At (Lw.wl w) (w.heap.size + 1 + 1 + 1 + 1 + 1 + 1 + 1 + 1) [.int .i64 8, .string ⟨#[65]⟩, .int .i64 3, .string ⟨#[82]⟩, .int .i64 10, .string ⟨#[65]⟩, .int .i64 3, .string ⟨#[66]⟩] := a8_13 w
theorem a9_10 (w : World) : At (v10 w) (w.heap.size + 1 + 1 + 1 + 1 + 1 + 1 + 1 + 1 + 1) [.int .i64 0, .int .u8 0, .int .i64 0, .string ⟨#[]⟩, .string ⟨#[120]⟩, .bool true, .int .i64 2000, .int .i64 1, .int .u8 0, .int .i64 1, .int .i64 0, .int .i64 0, .int .u8 0, .int .i64 0, .int .u8 0, .int .i64 0, .string ⟨#[]⟩, .string ⟨#[120]⟩, .bool false, .int .i64 0, .int .i64 0, .int .u8 0, .int .i64 0, .int .i64 0, .int .i64 0, .int .u8 0] := by
  unfold v10
  exact At.newAt (v9 w) _ _ _ (n9 w).symm
theorem a9_11 (w : World) : At (v11 w) (w.heap.size + 1 + 1 + 1 + 1 + 1 + 1 + 1 + 1 + 1) [.int .i64 0, .int .u8 0, .int .i64 0, .string ⟨#[]⟩, .string ⟨#[120]⟩, .bool true, .int .i64 2000, .int .i64 1, .int .u8 0, .int .i64 1, .int .i64 0, .int .i64 0, .int .u8 0, .int .i64 0, .int .u8 0, .int .i64 0, .string ⟨#[]⟩, .string ⟨#[120]⟩, .bool false, .int .i64 0, .int .i64 0, .int .u8 0, .int .i64 0, .int .i64 0, .int .i64 0, .int .u8 0] := (a9_10 w).allocO _
theorem a9_12 (w : World) : At (v12 w) (w.heap.size + 1 + 1 + 1 + 1 + 1 + 1 + 1 + 1 + 1) [.int .i64 0, .int .u8 0, .int .i64 0, .string ⟨#[]⟩, .string ⟨#[120]⟩, .bool true, .int .i64 2000, .int .i64 1, .int .u8 0, .int .i64 1, .int .i64 0, .int .i64 0, .int .u8 0, .int .i64 0, .int .u8 0, .int .i64 0, .string ⟨#[]⟩, .string ⟨#[120]⟩, .bool false, .int .i64 0, .int .i64 0, .int .u8 0, .int .i64 0, .int .i64 0, .int .i64 0, .int .u8 0] := (a9_11 w).allocO _
theorem a9_13 (w : World) : At (v13 w) (w.heap.size + 1 + 1 + 1 + 1 + 1 + 1 + 1 + 1 + 1) [.int .i64 0, .int .u8 0, .int .i64 0, .string ⟨#[]⟩, .string ⟨#[120]⟩, .bool true, .int .i64 2000, .int .i64 1, .int .u8 0, .int .i64 1, .int .i64 0, .int .i64 0, .int .u8 0, .int .i64 0, .int .u8 0, .int .i64 0, .string ⟨#[]⟩, .string ⟨#[120]⟩, .bool false, .int .i64 0, .int .i64 0, .int .u8 0, .int .i64 0, .int .i64 0, .int .i64 0, .int .u8 0] := (a9_12 w).allocO _
theorem at9 (w : World) : At (Lw.wl w) (w.heap.size + 1 + 1 + 1 + 1 + 1 + 1 + 1 + 1 + 1) [.int .i64 0, .int .u8 0, .int .i64 0, .string ⟨#[]⟩, .string ⟨#[120]⟩, .bool true, .int .i64 2000, .int .i64 1, .int .u8 0, .int .i64 1, .int .i64 0, .int .i64 0, .int .u8 0, .int .i64 0, .int .u8 0, .int .i64 0, .string ⟨#[]⟩, .string ⟨#[120]⟩, .bool false, .int .i64 0, .int .i64 0, .int .u8 0, .int .i64 0, .int .i64 0, .int .i64 0, .int .u8 0] := a9_13 w
theorem a10_11 (w : World) : At (v11 w) (w.heap.size + 1 + 1 + 1 + 1 + 1 + 1 + 1 + 1 + 1 + 1) [.string ⟨#[65]⟩, .slice (some ⟨w.heap.size + 1 + 1 + 1 + 1 + 1 + 1 + 1 + 1 + 1, 0, none⟩) 2 2] := by
  unfold v11
  exact At.newAt (v10 w) _ _ _ (n10 w).symm
theorem a10_12 (w : World) : At (v12 w) (w.heap.size + 1 + 1 + 1 + 1 + 1 + 1 + 1 + 1 + 1 + 1) [.string ⟨#[65]⟩, .slice (some ⟨w.heap.size + 1 + 1 + 1 + 1 + 1 + 1 + 1 + 1 + 1, 0, none⟩) 2 2] := (a10_11 w).allocO _
theorem a10_13 (w : World) : At (v13 w) (w.heap.size + 1 + 1 + 1 + 1 + 1 + 1 + 1 + 1 + 1 + 1) [.string ⟨#[65]⟩, .slice (some ⟨w.heap.size + 1 + 1 + 1 + 1 + 1 + 1 + 1 + 1 + 1, 0, none⟩) 2 2] := (a10_12 w).allocO _
theorem at10 (w : World) : At (Lw.wl w) (w.heap.size + 1 + 1 + 1 + 1 + 1 + 1 + 1 + 1 + 1 + 1) [.string ⟨#[65]⟩, .slice (some ⟨w.heap.size + 1 + 1 + 1 + 1 + 1 + 1 + 1 + 1 + 1, 0, none⟩) 2 2] := a10_13 w
theorem a11_12 (w : World) : At (v12 w) (w.heap.size + 1 + 1 + 1 + 1 + 1 + 1 + 1 + 1 + 1 + 1 + 1) [.string ⟨#[65]⟩, .string ⟨#[66]⟩] := by
  unfold v12
  exact At.newAt (v11 w) _ _ _ (n11 w).symm
theorem a11_13 (w : World) : At (v13 w) (w.heap.size + 1 + 1 + 1 + 1 + 1 + 1 + 1 + 1 + 1 + 1 + 1) [.string ⟨#[65]⟩, .string ⟨#[66]⟩] := (a11_12 w).allocO _
theorem at11 (w : World) : At (Lw.wl w) (w.heap.size + 1 + 1 + 1 + 1 + 1 + 1 + 1 + 1 + 1 + 1 + 1) [.string ⟨#[65]⟩, .string ⟨#[66]⟩] := a11_13 w
theorem a12_13 (w : World) : At (v13 w) (w.heap.size + 1 + 1 + 1 + 1 + 1 + 1 + 1 + 1 + 1 + 1 + 1 + 1) [.slice none 0 0, .slice (some ⟨w.heap.size + 1 + 1 + 1 + 1 + 1 + 1 + 1 + 1 + 1 + 1, 0, none⟩) 1 1, .slice (some ⟨w.heap.size + 1 + 1 + 1 + 1 + 1 + 1 + 1 + 1 + 1 + 1 + 1, 0, none⟩) 1 1] := by
  unfold v13
  exact At.newAt (v12 w) _ _ _ (n12 w).symm
theorem at12 (w : World) : At (Lw.wl w) (w.heap.size + 1 + 1 + 1 + 1 + 1 + 1 + 1 + 1 + 1 + 1 + 1 + 1) [.slice none 0 0, .slice (some ⟨w.heap.size + 1 + 1 + 1 + 1 + 1 + 1 + 1 + 1 + 1 + 1, 0, none⟩) 1 1, .slice (some ⟨w.heap.size + 1 + 1 + 1 + 1 + 1 + 1 + 1 + 1 + 1 + 1 + 1, 0, none⟩) 1 1] := a12_13 w
end Lw
theorem Lw.r1 (w : World) : Src.SrcR (Lw.wl w) (Lw.wl w).heap.size Lw.s1 (.slice none 0 0) (.slice (some ⟨w.heap.size + 1 + 1 + 1 + 1 + 1, 0, none⟩) 1 1) (.slice (some ⟨w.heap.size + 1 + 1 + 1 + 1 + 1 + 1, 0, none⟩) 2 2) [.slice (some ⟨w.heap.size + 1 + 1 + 1 + 1, 0, none⟩) 3 3] := by
  refine ⟨⟨none, 0, rfl, Nat.le_refl _, by unfold maxLen; omega, Reads.none_⟩, ⟨_, 1, rfl, Nat.le_refl _, by unfold maxLen; omega, (Lw.at5 w).reads rfl⟩, ⟨_, 2, rfl, Nat.le_refl _, by unfold maxLen; omega, (Lw.at6 w).reads rfl⟩, rfl, ?_⟩
  intro p hp
  have e : p = (([65], [Lw.ea, Lw.eb, Lw.ec]), .slice (some ⟨w.heap.size + 1 + 1 + 1 + 1, 0, none⟩) 3 3) := by simpa [Lw.s1] using hp
  subst e
  exact ⟨_, 3, rfl, Nat.le_refl _, by unfold maxLen; omega, (Lw.at4 w).reads rfl⟩
theorem Lw.r2 (w : World) : Src.SrcR (Lw.wl w) (Lw.wl w).heap.size Lw.s2 (.slice none 0 0) (.slice (some ⟨w.heap.size + 1 + 1 + 1 + 1 + 1 + 1 + 1 + 1 + 1 + 1, 0, none⟩) 1 1) (.slice (some ⟨w.heap.size + 1 + 1 + 1 + 1 + 1 + 1 + 1 + 1 + 1 + 1 + 1, 0, none⟩) 1 1) [.slice (some ⟨w.heap.size + 1 + 1 + 1 + 1 + 1 + 1 + 1 + 1 + 1, 0, none⟩) 2 2] := by
  refine ⟨⟨none, 0, rfl, Nat.le_refl _, by unfold maxLen; omega, Reads.none_⟩, ⟨_, 1, rfl, Nat.le_refl _, by unfold maxLen; omega, (Lw.at10 w).reads rfl⟩, ⟨_, 1, rfl, Nat.le_refl _, by unfold maxLen; omega, (Lw.at11 w).reads rfl⟩, rfl, ?_⟩
  intro p hp
  have e : p = (([65], [Lw.eb, Lw.ec]), .slice (some ⟨w.heap.size + 1 + 1 + 1 + 1 + 1 + 1 + 1 + 1 + 1, 0, none⟩) 2 2) := by simpa [Lw.s2] using hp
  subst e
  exact ⟨_, 2, rfl, Nat.le_refl _, by unfold maxLen; omega, (Lw.at9 w).reads rfl⟩
theorem Lw.r3 (W : World) : Src.SrcR (W.alloc (.cells #[.string ⟨#[65]⟩, .slice none 0 0] 37)) (W.alloc (.cells #[.string ⟨#[65]⟩, .slice none 0 0] 37)).heap.size Lw.s3 (.slice none 0 0) (.slice (some ⟨W.heap.size, 0, none⟩) 1 1) (.slice none 0 0) [.slice none 0 0] := by
  refine ⟨⟨none, 0, rfl, Nat.le_refl _, by unfold maxLen; omega, Reads.none_⟩, ⟨_, 1, rfl, Nat.le_refl _, by unfold maxLen; omega, (At.new W #[.string ⟨#[65]⟩, .slice none 0 0] 37).reads rfl⟩, ⟨none, 0, rfl, Nat.le_refl _, by unfold maxLen; omega, Reads.none_⟩, rfl, ?_⟩
  intro p hp
  have e : p = (([65], []), .slice none 0 0) := by simpa [Lw.s3] using hp
  subst e
  exact ⟨none, 0, rfl, Nat.le_refl _, by unfold maxLen; omega, Reads.none_⟩
theorem Lw.z1 : Vd.Sz Lw.s1 := by
  refine ⟨⟨by decide, by decide, by decide⟩, ?_, ⟨?_, ?_, ?_⟩⟩
  · intro z hz
    have e : z = ([65], [Lw.ea, Lw.eb, Lw.ec]) := by simpa [Lw.s1] using hz
    subst e
    decide
  · intro r hr
    cases hr
  · intro z hz
    have e : z = ([65], [Lw.ea, Lw.eb, Lw.ec]) := by simpa [Lw.s1] using hz
    subst e
    refine ⟨by decide, fun e he => ?_⟩
    have e3 : e = Lw.ea ∨ e = Lw.eb ∨ e = Lw.ec := by simpa using he
    rcases e3 with rfl | rfl | rfl <;> exact ⟨by decide, by decide⟩
  · intro k hk
    have e3 : k = ([65], [65]) ∨ k = ([113], [66]) := by simpa [Lw.s1] using hk
    rcases e3 with rfl | rfl <;> exact ⟨by decide, by decide⟩
theorem Lw.z2 : Vd.Sz Lw.s2 := by
  refine ⟨⟨by decide, by decide, by decide⟩, ?_, ⟨?_, ?_, ?_⟩⟩
  · intro z hz
    have e : z = ([65], [Lw.eb, Lw.ec]) := by simpa [Lw.s2] using hz
    subst e
    decide
  · intro r hr
    cases hr
  · intro z hz
    have e : z = ([65], [Lw.eb, Lw.ec]) := by simpa [Lw.s2] using hz
    subst e
    refine ⟨by decide, fun e he => ?_⟩
    have e3 : e = Lw.eb ∨ e = Lw.ec := by simpa using he
    rcases e3 with rfl | rfl <;> exact ⟨by decide, by decide⟩
  · intro k hk
    have e3 : k = ([65], [66]) := by simpa [Lw.s2] using hk
    rcases e3 with rfl <;> exact ⟨by decide, by decide⟩
theorem Lw.z3 : Vd.Sz Lw.s3 := by
  refine ⟨⟨by decide, by decide, by decide⟩, ?_, ⟨?_, ?_, ?_⟩⟩
  · intro z hz
    have e : z = ([65], []) := by simpa [Lw.s3] using hz
    subst e
    decide
  · intro r hr
    cases hr
  · intro z hz
    have e : z = ([65], []) := by simpa [Lw.s3] using hz
    subst e
    refine ⟨by decide, fun e he => ?_⟩
    cases he
  · intro k hk
    cases hk
set_option maxHeartbeats 4000000 in
set_option maxRecDepth 100000 in
theorem lives14 (w : World) (hW : Wo w) (hA : Wa w) : Calls Tryd.prog 4 #[] w fun e w' => e = .returned (.bool true) ∧ Below w.heap.size w w' := by
  obtain ⟨P, hP⟩ : ∃ P : Ending → World → Prop, (fun e w' => e = .returned (.bool true) ∧ Below w.heap.size w w') = P := ⟨_, rfl⟩
  rw [hP]
  have HP := Lib.hid hP
  clear hP
  have HF1 := Lib.hid fun W hb => vdFlaws_any Lw.s1 _ _ _ _ W ((Lw.r1 w).call hb) Lw.z1 (hW.below ((Lw.below w).trans (hb.mono (Lw.below w).size)))
  have HW1 := Lib.hid fun W hb => vdWell_any Lw.s1 _ _ _ _ W ((Lw.r1 w).call hb) Lw.z1 (hW.below ((Lw.below w).trans (hb.mono (Lw.below w).size))) (hA.below ((Lw.below w).trans (hb.mono (Lw.below w).size)))
  have HW2 := Lib.hid fun W hb => vdWell_any Lw.s2 _ _ _ _ W ((Lw.r2 w).call hb) Lw.z2 (hW.below ((Lw.below w).trans (hb.mono (Lw.below w).size))) (hA.below ((Lw.below w).trans (hb.mono (Lw.below w).size)))
  have HF2 := Lib.hid fun W hb => vdFlaws_any Lw.s2 _ _ _ _ W ((Lw.r2 w).call hb) Lw.z2 (hW.below ((Lw.below w).trans (hb.mono (Lw.below w).size)))
  have HW3 := Lib.hid fun W (hb : Below (Lw.wl w).heap.size (Lw.wl w) W) => vdWell_any Lw.s3 _ _ _ _ _ (Lw.r3 W) Lw.z3 (hW.below (((Lw.below w).trans (hb.mono (Lw.below w).size)).alloc (Nat.le_trans (Lw.below w).size hb.size) _)) (hA.below (((Lw.below w).trans (hb.mono (Lw.below w).size)).alloc (Nat.le_trans (Lw.below w).size hb.size) _))
  rw [Lw.s1_flaws] at HF1
  rw [Lw.s2_flaws] at HF2
  rw [Lw.s1_wrong] at HW1
  rw [Lw.s2_well] at HW2
  rw [Lw.s3_wrong] at HW3
  have HS1 := Lib.hid (Lw.at7 w)
  have HS2 := Lib.hid (Lw.at12 w)
  have HFl := Lib.hid (Lw.at8 w)
  have HB := Lib.hid (Lw.below w)
  clear hW hA
  go_enter Tryd.func4, Tryd.ntmps4
  go_wp2_with fail
  refine (HF1.out _ (Below.refl _ _)).mono ?_
  rintro e w1 ⟨v1, rfl, hb1, ho1⟩
  obtain ⟨A1, c1, rfl, _⟩ := own_slice ho1
  have HB1 := Lib.hid hb1
  have HSm := Lib.hid (vdSame_any A1 (some ⟨w.heap.size + 1 + 1 + 1 + 1 + 1 + 1 + 1 + 1, 0, none⟩) 4 4 c1 4 Lw.want Lw.want w1 (by decide) (by decide) rfl rfl (Reads.of_own ho1) (((HFl.out.call hb1).reads rfl)))
  obtain ⟨a0, a1, a2, _⟩ := (HS1.out.call hb1).three
  clear hb1 ho1
  go_wp2_with fail
  refine HSm.out.mono ?_
  rintro e w2 ⟨rfl, hd⟩
  have HB2 := Lib.hid (below_drew HB1.out hd)
  clear hd a0 a1 a2
  obtain ⟨a0, a1, a2, _⟩ := (HS1.out.call HB2.out).three
  simp only [decide_true]
  go_wp2_with fail
  refine (HW1.out w2 HB2.out).mono ?_
  rintro e w3 ⟨rfl, hb3⟩
  have HB3 := Lib.hid (below_then HB2.out hb3)
  clear hb3 a0 a1 a2
  obtain ⟨a0, a1, a2, _⟩ := (HS2.out.call HB3.out).three
  go_wp2_with fail
  refine (HW2.out w3 HB3.out).mono ?_
  rintro e w4 ⟨rfl, hb4⟩
  have HB4 := Lib.hid (below_then HB3.out hb4)
  clear hb4 a0 a1 a2
  obtain ⟨a0, a1, a2, _⟩ := (HS2.out.call HB4.out).three
  go_wp2_with fail
  refine (HF2.out w4 HB4.out).mono ?_
  rintro e w5 ⟨v5, rfl, hb5, ho5⟩
  obtain ⟨A5, c5, rfl, _⟩ := own_slice ho5
  have HB5 := Lib.hid (below_then HB4.out hb5)
  clear hb5 ho5 a0 a1 a2
  go_wp2_with fail
  refine (HW3.out w5 HB5.out).mono ?_
  rintro e w6 ⟨rfl, hb6⟩
  have HB6 := Lib.hid (below_then (HB5.out.alloc HB5.out.size _) hb6)
  clear hb6
  go_wp2
  have HR9 := HP.out
  rw [← HR9]
  exact ⟨ret_bool rfl, HB.out.trans (HB6.out.mono HB.out.size)⟩
end Go.Proofs.YtfobllagmakjdaaDoor
