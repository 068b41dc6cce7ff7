/- The lives of law 16. -/
import Derived.Test.YtdanbnolbaelhaaGreatDoorE28
import Derived.Test.YtdanbnolbaelhaaGreatDoorE29

namespace Go.Proofs.YtdanbnolbaelhaaGreatDoor
open Go.RowKit

namespace Lit
theorem reads {w : World} {g size n : Nat} {xs : List Value} (h : At w g xs) (hl : xs.length = n * size) : Reads w w.heap.size size (some ⟨g, 0, none⟩) n xs := by
  refine ⟨hl, fun _ => ⟨_, rfl, h.lt, fun j u hu => ?_⟩⟩
  have e : (⟨g, 0, none⟩ : Addr).add j = ⟨g, j, none⟩ := by
    unfold Addr.add
    split
    · subst_vars; rfl
    · simp
  rw [e]
  exact h.cell j u hu
theorem newAt (w : World) (cs : Array Value) (t : TypeId) (g : Nat) (hg : g = w.heap.size) : At (w.alloc (.cells cs t)) g cs.toList := by
  subst hg
  exact At.new w cs t
end Lit
namespace L16
def r0 : Ru.R := ⟨⟨#[69]⟩, 1990, 2010, 3, 0, 1, 0, 0, 0, 3600, ⟨#[]⟩⟩
def r1 : Ru.R := ⟨⟨#[69]⟩, 1990, 2010, 10, 0, 1, 0, 0, 0, 0, ⟨#[]⟩⟩
def e0_0 : Er.E := ⟨7200, 2, 0, ⟨#[69]⟩, ⟨#[120]⟩, true, ⟨2000, 7, 0, 1, 0, 0, 0⟩⟩
def e0_1 : Er.E := ⟨3600, 0, 0, ⟨#[]⟩, ⟨#[121]⟩, false, ⟨0, 0, 0, 0, 0, 0, 0⟩⟩
def s : Src.S := ⟨[r0, r1], [([65], [e0_0, e0_1])], [], false⟩
theorem r0_ok : r0.Ok := ⟨by decide +kernel, ⟨by decide +kernel, by decide +kernel, by decide +kernel⟩, ⟨by decide +kernel, by decide +kernel⟩, by unfold Dy.Ok; decide +kernel, by decide +kernel, by decide +kernel, by decide +kernel⟩
theorem r1_ok : r1.Ok := ⟨by decide +kernel, ⟨by decide +kernel, by decide +kernel, by decide +kernel⟩, ⟨by decide +kernel, by decide +kernel⟩, by unfold Dy.Ok; decide +kernel, by decide +kernel, by decide +kernel, by decide +kernel⟩
theorem e0_0_ok : e0_0.Ok := ⟨by decide +kernel, by decide +kernel, .inr (.inr ⟨rfl, rfl, by decide +kernel⟩), fun _ => ⟨⟨by decide +kernel, by decide +kernel, by decide +kernel, by decide +kernel⟩, by decide +kernel, by decide +kernel⟩, fun h => (by cases h)⟩
theorem e0_1_ok : e0_1.Ok := ⟨by decide +kernel, by decide +kernel, .inl ⟨rfl, rfl, rfl⟩, fun h => (by cases h), fun _ => rfl⟩
theorem right : Src.srcB s = true := by
  have hr0 : r0.good = true := (Ru.R.good_iff r0).2 r0_ok
  have hr1 : r1.good = true := (Ru.R.good_iff r1).2 r1_ok
  have he0_0 : e0_0.good = true := by unfold Er.E.good; rw [Er.chk_ok e0_0 e0_0_ok]; rfl
  have he0_1 : e0_1.good = true := by unfold Er.E.good; rw [Er.chk_ok e0_1 e0_1_ok]; rfl
  have hz0 : Src.zoneB ([65], [e0_0, e0_1]) = true := by
    unfold Src.zoneB Src.erasB Src.erasB Src.erasB
    simp only [he0_0, he0_1]
    decide +kernel
  unfold Src.srcB s
  simp only [List.all_cons, List.all_nil, hr0, hr1, hz0]
  rfl
theorem names : (Src.names s).Nodup := by
  have h : Src.names s = [⟨#[65]⟩] := rfl
  rw [h]
  decide +kernel
theorem flaws : Vd.flaws s = [] := by
  rw [Vd.flaws_iff]
  refine ⟨names, ?_, ?_, ?_⟩
  · intro z hz e he hk
    obtain rfl : z = ([65], [e0_0, e0_1]) := by simpa [s] using hz
    have h2 : e = e0_0 ∨ e = e0_1 := by simpa using he
    rcases h2 with rfl | rfl
    · exact List.mem_map.2 ⟨r0, by simp [s], rfl⟩
    · exact absurd hk (by decide)
  · intro z hz
    obtain rfl : z = ([65], [e0_0, e0_1]) := by simpa [s] using hz
    decide +kernel
  · intro l hl
    cases hl
theorem well : Vd.well s = true := (Vd.well_iff s).2 ⟨right, flaws⟩
theorem sz : Vd.Sz s := by
  refine ⟨⟨by decide, by decide, by decide⟩, ?_, ⟨?_, ?_, ?_⟩⟩
  · intro z hz
    obtain rfl : z = ([65], [e0_0, e0_1]) := by simpa [s] using hz
    decide
  · intro r hr
    have h2 : r = r0 ∨ r = r1 := by simpa [s] using hr
    rcases h2 with rfl | rfl <;> exact ⟨by decide, by decide⟩
  · intro z hz
    obtain rfl : z = ([65], [e0_0, e0_1]) := by simpa [s] using hz
    refine ⟨by decide, fun e he => ?_⟩
    have h2 : e = e0_0 ∨ e = e0_1 := by simpa using he
    rcases h2 with rfl | rfl <;> exact ⟨by decide, by decide⟩
  · intro k hk
    cases hk
theorem ccs : ∀ z ∈ s.zones, ∀ e ∈ z.2, 0 ≤ e.u.c := by
  intro z hz e he
  obtain rfl : z = ([65], [e0_0, e0_1]) := by simpa [s] using hz
  have h2 : e = e0_0 ∨ e = e0_1 := by simpa using he
  rcases h2 with rfl | rfl <;> decide
end L16
namespace L16
def v0 (w : World) : World := w
def v1 (w : World) : World := (v0 w).alloc (.cells #[.int .i64 2000, .int .i64 7, .int .u8 0, .int .i64 1, .int .i64 0, .int .i64 0, .int .u8 0] 46)
def v2 (w : World) : World := (v1 w).alloc (.cells #[.string ⟨#[69]⟩, .int .i64 1990, .int .i64 2010, .int .i64 3, .int .u8 0, .int .i64 1, .int .i64 0, .int .i64 0, .int .u8 0, .int .i64 3600, .string ⟨#[]⟩, .string ⟨#[69]⟩, .int .i64 1990, .int .i64 2010, .int .i64 10, .int .u8 0, .int .i64 1, .int .i64 0, .int .i64 0, .int .u8 0, .int .i64 0, .string ⟨#[]⟩] 80)
def v3 (w : World) : World := (v2 w).alloc (.cells #[.slice (some ⟨w.heap.size + 1, 0, none⟩) 2 2, .slice (some ⟨w.heap.size + 1 + 1 + 1 + 1, 0, none⟩) 1 1, .slice none 0 0] 26)
def v4 (w : World) : World := (v3 w).alloc (.cells #[.int .i64 7200, .int .u8 2, .int .i64 0, .string ⟨#[69]⟩, .string ⟨#[120]⟩, .bool true, .int .i64 2000, .int .i64 7, .int .u8 0, .int .i64 1, .int .i64 0, .int .i64 0, .int .u8 0, .int .i64 3600, .int .u8 0, .int .i64 0, .string ⟨#[]⟩, .string ⟨#[121]⟩, .bool false, .int .i64 0, .int .i64 0, .int .u8 0, .int .i64 0, .int .i64 0, .int .i64 0, .int .u8 0] 48)
def v5 (w : World) : World := (v4 w).alloc (.cells #[.string ⟨#[65]⟩, .slice (some ⟨w.heap.size + 1 + 1 + 1, 0, none⟩) 2 2] 36)
theorem n0 (w : World) : (v0 w).heap.size = w.heap.size := rfl
theorem n1 (w : World) : (v1 w).heap.size = w.heap.size + 1 := (World.size_alloc _ _).trans (congrArg (· + 1) (n0 w))
theorem n2 (w : World) : (v2 w).heap.size = w.heap.size + 1 + 1 := (World.size_alloc _ _).trans (congrArg (· + 1) (n1 w))
theorem n3 (w : World) : (v3 w).heap.size = w.heap.size + 1 + 1 + 1 := (World.size_alloc _ _).trans (congrArg (· + 1) (n2 w))
theorem n4 (w : World) : (v4 w).heap.size = w.heap.size + 1 + 1 + 1 + 1 := (World.size_alloc _ _).trans (congrArg (· + 1) (n3 w))
theorem b0 (w : World) : Below w.heap.size w (v0 w) := Below.refl _ _
theorem b1 (w : World) : Below w.heap.size w (v1 w) := (b0 w).alloc (b0 w).size _
theorem b2 (w : World) : Below w.heap.size w (v2 w) := (b1 w).alloc (b1 w).size _
theorem b3 (w : World) : Below w.heap.size w (v3 w) := (b2 w).alloc (b2 w).size _
theorem b4 (w : World) : Below w.heap.size w (v4 w) := (b3 w).alloc (b3 w).size _
theorem b5 (w : World) : Below w.heap.size w (v5 w) := (b4 w).alloc (b4 w).size _
/-- The world ahead of the questions. -/
abbrev wl (w : World) : World := v5 w
theorem below (w : World) : Below w.heap.size w (wl w) := b5 w
theorem a0_1 (w : World) : At (v1 w) (w.heap.size) [.int .i64 2000, .int .i64 7, .int .u8 0, .int .i64 1, .int .i64 0, .int .i64 0, .int .u8 0] := by
  unfold v1
  exact Lit.newAt (v0 w) _ _ _ (n0 w).symm
theorem a0_2 (w : World) : At (v2 w) (w.heap.size) [.int .i64 2000, .int .i64 7, .int .u8 0, .int .i64 1, .int .i64 0, .int .i64 0, .int .u8 0] := (a0_1 w).allocO _
theorem a0_3 (w : World) : At (v3 w) (w.heap.size) [.int .i64 2000, .int .i64 7, .int .u8 0, .int .i64 1, .int .i64 0, .int .i64 0, .int .u8 0] := (a0_2 w).allocO _
theorem a0_4 (w : World) : At (v4 w) (w.heap.size) [.int .i64 2000, .int .i64 7, .int .u8 0, .int .i64 1, .int .i64 0, .int .i64 0, .int .u8 0] := (a0_3 w).allocO _
theorem a0_5 (w : World) : At (v5 w) (w.heap.size) [.int .i64 2000, .int .i64 7, .int .u8 0, .int .i64 1, .int .i64 0, .int .i64 0, .int .u8 0] := (a0_4 w).allocO _
theorem at0 (w : World) : At (wl w) (w.heap.size) [.int .i64 2000, .int .i64 7, .int .u8 0, .int .i64 1, .int .i64 0, .int .i64 0, .int .u8 0] := a0_5 w
theorem a1_2 (w : World) : At (v2 w) (w.heap.size + 1) [.string ⟨#[69]⟩, .int .i64 1990, .int .i64 2010, .int .i64 3, .int .u8 0, .int .i64 1, .int .i64 0, .int .i64 0, .int .u8 0, .int .i64 3600, .string ⟨#[]⟩, .string ⟨#[69]⟩, .int .i64 1990, .int .i64 2010, .int .i64 10, .int .u8 0, .int .i64 1, .int .i64 0, .int .i64 0, .int .u8 0, .int .i64 0, .string ⟨#[]⟩] := by
  unfold v2
  exact Lit.newAt (v1 w) _ _ _ (n1 w).symm
theorem a1_3 (w : World) : At (v3 w) (w.heap.size + 1) [.string ⟨#[69]⟩, .int .i64 1990, .int .i64 2010, .int .i64 3, .int .u8 0, .int .i64 1, .int .i64 0, .int .i64 0, .int .u8 0, .int .i64 3600, .string ⟨#[]⟩, .string ⟨#[69]⟩, .int .i64 1990, .int .i64 2010, .int .i64 10, .int .u8 0, .int .i64 1, .int .i64 0, .int .i64 0, .int .u8 0, .int .i64 0, .string ⟨#[]⟩] := (a1_2 w).allocO _
theorem a1_4 (w : World) : At (v4 w) (w.heap.size + 1) [.string ⟨#[69]⟩, .int .i64 1990, .int .i64 2010, .int .i64 3, .int .u8 0, .int .i64 1, .int .i64 0, .int .i64 0, .int .u8 0, .int .i64 3600, .string ⟨#[]⟩, .string ⟨#[69]⟩, .int .i64 1990, .int .i64 2010, .int .i64 10, .int .u8 0, .int .i64 1, .int .i64 0, .int .i64 0, .int .u8 0, .int .i64 0, .string ⟨#[]⟩] := (a1_3 w).allocO _
theorem a1_5 (w : World) : At (v5 w) (w.heap.size + 1) [.string ⟨#[69]⟩, .int .i64 1990, .int .i64 2010, .int .i64 3, .int .u8 0, .int .i64 1, .int .i64 0, .int .i64 0, .int .u8 0, .int .i64 3600, .string ⟨#[]⟩, .string ⟨#[69]⟩, .int .i64 1990, .int .i64 2010, .int .i64 10, .int .u8 0, .int .i64 1, .int .i64 0, .int .i64 0, .int .u8 0, .int .i64 0, .string ⟨#[]⟩] := (a1_4 w).allocO _
theorem at1 (w : World) : At (wl w) (w.heap.size + 1) [.string ⟨#[69]⟩, .int .i64 1990, .int .i64 2010, .int .i64 3, .int .u8 0, .int .i64 1, .int .i64 0, .int .i64 0, .int .u8 0, .int .i64 3600, .string ⟨#[]⟩, .string ⟨#[69]⟩, .int .i64 1990, .int .i64 2010, .int .i64 10, .int .u8 0, .int .i64 1, .int .i64 0, .int .i64 0, .int .u8 0, .int .i64 0, .string ⟨#[]⟩] := a1_5 w
theorem a2_3 (w : World) : At (v3 w) (w.heap.size + 1 + 1) [.slice (some ⟨w.heap.size + 1, 0, none⟩) 2 2, .slice (some ⟨w.heap.size + 1 + 1 + 1 + 1, 0, none⟩) 1 1, .slice none 0 0] := by
  unfold v3
  exact Lit.newAt (v2 w) _ _ _ (n2 w).symm
theorem a2_4 (w : World) : At (v4 w) (w.heap.size + 1 + 1) [.slice (some ⟨w.heap.size + 1, 0, none⟩) 2 2, .slice (some ⟨w.heap.size + 1 + 1 + 1 + 1, 0, none⟩) 1 1, .slice none 0 0] := (a2_3 w).allocO _
theorem a2_5 (w : World) : At (v5 w) (w.heap.size + 1 + 1) [.slice (some ⟨w.heap.size + 1, 0, none⟩) 2 2, .slice (some ⟨w.heap.size + 1 + 1 + 1 + 1, 0, none⟩) 1 1, .slice none 0 0] := (a2_4 w).allocO _
theorem at2 (w : World) : At (wl w) (w.heap.size + 1 + 1) [.slice (some ⟨w.heap.size + 1, 0, none⟩) 2 2, .slice (some ⟨w.heap.size + 1 + 1 + 1 + 1, 0, none⟩) 1 1, .slice none 0 0] := a2_5 w
theorem a3_4 (w : World) : At (v4 w) (w.heap.size + 1 + 1 + 1) [.int .i64 7200, .int .u8 2, .int .i64 0, .string ⟨#[69]⟩, .string ⟨#[120]⟩, .bool true, .int .i64 2000, .int .i64 7, .int .u8 0, .int .i64 1, .int .i64 0, .int .i64 0, .int .u8 0, .int .i64 3600, .int .u8 0, .int .i64 0, .string ⟨#[]⟩, .string ⟨#[121]⟩, .bool false, .int .i64 0, .int .i64 0, .int .u8 0, .int .i64 0, .int .i64 0, .int .i64 0, .int .u8 0] := by
  unfold v4
  exact Lit.newAt (v3 w) _ _ _ (n3 w).symm
theorem a3_5 (w : World) : At (v5 w) (w.heap.size + 1 + 1 + 1) [.int .i64 7200, .int .u8 2, .int .i64 0, .string ⟨#[69]⟩, .string ⟨#[120]⟩, .bool true, .int .i64 2000, .int .i64 7, .int .u8 0, .int .i64 1, .int .i64 0, .int .i64 0, .int .u8 0, .int .i64 3600, .int .u8 0, .int .i64 0, .string ⟨#[]⟩, .string ⟨#[121]⟩, .bool false, .int .i64 0, .int .i64 0, .int .u8 0, .int .i64 0, .int .i64 0, .int .i64 0, .int .u8 0] := (a3_4 w).allocO _
theorem at3 (w : World) : At (wl w) (w.heap.size + 1 + 1 + 1) [.int .i64 7200, .int .u8 2, .int .i64 0, .string ⟨#[69]⟩, .string ⟨#[120]⟩, .bool true, .int .i64 2000, .int .i64 7, .int .u8 0, .int .i64 1, .int .i64 0, .int .i64 0, .int .u8 0, .int .i64 3600, .int .u8 0, .int .i64 0, .string ⟨#[]⟩, .string ⟨#[121]⟩, .bool false, .int .i64 0, .int .i64 0, .int .u8 0, .int .i64 0, .int .i64 0, .int .i64 0, .int .u8 0] := a3_5 w
theorem a4_5 (w : World) : At (v5 w) (w.heap.size + 1 + 1 + 1 + 1) [.string ⟨#[65]⟩, .slice (some ⟨w.heap.size + 1 + 1 + 1, 0, none⟩) 2 2] := by
  unfold v5
  exact Lit.newAt (v4 w) _ _ _ (n4 w).symm
theorem at4 (w : World) : At (wl w) (w.heap.size + 1 + 1 + 1 + 1) [.string ⟨#[65]⟩, .slice (some ⟨w.heap.size + 1 + 1 + 1, 0, none⟩) 2 2] := a4_5 w
end L16
namespace L16
theorem r (w : World) : Src.SrcR (wl w) (wl w).heap.size s (.slice (some ⟨w.heap.size + 1, 0, none⟩) 2 2) (.slice (some ⟨w.heap.size + 1 + 1 + 1 + 1, 0, none⟩) 1 1) (.slice none 0 0) [.slice (some ⟨w.heap.size + 1 + 1 + 1, 0, none⟩) 2 2] := by
  refine ⟨⟨_, 2, rfl, Nat.le_refl _, by unfold maxLen; omega, Lit.reads (at1 w) rfl⟩, ⟨_, 1, rfl, Nat.le_refl _, by unfold maxLen; omega, Lit.reads (at4 w) rfl⟩, ⟨none, 0, rfl, Nat.le_refl _, by unfold maxLen; omega, Reads.none_⟩, rfl, ?_⟩
  intro p hp
  have e : p = (([65], [e0_0, e0_1]), .slice (some ⟨w.heap.size + 1 + 1 + 1, 0, none⟩) 2 2) := by simpa [s] using hp
  subst e
  exact ⟨_, 2, rfl, Nat.le_refl _, by unfold maxLen; omega, Lit.reads (at3 w) rfl⟩
def s3 : Src.S := ⟨[], [([65], [])], [], false⟩
theorem s3_wrong : Vd.well s3 = false := by
  unfold Vd.well Src.srcB s3 Src.zoneB
  simp
theorem z3 : Vd.Sz s3 := by
  refine ⟨⟨by decide, by decide, by decide⟩, ?_, ⟨?_, ?_, ?_⟩⟩
  · intro z hz
    obtain rfl : z = ([65], []) := by simpa [s3] using hz
    decide
  · intro r hr
    cases hr
  · intro z hz
    obtain rfl : z = ([65], []) := by simpa [s3] using hz
    exact ⟨by decide, fun e he => (by cases he)⟩
  · intro k hk
    cases hk
theorem cc3 : ∀ z ∈ s3.zones, ∀ e ∈ z.2, 0 ≤ e.u.c := by
  intro z hz e he
  obtain rfl : z = ([65], []) := by simpa [s3] using hz
  cases he
theorem r3 (W : World) : Src.SrcR (W.alloc (.cells #[.string ⟨#[65]⟩, .slice none 0 0] 36)) (W.alloc (.cells #[.string ⟨#[65]⟩, .slice none 0 0] 36)).heap.size s3 (.slice none 0 0) (.slice (some ⟨W.heap.size, 0, none⟩) 1 1) (.slice none 0 0) [.slice none 0 0] := by
  refine ⟨⟨none, 0, rfl, Nat.le_refl _, by unfold maxLen; omega, Reads.none_⟩, ⟨_, 1, rfl, Nat.le_refl _, by unfold maxLen; omega, Lit.reads (At.new W #[.string ⟨#[65]⟩, .slice none 0 0] 36) rfl⟩, ⟨none, 0, rfl, Nat.le_refl _, by unfold maxLen; omega, Reads.none_⟩, rfl, ?_⟩
  intro p hp
  have e : p = (([65], []), .slice none 0 0) := by simpa [s3] using hp
  subst e
  exact ⟨none, 0, rfl, Nat.le_refl _, by unfold maxLen; omega, Reads.none_⟩
theorem ends_s : Eg.ends s.rules [e0_0, e0_1] = [962398800] := by decide +kernel
theorem saved1 : Eg.saved s.rules e0_0 962409600 = 3600 := by decide +kernel
theorem saved2 : Eg.saved s.rules ⟨0, 1, 5, ⟨#[]⟩, ⟨#[]⟩, false, ⟨0, 0, 0, 0, 0, 0, 0⟩⟩ 962409600 = 5 := by decide +kernel
theorem nom : Mo.nom 0 1 0 2000 7 0 0 = (962409600, 0) := by decide +kernel
theorem at_none : Eg.zoneAt s 1 = none := rfl
theorem at_one : Eg.zoneAt s 0 = some ([65], [e0_0, e0_1]) := rfl
end L16
namespace R16
/-- The slots of the region. -/
def sl : Nat → Nat
  | 0 => 51
  | 1 => 52
  | 2 => 53
  | 3 => 54
  | 4 => 55
  | 5 => 56
  | 6 => 57
  | 7 => 58
  | 8 => 59
  | 9 => 60
  | 10 => 61
  | 11 => 62
  | 12 => 63
  | 13 => 64
  | 14 => 65
  | 15 => 66
  | 16 => 67
  | 17 => 68
  | 18 => 69
  | 19 => 70
  | 20 => 71
  | 21 => 72
  | 22 => 73
  | 23 => 74
  | 24 => 75
  | 25 => 76
  | 26 => 77
  | 27 => 78
  | 28 => 79
  | 29 => 80
  | 30 => 81
  | 31 => 82
  | 32 => 83
  | 33 => 84
  | 34 => 85
  | 35 => 86
  | 36 => 87
  | 37 => 88
  | 38 => 89
  | 39 => 90
  | 40 => 91
  | 41 => 92
  | 42 => 93
  | 43 => 94
  | 44 => 95
  | 45 => 96
  | 46 => 97
  | 47 => 98
  | 48 => 99
  | 49 => 100
  | 50 => 101
  | 51 => 102
  | 52 => 103
  | 53 => 104
  | 54 => 105
  | 55 => 106
  | 56 => 107
  | 57 => 108
  | _ => 0
/-- What they hold. -/
def Q (H : Nat) (vA : Option Addr) (vc : Nat) : Nat → Value → World → Prop
  | 0, v, _ => v = .int .i64 0
  | 1, v, _ => v = .bool true
  | 2, v, _ => v = .bool true
  | 3, v, _ => v = .slice vA 1 vc
  | 4, v, W => ∃ g, v = .slice (some ⟨g, 0, none⟩) 1 1 ∧ Reads W W.heap.size 1 (some ⟨g, 0, none⟩) 1 [.int .i64 962398800]
  | 5, v, _ => v = .bool true
  | 6, v, _ => v = .bool true
  | 7, v, _ => v = .bool true
  | 8, v, _ => v = .int .i64 3
  | 9, v, _ => v = .bool true
  | 10, v, _ => v = .bool true
  | 11, v, _ => v = .bool true
  | 12, v, _ => v = .int .i64 2
  | 13, v, _ => v = .bool true
  | 14, v, _ => v = .bool true
  | 15, v, _ => v = .bool true
  | 16, v, _ => v = .int .i64 962409600
  | 17, v, _ => v = .bool true
  | 18, v, _ => v = .bool true
  | 19, v, _ => v = .bool true
  | 20, v, _ => v = .int .i64 0
  | 21, v, _ => v = .bool true
  | 22, v, _ => v = .bool true
  | 23, v, _ => v = .bool true
  | 24, v, _ => v = .agg #[.slice (some ⟨H + 1, 0, none⟩) 2 2, .slice (some ⟨H + 1 + 1 + 1 + 1, 0, none⟩) 1 1, .slice none 0 0]
  | 25, v, _ => v = .pointer (some ⟨H + 1 + 1, 1, none⟩)
  | 26, v, _ => v = .slice (some ⟨H + 1 + 1 + 1 + 1, 0, none⟩) 1 1
  | 27, v, _ => v = .pointer (some ⟨H + 1 + 1 + 1 + 1, 0, none⟩)
  | 28, v, _ => v = .pointer (some ⟨H + 1 + 1 + 1 + 1, 1, none⟩)
  | 29, v, _ => v = .slice (some ⟨H + 1 + 1 + 1, 0, none⟩) 2 2
  | 30, v, _ => v = .pointer (some ⟨H + 1 + 1 + 1, 0, none⟩)
  | 31, v, _ => v = .agg #[.int .i64 7200, .int .u8 2, .int .i64 0, .string ⟨#[69]⟩, .string ⟨#[120]⟩, .bool true, .int .i64 2000, .int .i64 7, .int .u8 0, .int .i64 1, .int .i64 0, .int .i64 0, .int .u8 0]
  | 32, v, _ => v = .int .i64 962409600
  | 33, v, _ => v = .int .i64 3600
  | 34, v, _ => v = .bool true
  | 35, v, _ => v = .bool true
  | 36, v, _ => v = .bool true
  | 37, v, _ => v = .agg #[.slice (some ⟨H + 1, 0, none⟩) 2 2, .slice (some ⟨H + 1 + 1 + 1 + 1, 0, none⟩) 1 1, .slice none 0 0]
  | 38, v, _ => v = .agg #[.int .i64 0, .int .u8 1, .int .i64 5, .string ⟨#[]⟩, .string ⟨#[]⟩, .bool false, .int .i64 0, .int .i64 0, .int .u8 0, .int .i64 0, .int .i64 0, .int .i64 0, .int .u8 0]
  | 39, v, _ => v = .int .i64 962409600
  | 40, v, _ => v = .int .i64 5
  | 41, v, _ => v = .bool true
  | 42, v, _ => v = .bool true
  | 43, v, _ => v = .bool true
  | 44, v, W => ∃ g, v = .slice (some ⟨g, 0, none⟩) 2 2 ∧ Reads W W.heap.size 1 (some ⟨g, 0, none⟩) 2 [.int .i64 5, .int .i64 9]
  | 45, v, _ => v = .int .i64 1
  | 46, v, _ => v = .bool true
  | 47, v, _ => v = .bool true
  | 48, v, _ => v = .bool true
  | 49, v, W => ∃ g, v = .slice (some ⟨g, 0, none⟩) 2 2 ∧ Reads W W.heap.size 1 (some ⟨g, 0, none⟩) 2 [.int .i64 5, .int .i64 9]
  | 50, v, _ => v = .int .i64 0
  | 51, v, _ => v = .bool true
  | 52, v, _ => v = .bool true
  | 53, v, _ => v = .bool true
  | 54, v, W => ∃ g, v = .slice (some ⟨g, 0, none⟩) 2 2 ∧ Reads W W.heap.size 1 (some ⟨g, 0, none⟩) 2 [.int .i64 5, .int .i64 9]
  | 55, v, _ => v = .int .i64 2
  | 56, v, _ => v = .bool true
  | 57, v, _ => v = .bool true
  | 58, v, _ => v = .bool true
  | _, _, _ => True
theorem Q_mono {H : Nat} {vA : Option Addr} {vc : Nat} : ∀ k v W W', Q H vA vc k v W → Below W.heap.size W W' → Q H vA vc k v W' := by
  intro k v W W' h hb
  unfold Q at h ⊢
  split at h
  all_goals first | exact h | (obtain ⟨g, h1, h2⟩ := h; exact ⟨g, h1, (h2.below hb).more hb.size⟩)
theorem sl_inj : ∀ j, j < 59 → ∀ k, k < 59 → sl j = sl k → j = k := by decide +kernel
theorem sl_no : ∀ j, j ∈ [2, 3, 4, 6, 8, 9, 10] → ∀ k, k < 59 → sl k ≠ j := by decide +kernel
end R16
set_option maxHeartbeats 16000000 in
set_option maxRecDepth 200000 in
theorem lives16 (w : World) (hW : Wo w) (hA : Wa w) : Calls Tryz.prog 10 #[] w fun e w' => e = .returned (.bool true) ∧ Below w.heap.size w w' := by
  obtain ⟨P, hP⟩ : ∃ P : Ending → World → Prop, (fun e w' => e = .returned (.bool true) ∧ Below w.heap.size w w') = P := ⟨_, rfl⟩
  rw [hP]
  have HP := Lib.hid hP
  clear hP
  have hWW : ∀ W, Below (L16.wl w).heap.size (L16.wl w) W → Wo W ∧ Wa W := fun W hb => ⟨hW.below ((L16.below w).trans (hb.mono (L16.below w).size)), hA.below ((L16.below w).trans (hb.mono (L16.below w).size))⟩
  have HE0 : Hid (∀ W, Below (L16.wl w).heap.size (L16.wl w) W → Calls Tryz.prog 12 #[.agg #[.slice (some ⟨w.heap.size + 1, 0, none⟩) 2 2, .slice (some ⟨w.heap.size + 1 + 1 + 1 + 1, 0, none⟩) 1 1, .slice none 0 0], .int .i64 0] W fun e w' => Below W.heap.size W w' ∧ ∃ v, e = .returned (.tuple #[v, .int .i64 0]) ∧ w'.ownsRow W.heap.size 2 1 v 1 [.int .i64 962398800]) := fun W hb => by
    refine (ends_any L16.s 0 _ _ _ _ W ((L16.r w).call hb) L16.sz (hWW W hb).1 (hWW W hb).2 (by decide) L16.ccs).mono ?_
    rintro e w' ⟨hb', ⟨hwr, _⟩ | ⟨_, hno, _⟩ | ⟨x, v, _, hx, rfl, ho⟩⟩
    · rw [L16.well] at hwr; cases hwr
    · rw [L16.at_one] at hno; cases hno
    · rw [L16.at_one] at hx
      cases hx
      rw [L16.ends_s] at ho
      exact ⟨hb', v, rfl, ho⟩
  have HE1 : Hid (∀ W, Below (L16.wl w).heap.size (L16.wl w) W → Calls Tryz.prog 12 #[.agg #[.slice (some ⟨w.heap.size + 1, 0, none⟩) 2 2, .slice (some ⟨w.heap.size + 1 + 1 + 1 + 1, 0, none⟩) 1 1, .slice none 0 0], .int .i64 1] W fun e w' => Below W.heap.size W w' ∧ e = .returned (.tuple #[.slice none 0 0, .int .i64 3])) := fun W hb => by
    refine (ends_any L16.s 1 _ _ _ _ W ((L16.r w).call hb) L16.sz (hWW W hb).1 (hWW W hb).2 (by decide) L16.ccs).mono ?_
    rintro e w' ⟨hb', ⟨hwr, _⟩ | ⟨_, _, rfl⟩ | ⟨x, v, _, hx, _⟩⟩
    · rw [L16.well] at hwr; cases hwr
    · exact ⟨hb', rfl⟩
    · rw [L16.at_none] at hx; cases hx
  have HE3 : Hid (∀ W, Below (L16.wl w).heap.size (L16.wl w) W → Calls Tryz.prog 12 #[.agg #[.slice none 0 0, .slice (some ⟨W.heap.size, 0, none⟩) 1 1, .slice none 0 0], .int .i64 0] (W.alloc (.cells #[.string ⟨#[65]⟩, .slice none 0 0] 36)) fun e w' => Below W.heap.size W w' ∧ e = .returned (.tuple #[.slice none 0 0, .int .i64 2])) := fun W hb => by
    have hba := hb.alloc hb.size (.cells #[.string ⟨#[65]⟩, .slice none 0 0] 36)
    have hbb := (Below.refl W.heap.size W).alloc (Nat.le_refl _) (.cells #[.string ⟨#[65]⟩, .slice none 0 0] 36)
    refine (ends_any L16.s3 0 _ _ _ _ _ (L16.r3 W) L16.z3 (hWW _ hba).1 (hWW _ hba).2 (by decide) L16.cc3).mono ?_
    rintro e w' ⟨hb', ⟨_, rfl⟩ | ⟨hwr, _⟩ | ⟨x, v, hwr, _⟩⟩
    · exact ⟨below_then hbb hb', rfl⟩
    · rw [L16.s3_wrong] at hwr; cases hwr
    · rw [L16.s3_wrong] at hwr; cases hwr
  have HNm : Hid (∀ W, Below (L16.wl w).heap.size (L16.wl w) W → Calls Tryz.prog 15 #[.int .i64 2000, .int .i64 7, .agg #[.int .u8 0, .int .i64 1, .int .i64 0], .agg #[.int .i64 0, .int .u8 0]] W fun e w' => e = .returned (.tuple #[.int .i64 962409600, .int .i64 0]) ∧ Below W.heap.size W w') := fun W hb => by
    have := nominal_any 2000 7 0 1 0 0 0 W (hWW W hb).1
    rw [L16.nom] at this
    exact this
  have HS2 : Hid (∀ W, Below (L16.wl w).heap.size (L16.wl w) W → Calls Tryz.prog 16 #[.agg #[.slice (some ⟨w.heap.size + 1, 0, none⟩) 2 2, .slice (some ⟨w.heap.size + 1 + 1 + 1 + 1, 0, none⟩) 1 1, .slice none 0 0], .agg #[.int .i64 7200, .int .u8 2, .int .i64 0, .string ⟨#[69]⟩, .string ⟨#[120]⟩, .bool true, .int .i64 2000, .int .i64 7, .int .u8 0, .int .i64 1, .int .i64 0, .int .i64 0, .int .u8 0], .int .i64 962409600] W fun e w' => e = .returned (.int .i64 3600) ∧ Below W.heap.size W w') := fun W hb => calls_int (saved_any L16.s _ _ _ _ L16.e0_0 962409600 W ((L16.r w).call hb) (Eg.rules_ok2 L16.well (by decide)) (hWW W hb).1 (by decide)) L16.saved1
  have HS3 : Hid (∀ W, Below (L16.wl w).heap.size (L16.wl w) W → Calls Tryz.prog 16 #[.agg #[.slice (some ⟨w.heap.size + 1, 0, none⟩) 2 2, .slice (some ⟨w.heap.size + 1 + 1 + 1 + 1, 0, none⟩) 1 1, .slice none 0 0], .agg #[.int .i64 0, .int .u8 1, .int .i64 5, .string ⟨#[]⟩, .string ⟨#[]⟩, .bool false, .int .i64 0, .int .i64 0, .int .u8 0, .int .i64 0, .int .i64 0, .int .i64 0, .int .u8 0], .int .i64 962409600] W fun e w' => e = .returned (.int .i64 5) ∧ Below W.heap.size W w') := fun W hb => calls_int (saved_any L16.s _ _ _ _ ⟨0, 1, 5, ⟨#[]⟩, ⟨#[]⟩, false, ⟨0, 0, 0, 0, 0, 0, 0⟩⟩ 962409600 W ((L16.r w).call hb) (Eg.rules_ok2 L16.well (by decide)) (hWW W hb).1 (by decide)) L16.saved2
  have HU := Lib.hid (L16.at0 w)
  have HS := Lib.hid (L16.at2 w)
  have HE := Lib.hid (L16.at3 w)
  have HZ := Lib.hid (L16.at4 w)
  have HB := Lib.hid (L16.below w)
  clear hW hA hWW
  go_enter Tryz.func10, Tryz.ntmps10
  go_wp2_with fail
  refine (HE0.out _ (Below.refl _ _)).mono ?_
  rintro e w1 ⟨hb1, v1, rfl, ho1⟩
  obtain ⟨vA, vc, rfl, _⟩ := own_slice ho1
  have HB1 := Lib.hid hb1
  have HR1 := Lib.hid (Reads.of_own ho1)
  obtain ⟨a0, a1, a2, _⟩ := (HS.out.call hb1).three
  have z := (HS.out.call hb1).lt
  clear hb1 ho1
  go_wp2_with fail
  refine (HE1.out _ HB1.out).mono ?_
  rintro e w2 ⟨hb2, rfl⟩
  have HB2 := Lib.hid (below_then HB1.out hb2)
  have HR2 := Lib.hid ((HR1.out.below hb2).more hb2.size)
  clear hb2 a0 a1 a2 z
  go_wp2_with fail
  refine (HE3.out _ HB2.out).mono ?_
  rintro e w3 ⟨hb3, rfl⟩
  have HB3 := Lib.hid (below_then HB2.out hb3)
  have HR3 := Lib.hid ((HR2.out.below hb3).more hb3.size)
  have u2 := (HU.out.call HB3.out).cell 2 _ rfl
  have u3 := (HU.out.call HB3.out).cell 3 _ rfl
  have u4 := (HU.out.call HB3.out).cell 4 _ rfl
  have u5 := (HU.out.call HB3.out).cell 5 _ rfl
  have u6 := (HU.out.call HB3.out).cell 6 _ rfl
  have z := (HU.out.call HB3.out).lt
  clear hb3
  go_wp2_with fail
  refine (HNm.out _ HB3.out).mono ?_
  rintro e WQ ⟨rfl, hb4⟩
  have HBq := Lib.hid (below_then HB3.out hb4)
  have HRq := Lib.hid ((HR3.out.below hb4).more hb4.size)
  clear hb4 u2 u3 u4 u5 u6 z HR1 HR2 HR3
  go_wp2_with fail
  refine Od.wp_region_inv 109 (by kernel_rfl) (by rfl) (by rfl) (Od.ord_of (by kernel_rfl)) (Od.dst_of (by kernel_rfl)) (Rg.J 59 R16.sl (R16.Q w.heap.size vA vc) WQ (Od.slots _)) (Rg.J.start _ _ _ ((Below.refl _ _).drew)) ?stepR ?finR
  case stepR =>
    intro i o hi b' a' wv hJ hb hdep hdf K hK
    obtain ⟨tm, df⟩ := a'
    simp only at hdf
    subst hdf
    have hiN : i < 59 := (Array.getElem?_eq_some_iff.1 hi).1
    have HBv := below_then HBq.out hJ.below
    have hsplit : i = 0 ∨ i = 1 ∨ i = 2 ∨ i = 3 ∨ i = 4 ∨ i = 5 ∨ i = 6 ∨ i = 7 ∨ i = 8 ∨ i = 9 ∨ i = 10 ∨ i = 11 ∨ i = 12 ∨ i = 13 ∨ i = 14 ∨ i = 15 ∨ i = 16 ∨ i = 17 ∨ i = 18 ∨ i = 19 ∨ i = 20 ∨ i = 21 ∨ i = 22 ∨ i = 23 ∨ i = 24 ∨ i = 25 ∨ i = 26 ∨ i = 27 ∨ i = 28 ∨ i = 29 ∨ i = 30 ∨ i = 31 ∨ i = 32 ∨ i = 33 ∨ i = 34 ∨ i = 35 ∨ i = 36 ∨ i = 37 ∨ i = 38 ∨ i = 39 ∨ i = 40 ∨ i = 41 ∨ i = 42 ∨ i = 43 ∨ i = 44 ∨ i = 45 ∨ i = 46 ∨ i = 47 ∨ i = 48 ∨ i = 49 ∨ i = 50 ∨ i = 51 ∨ i = 52 ∨ i = 53 ∨ i = 54 ∨ i = 55 ∨ i = 56 ∨ i = 57 ∨ i = 58 := by omega
    rcases hsplit with rfl | rfl | rfl | rfl | rfl | rfl | rfl | rfl | rfl | rfl | rfl | rfl | rfl | rfl | rfl | rfl | rfl | rfl | rfl | rfl | rfl | rfl | rfl | rfl | rfl | rfl | rfl | rfl | rfl | rfl | rfl | rfl | rfl | rfl | rfl | rfl | rfl | rfl | rfl | rfl | rfl | rfl | rfl | rfl | rfl | rfl | rfl | rfl | rfl | rfl | rfl | rfl | rfl | rfl | rfl | rfl | rfl | rfl | rfl
    · have e := Option.some.inj (show some _ = some o from hi)
      subst e
      rw [if_pos (show Region.wanted _ _ = true from rfl)]
      have h4 : tm.getD 4 undef = .int .i64 0 := (hJ.old 4 (R16.sl_no 4 (by decide))).trans rfl
      have h4' : tm[4]?.getD undef = .int .i64 0 := by rw [← Array.getD_eq_getD_getElem?]; exact h4
      go_simp
      exact hK _ _ (hJ.put R16.Q_mono R16.sl_inj (by decide) rfl)
    · have e := Option.some.inj (show some _ = some o from hi)
      subst e
      rw [if_pos (show Region.wanted _ _ = true from rfl)]
      have v0 : tm.getD 51 undef = .int .i64 0 := hJ.val 0 (by decide) (hdep ⟨0, .data⟩ (by simp) rfl)
      have v0' : tm[51]?.getD undef = .int .i64 0 := by rw [← Array.getD_eq_getD_getElem?]; exact v0
      go_simp
      exact hK _ _ (hJ.put R16.Q_mono R16.sl_inj (by decide) rfl)
    · have e := Option.some.inj (show some _ = some o from hi)
      subst e
      rw [if_pos (show Region.wanted _ _ = true from rfl)]
      have v1 : tm.getD 52 undef = .bool true := hJ.val 1 (by decide) (hdep ⟨1, .data⟩ (by simp) rfl)
      have v1' : tm[52]?.getD undef = .bool true := by rw [← Array.getD_eq_getD_getElem?]; exact v1
      go_simp
      exact hK _ _ (hJ.put R16.Q_mono R16.sl_inj (by decide) rfl)
    · have e := Option.some.inj (show some _ = some o from hi)
      subst e
      have hg : tm.getD 53 undef = .bool true := hJ.val 2 (by decide) (hdep ⟨2, .guard⟩ (by simp) rfl)
      rw [if_pos (Rg.want rfl rfl hg)]
      have h3 : tm.getD 3 undef = .slice vA 1 vc := (hJ.old 3 (R16.sl_no 3 (by decide))).trans rfl
      have h3' : tm[3]?.getD undef = .slice vA 1 vc := by rw [← Array.getD_eq_getD_getElem?]; exact h3
      go_simp
      exact hK _ _ (hJ.put R16.Q_mono R16.sl_inj (by decide) rfl)
    · have e := Option.some.inj (show some _ = some o from hi)
      subst e
      have hg : tm.getD 53 undef = .bool true := hJ.val 2 (by decide) (hdep ⟨2, .guard⟩ (by simp) rfl)
      rw [if_pos (Rg.want rfl rfl hg)]
      go_simp
      exact hK _ _ (hJ.step R16.Q_mono R16.sl_inj (by decide) ((Below.refl wv.heap.size wv).alloc (Nat.le_refl _) _) ⟨wv.heap.size, rfl, Lit.reads (Lit.newAt wv #[.int .i64 962398800] 2 _ rfl) rfl⟩)
    · have e := Option.some.inj (show some _ = some o from hi)
      subst e
      have hg : tm.getD 53 undef = .bool true := hJ.val 2 (by decide) (hdep ⟨2, .guard⟩ (by simp) rfl)
      rw [if_pos (Rg.want rfl rfl hg)]
      have v3 : tm.getD 54 undef = .slice vA 1 vc := hJ.val 3 (by decide) (hdep ⟨3, .data⟩ (by simp) rfl)
      have v3' : tm[54]?.getD undef = .slice vA 1 vc := by rw [← Array.getD_eq_getD_getElem?]; exact v3
      obtain ⟨g4, v4, hr4⟩ : ∃ g, tm.getD 55 undef = .slice (some ⟨g, 0, none⟩) 1 1 ∧ Reads wv wv.heap.size 1 (some ⟨g, 0, none⟩) 1 [.int .i64 962398800] := hJ.val 4 (by decide) (hdep ⟨4, .data⟩ (by simp) rfl)
      have v4' := (Array.getD_eq_getD_getElem? (xs := tm) (i := 55) (d := undef)).symm.trans v4
      have HC := Lib.hid (same16_any vA (some ⟨g4, 0, none⟩) 1 1 vc 1 [962398800] [962398800] wv (by decide) (by decide) rfl rfl ((HRq.out.below hJ.below).more hJ.below.size) hr4)
      clear hr4
      go_simp
      refine HC.out.mono ?_
      rintro e w' ⟨rfl, hd⟩
      exact hK _ _ (hJ.step R16.Q_mono R16.sl_inj (by decide) (hd.below _) (by show _ = _; rw [decide_eq_true rfl]))
    · have e := Option.some.inj (show some _ = some o from hi)
      subst e
      rw [if_pos (show Region.wanted _ _ = true from rfl)]
      have v2 : tm.getD 53 undef = .bool true := hJ.val 2 (by decide) (hdep ⟨2, .data⟩ (by simp) rfl)
      have v2' : tm[53]?.getD undef = .bool true := by rw [← Array.getD_eq_getD_getElem?]; exact v2
      have v5 : tm.getD 56 undef = .bool true := hJ.val 5 (by decide) (hdep ⟨5, .data⟩ (by simp) rfl)
      have v5' : tm[56]?.getD undef = .bool true := by rw [← Array.getD_eq_getD_getElem?]; exact v5
      go_simp
      exact hK _ _ (hJ.put R16.Q_mono R16.sl_inj (by decide) rfl)
    · have e := Option.some.inj (show some _ = some o from hi)
      subst e
      rw [if_pos (show Region.wanted _ _ = true from rfl)]
      have v6 : tm.getD 57 undef = .bool true := hJ.val 6 (by decide) (hdep ⟨6, .data⟩ (by simp) rfl)
      have v6' : tm[57]?.getD undef = .bool true := by rw [← Array.getD_eq_getD_getElem?]; exact v6
      go_simp
      exact hK _ _ (hJ.put R16.Q_mono R16.sl_inj (by decide) rfl)
    · have e := Option.some.inj (show some _ = some o from hi)
      subst e
      have hg : tm.getD 58 undef = .bool true := hJ.val 7 (by decide) (hdep ⟨7, .guard⟩ (by simp) rfl)
      rw [if_pos (Rg.want rfl rfl hg)]
      have h6 : tm.getD 6 undef = .int .i64 3 := (hJ.old 6 (R16.sl_no 6 (by decide))).trans rfl
      have h6' : tm[6]?.getD undef = .int .i64 3 := by rw [← Array.getD_eq_getD_getElem?]; exact h6
      go_simp
      exact hK _ _ (hJ.put R16.Q_mono R16.sl_inj (by decide) rfl)
    · have e := Option.some.inj (show some _ = some o from hi)
      subst e
      have hg : tm.getD 58 undef = .bool true := hJ.val 7 (by decide) (hdep ⟨7, .guard⟩ (by simp) rfl)
      rw [if_pos (Rg.want rfl rfl hg)]
      have v8 : tm.getD 59 undef = .int .i64 3 := hJ.val 8 (by decide) (hdep ⟨8, .data⟩ (by simp) rfl)
      have v8' : tm[59]?.getD undef = .int .i64 3 := by rw [← Array.getD_eq_getD_getElem?]; exact v8
      go_simp
      exact hK _ _ (hJ.put R16.Q_mono R16.sl_inj (by decide) rfl)
    · have e := Option.some.inj (show some _ = some o from hi)
      subst e
      rw [if_pos (show Region.wanted _ _ = true from rfl)]
      have v7 : tm.getD 58 undef = .bool true := hJ.val 7 (by decide) (hdep ⟨7, .data⟩ (by simp) rfl)
      have v7' : tm[58]?.getD undef = .bool true := by rw [← Array.getD_eq_getD_getElem?]; exact v7
      have v9 : tm.getD 60 undef = .bool true := hJ.val 9 (by decide) (hdep ⟨9, .data⟩ (by simp) rfl)
      have v9' : tm[60]?.getD undef = .bool true := by rw [← Array.getD_eq_getD_getElem?]; exact v9
      go_simp
      exact hK _ _ (hJ.put R16.Q_mono R16.sl_inj (by decide) rfl)
    · have e := Option.some.inj (show some _ = some o from hi)
      subst e
      rw [if_pos (show Region.wanted _ _ = true from rfl)]
      have v10 : tm.getD 61 undef = .bool true := hJ.val 10 (by decide) (hdep ⟨10, .data⟩ (by simp) rfl)
      have v10' : tm[61]?.getD undef = .bool true := by rw [← Array.getD_eq_getD_getElem?]; exact v10
      go_simp
      exact hK _ _ (hJ.put R16.Q_mono R16.sl_inj (by decide) rfl)
    · have e := Option.some.inj (show some _ = some o from hi)
      subst e
      have hg : tm.getD 62 undef = .bool true := hJ.val 11 (by decide) (hdep ⟨11, .guard⟩ (by simp) rfl)
      rw [if_pos (Rg.want rfl rfl hg)]
      have h8 : tm.getD 8 undef = .int .i64 2 := (hJ.old 8 (R16.sl_no 8 (by decide))).trans rfl
      have h8' : tm[8]?.getD undef = .int .i64 2 := by rw [← Array.getD_eq_getD_getElem?]; exact h8
      go_simp
      exact hK _ _ (hJ.put R16.Q_mono R16.sl_inj (by decide) rfl)
    · have e := Option.some.inj (show some _ = some o from hi)
      subst e
      have hg : tm.getD 62 undef = .bool true := hJ.val 11 (by decide) (hdep ⟨11, .guard⟩ (by simp) rfl)
      rw [if_pos (Rg.want rfl rfl hg)]
      have v12 : tm.getD 63 undef = .int .i64 2 := hJ.val 12 (by decide) (hdep ⟨12, .data⟩ (by simp) rfl)
      have v12' : tm[63]?.getD undef = .int .i64 2 := by rw [← Array.getD_eq_getD_getElem?]; exact v12
      go_simp
      exact hK _ _ (hJ.put R16.Q_mono R16.sl_inj (by decide) rfl)
    · have e := Option.some.inj (show some _ = some o from hi)
      subst e
      rw [if_pos (show Region.wanted _ _ = true from rfl)]
      have v11 : tm.getD 62 undef = .bool true := hJ.val 11 (by decide) (hdep ⟨11, .data⟩ (by simp) rfl)
      have v11' : tm[62]?.getD undef = .bool true := by rw [← Array.getD_eq_getD_getElem?]; exact v11
      have v13 : tm.getD 64 undef = .bool true := hJ.val 13 (by decide) (hdep ⟨13, .data⟩ (by simp) rfl)
      have v13' : tm[64]?.getD undef = .bool true := by rw [← Array.getD_eq_getD_getElem?]; exact v13
      go_simp
      exact hK _ _ (hJ.put R16.Q_mono R16.sl_inj (by decide) rfl)
    · have e := Option.some.inj (show some _ = some o from hi)
      subst e
      rw [if_pos (show Region.wanted _ _ = true from rfl)]
      have v14 : tm.getD 65 undef = .bool true := hJ.val 14 (by decide) (hdep ⟨14, .data⟩ (by simp) rfl)
      have v14' : tm[65]?.getD undef = .bool true := by rw [← Array.getD_eq_getD_getElem?]; exact v14
      go_simp
      exact hK _ _ (hJ.put R16.Q_mono R16.sl_inj (by decide) rfl)
    · have e := Option.some.inj (show some _ = some o from hi)
      subst e
      have hg : tm.getD 66 undef = .bool true := hJ.val 15 (by decide) (hdep ⟨15, .guard⟩ (by simp) rfl)
      rw [if_pos (Rg.want rfl rfl hg)]
      have h9 : tm.getD 9 undef = .int .i64 962409600 := (hJ.old 9 (R16.sl_no 9 (by decide))).trans rfl
      have h9' : tm[9]?.getD undef = .int .i64 962409600 := by rw [← Array.getD_eq_getD_getElem?]; exact h9
      go_simp
      exact hK _ _ (hJ.put R16.Q_mono R16.sl_inj (by decide) rfl)
    · have e := Option.some.inj (show some _ = some o from hi)
      subst e
      have hg : tm.getD 66 undef = .bool true := hJ.val 15 (by decide) (hdep ⟨15, .guard⟩ (by simp) rfl)
      rw [if_pos (Rg.want rfl rfl hg)]
      have v16 : tm.getD 67 undef = .int .i64 962409600 := hJ.val 16 (by decide) (hdep ⟨16, .data⟩ (by simp) rfl)
      have v16' : tm[67]?.getD undef = .int .i64 962409600 := by rw [← Array.getD_eq_getD_getElem?]; exact v16
      go_simp
      exact hK _ _ (hJ.put R16.Q_mono R16.sl_inj (by decide) rfl)
    · have e := Option.some.inj (show some _ = some o from hi)
      subst e
      rw [if_pos (show Region.wanted _ _ = true from rfl)]
      have v15 : tm.getD 66 undef = .bool true := hJ.val 15 (by decide) (hdep ⟨15, .data⟩ (by simp) rfl)
      have v15' : tm[66]?.getD undef = .bool true := by rw [← Array.getD_eq_getD_getElem?]; exact v15
      have v17 : tm.getD 68 undef = .bool true := hJ.val 17 (by decide) (hdep ⟨17, .data⟩ (by simp) rfl)
      have v17' : tm[68]?.getD undef = .bool true := by rw [← Array.getD_eq_getD_getElem?]; exact v17
      go_simp
      exact hK _ _ (hJ.put R16.Q_mono R16.sl_inj (by decide) rfl)
    · have e := Option.some.inj (show some _ = some o from hi)
      subst e
      rw [if_pos (show Region.wanted _ _ = true from rfl)]
      have v18 : tm.getD 69 undef = .bool true := hJ.val 18 (by decide) (hdep ⟨18, .data⟩ (by simp) rfl)
      have v18' : tm[69]?.getD undef = .bool true := by rw [← Array.getD_eq_getD_getElem?]; exact v18
      go_simp
      exact hK _ _ (hJ.put R16.Q_mono R16.sl_inj (by decide) rfl)
    · have e := Option.some.inj (show some _ = some o from hi)
      subst e
      have hg : tm.getD 70 undef = .bool true := hJ.val 19 (by decide) (hdep ⟨19, .guard⟩ (by simp) rfl)
      rw [if_pos (Rg.want rfl rfl hg)]
      have h10 : tm.getD 10 undef = .int .i64 0 := (hJ.old 10 (R16.sl_no 10 (by decide))).trans rfl
      have h10' : tm[10]?.getD undef = .int .i64 0 := by rw [← Array.getD_eq_getD_getElem?]; exact h10
      go_simp
      exact hK _ _ (hJ.put R16.Q_mono R16.sl_inj (by decide) rfl)
    · have e := Option.some.inj (show some _ = some o from hi)
      subst e
      have hg : tm.getD 70 undef = .bool true := hJ.val 19 (by decide) (hdep ⟨19, .guard⟩ (by simp) rfl)
      rw [if_pos (Rg.want rfl rfl hg)]
      have v20 : tm.getD 71 undef = .int .i64 0 := hJ.val 20 (by decide) (hdep ⟨20, .data⟩ (by simp) rfl)
      have v20' : tm[71]?.getD undef = .int .i64 0 := by rw [← Array.getD_eq_getD_getElem?]; exact v20
      go_simp
      exact hK _ _ (hJ.put R16.Q_mono R16.sl_inj (by decide) rfl)
    · have e := Option.some.inj (show some _ = some o from hi)
      subst e
      rw [if_pos (show Region.wanted _ _ = true from rfl)]
      have v19 : tm.getD 70 undef = .bool true := hJ.val 19 (by decide) (hdep ⟨19, .data⟩ (by simp) rfl)
      have v19' : tm[70]?.getD undef = .bool true := by rw [← Array.getD_eq_getD_getElem?]; exact v19
      have v21 : tm.getD 72 undef = .bool true := hJ.val 21 (by decide) (hdep ⟨21, .data⟩ (by simp) rfl)
      have v21' : tm[72]?.getD undef = .bool true := by rw [← Array.getD_eq_getD_getElem?]; exact v21
      go_simp
      exact hK _ _ (hJ.put R16.Q_mono R16.sl_inj (by decide) rfl)
    · have e := Option.some.inj (show some _ = some o from hi)
      subst e
      rw [if_pos (show Region.wanted _ _ = true from rfl)]
      have v22 : tm.getD 73 undef = .bool true := hJ.val 22 (by decide) (hdep ⟨22, .data⟩ (by simp) rfl)
      have v22' : tm[73]?.getD undef = .bool true := by rw [← Array.getD_eq_getD_getElem?]; exact v22
      go_simp
      exact hK _ _ (hJ.put R16.Q_mono R16.sl_inj (by decide) rfl)
    · have e := Option.some.inj (show some _ = some o from hi)
      subst e
      have hg : tm.getD 74 undef = .bool true := hJ.val 23 (by decide) (hdep ⟨23, .guard⟩ (by simp) rfl)
      rw [if_pos (Rg.want rfl rfl hg)]
      have h2 : tm.getD 2 undef = .pointer (some ⟨w.heap.size + 1 + 1, 0, none⟩) := (hJ.old 2 (R16.sl_no 2 (by decide))).trans rfl
      have h2' : tm[2]?.getD undef = .pointer (some ⟨w.heap.size + 1 + 1, 0, none⟩) := by rw [← Array.getD_eq_getD_getElem?]; exact h2
      obtain ⟨c0, c1, c2, _⟩ := (HS.out.call HBv).three
      have z := (HS.out.call HBv).lt
      go_simp
      exact hK _ _ (hJ.put R16.Q_mono R16.sl_inj (by decide) rfl)
    · have e := Option.some.inj (show some _ = some o from hi)
      subst e
      have hg : tm.getD 74 undef = .bool true := hJ.val 23 (by decide) (hdep ⟨23, .guard⟩ (by simp) rfl)
      rw [if_pos (Rg.want rfl rfl hg)]
      have h2 : tm.getD 2 undef = .pointer (some ⟨w.heap.size + 1 + 1, 0, none⟩) := (hJ.old 2 (R16.sl_no 2 (by decide))).trans rfl
      have h2' : tm[2]?.getD undef = .pointer (some ⟨w.heap.size + 1 + 1, 0, none⟩) := by rw [← Array.getD_eq_getD_getElem?]; exact h2
      go_simp
      exact hK _ _ (hJ.put R16.Q_mono R16.sl_inj (by decide) rfl)
    · have e := Option.some.inj (show some _ = some o from hi)
      subst e
      have hg : tm.getD 74 undef = .bool true := hJ.val 23 (by decide) (hdep ⟨23, .guard⟩ (by simp) rfl)
      rw [if_pos (Rg.want rfl rfl hg)]
      have v25 : tm.getD 76 undef = .pointer (some ⟨w.heap.size + 1 + 1, 1, none⟩) := hJ.val 25 (by decide) (hdep ⟨25, .data⟩ (by simp) rfl)
      have v25' : tm[76]?.getD undef = .pointer (some ⟨w.heap.size + 1 + 1, 1, none⟩) := by rw [← Array.getD_eq_getD_getElem?]; exact v25
      obtain ⟨c0, c1, c2, _⟩ := (HS.out.call HBv).three
      have z := (HS.out.call HBv).lt
      go_simp
      exact hK _ _ (hJ.put R16.Q_mono R16.sl_inj (by decide) rfl)
    · have e := Option.some.inj (show some _ = some o from hi)
      subst e
      have hg : tm.getD 74 undef = .bool true := hJ.val 23 (by decide) (hdep ⟨23, .guard⟩ (by simp) rfl)
      rw [if_pos (Rg.want rfl rfl hg)]
      have v26 : tm.getD 77 undef = .slice (some ⟨w.heap.size + 1 + 1 + 1 + 1, 0, none⟩) 1 1 := hJ.val 26 (by decide) (hdep ⟨26, .data⟩ (by simp) rfl)
      have v26' : tm[77]?.getD undef = .slice (some ⟨w.heap.size + 1 + 1 + 1 + 1, 0, none⟩) 1 1 := by rw [← Array.getD_eq_getD_getElem?]; exact v26
      go_simp
      exact hK _ _ (hJ.put R16.Q_mono R16.sl_inj (by decide) rfl)
    · have e := Option.some.inj (show some _ = some o from hi)
      subst e
      have hg : tm.getD 74 undef = .bool true := hJ.val 23 (by decide) (hdep ⟨23, .guard⟩ (by simp) rfl)
      rw [if_pos (Rg.want rfl rfl hg)]
      have v27 : tm.getD 78 undef = .pointer (some ⟨w.heap.size + 1 + 1 + 1 + 1, 0, none⟩) := hJ.val 27 (by decide) (hdep ⟨27, .data⟩ (by simp) rfl)
      have v27' : tm[78]?.getD undef = .pointer (some ⟨w.heap.size + 1 + 1 + 1 + 1, 0, none⟩) := by rw [← Array.getD_eq_getD_getElem?]; exact v27
      go_simp
      exact hK _ _ (hJ.put R16.Q_mono R16.sl_inj (by decide) rfl)
    · have e := Option.some.inj (show some _ = some o from hi)
      subst e
      have hg : tm.getD 74 undef = .bool true := hJ.val 23 (by decide) (hdep ⟨23, .guard⟩ (by simp) rfl)
      rw [if_pos (Rg.want rfl rfl hg)]
      have v28 : tm.getD 79 undef = .pointer (some ⟨w.heap.size + 1 + 1 + 1 + 1, 1, none⟩) := hJ.val 28 (by decide) (hdep ⟨28, .data⟩ (by simp) rfl)
      have v28' : tm[79]?.getD undef = .pointer (some ⟨w.heap.size + 1 + 1 + 1 + 1, 1, none⟩) := by rw [← Array.getD_eq_getD_getElem?]; exact v28
      have c1 := (HZ.out.call HBv).cell 1 _ rfl
      have z := (HZ.out.call HBv).lt
      go_simp
      exact hK _ _ (hJ.put R16.Q_mono R16.sl_inj (by decide) rfl)
    · have e := Option.some.inj (show some _ = some o from hi)
      subst e
      have hg : tm.getD 74 undef = .bool true := hJ.val 23 (by decide) (hdep ⟨23, .guard⟩ (by simp) rfl)
      rw [if_pos (Rg.want rfl rfl hg)]
      have v29 : tm.getD 80 undef = .slice (some ⟨w.heap.size + 1 + 1 + 1, 0, none⟩) 2 2 := hJ.val 29 (by decide) (hdep ⟨29, .data⟩ (by simp) rfl)
      have v29' : tm[80]?.getD undef = .slice (some ⟨w.heap.size + 1 + 1 + 1, 0, none⟩) 2 2 := by rw [← Array.getD_eq_getD_getElem?]; exact v29
      go_simp
      exact hK _ _ (hJ.put R16.Q_mono R16.sl_inj (by decide) rfl)
    · have e := Option.some.inj (show some _ = some o from hi)
      subst e
      have hg : tm.getD 74 undef = .bool true := hJ.val 23 (by decide) (hdep ⟨23, .guard⟩ (by simp) rfl)
      rw [if_pos (Rg.want rfl rfl hg)]
      have v30 : tm.getD 81 undef = .pointer (some ⟨w.heap.size + 1 + 1 + 1, 0, none⟩) := hJ.val 30 (by decide) (hdep ⟨30, .data⟩ (by simp) rfl)
      have v30' : tm[81]?.getD undef = .pointer (some ⟨w.heap.size + 1 + 1 + 1, 0, none⟩) := by rw [← Array.getD_eq_getD_getElem?]; exact v30
      have c0 := (HE.out.call HBv).cell 0 _ rfl
      have c1 := (HE.out.call HBv).cell 1 _ rfl
      have c2 := (HE.out.call HBv).cell 2 _ rfl
      have c3 := (HE.out.call HBv).cell 3 _ rfl
      have c4 := (HE.out.call HBv).cell 4 _ rfl
      have c5 := (HE.out.call HBv).cell 5 _ rfl
      have c6 := (HE.out.call HBv).cell 6 _ rfl
      have c7 := (HE.out.call HBv).cell 7 _ rfl
      have c8 := (HE.out.call HBv).cell 8 _ rfl
      have c9 := (HE.out.call HBv).cell 9 _ rfl
      have c10 := (HE.out.call HBv).cell 10 _ rfl
      have c11 := (HE.out.call HBv).cell 11 _ rfl
      have c12 := (HE.out.call HBv).cell 12 _ rfl
      have z := (HE.out.call HBv).lt
      go_simp
      exact hK _ _ (hJ.put R16.Q_mono R16.sl_inj (by decide) rfl)
    · have e := Option.some.inj (show some _ = some o from hi)
      subst e
      have hg : tm.getD 74 undef = .bool true := hJ.val 23 (by decide) (hdep ⟨23, .guard⟩ (by simp) rfl)
      rw [if_pos (Rg.want rfl rfl hg)]
      have h9 : tm.getD 9 undef = .int .i64 962409600 := (hJ.old 9 (R16.sl_no 9 (by decide))).trans rfl
      have h9' : tm[9]?.getD undef = .int .i64 962409600 := by rw [← Array.getD_eq_getD_getElem?]; exact h9
      go_simp
      exact hK _ _ (hJ.put R16.Q_mono R16.sl_inj (by decide) rfl)
    · have e := Option.some.inj (show some _ = some o from hi)
      subst e
      have hg : tm.getD 74 undef = .bool true := hJ.val 23 (by decide) (hdep ⟨23, .guard⟩ (by simp) rfl)
      rw [if_pos (Rg.want rfl rfl hg)]
      have v24 : tm.getD 75 undef = .agg #[.slice (some ⟨w.heap.size + 1, 0, none⟩) 2 2, .slice (some ⟨w.heap.size + 1 + 1 + 1 + 1, 0, none⟩) 1 1, .slice none 0 0] := hJ.val 24 (by decide) (hdep ⟨24, .data⟩ (by simp) rfl)
      have v24' : tm[75]?.getD undef = .agg #[.slice (some ⟨w.heap.size + 1, 0, none⟩) 2 2, .slice (some ⟨w.heap.size + 1 + 1 + 1 + 1, 0, none⟩) 1 1, .slice none 0 0] := by rw [← Array.getD_eq_getD_getElem?]; exact v24
      have v31 : tm.getD 82 undef = .agg #[.int .i64 7200, .int .u8 2, .int .i64 0, .string ⟨#[69]⟩, .string ⟨#[120]⟩, .bool true, .int .i64 2000, .int .i64 7, .int .u8 0, .int .i64 1, .int .i64 0, .int .i64 0, .int .u8 0] := hJ.val 31 (by decide) (hdep ⟨31, .data⟩ (by simp) rfl)
      have v31' : tm[82]?.getD undef = .agg #[.int .i64 7200, .int .u8 2, .int .i64 0, .string ⟨#[69]⟩, .string ⟨#[120]⟩, .bool true, .int .i64 2000, .int .i64 7, .int .u8 0, .int .i64 1, .int .i64 0, .int .i64 0, .int .u8 0] := by rw [← Array.getD_eq_getD_getElem?]; exact v31
      have v32 : tm.getD 83 undef = .int .i64 962409600 := hJ.val 32 (by decide) (hdep ⟨32, .data⟩ (by simp) rfl)
      have v32' : tm[83]?.getD undef = .int .i64 962409600 := by rw [← Array.getD_eq_getD_getElem?]; exact v32
      go_simp
      refine (HS2.out wv HBv).mono ?_
      rintro e w' ⟨rfl, hbm⟩
      exact hK _ _ (hJ.step R16.Q_mono R16.sl_inj (by decide) hbm rfl)
    · have e := Option.some.inj (show some _ = some o from hi)
      subst e
      have hg : tm.getD 74 undef = .bool true := hJ.val 23 (by decide) (hdep ⟨23, .guard⟩ (by simp) rfl)
      rw [if_pos (Rg.want rfl rfl hg)]
      have v33 : tm.getD 84 undef = .int .i64 3600 := hJ.val 33 (by decide) (hdep ⟨33, .data⟩ (by simp) rfl)
      have v33' : tm[84]?.getD undef = .int .i64 3600 := by rw [← Array.getD_eq_getD_getElem?]; exact v33
      go_simp
      exact hK _ _ (hJ.put R16.Q_mono R16.sl_inj (by decide) rfl)
    · have e := Option.some.inj (show some _ = some o from hi)
      subst e
      rw [if_pos (show Region.wanted _ _ = true from rfl)]
      have v23 : tm.getD 74 undef = .bool true := hJ.val 23 (by decide) (hdep ⟨23, .data⟩ (by simp) rfl)
      have v23' : tm[74]?.getD undef = .bool true := by rw [← Array.getD_eq_getD_getElem?]; exact v23
      have v34 : tm.getD 85 undef = .bool true := hJ.val 34 (by decide) (hdep ⟨34, .data⟩ (by simp) rfl)
      have v34' : tm[85]?.getD undef = .bool true := by rw [← Array.getD_eq_getD_getElem?]; exact v34
      go_simp
      exact hK _ _ (hJ.put R16.Q_mono R16.sl_inj (by decide) rfl)
    · have e := Option.some.inj (show some _ = some o from hi)
      subst e
      rw [if_pos (show Region.wanted _ _ = true from rfl)]
      have v35 : tm.getD 86 undef = .bool true := hJ.val 35 (by decide) (hdep ⟨35, .data⟩ (by simp) rfl)
      have v35' : tm[86]?.getD undef = .bool true := by rw [← Array.getD_eq_getD_getElem?]; exact v35
      go_simp
      exact hK _ _ (hJ.put R16.Q_mono R16.sl_inj (by decide) rfl)
    · have e := Option.some.inj (show some _ = some o from hi)
      subst e
      have hg : tm.getD 87 undef = .bool true := hJ.val 36 (by decide) (hdep ⟨36, .guard⟩ (by simp) rfl)
      rw [if_pos (Rg.want rfl rfl hg)]
      have h2 : tm.getD 2 undef = .pointer (some ⟨w.heap.size + 1 + 1, 0, none⟩) := (hJ.old 2 (R16.sl_no 2 (by decide))).trans rfl
      have h2' : tm[2]?.getD undef = .pointer (some ⟨w.heap.size + 1 + 1, 0, none⟩) := by rw [← Array.getD_eq_getD_getElem?]; exact h2
      obtain ⟨c0, c1, c2, _⟩ := (HS.out.call HBv).three
      have z := (HS.out.call HBv).lt
      go_simp
      exact hK _ _ (hJ.put R16.Q_mono R16.sl_inj (by decide) rfl)
    · have e := Option.some.inj (show some _ = some o from hi)
      subst e
      have hg : tm.getD 87 undef = .bool true := hJ.val 36 (by decide) (hdep ⟨36, .guard⟩ (by simp) rfl)
      rw [if_pos (Rg.want rfl rfl hg)]
      go_simp
      exact hK _ _ (hJ.put R16.Q_mono R16.sl_inj (by decide) rfl)
    · have e := Option.some.inj (show some _ = some o from hi)
      subst e
      have hg : tm.getD 87 undef = .bool true := hJ.val 36 (by decide) (hdep ⟨36, .guard⟩ (by simp) rfl)
      rw [if_pos (Rg.want rfl rfl hg)]
      have h9 : tm.getD 9 undef = .int .i64 962409600 := (hJ.old 9 (R16.sl_no 9 (by decide))).trans rfl
      have h9' : tm[9]?.getD undef = .int .i64 962409600 := by rw [← Array.getD_eq_getD_getElem?]; exact h9
      go_simp
      exact hK _ _ (hJ.put R16.Q_mono R16.sl_inj (by decide) rfl)
    · have e := Option.some.inj (show some _ = some o from hi)
      subst e
      have hg : tm.getD 87 undef = .bool true := hJ.val 36 (by decide) (hdep ⟨36, .guard⟩ (by simp) rfl)
      rw [if_pos (Rg.want rfl rfl hg)]
      have v37 : tm.getD 88 undef = .agg #[.slice (some ⟨w.heap.size + 1, 0, none⟩) 2 2, .slice (some ⟨w.heap.size + 1 + 1 + 1 + 1, 0, none⟩) 1 1, .slice none 0 0] := hJ.val 37 (by decide) (hdep ⟨37, .data⟩ (by simp) rfl)
      have v37' : tm[88]?.getD undef = .agg #[.slice (some ⟨w.heap.size + 1, 0, none⟩) 2 2, .slice (some ⟨w.heap.size + 1 + 1 + 1 + 1, 0, none⟩) 1 1, .slice none 0 0] := by rw [← Array.getD_eq_getD_getElem?]; exact v37
      have v38 : tm.getD 89 undef = .agg #[.int .i64 0, .int .u8 1, .int .i64 5, .string ⟨#[]⟩, .string ⟨#[]⟩, .bool false, .int .i64 0, .int .i64 0, .int .u8 0, .int .i64 0, .int .i64 0, .int .i64 0, .int .u8 0] := hJ.val 38 (by decide) (hdep ⟨38, .data⟩ (by simp) rfl)
      have v38' : tm[89]?.getD undef = .agg #[.int .i64 0, .int .u8 1, .int .i64 5, .string ⟨#[]⟩, .string ⟨#[]⟩, .bool false, .int .i64 0, .int .i64 0, .int .u8 0, .int .i64 0, .int .i64 0, .int .i64 0, .int .u8 0] := by rw [← Array.getD_eq_getD_getElem?]; exact v38
      have v39 : tm.getD 90 undef = .int .i64 962409600 := hJ.val 39 (by decide) (hdep ⟨39, .data⟩ (by simp) rfl)
      have v39' : tm[90]?.getD undef = .int .i64 962409600 := by rw [← Array.getD_eq_getD_getElem?]; exact v39
      go_simp
      refine (HS3.out wv HBv).mono ?_
      rintro e w' ⟨rfl, hbm⟩
      exact hK _ _ (hJ.step R16.Q_mono R16.sl_inj (by decide) hbm rfl)
    · have e := Option.some.inj (show some _ = some o from hi)
      subst e
      have hg : tm.getD 87 undef = .bool true := hJ.val 36 (by decide) (hdep ⟨36, .guard⟩ (by simp) rfl)
      rw [if_pos (Rg.want rfl rfl hg)]
      have v40 : tm.getD 91 undef = .int .i64 5 := hJ.val 40 (by decide) (hdep ⟨40, .data⟩ (by simp) rfl)
      have v40' : tm[91]?.getD undef = .int .i64 5 := by rw [← Array.getD_eq_getD_getElem?]; exact v40
      go_simp
      exact hK _ _ (hJ.put R16.Q_mono R16.sl_inj (by decide) rfl)
    · have e := Option.some.inj (show some _ = some o from hi)
      subst e
      rw [if_pos (show Region.wanted _ _ = true from rfl)]
      have v36 : tm.getD 87 undef = .bool true := hJ.val 36 (by decide) (hdep ⟨36, .data⟩ (by simp) rfl)
      have v36' : tm[87]?.getD undef = .bool true := by rw [← Array.getD_eq_getD_getElem?]; exact v36
      have v41 : tm.getD 92 undef = .bool true := hJ.val 41 (by decide) (hdep ⟨41, .data⟩ (by simp) rfl)
      have v41' : tm[92]?.getD undef = .bool true := by rw [← Array.getD_eq_getD_getElem?]; exact v41
      go_simp
      exact hK _ _ (hJ.put R16.Q_mono R16.sl_inj (by decide) rfl)
    · have e := Option.some.inj (show some _ = some o from hi)
      subst e
      rw [if_pos (show Region.wanted _ _ = true from rfl)]
      have v42 : tm.getD 93 undef = .bool true := hJ.val 42 (by decide) (hdep ⟨42, .data⟩ (by simp) rfl)
      have v42' : tm[93]?.getD undef = .bool true := by rw [← Array.getD_eq_getD_getElem?]; exact v42
      go_simp
      exact hK _ _ (hJ.put R16.Q_mono R16.sl_inj (by decide) rfl)
    · have e := Option.some.inj (show some _ = some o from hi)
      subst e
      have hg : tm.getD 94 undef = .bool true := hJ.val 43 (by decide) (hdep ⟨43, .guard⟩ (by simp) rfl)
      rw [if_pos (Rg.want rfl rfl hg)]
      go_simp
      exact hK _ _ (hJ.step R16.Q_mono R16.sl_inj (by decide) ((Below.refl wv.heap.size wv).alloc (Nat.le_refl _) _) ⟨wv.heap.size, rfl, Lit.reads (Lit.newAt wv #[.int .i64 5, .int .i64 9] 2 _ rfl) rfl⟩)
    · have e := Option.some.inj (show some _ = some o from hi)
      subst e
      have hg : tm.getD 94 undef = .bool true := hJ.val 43 (by decide) (hdep ⟨43, .guard⟩ (by simp) rfl)
      rw [if_pos (Rg.want rfl rfl hg)]
      obtain ⟨g44, v44, hr44⟩ : ∃ g, tm.getD 95 undef = .slice (some ⟨g, 0, none⟩) 2 2 ∧ Reads wv wv.heap.size 1 (some ⟨g, 0, none⟩) 2 [.int .i64 5, .int .i64 9] := hJ.val 44 (by decide) (hdep ⟨44, .data⟩ (by simp) rfl)
      have v44' := (Array.getD_eq_getD_getElem? (xs := tm) (i := 95) (d := undef)).symm.trans v44
      have HC := Lib.hid (calls_int (holds_any [5, 9] 5 (some ⟨g44, 0, none⟩) 2 2 wv rfl (by decide) hr44) (show ((Ln.hold [5, 9] 5 : Nat) : Int) = 1 by decide))
      clear hr44
      go_simp
      refine HC.out.mono ?_
      rintro e w' ⟨rfl, hbm⟩
      exact hK _ _ (hJ.step R16.Q_mono R16.sl_inj (by decide) hbm rfl)
    · have e := Option.some.inj (show some _ = some o from hi)
      subst e
      have hg : tm.getD 94 undef = .bool true := hJ.val 43 (by decide) (hdep ⟨43, .guard⟩ (by simp) rfl)
      rw [if_pos (Rg.want rfl rfl hg)]
      have v45 : tm.getD 96 undef = .int .i64 1 := hJ.val 45 (by decide) (hdep ⟨45, .data⟩ (by simp) rfl)
      have v45' : tm[96]?.getD undef = .int .i64 1 := by rw [← Array.getD_eq_getD_getElem?]; exact v45
      go_simp
      exact hK _ _ (hJ.put R16.Q_mono R16.sl_inj (by decide) rfl)
    · have e := Option.some.inj (show some _ = some o from hi)
      subst e
      rw [if_pos (show Region.wanted _ _ = true from rfl)]
      have v43 : tm.getD 94 undef = .bool true := hJ.val 43 (by decide) (hdep ⟨43, .data⟩ (by simp) rfl)
      have v43' : tm[94]?.getD undef = .bool true := by rw [← Array.getD_eq_getD_getElem?]; exact v43
      have v46 : tm.getD 97 undef = .bool true := hJ.val 46 (by decide) (hdep ⟨46, .data⟩ (by simp) rfl)
      have v46' : tm[97]?.getD undef = .bool true := by rw [← Array.getD_eq_getD_getElem?]; exact v46
      go_simp
      exact hK _ _ (hJ.put R16.Q_mono R16.sl_inj (by decide) rfl)
    · have e := Option.some.inj (show some _ = some o from hi)
      subst e
      rw [if_pos (show Region.wanted _ _ = true from rfl)]
      have v47 : tm.getD 98 undef = .bool true := hJ.val 47 (by decide) (hdep ⟨47, .data⟩ (by simp) rfl)
      have v47' : tm[98]?.getD undef = .bool true := by rw [← Array.getD_eq_getD_getElem?]; exact v47
      go_simp
      exact hK _ _ (hJ.put R16.Q_mono R16.sl_inj (by decide) rfl)
    · have e := Option.some.inj (show some _ = some o from hi)
      subst e
      have hg : tm.getD 99 undef = .bool true := hJ.val 48 (by decide) (hdep ⟨48, .guard⟩ (by simp) rfl)
      rw [if_pos (Rg.want rfl rfl hg)]
      go_simp
      exact hK _ _ (hJ.step R16.Q_mono R16.sl_inj (by decide) ((Below.refl wv.heap.size wv).alloc (Nat.le_refl _) _) ⟨wv.heap.size, rfl, Lit.reads (Lit.newAt wv #[.int .i64 5, .int .i64 9] 2 _ rfl) rfl⟩)
    · have e := Option.some.inj (show some _ = some o from hi)
      subst e
      have hg : tm.getD 99 undef = .bool true := hJ.val 48 (by decide) (hdep ⟨48, .guard⟩ (by simp) rfl)
      rw [if_pos (Rg.want rfl rfl hg)]
      obtain ⟨g49, v49, hr49⟩ : ∃ g, tm.getD 100 undef = .slice (some ⟨g, 0, none⟩) 2 2 ∧ Reads wv wv.heap.size 1 (some ⟨g, 0, none⟩) 2 [.int .i64 5, .int .i64 9] := hJ.val 49 (by decide) (hdep ⟨49, .data⟩ (by simp) rfl)
      have v49' := (Array.getD_eq_getD_getElem? (xs := tm) (i := 100) (d := undef)).symm.trans v49
      have HC := Lib.hid (calls_int (holds_any [5, 9] 4 (some ⟨g49, 0, none⟩) 2 2 wv rfl (by decide) hr49) (show ((Ln.hold [5, 9] 4 : Nat) : Int) = 0 by decide))
      clear hr49
      go_simp
      refine HC.out.mono ?_
      rintro e w' ⟨rfl, hbm⟩
      exact hK _ _ (hJ.step R16.Q_mono R16.sl_inj (by decide) hbm rfl)
    · have e := Option.some.inj (show some _ = some o from hi)
      subst e
      have hg : tm.getD 99 undef = .bool true := hJ.val 48 (by decide) (hdep ⟨48, .guard⟩ (by simp) rfl)
      rw [if_pos (Rg.want rfl rfl hg)]
      have v50 : tm.getD 101 undef = .int .i64 0 := hJ.val 50 (by decide) (hdep ⟨50, .data⟩ (by simp) rfl)
      have v50' : tm[101]?.getD undef = .int .i64 0 := by rw [← Array.getD_eq_getD_getElem?]; exact v50
      go_simp
      exact hK _ _ (hJ.put R16.Q_mono R16.sl_inj (by decide) rfl)
    · have e := Option.some.inj (show some _ = some o from hi)
      subst e
      rw [if_pos (show Region.wanted _ _ = true from rfl)]
      have v48 : tm.getD 99 undef = .bool true := hJ.val 48 (by decide) (hdep ⟨48, .data⟩ (by simp) rfl)
      have v48' : tm[99]?.getD undef = .bool true := by rw [← Array.getD_eq_getD_getElem?]; exact v48
      have v51 : tm.getD 102 undef = .bool true := hJ.val 51 (by decide) (hdep ⟨51, .data⟩ (by simp) rfl)
      have v51' : tm[102]?.getD undef = .bool true := by rw [← Array.getD_eq_getD_getElem?]; exact v51
      go_simp
      exact hK _ _ (hJ.put R16.Q_mono R16.sl_inj (by decide) rfl)
    · have e := Option.some.inj (show some _ = some o from hi)
      subst e
      rw [if_pos (show Region.wanted _ _ = true from rfl)]
      have v52 : tm.getD 103 undef = .bool true := hJ.val 52 (by decide) (hdep ⟨52, .data⟩ (by simp) rfl)
      have v52' : tm[103]?.getD undef = .bool true := by rw [← Array.getD_eq_getD_getElem?]; exact v52
      go_simp
      exact hK _ _ (hJ.put R16.Q_mono R16.sl_inj (by decide) rfl)
    · have e := Option.some.inj (show some _ = some o from hi)
      subst e
      have hg : tm.getD 104 undef = .bool true := hJ.val 53 (by decide) (hdep ⟨53, .guard⟩ (by simp) rfl)
      rw [if_pos (Rg.want rfl rfl hg)]
      go_simp
      exact hK _ _ (hJ.step R16.Q_mono R16.sl_inj (by decide) ((Below.refl wv.heap.size wv).alloc (Nat.le_refl _) _) ⟨wv.heap.size, rfl, Lit.reads (Lit.newAt wv #[.int .i64 5, .int .i64 9] 2 _ rfl) rfl⟩)
    · have e := Option.some.inj (show some _ = some o from hi)
      subst e
      have hg : tm.getD 104 undef = .bool true := hJ.val 53 (by decide) (hdep ⟨53, .guard⟩ (by simp) rfl)
      rw [if_pos (Rg.want rfl rfl hg)]
      obtain ⟨g54, v54, hr54⟩ : ∃ g, tm.getD 105 undef = .slice (some ⟨g, 0, none⟩) 2 2 ∧ Reads wv wv.heap.size 1 (some ⟨g, 0, none⟩) 2 [.int .i64 5, .int .i64 9] := hJ.val 54 (by decide) (hdep ⟨54, .data⟩ (by simp) rfl)
      have v54' := (Array.getD_eq_getD_getElem? (xs := tm) (i := 105) (d := undef)).symm.trans v54
      have HC := Lib.hid (calls_int (holds_any [5, 9] 9 (some ⟨g54, 0, none⟩) 2 2 wv rfl (by decide) hr54) (show ((Ln.hold [5, 9] 9 : Nat) : Int) = 2 by decide))
      clear hr54
      go_simp
      refine HC.out.mono ?_
      rintro e w' ⟨rfl, hbm⟩
      exact hK _ _ (hJ.step R16.Q_mono R16.sl_inj (by decide) hbm rfl)
    · have e := Option.some.inj (show some _ = some o from hi)
      subst e
      have hg : tm.getD 104 undef = .bool true := hJ.val 53 (by decide) (hdep ⟨53, .guard⟩ (by simp) rfl)
      rw [if_pos (Rg.want rfl rfl hg)]
      have v55 : tm.getD 106 undef = .int .i64 2 := hJ.val 55 (by decide) (hdep ⟨55, .data⟩ (by simp) rfl)
      have v55' : tm[106]?.getD undef = .int .i64 2 := by rw [← Array.getD_eq_getD_getElem?]; exact v55
      go_simp
      exact hK _ _ (hJ.put R16.Q_mono R16.sl_inj (by decide) rfl)
    · have e := Option.some.inj (show some _ = some o from hi)
      subst e
      rw [if_pos (show Region.wanted _ _ = true from rfl)]
      have v53 : tm.getD 104 undef = .bool true := hJ.val 53 (by decide) (hdep ⟨53, .data⟩ (by simp) rfl)
      have v53' : tm[104]?.getD undef = .bool true := by rw [← Array.getD_eq_getD_getElem?]; exact v53
      have v56 : tm.getD 107 undef = .bool true := hJ.val 56 (by decide) (hdep ⟨56, .data⟩ (by simp) rfl)
      have v56' : tm[107]?.getD undef = .bool true := by rw [← Array.getD_eq_getD_getElem?]; exact v56
      go_simp
      exact hK _ _ (hJ.put R16.Q_mono R16.sl_inj (by decide) rfl)
    · have e := Option.some.inj (show some _ = some o from hi)
      subst e
      rw [if_pos (show Region.wanted _ _ = true from rfl)]
      have v57 : tm.getD 108 undef = .bool true := hJ.val 57 (by decide) (hdep ⟨57, .data⟩ (by simp) rfl)
      have v57' : tm[108]?.getD undef = .bool true := by rw [← Array.getD_eq_getD_getElem?]; exact v57
      go_simp
      exact hK _ _ (hJ.put R16.Q_mono R16.sl_inj (by decide) rfl)
  case finR =>
    intro a' W9 hJ hN hdf
    have s0 : a'.tmps.getD 0 undef = .bool true := hJ.val 58 (by decide) (by rfl)
    have hb9 := hJ.below
    have ef : a' = { tmps := ((List.range 109).map fun i => a'.tmps.getD i undef).toArray, defers := [] } := Rg.frame_of 109 a' hN hdf
    obtain ⟨u, hu⟩ : ∃ u : Nat → Value, (fun i => a'.tmps.getD i undef) = u := ⟨_, rfl⟩
    rw [hu] at ef
    have e0 : u 0 = .bool true := by rw [← hu]; exact s0
    have ef2 : a' = { tmps := (u 0 :: u 1 :: u 2 :: u 3 :: u 4 :: u 5 :: u 6 :: u 7 :: u 8 :: u 9 :: u 10 :: u 11 :: u 12 :: u 13 :: u 14 :: u 15 :: u 16 :: u 17 :: u 18 :: u 19 :: u 20 :: u 21 :: u 22 :: u 23 :: u 24 :: u 25 :: u 26 :: u 27 :: u 28 :: u 29 :: u 30 :: u 31 :: u 32 :: u 33 :: u 34 :: u 35 :: u 36 :: u 37 :: u 38 :: u 39 :: u 40 :: u 41 :: u 42 :: u 43 :: u 44 :: u 45 :: u 46 :: u 47 :: u 48 :: u 49 :: u 50 :: u 51 :: u 52 :: u 53 :: u 54 :: u 55 :: u 56 :: u 57 :: u 58 :: u 59 :: u 60 :: u 61 :: u 62 :: u 63 :: u 64 :: u 65 :: u 66 :: u 67 :: u 68 :: u 69 :: u 70 :: u 71 :: u 72 :: u 73 :: u 74 :: u 75 :: u 76 :: u 77 :: u 78 :: u 79 :: u 80 :: u 81 :: u 82 :: u 83 :: u 84 :: u 85 :: u 86 :: u 87 :: u 88 :: u 89 :: u 90 :: u 91 :: u 92 :: u 93 :: u 94 :: u 95 :: u 96 :: u 97 :: u 98 :: u 99 :: u 100 :: u 101 :: u 102 :: u 103 :: u 104 :: u 105 :: u 106 :: u 107 :: u 108 :: [] : List Value).toArray, defers := [] } := ef
    rw [e0] at ef2
    rw [ef2]
    clear hJ hN hdf ef ef2 hu e0 s0
    have HB9 := Lib.hid (below_then HBq.out hb9)
    clear hb9
    go_wp2
    have HR9 := HP.out
    rw [← HR9]
    exact ⟨ret_bool rfl, HB.out.trans (HB9.out.mono HB.out.size)⟩
end Go.Proofs.YtdanbnolbaelhaaGreatDoor
