/- solsticelaw27.Europe: a source with a zone that saves an hour in summer; what atlas answers of it. -/
import Derived.Test.YtajcgoinhpengaaDoorP28
import Derived.Test.YtajcgoinhpengaaDoorP24

namespace Go.Proofs.YtajcgoinhpengaaDoor
open Go.RowKit

theorem At.reads {w : World} {g size n : Nat} {xs : List Value} (h : At w g xs) (hl : xs.length = n * size) : Reads w w.heap.size size (some ⟨g, 0, none⟩) n xs := by
  refine ⟨hl, fun _ => ⟨_, rfl, h.lt, fun j u hu => ?_⟩⟩
  have e : (⟨g, 0, none⟩ : Addr).add j = ⟨g, j, none⟩ := by
    unfold Addr.add
    split
    · subst_vars; rfl
    · simp
  rw [e]
  exact h.cell j u hu
theorem At.newAt (w : World) (cs : Array Value) (t : TypeId) (g : Nat) (hg : g = w.heap.size) : At (w.alloc (.cells cs t)) g cs.toList := by
  subst hg
  exact At.new w cs t
namespace Eu
def r1 : Ru.R := ⟨⟨#[69]⟩, 1996, 9999, 3, 1, 0, 0, 3600, 2, 3600, ⟨#[83]⟩⟩
def r2 : Ru.R := ⟨⟨#[69]⟩, 1996, 9999, 10, 1, 0, 0, 3600, 2, 0, ⟨#[]⟩⟩
def e1 : Er.E := ⟨3620, 0, 0, ⟨#[]⟩, ⟨#[120]⟩, true, ⟨1996, 1, 0, 1, 0, 0, 2⟩⟩
def e2 : Er.E := ⟨3600, 2, 0, ⟨#[69]⟩, ⟨#[67, 69, 37, 115, 84]⟩, false, ⟨0, 0, 0, 0, 0, 0, 0⟩⟩
def s : Src.S := ⟨[r1, r2], [([65, 47, 66], [e1, e2])], [([65, 47, 66], [67])], false⟩
theorem r1_ok : r1.Ok := ⟨by decide +kernel, by decide +kernel, by decide +kernel, by decide +kernel, by decide +kernel, by decide +kernel, by decide +kernel⟩
theorem r2_ok : r2.Ok := ⟨by decide +kernel, by decide +kernel, by decide +kernel, by decide +kernel, by decide +kernel, by decide +kernel, by decide +kernel⟩
theorem e1_ok : e1.Ok := ⟨by decide +kernel, by decide +kernel, .inl ⟨rfl, rfl, rfl⟩, fun _ => ⟨⟨by decide +kernel, by decide +kernel, by decide +kernel, by decide +kernel⟩, by decide +kernel, by decide +kernel⟩, fun h => (by cases h)⟩
theorem e2_ok : e2.Ok := ⟨by decide +kernel, by decide +kernel, .inr (.inr ⟨rfl, rfl, by decide +kernel⟩), fun h => (by cases h), fun _ => rfl⟩
theorem right : Src.srcB s = true := by
  have h1 : r1.good = true := (Ru.R.good_iff r1).2 r1_ok
  have h0 : r2.good = true := (Ru.R.good_iff r2).2 r2_ok
  have h2 : e1.good = true := by unfold Er.E.good; rw [Er.chk_ok e1 e1_ok]; rfl
  have h3 : e2.good = true := by unfold Er.E.good; rw [Er.chk_ok e2 e2_ok]; rfl
  have h4 : Src.zoneB ([65, 47, 66], [e1, e2]) = true := by
    unfold Src.zoneB Src.erasB Src.erasB Src.erasB
    simp only [h2, h3]
    decide +kernel
  have h5 : Src.linkB ([65, 47, 66], [67]) = true := by decide +kernel
  unfold Src.srcB s
  simp only [List.all_cons, List.all_nil, h1, h0, h4, h5]
  rfl
theorem lims : Src.Lims s := ⟨by decide, by decide, by decide⟩
theorem smw : Src.SmW s := by
  refine ⟨?_, ?_, ?_⟩
  · intro r hr
    have e : r = r1 ∨ r = r2 := by simpa [s] using hr
    rcases e with rfl | rfl <;> exact ⟨by decide, by decide⟩
  · intro z hz
    have e : z = ([65, 47, 66], [e1, e2]) := by simpa [s] using hz
    subst e
    refine ⟨by decide, fun e he => ?_⟩
    have e3 : e = e1 ∨ e = e2 := by simpa using he
    rcases e3 with rfl | rfl <;> exact ⟨by decide, by decide⟩
  · intro k hk
    have e3 : k = ([65, 47, 66], [67]) := by simpa [s] using hk
    rcases e3 with rfl
    exact ⟨by decide, by decide⟩
theorem nm : Lk.Nm s := by
  refine ⟨by decide, by decide, ?_, ?_⟩
  · intro z hz
    have e : z = ([65, 47, 66], [e1, e2]) := by simpa [s] using hz
    subst e
    decide
  · intro k hk
    have e3 : k = ([65, 47, 66], [67]) := by simpa [s] using hk
    rcases e3 with rfl
    exact ⟨by decide, by decide⟩
theorem names : ∀ x ∈ Src.names s, x.size ≤ maxLen := by
  intro x hx
  have e : x = ⟨#[65, 47, 66]⟩ ∨ x = ⟨#[67]⟩ := by simpa [s, Src.names, Src.zoneNames, Src.linkNames, Src.bts] using hx
  rcases e with rfl | rfl <;> decide
end Eu
theorem eu_results {tmps : Array Value} {w : World} {g : Nat} {a b c : Value} (h0 : tmps[0]?.getD undef = .pointer (some ⟨g, 0, none⟩)) (c0 : w.cell? ⟨g, 0, none⟩ = some a) (c1 : w.cell? ⟨g, 1, none⟩ = some b) (c2 : w.cell? ⟨g, 2, none⟩ = some c) :
    (results Tryd.f19 tmps).run Tryd.prog w = .ok (.agg #[a, b, c]) w := by
  simp [results, Tryd.f19, go_sem, h0, c0, c1, c2]
set_option maxHeartbeats 2000000 in
set_option maxRecDepth 100000 in
theorem europe_any (w : World) : Calls Tryd.prog 19 #[] w fun e w' => ∃ g, e = .returned (.agg #[.slice (some ⟨g + 1, 0, none⟩) 2 2, .slice (some ⟨g + 1 + 1 + 1 + 1, 0, none⟩) 1 1, .slice (some ⟨g + 1 + 1 + 1 + 1 + 1, 0, none⟩) 1 1]) ∧ Src.SrcR w' w'.heap.size Eu.s (.slice (some ⟨g + 1, 0, none⟩) 2 2) (.slice (some ⟨g + 1 + 1 + 1 + 1, 0, none⟩) 1 1) (.slice (some ⟨g + 1 + 1 + 1 + 1 + 1, 0, none⟩) 1 1) [.slice (some ⟨g + 1 + 1 + 1, 0, none⟩) 2 2] ∧ Below w.heap.size w w' := by
  obtain ⟨g, hg⟩ : ∃ g, w.heap.size = g := ⟨_, rfl⟩
  have hB : Below w.heap.size w ((((((w.alloc (.cells #[.slice (some ⟨g + 1, 0, none⟩) 2 2, .slice (some ⟨g + 1 + 1 + 1 + 1, 0, none⟩) 1 1, .slice (some ⟨g + 1 + 1 + 1 + 1 + 1, 0, none⟩) 1 1] 27)).alloc (.cells #[.string ⟨#[69]⟩, .int .i64 1996, .int .i64 9999, .int .i64 3, .int .u8 1, .int .i64 0, .int .i64 0, .int .i64 3600, .int .u8 2, .int .i64 3600, .string ⟨#[83]⟩, .string ⟨#[69]⟩, .int .i64 1996, .int .i64 9999, .int .i64 10, .int .u8 1, .int .i64 0, .int .i64 0, .int .i64 3600, .int .u8 2, .int .i64 0, .string ⟨#[]⟩] 67)).alloc (.cells #[.slice (some ⟨g + 1, 0, none⟩) 2 2, .slice (some ⟨g + 1 + 1 + 1 + 1, 0, none⟩) 1 1, .slice (some ⟨g + 1 + 1 + 1 + 1 + 1, 0, none⟩) 1 1] 27)).alloc (.cells #[.int .i64 3620, .int .u8 0, .int .i64 0, .string ⟨#[]⟩, .string ⟨#[120]⟩, .bool true, .int .i64 1996, .int .i64 1, .int .u8 0, .int .i64 1, .int .i64 0, .int .i64 0, .int .u8 2, .int .i64 3600, .int .u8 2, .int .i64 0, .string ⟨#[69]⟩, .string ⟨#[67, 69, 37, 115, 84]⟩, .bool false, .int .i64 0, .int .i64 0, .int .u8 0, .int .i64 0, .int .i64 0, .int .i64 0, .int .u8 0] 65)).alloc (.cells #[.string ⟨#[65, 47, 66]⟩, .slice (some ⟨g + 1 + 1 + 1, 0, none⟩) 2 2] 54)).alloc (.cells #[.string ⟨#[65, 47, 66]⟩, .string ⟨#[67]⟩] 48)) := bal (bal (bal (bal (bal (bal1 _ _) _) _) _) _) _
  have hR : Src.SrcR ((((((w.alloc (.cells #[.slice (some ⟨g + 1, 0, none⟩) 2 2, .slice (some ⟨g + 1 + 1 + 1 + 1, 0, none⟩) 1 1, .slice (some ⟨g + 1 + 1 + 1 + 1 + 1, 0, none⟩) 1 1] 27)).alloc (.cells #[.string ⟨#[69]⟩, .int .i64 1996, .int .i64 9999, .int .i64 3, .int .u8 1, .int .i64 0, .int .i64 0, .int .i64 3600, .int .u8 2, .int .i64 3600, .string ⟨#[83]⟩, .string ⟨#[69]⟩, .int .i64 1996, .int .i64 9999, .int .i64 10, .int .u8 1, .int .i64 0, .int .i64 0, .int .i64 3600, .int .u8 2, .int .i64 0, .string ⟨#[]⟩] 67)).alloc (.cells #[.slice (some ⟨g + 1, 0, none⟩) 2 2, .slice (some ⟨g + 1 + 1 + 1 + 1, 0, none⟩) 1 1, .slice (some ⟨g + 1 + 1 + 1 + 1 + 1, 0, none⟩) 1 1] 27)).alloc (.cells #[.int .i64 3620, .int .u8 0, .int .i64 0, .string ⟨#[]⟩, .string ⟨#[120]⟩, .bool true, .int .i64 1996, .int .i64 1, .int .u8 0, .int .i64 1, .int .i64 0, .int .i64 0, .int .u8 2, .int .i64 3600, .int .u8 2, .int .i64 0, .string ⟨#[69]⟩, .string ⟨#[67, 69, 37, 115, 84]⟩, .bool false, .int .i64 0, .int .i64 0, .int .u8 0, .int .i64 0, .int .i64 0, .int .i64 0, .int .u8 0] 65)).alloc (.cells #[.string ⟨#[65, 47, 66]⟩, .slice (some ⟨g + 1 + 1 + 1, 0, none⟩) 2 2] 54)).alloc (.cells #[.string ⟨#[65, 47, 66]⟩, .string ⟨#[67]⟩] 48)) ((((((w.alloc (.cells #[.slice (some ⟨g + 1, 0, none⟩) 2 2, .slice (some ⟨g + 1 + 1 + 1 + 1, 0, none⟩) 1 1, .slice (some ⟨g + 1 + 1 + 1 + 1 + 1, 0, none⟩) 1 1] 27)).alloc (.cells #[.string ⟨#[69]⟩, .int .i64 1996, .int .i64 9999, .int .i64 3, .int .u8 1, .int .i64 0, .int .i64 0, .int .i64 3600, .int .u8 2, .int .i64 3600, .string ⟨#[83]⟩, .string ⟨#[69]⟩, .int .i64 1996, .int .i64 9999, .int .i64 10, .int .u8 1, .int .i64 0, .int .i64 0, .int .i64 3600, .int .u8 2, .int .i64 0, .string ⟨#[]⟩] 67)).alloc (.cells #[.slice (some ⟨g + 1, 0, none⟩) 2 2, .slice (some ⟨g + 1 + 1 + 1 + 1, 0, none⟩) 1 1, .slice (some ⟨g + 1 + 1 + 1 + 1 + 1, 0, none⟩) 1 1] 27)).alloc (.cells #[.int .i64 3620, .int .u8 0, .int .i64 0, .string ⟨#[]⟩, .string ⟨#[120]⟩, .bool true, .int .i64 1996, .int .i64 1, .int .u8 0, .int .i64 1, .int .i64 0, .int .i64 0, .int .u8 2, .int .i64 3600, .int .u8 2, .int .i64 0, .string ⟨#[69]⟩, .string ⟨#[67, 69, 37, 115, 84]⟩, .bool false, .int .i64 0, .int .i64 0, .int .u8 0, .int .i64 0, .int .i64 0, .int .i64 0, .int .u8 0] 65)).alloc (.cells #[.string ⟨#[65, 47, 66]⟩, .slice (some ⟨g + 1 + 1 + 1, 0, none⟩) 2 2] 54)).alloc (.cells #[.string ⟨#[65, 47, 66]⟩, .string ⟨#[67]⟩] 48)).heap.size Eu.s (.slice (some ⟨g + 1, 0, none⟩) 2 2) (.slice (some ⟨g + 1 + 1 + 1 + 1, 0, none⟩) 1 1) (.slice (some ⟨g + 1 + 1 + 1 + 1 + 1, 0, none⟩) 1 1) [.slice (some ⟨g + 1 + 1 + 1, 0, none⟩) 2 2] := by
    refine ⟨⟨_, 2, rfl, Nat.le_refl _, by unfold maxLen; omega, At.reads (((((At.newAt (w.alloc (.cells #[.slice (some ⟨g + 1, 0, none⟩) 2 2, .slice (some ⟨g + 1 + 1 + 1 + 1, 0, none⟩) 1 1, .slice (some ⟨g + 1 + 1 + 1 + 1 + 1, 0, none⟩) 1 1] 27)) #[.string ⟨#[69]⟩, .int .i64 1996, .int .i64 9999, .int .i64 3, .int .u8 1, .int .i64 0, .int .i64 0, .int .i64 3600, .int .u8 2, .int .i64 3600, .string ⟨#[83]⟩, .string ⟨#[69]⟩, .int .i64 1996, .int .i64 9999, .int .i64 10, .int .u8 1, .int .i64 0, .int .i64 0, .int .i64 3600, .int .u8 2, .int .i64 0, .string ⟨#[]⟩] 67 (g + 1) (by simp [hg])).allocO (.cells #[.slice (some ⟨g + 1, 0, none⟩) 2 2, .slice (some ⟨g + 1 + 1 + 1 + 1, 0, none⟩) 1 1, .slice (some ⟨g + 1 + 1 + 1 + 1 + 1, 0, none⟩) 1 1] 27)).allocO (.cells #[.int .i64 3620, .int .u8 0, .int .i64 0, .string ⟨#[]⟩, .string ⟨#[120]⟩, .bool true, .int .i64 1996, .int .i64 1, .int .u8 0, .int .i64 1, .int .i64 0, .int .i64 0, .int .u8 2, .int .i64 3600, .int .u8 2, .int .i64 0, .string ⟨#[69]⟩, .string ⟨#[67, 69, 37, 115, 84]⟩, .bool false, .int .i64 0, .int .i64 0, .int .u8 0, .int .i64 0, .int .i64 0, .int .i64 0, .int .u8 0] 65)).allocO (.cells #[.string ⟨#[65, 47, 66]⟩, .slice (some ⟨g + 1 + 1 + 1, 0, none⟩) 2 2] 54)).allocO (.cells #[.string ⟨#[65, 47, 66]⟩, .string ⟨#[67]⟩] 48)) rfl⟩, ⟨_, 1, rfl, Nat.le_refl _, by unfold maxLen; omega, At.reads ((At.newAt ((((w.alloc (.cells #[.slice (some ⟨g + 1, 0, none⟩) 2 2, .slice (some ⟨g + 1 + 1 + 1 + 1, 0, none⟩) 1 1, .slice (some ⟨g + 1 + 1 + 1 + 1 + 1, 0, none⟩) 1 1] 27)).alloc (.cells #[.string ⟨#[69]⟩, .int .i64 1996, .int .i64 9999, .int .i64 3, .int .u8 1, .int .i64 0, .int .i64 0, .int .i64 3600, .int .u8 2, .int .i64 3600, .string ⟨#[83]⟩, .string ⟨#[69]⟩, .int .i64 1996, .int .i64 9999, .int .i64 10, .int .u8 1, .int .i64 0, .int .i64 0, .int .i64 3600, .int .u8 2, .int .i64 0, .string ⟨#[]⟩] 67)).alloc (.cells #[.slice (some ⟨g + 1, 0, none⟩) 2 2, .slice (some ⟨g + 1 + 1 + 1 + 1, 0, none⟩) 1 1, .slice (some ⟨g + 1 + 1 + 1 + 1 + 1, 0, none⟩) 1 1] 27)).alloc (.cells #[.int .i64 3620, .int .u8 0, .int .i64 0, .string ⟨#[]⟩, .string ⟨#[120]⟩, .bool true, .int .i64 1996, .int .i64 1, .int .u8 0, .int .i64 1, .int .i64 0, .int .i64 0, .int .u8 2, .int .i64 3600, .int .u8 2, .int .i64 0, .string ⟨#[69]⟩, .string ⟨#[67, 69, 37, 115, 84]⟩, .bool false, .int .i64 0, .int .i64 0, .int .u8 0, .int .i64 0, .int .i64 0, .int .i64 0, .int .u8 0] 65)) #[.string ⟨#[65, 47, 66]⟩, .slice (some ⟨g + 1 + 1 + 1, 0, none⟩) 2 2] 54 (g + 1 + 1 + 1 + 1) (by simp [hg])).allocO (.cells #[.string ⟨#[65, 47, 66]⟩, .string ⟨#[67]⟩] 48)) rfl⟩, ⟨_, 1, rfl, Nat.le_refl _, by unfold maxLen; omega, At.reads (At.newAt (((((w.alloc (.cells #[.slice (some ⟨g + 1, 0, none⟩) 2 2, .slice (some ⟨g + 1 + 1 + 1 + 1, 0, none⟩) 1 1, .slice (some ⟨g + 1 + 1 + 1 + 1 + 1, 0, none⟩) 1 1] 27)).alloc (.cells #[.string ⟨#[69]⟩, .int .i64 1996, .int .i64 9999, .int .i64 3, .int .u8 1, .int .i64 0, .int .i64 0, .int .i64 3600, .int .u8 2, .int .i64 3600, .string ⟨#[83]⟩, .string ⟨#[69]⟩, .int .i64 1996, .int .i64 9999, .int .i64 10, .int .u8 1, .int .i64 0, .int .i64 0, .int .i64 3600, .int .u8 2, .int .i64 0, .string ⟨#[]⟩] 67)).alloc (.cells #[.slice (some ⟨g + 1, 0, none⟩) 2 2, .slice (some ⟨g + 1 + 1 + 1 + 1, 0, none⟩) 1 1, .slice (some ⟨g + 1 + 1 + 1 + 1 + 1, 0, none⟩) 1 1] 27)).alloc (.cells #[.int .i64 3620, .int .u8 0, .int .i64 0, .string ⟨#[]⟩, .string ⟨#[120]⟩, .bool true, .int .i64 1996, .int .i64 1, .int .u8 0, .int .i64 1, .int .i64 0, .int .i64 0, .int .u8 2, .int .i64 3600, .int .u8 2, .int .i64 0, .string ⟨#[69]⟩, .string ⟨#[67, 69, 37, 115, 84]⟩, .bool false, .int .i64 0, .int .i64 0, .int .u8 0, .int .i64 0, .int .i64 0, .int .i64 0, .int .u8 0] 65)).alloc (.cells #[.string ⟨#[65, 47, 66]⟩, .slice (some ⟨g + 1 + 1 + 1, 0, none⟩) 2 2] 54)) #[.string ⟨#[65, 47, 66]⟩, .string ⟨#[67]⟩] 48 (g + 1 + 1 + 1 + 1 + 1) (by simp [hg])) rfl⟩, rfl, ?_⟩
    intro p hp
    have e : p = (([65, 47, 66], [Eu.e1, Eu.e2]), .slice (some ⟨g + 1 + 1 + 1, 0, none⟩) 2 2) := by simpa [Eu.s] using hp
    subst e
    exact ⟨_, 2, rfl, Nat.le_refl _, by unfold maxLen; omega, At.reads (((At.newAt (((w.alloc (.cells #[.slice (some ⟨g + 1, 0, none⟩) 2 2, .slice (some ⟨g + 1 + 1 + 1 + 1, 0, none⟩) 1 1, .slice (some ⟨g + 1 + 1 + 1 + 1 + 1, 0, none⟩) 1 1] 27)).alloc (.cells #[.string ⟨#[69]⟩, .int .i64 1996, .int .i64 9999, .int .i64 3, .int .u8 1, .int .i64 0, .int .i64 0, .int .i64 3600, .int .u8 2, .int .i64 3600, .string ⟨#[83]⟩, .string ⟨#[69]⟩, .int .i64 1996, .int .i64 9999, .int .i64 10, .int .u8 1, .int .i64 0, .int .i64 0, .int .i64 3600, .int .u8 2, .int .i64 0, .string ⟨#[]⟩] 67)).alloc (.cells #[.slice (some ⟨g + 1, 0, none⟩) 2 2, .slice (some ⟨g + 1 + 1 + 1 + 1, 0, none⟩) 1 1, .slice (some ⟨g + 1 + 1 + 1 + 1 + 1, 0, none⟩) 1 1] 27)) #[.int .i64 3620, .int .u8 0, .int .i64 0, .string ⟨#[]⟩, .string ⟨#[120]⟩, .bool true, .int .i64 1996, .int .i64 1, .int .u8 0, .int .i64 1, .int .i64 0, .int .i64 0, .int .u8 2, .int .i64 3600, .int .u8 2, .int .i64 0, .string ⟨#[69]⟩, .string ⟨#[67, 69, 37, 115, 84]⟩, .bool false, .int .i64 0, .int .i64 0, .int .u8 0, .int .i64 0, .int .i64 0, .int .i64 0, .int .u8 0] 65 (g + 1 + 1 + 1) (by simp [hg])).allocO (.cells #[.string ⟨#[65, 47, 66]⟩, .slice (some ⟨g + 1 + 1 + 1, 0, none⟩) 2 2] 54)).allocO (.cells #[.string ⟨#[65, 47, 66]⟩, .string ⟨#[67]⟩] 48)) rfl⟩
  have hB2 := hB
  rw [hg] at hB2
  have HB := Lib.hid hB2
  have HR := Lib.hid hR
  have HA := Lib.hid ((((((At.newAt w #[.slice (some ⟨g + 1, 0, none⟩) 2 2, .slice (some ⟨g + 1 + 1 + 1 + 1, 0, none⟩) 1 1, .slice (some ⟨g + 1 + 1 + 1 + 1 + 1, 0, none⟩) 1 1] 27 (g) (by simp [hg])).allocO (.cells #[.string ⟨#[69]⟩, .int .i64 1996, .int .i64 9999, .int .i64 3, .int .u8 1, .int .i64 0, .int .i64 0, .int .i64 3600, .int .u8 2, .int .i64 3600, .string ⟨#[83]⟩, .string ⟨#[69]⟩, .int .i64 1996, .int .i64 9999, .int .i64 10, .int .u8 1, .int .i64 0, .int .i64 0, .int .i64 3600, .int .u8 2, .int .i64 0, .string ⟨#[]⟩] 67)).allocO (.cells #[.slice (some ⟨g + 1, 0, none⟩) 2 2, .slice (some ⟨g + 1 + 1 + 1 + 1, 0, none⟩) 1 1, .slice (some ⟨g + 1 + 1 + 1 + 1 + 1, 0, none⟩) 1 1] 27)).allocO (.cells #[.int .i64 3620, .int .u8 0, .int .i64 0, .string ⟨#[]⟩, .string ⟨#[120]⟩, .bool true, .int .i64 1996, .int .i64 1, .int .u8 0, .int .i64 1, .int .i64 0, .int .i64 0, .int .u8 2, .int .i64 3600, .int .u8 2, .int .i64 0, .string ⟨#[69]⟩, .string ⟨#[67, 69, 37, 115, 84]⟩, .bool false, .int .i64 0, .int .i64 0, .int .u8 0, .int .i64 0, .int .i64 0, .int .i64 0, .int .u8 0] 65)).allocO (.cells #[.string ⟨#[65, 47, 66]⟩, .slice (some ⟨g + 1 + 1 + 1, 0, none⟩) 2 2] 54)).allocO (.cells #[.string ⟨#[65, 47, 66]⟩, .string ⟨#[67]⟩] 48))
  clear hB hR hB2
  go_enter Tryd.func19, Tryd.ntmps19
  obtain ⟨c0, c1, c2, _⟩ := HA.out.three
  go_wp2
  refine bodyPost_ret (eu_results rfl c0 c1 c2) rfl ?_
  exact ⟨g, rfl, HR.out, HB.out⟩
namespace Ca
def l2 : List E := [⟨⟨#[75]⟩, ⟨#[68, 69]⟩, [⟨#[120]⟩, ⟨#[65, 47, 66]⟩]⟩, ⟨⟨#[75]⟩, world, [⟨#[65, 47, 66]⟩]⟩]
def l0 : List E := [⟨⟨#[]⟩, ⟨#[]⟩, []⟩]
theorem chk2 : chk l2 = 0 := by decide +kernel
theorem za : zonesA l2 ⟨#[75]⟩ ⟨#[68, 69]⟩ = ([⟨#[120]⟩, ⟨#[65, 47, 66]⟩], 0) := by decide +kernel
theorem zb : zonesA l2 ⟨#[75]⟩ ⟨#[85, 83]⟩ = ([⟨#[65, 47, 66]⟩], 0) := by decide +kernel
theorem zc_ : zonesA l2 ⟨#[76]⟩ world = ([], 3) := by decide +kernel
theorem zd : zonesA l0 ⟨#[]⟩ ⟨#[]⟩ = ([], 2) := by decide +kernel
theorem df : defA l2 ⟨#[75]⟩ = (⟨#[65, 47, 66]⟩, 0) := by decide +kernel
theorem k1 : keyA l2 Eu.s ⟨#[120]⟩ = (⟨#[75]⟩, 0) := by
  unfold keyA
  rw [if_pos chk2, if_pos Eu.right]
  decide +kernel
theorem k2 : keyA l2 Eu.s ⟨#[67]⟩ = (⟨#[75]⟩, 0) := by
  unfold keyA
  rw [if_pos chk2, if_pos Eu.right]
  decide +kernel
theorem k3 : keyA l2 Eu.s ⟨#[68]⟩ = (⟨#[]⟩, 3) := by
  unfold keyA
  rw [if_pos chk2, if_pos Eu.right]
  decide +kernel
theorem ms : missing l2 Eu.s = [⟨#[120]⟩] := by decide +kernel
theorem few2 : Few l2 := by
  refine ⟨by decide, fun e he => ?_⟩
  have h : e = ⟨⟨#[75]⟩, ⟨#[68, 69]⟩, [⟨#[120]⟩, ⟨#[65, 47, 66]⟩]⟩ ∨ e = ⟨⟨#[75]⟩, world, [⟨#[65, 47, 66]⟩]⟩ := by simpa [l2] using he
  rcases h with rfl | rfl
  · exact ⟨by decide, by decide, by decide, by decide⟩
  · exact ⟨by decide, by decide, by decide, by decide⟩
theorem few0 : Few l0 := by
  refine ⟨by decide, fun e he => ?_⟩
  have h : e = ⟨⟨#[]⟩, ⟨#[]⟩, []⟩ := by simpa [l0] using he
  subst h
  exact ⟨by decide, by decide, by decide, by decide⟩
end Ca
end Go.Proofs.YtajcgoinhpengaaDoor

/- The lives of law 33. -/
namespace Go.Proofs.YtajcgoinhpengaaDoor
open Go.RowKit

set_option maxHeartbeats 4000000 in
set_option maxRecDepth 100000 in
theorem lives33 (w : World) (hA : Wa w) : Calls Tryd.prog 5 #[] w fun e w' => e = .returned (.bool true) ∧ Below w.heap.size w w' := by
  have HWa := Lib.hid hA
  clear hA
  go_enter Tryd.func5, Tryd.ntmps5
  go_wp2_with fail
  refine (europe_any w).mono ?_
  rintro e w1 ⟨g, rfl, hR1, hb1⟩
  obtain ⟨rv, hrv⟩ : ∃ v, Value.slice (some ⟨g + 1, 0, none⟩) 2 2 = v := ⟨_, rfl⟩
  obtain ⟨h, hh⟩ : ∃ h, w1.heap.size = h := ⟨_, rfl⟩
  obtain ⟨W2, hW2⟩ : ∃ W, (((w1.alloc (.cells #[.slice (some ⟨g + 1, 0, none⟩) 2 2, .slice (some ⟨g + 1 + 1 + 1 + 1, 0, none⟩) 1 1, .slice (some ⟨g + 1 + 1 + 1 + 1 + 1, 0, none⟩) 1 1] 27)).alloc (.cells #[.string ⟨#[120]⟩, .string ⟨#[65, 47, 66]⟩] 9)).alloc (.cells #[.string ⟨#[65, 47, 66]⟩] 9)).alloc (.cells #[.string ⟨#[75]⟩, .string ⟨#[68, 69]⟩, .slice (some ⟨h + 1, 0, none⟩) 2 2, .string ⟨#[75]⟩, .string ⟨#[48, 48, 49]⟩, .slice (some ⟨h + 1 + 1, 0, none⟩) 1 1] 45) = W := ⟨_, rfl⟩
  have hb2 : Below w1.heap.size w1 W2 := by rw [← hW2]; exact bal (bal (bal (bal1 _ _) _) _) _
  have hB2 : Below w.heap.size w W2 := below_then hb1 hb2
  have hS2 : At W2 h [.slice (some ⟨g + 1, 0, none⟩) 2 2, .slice (some ⟨g + 1 + 1 + 1 + 1, 0, none⟩) 1 1, .slice (some ⟨g + 1 + 1 + 1 + 1 + 1, 0, none⟩) 1 1] := by
    rw [← hW2, ← hh]
    exact (((At.new w1 #[Value.slice (some ⟨g + 1, 0, none⟩) 2 2, .slice (some ⟨g + 1 + 1 + 1 + 1, 0, none⟩) 1 1, .slice (some ⟨g + 1 + 1 + 1 + 1 + 1, 0, none⟩) 1 1] 27).allocO _).allocO _).allocO _
  have hz1 : At W2 (h + 1) [.string ⟨#[120]⟩, .string ⟨#[65, 47, 66]⟩] := by
    rw [← hW2]
    exact ((At.newAt _ #[Value.string ⟨#[120]⟩, .string ⟨#[65, 47, 66]⟩] 9 (h + 1) (by simp [hh])).allocO _).allocO _
  have hz2 : At W2 (h + 1 + 1) [.string ⟨#[65, 47, 66]⟩] := by
    rw [← hW2]
    exact (At.newAt _ #[Value.string ⟨#[65, 47, 66]⟩] 9 (h + 1 + 1) (by simp [hh])).allocO _
  have hen : At W2 (h + 1 + 1 + 1) [.string ⟨#[75]⟩, .string ⟨#[68, 69]⟩, .slice (some ⟨h + 1, 0, none⟩) 2 2, .string ⟨#[75]⟩, .string ⟨#[48, 48, 49]⟩, .slice (some ⟨h + 1 + 1, 0, none⟩) 1 1] := by
    rw [← hW2]
    exact At.newAt _ #[Value.string ⟨#[75]⟩, .string ⟨#[68, 69]⟩, .slice (some ⟨h + 1, 0, none⟩) 2 2, .string ⟨#[75]⟩, .string ⟨#[48, 48, 49]⟩, .slice (some ⟨h + 1 + 1, 0, none⟩) 1 1] 45 (h + 1 + 1 + 1) (by simp [hh])
  have hE2 : Ca.EntR W2 W2.heap.size Ca.l2 (.slice (some ⟨h + 1 + 1 + 1, 0, none⟩) 2 2) [.slice (some ⟨h + 1, 0, none⟩) 2 2, .slice (some ⟨h + 1 + 1, 0, none⟩) 1 1] := by
    refine ⟨⟨_, 2, rfl, Nat.le_refl _, by unfold maxLen; omega, At.reads hen rfl⟩, rfl, ?_⟩
    intro p hp
    have e : p = (⟨⟨#[75]⟩, ⟨#[68, 69]⟩, [⟨#[120]⟩, ⟨#[65, 47, 66]⟩]⟩, .slice (some ⟨h + 1, 0, none⟩) 2 2) ∨ p = (⟨⟨#[75]⟩, Ca.world, [⟨#[65, 47, 66]⟩]⟩, .slice (some ⟨h + 1 + 1, 0, none⟩) 1 1) := by simpa [Ca.l2] using hp
    rcases e with rfl | rfl
    · exact ⟨_, 2, rfl, Nat.le_refl _, by unfold maxLen; omega, At.reads hz1 rfl⟩
    · exact ⟨_, 1, rfl, Nat.le_refl _, by unfold maxLen; omega, At.reads hz2 rfl⟩
  have hR2 := hR1.call hb2
  have HE := Lib.hid hE2
  have HR := Lib.hid hR2
  have HB2 := Lib.hid hB2
  have HS2 := Lib.hid hS2
  have HW2 := Lib.hid hW2
  have HH := Lib.hid hh
  have HZa : Hid (∀ W, Below W2.heap.size W2 W → Calls Tryd.prog 12 #[.slice (some ⟨h + 1 + 1 + 1, 0, none⟩) 2 2, .string ⟨#[75]⟩, .string ⟨#[68, 69]⟩] W fun e w' => ∃ A c, e = .returned (.tuple #[.slice A 2 c, .int .i64 0]) ∧ 2 ≤ c ∧ c ≤ maxLen ∧ Reads w' w'.heap.size 1 A 2 [.string ⟨#[120]⟩, .string ⟨#[65, 47, 66]⟩] ∧ Below W.heap.size W w') := by
    intro W hb
    have h := caZones_any Ca.l2 _ 2 2 _ ⟨#[75]⟩ ⟨#[68, 69]⟩ W (HE.out.call hb) rfl Ca.few2.wd
    rw [Ca.za] at h
    exact h
  have HZb : Hid (∀ W, Below W2.heap.size W2 W → Calls Tryd.prog 12 #[.slice (some ⟨h + 1 + 1 + 1, 0, none⟩) 2 2, .string ⟨#[75]⟩, .string ⟨#[85, 83]⟩] W fun e w' => ∃ A c, e = .returned (.tuple #[.slice A 1 c, .int .i64 0]) ∧ 1 ≤ c ∧ c ≤ maxLen ∧ Reads w' w'.heap.size 1 A 1 [.string ⟨#[65, 47, 66]⟩] ∧ Below W.heap.size W w') := by
    intro W hb
    have h := caZones_any Ca.l2 _ 2 2 _ ⟨#[75]⟩ ⟨#[85, 83]⟩ W (HE.out.call hb) rfl Ca.few2.wd
    rw [Ca.zb] at h
    exact h
  have HZc : Hid (∀ W, Below W2.heap.size W2 W → Calls Tryd.prog 12 #[.slice (some ⟨h + 1 + 1 + 1, 0, none⟩) 2 2, .string ⟨#[76]⟩, .string ⟨#[48, 48, 49]⟩] W fun e w' => ∃ A c, e = .returned (.tuple #[.slice A 0 c, .int .i64 3]) ∧ 0 ≤ c ∧ c ≤ maxLen ∧ Reads w' w'.heap.size 1 A 0 [] ∧ Below W.heap.size W w') := by
    intro W hb
    have h := caZones_any Ca.l2 _ 2 2 _ ⟨#[76]⟩ Ca.world W (HE.out.call hb) rfl Ca.few2.wd
    rw [Ca.zc_] at h
    exact h
  have HDf : Hid (∀ W, Below W2.heap.size W2 W → Calls Tryd.prog 13 #[.slice (some ⟨h + 1 + 1 + 1, 0, none⟩) 2 2, .string ⟨#[75]⟩] W fun e w' => e = .returned (.tuple #[.string ⟨#[65, 47, 66]⟩, .int .i64 0]) ∧ Below W.heap.size W w') := by
    intro W hb
    have h := caDef_any Ca.l2 _ 2 2 _ ⟨#[75]⟩ W (HE.out.call hb) rfl Ca.few2.wd
    rw [Ca.df] at h
    exact h
  have HKy : Hid (∀ W x, Below W2.heap.size W2 W → x.size ≤ maxLen → Calls Tryd.prog 14 #[.slice (some ⟨h + 1 + 1 + 1, 0, none⟩) 2 2, .agg #[.slice (some ⟨g + 1, 0, none⟩) 2 2, .slice (some ⟨g + 1 + 1 + 1 + 1, 0, none⟩) 1 1, .slice (some ⟨g + 1 + 1 + 1 + 1 + 1, 0, none⟩) 1 1], .string x] W (Ca.KyRet (Ca.keyA Ca.l2 Eu.s x) W)) := by
    intro W x hb hx
    exact caKey_any Ca.l2 _ 2 2 _ Eu.s _ _ _ _ x W (HE.out.call hb) rfl Ca.few2.wd (HR.out.call hb) Eu.lims Eu.smw Eu.nm Eu.names hx (HWa.out.below (below_then HB2.out hb))
  have HK1 : Hid (∀ W, Below W2.heap.size W2 W → Calls Tryd.prog 14 #[.slice (some ⟨h + 1 + 1 + 1, 0, none⟩) 2 2, .agg #[.slice (some ⟨g + 1, 0, none⟩) 2 2, .slice (some ⟨g + 1 + 1 + 1 + 1, 0, none⟩) 1 1, .slice (some ⟨g + 1 + 1 + 1 + 1 + 1, 0, none⟩) 1 1], .string ⟨#[120]⟩] W fun e w' => e = .returned (.tuple #[.string ⟨#[75]⟩, .int .i64 0]) ∧ Below W.heap.size W w') := by
    intro W hb
    have h := HKy.out W ⟨#[120]⟩ hb (by decide)
    rw [Ca.k1] at h
    exact h
  have HK2 : Hid (∀ W, Below W2.heap.size W2 W → Calls Tryd.prog 14 #[.slice (some ⟨h + 1 + 1 + 1, 0, none⟩) 2 2, .agg #[.slice (some ⟨g + 1, 0, none⟩) 2 2, .slice (some ⟨g + 1 + 1 + 1 + 1, 0, none⟩) 1 1, .slice (some ⟨g + 1 + 1 + 1 + 1 + 1, 0, none⟩) 1 1], .string ⟨#[67]⟩] W fun e w' => e = .returned (.tuple #[.string ⟨#[75]⟩, .int .i64 0]) ∧ Below W.heap.size W w') := by
    intro W hb
    have h := HKy.out W ⟨#[67]⟩ hb (by decide)
    rw [Ca.k2] at h
    exact h
  have HK3 : Hid (∀ W, Below W2.heap.size W2 W → Calls Tryd.prog 14 #[.slice (some ⟨h + 1 + 1 + 1, 0, none⟩) 2 2, .agg #[.slice (some ⟨g + 1, 0, none⟩) 2 2, .slice (some ⟨g + 1 + 1 + 1 + 1, 0, none⟩) 1 1, .slice (some ⟨g + 1 + 1 + 1 + 1 + 1, 0, none⟩) 1 1], .string ⟨#[68]⟩] W fun e w' => e = .returned (.tuple #[.string ⟨#[]⟩, .int .i64 3]) ∧ Below W.heap.size W w') := by
    intro W hb
    have h := HKy.out W ⟨#[68]⟩ hb (by decide)
    rw [Ca.k3] at h
    exact h
  have HMs : Hid (∀ W, Below W2.heap.size W2 W → Calls Tryd.prog 10 #[.slice (some ⟨h + 1 + 1 + 1, 0, none⟩) 2 2, .agg #[.slice (some ⟨g + 1, 0, none⟩) 2 2, .slice (some ⟨g + 1 + 1 + 1 + 1, 0, none⟩) 1 1, .slice (some ⟨g + 1 + 1 + 1 + 1 + 1, 0, none⟩) 1 1]] W fun e w' => (∃ v, e = .returned v ∧ w'.ownsRow W.heap.size 9 1 v 1 [Value.string ⟨#[120]⟩]) ∧ Below W.heap.size W w') := by
    intro W hb
    have h := caMissing_any Ca.l2 _ 2 2 _ Eu.s _ _ _ _ W (HE.out.call hb) rfl Ca.few2.wd Ca.few2.flat (HR.out.call hb) Eu.lims Eu.nm Eu.names
    rw [Ca.ms] at h
    exact h
  have HZd : Hid (∀ W, Calls Tryd.prog 12 #[.slice (some ⟨W.heap.size, 0, none⟩) 1 1, .string ⟨#[]⟩, .string ⟨#[]⟩] (W.alloc (.cells #[.string ⟨#[]⟩, .string ⟨#[]⟩, .slice none 0 0] 45)) fun e w' => ∃ A c, e = .returned (.tuple #[.slice A 0 c, .int .i64 2]) ∧ Below W.heap.size W w') := by
    intro W
    have hE0 : Ca.EntR (W.alloc (.cells #[.string ⟨#[]⟩, .string ⟨#[]⟩, .slice none 0 0] 45)) (W.alloc (.cells #[.string ⟨#[]⟩, .string ⟨#[]⟩, .slice none 0 0] 45)).heap.size Ca.l0 (.slice (some ⟨W.heap.size, 0, none⟩) 1 1) [.slice none 0 0] := by
      refine ⟨⟨_, 1, rfl, Nat.le_refl _, by unfold maxLen; omega, At.reads (At.new W #[Value.string ⟨#[]⟩, .string ⟨#[]⟩, .slice none 0 0] 45) rfl⟩, rfl, ?_⟩
      intro p hp
      have e : p = (⟨⟨#[]⟩, ⟨#[]⟩, []⟩, .slice none 0 0) := by simpa [Ca.l0] using hp
      subst e
      exact ⟨none, 0, rfl, Nat.le_refl _, by unfold maxLen; omega, Reads.none_⟩
    have h := caZones_any Ca.l0 _ 1 1 _ ⟨#[]⟩ ⟨#[]⟩ _ hE0 rfl Ca.few0.wd
    rw [Ca.zd] at h
    refine h.mono ?_
    rintro e w' ⟨A, c, he, _, _, _, hb⟩
    exact ⟨A, c, he, below_then (bal1 W _) hb⟩
  have HTx : Hid (∀ W (A : Option Addr) (n c : Nat) (ss : List ByteArray), n ≤ 3 → ss.length = n → Reads W W.heap.size 1 A n (ss.map Value.string) → ∀ o, Calls Tryd.prog 18 #[.slice A n c, .slice (some ⟨W.heap.size, 0, none⟩) n n] (W.alloc (.cells (ss.map Value.string).toArray o)) fun e w' => e = .returned (.bool true) ∧ Below W.heap.size W w') := by
    intro W A n c ss hn hl hr o
    have hnew : Reads (W.alloc (.cells (ss.map Value.string).toArray o)) (W.alloc (.cells (ss.map Value.string).toArray o)).heap.size 1 (some ⟨W.heap.size, 0, none⟩) n (ss.map Value.string) := At.reads (At.new W (ss.map Value.string).toArray o) (by simp [hl])
    have h := refTexts_any A (some ⟨W.heap.size, 0, none⟩) n n c n ss ss (W.alloc (.cells (ss.map Value.string).toArray o)) (by unfold maxLen; omega) (by unfold maxLen; omega) ((hr.below (bal1 W _)).more (bal1 W _).size) hnew
    refine h.mono ?_
    rintro e w' ⟨he, hd⟩
    exact ⟨by rw [he]; simp, below_drew (bal1 W _) hd⟩
  clear hb1 hR1 hrv hh hW2 hb2 hB2 hS2 hz1 hz2 hen hE2 hR2 HKy
  go_wp2_with fail
  rw [HH.out, HW2.out]
  go_wp2_with fail
  refine (HZa.out _ (Below.refl _ _)).mono ?_
  rintro e w3 ⟨A1, c1, rfl, _, _, hr1, hb⟩
  have HB3 := Lib.hid hb
  have HR1 := Lib.hid hr1
  clear hb hr1
  go_wp2_with fail
  refine (HZb.out _ HB3.out).mono ?_
  rintro e w4 ⟨A2, c2, rfl, _, _, hr2, hb⟩
  have HB4 := Lib.hid (below_then HB3.out hb)
  have HQ4 := Lib.hid hb
  have HR2 := Lib.hid hr2
  clear hb hr2
  go_wp2_with fail
  refine (HZc.out _ HB4.out).mono ?_
  rintro e w5 ⟨A3, c3, rfl, _, _, _, hb⟩
  have HB5 := Lib.hid (below_then HB4.out hb)
  have HQ5 := Lib.hid hb
  clear hb
  go_wp2_with fail
  refine (HDf.out _ HB5.out).mono ?_
  rintro e w6 ⟨rfl, hb⟩
  have HB6 := Lib.hid (below_then HB5.out hb)
  have HQ6 := Lib.hid (below_then HQ5.out hb)
  obtain ⟨s0, s1, s2, _⟩ := (HS2.out.call HB6.out).three
  clear hb
  go_wp2_with fail
  refine (HK1.out _ HB6.out).mono ?_
  rintro e w7 ⟨rfl, hb⟩
  have HB7 := Lib.hid (below_then HB6.out hb)
  have HQ7 := Lib.hid (below_then HQ6.out hb)
  clear hb s0 s1 s2
  obtain ⟨s0, s1, s2, _⟩ := (HS2.out.call HB7.out).three
  go_wp2_with fail
  refine (HK2.out _ HB7.out).mono ?_
  rintro e w8 ⟨rfl, hb⟩
  have HB8 := Lib.hid (below_then HB7.out hb)
  have HQ8 := Lib.hid (below_then HQ7.out hb)
  clear hb s0 s1 s2
  obtain ⟨s0, s1, s2, _⟩ := (HS2.out.call HB8.out).three
  go_wp2_with fail
  refine (HK3.out _ HB8.out).mono ?_
  rintro e w9 ⟨rfl, hb⟩
  have HB9 := Lib.hid (below_then HB8.out hb)
  have HQ9 := Lib.hid (below_then HQ8.out hb)
  clear hb s0 s1 s2
  go_wp2_with fail
  refine (HZd.out w9).mono ?_
  rintro e w10 ⟨A4, c4, rfl, hb⟩
  have HB10 := Lib.hid (below_then HB9.out hb)
  have HQ10 := Lib.hid (below_then HQ9.out hb)
  have HT1 := Lib.hid (HTx.out w10 A1 2 c1 [⟨#[120]⟩, ⟨#[65, 47, 66]⟩] (by omega) rfl ((HR1.out.below (below_then HQ4.out HQ10.out)).more (below_then HQ4.out HQ10.out).size) 9)
  clear hb
  go_wp2_with fail
  refine HT1.out.mono ?_
  rintro e w11 ⟨rfl, hb⟩
  have HB11 := Lib.hid (below_then HB10.out hb)
  have HQ11 := Lib.hid (below_then HQ10.out hb)
  have HT2 := Lib.hid (HTx.out w11 A2 1 c2 [⟨#[65, 47, 66]⟩] (by omega) rfl ((HR2.out.below HQ11.out).more HQ11.out.size) 9)
  clear hb
  go_wp2_with fail
  refine HT2.out.mono ?_
  rintro e w12 ⟨rfl, hb⟩
  have HB12 := Lib.hid (below_then HB11.out hb)
  obtain ⟨s0, s1, s2, _⟩ := (HS2.out.call HB12.out).three
  clear hb
  go_wp2_with fail
  refine (HMs.out _ HB12.out).mono ?_
  rintro e w13 ⟨⟨v, rfl, ho⟩, hb⟩
  obtain ⟨A5, c5, rfl, _⟩ := own_slice ho
  have HB13 := Lib.hid (below_then HB12.out hb)
  have HT3 := Lib.hid (HTx.out w13 A5 1 c5 [⟨#[120]⟩] (by omega) rfl (Reads.of_own ho) 9)
  clear hb s0 s1 s2 ho
  go_wp2_with fail
  refine HT3.out.mono ?_
  rintro e w14 ⟨rfl, hb⟩
  have HE14 := Lib.hid (below_then HB2.out (below_then HB13.out hb))
  clear hb
  go_wp2
  go_ret
  exact ⟨rfl, HE14.out⟩
end Go.Proofs.YtajcgoinhpengaaDoor
