/- solsticelaw27.Europe: a source with a zone that saves an hour in summer. -/
import Derived.Test.YtjobhjemnmleaaaGreatDoorQ45
import Derived.Test.YtjobhjemnmleaaaGreatDoorQ44
set_option maxRecDepth 200000
set_option maxHeartbeats 16000000
namespace Go.Proofs.YtjobhjemnmleaaaGreatDoor
open Go.RowKit
namespace Eu
structure Is (sec : Int) (nm : ByteArray) (g : Nat) (w : World) : Prop where
 rules : At w (g + 1) [.string ⟨#[69]⟩, .int .i64 1996, .int .i64 9999, .int .i64 3, .int .u8 1, .int .i64 0, .int .i64 0, .int .i64 sec, .int .u8 2, .int .i64 3600, .string ⟨#[83]⟩, .string ⟨#[69]⟩, .int .i64 1996, .int .i64 9999, .int .i64 10, .int .u8 1, .int .i64 0, .int .i64 0, .int .i64 3600, .int .u8 2, .int .i64 0, .string ⟨#[]⟩]
 eras : At w (g + 1 + 1 + 1) [.int .i64 3620, .int .u8 0, .int .i64 0, .string ⟨#[]⟩, .string ⟨#[120]⟩, .bool true, .int .i64 1996, .int .i64 1, .int .u8 0, .int .i64 1, .int .i64 0, .int .i64 0, .int .u8 2, .int .i64 3600, .int .u8 2, .int .i64 0, .string ⟨#[69]⟩, .string ⟨#[67, 69, 37, 115, 84]⟩, .bool false, .int .i64 0, .int .i64 0, .int .u8 0, .int .i64 0, .int .i64 0, .int .i64 0, .int .u8 0]
 zone : At w (g + 1 + 1 + 1 + 1) [.string ⟨#[65, 47, 66]⟩, .slice (some ⟨g + 1 + 1 + 1, 0, none⟩) 2 2]
 link : At w (g + 1 + 1 + 1 + 1 + 1) [.string ⟨#[65, 47, 66]⟩, .string nm]
theorem Is.call {sec : Int} {nm : ByteArray} {g : Nat} {w w' : World} (h : Is sec nm g w) (hb : Below w.heap.size w w') : Is sec nm g w' := ⟨h.rules.call hb, h.eras.call hb, h.zone.call hb, h.link.call hb⟩
theorem Is.src {g : Nat} {w : World} (h : Is 3600 ⟨#[67]⟩ g w) : Src.SrcR w w.heap.size L46.s (.slice (some ⟨g + 1, 0, none⟩) 2 2) (.slice (some ⟨g + 1 + 1 + 1 + 1, 0, none⟩) 1 1) (.slice (some ⟨g + 1 + 1 + 1 + 1 + 1, 0, none⟩) 1 1) [.slice (some ⟨g + 1 + 1 + 1, 0, none⟩) 2 2] := by
 refine ⟨⟨_, 2, rfl, Nat.le_refl _, by unfold maxLen; omega, Lit.reads h.rules rfl⟩, ⟨_, 1, rfl, Nat.le_refl _, by unfold maxLen; omega, Lit.reads h.zone rfl⟩, ⟨_, 1, rfl, Nat.le_refl _, by unfold maxLen; omega, Lit.reads h.link rfl⟩, rfl, ?_⟩;intro p hp;have e : p = (([65, 47, 66], [L46.e0_0, L46.e0_1]), .slice (some ⟨g + 1 + 1 + 1, 0, none⟩) 2 2) := by simpa [L46.s] using hp
 subst e;exact ⟨_, 2, rfl, Nat.le_refl _, by unfold maxLen; omega, Lit.reads h.eras rfl⟩
theorem Is.src2 {g : Nat} {w : World} (h : Is 7200 ⟨#[68]⟩ g w) : Src.SrcR w w.heap.size M46.s (.slice (some ⟨g + 1, 0, none⟩) 2 2) (.slice (some ⟨g + 1 + 1 + 1 + 1, 0, none⟩) 1 1) (.slice (some ⟨g + 1 + 1 + 1 + 1 + 1, 0, none⟩) 1 1) [.slice (some ⟨g + 1 + 1 + 1, 0, none⟩) 2 2] := by
 refine ⟨⟨_, 2, rfl, Nat.le_refl _, by unfold maxLen; omega, Lit.reads h.rules rfl⟩, ⟨_, 1, rfl, Nat.le_refl _, by unfold maxLen; omega, Lit.reads h.zone rfl⟩, ⟨_, 1, rfl, Nat.le_refl _, by unfold maxLen; omega, Lit.reads h.link rfl⟩, rfl, ?_⟩;intro p hp;have e : p = (([65, 47, 66], [M46.e0_0, M46.e0_1]), .slice (some ⟨g + 1 + 1 + 1, 0, none⟩) 2 2) := by simpa [M46.s] using hp
 subst e;exact ⟨_, 2, rfl, Nat.le_refl _, by unfold maxLen; omega, Lit.reads h.eras rfl⟩
def Ret (w : World) (e : Ending) (w' : World) : Prop := ∃ g, e = .returned (.agg #[.slice (some ⟨g + 1, 0, none⟩) 2 2, .slice (some ⟨g + 1 + 1 + 1 + 1, 0, none⟩) 1 1, .slice (some ⟨g + 1 + 1 + 1 + 1 + 1, 0, none⟩) 1 1]) ∧ Is 3600 ⟨#[67]⟩ g w' ∧ w.heap.size ≤ g ∧ Below w.heap.size w w'
end Eu
theorem eu_results {tmps : Array Value} {w : World} {g : Nat} {a b c : Value} (h0 : tmps[0]?.getD undef = .pointer (some ⟨g, 0, none⟩)) (c0 : w.cell? ⟨g, 0, none⟩ = some a) (c1 : w.cell? ⟨g, 1, none⟩ = some b) (c2 : w.cell? ⟨g, 2, none⟩ = some c) :
  (results Tryz.f46 tmps).run Tryz.prog w = .ok (.agg #[a, b, c]) w := by
 simp [results, Tryz.f46, go_sem, h0, c0, c1, c2]
theorem europe_at (w : World) : Calls Tryz.prog 46 #[] w (Eu.Ret w) := by
 obtain ⟨g, hg⟩ : ∃ g, w.heap.size = g := ⟨_, rfl⟩
 have hB : Below w.heap.size w ((((((w.alloc (.cells #[.slice (some ⟨g + 1, 0, none⟩) 2 2, .slice (some ⟨g + 1 + 1 + 1 + 1, 0, none⟩) 1 1, .slice (some ⟨g + 1 + 1 + 1 + 1 + 1, 0, none⟩) 1 1] 26)).alloc (.cells #[.string ⟨#[69]⟩, .int .i64 1996, .int .i64 9999, .int .i64 3, .int .u8 1, .int .i64 0, .int .i64 0, .int .i64 3600, .int .u8 2, .int .i64 3600, .string ⟨#[83]⟩, .string ⟨#[69]⟩, .int .i64 1996, .int .i64 9999, .int .i64 10, .int .u8 1, .int .i64 0, .int .i64 0, .int .i64 3600, .int .u8 2, .int .i64 0, .string ⟨#[]⟩] 112)).alloc (.cells #[.slice (some ⟨g + 1, 0, none⟩) 2 2, .slice (some ⟨g + 1 + 1 + 1 + 1, 0, none⟩) 1 1, .slice (some ⟨g + 1 + 1 + 1 + 1 + 1, 0, none⟩) 1 1] 26)).alloc (.cells #[.int .i64 3620, .int .u8 0, .int .i64 0, .string ⟨#[]⟩, .string ⟨#[120]⟩, .bool true, .int .i64 1996, .int .i64 1, .int .u8 0, .int .i64 1, .int .i64 0, .int .i64 0, .int .u8 2, .int .i64 3600, .int .u8 2, .int .i64 0, .string ⟨#[69]⟩, .string ⟨#[67, 69, 37, 115, 84]⟩, .bool false, .int .i64 0, .int .i64 0, .int .u8 0, .int .i64 0, .int .i64 0, .int .i64 0, .int .u8 0] 191)).alloc (.cells #[.string ⟨#[65, 47, 66]⟩, .slice (some ⟨g + 1 + 1 + 1, 0, none⟩) 2 2] 117)).alloc (.cells #[.string ⟨#[65, 47, 66]⟩, .string ⟨#[67]⟩] 114)) := Hv.bl (Hv.bl (Hv.bl (Hv.bl (Hv.bl (Hv.bl1 _ _) _) _) _) _) _;have hI : Eu.Is 3600 ⟨#[67]⟩ g ((((((w.alloc (.cells #[.slice (some ⟨g + 1, 0, none⟩) 2 2, .slice (some ⟨g + 1 + 1 + 1 + 1, 0, none⟩) 1 1, .slice (some ⟨g + 1 + 1 + 1 + 1 + 1, 0, none⟩) 1 1] 26)).alloc (.cells #[.string ⟨#[69]⟩, .int .i64 1996, .int .i64 9999, .int .i64 3, .int .u8 1, .int .i64 0, .int .i64 0, .int .i64 3600, .int .u8 2, .int .i64 3600, .string ⟨#[83]⟩, .string ⟨#[69]⟩, .int .i64 1996, .int .i64 9999, .int .i64 10, .int .u8 1, .int .i64 0, .int .i64 0, .int .i64 3600, .int .u8 2, .int .i64 0, .string ⟨#[]⟩] 112)).alloc (.cells #[.slice (some ⟨g + 1, 0, none⟩) 2 2, .slice (some ⟨g + 1 + 1 + 1 + 1, 0, none⟩) 1 1, .slice (some ⟨g + 1 + 1 + 1 + 1 + 1, 0, none⟩) 1 1] 26)).alloc (.cells #[.int .i64 3620, .int .u8 0, .int .i64 0, .string ⟨#[]⟩, .string ⟨#[120]⟩, .bool true, .int .i64 1996, .int .i64 1, .int .u8 0, .int .i64 1, .int .i64 0, .int .i64 0, .int .u8 2, .int .i64 3600, .int .u8 2, .int .i64 0, .string ⟨#[69]⟩, .string ⟨#[67, 69, 37, 115, 84]⟩, .bool false, .int .i64 0, .int .i64 0, .int .u8 0, .int .i64 0, .int .i64 0, .int .i64 0, .int .u8 0] 191)).alloc (.cells #[.string ⟨#[65, 47, 66]⟩, .slice (some ⟨g + 1 + 1 + 1, 0, none⟩) 2 2] 117)).alloc (.cells #[.string ⟨#[65, 47, 66]⟩, .string ⟨#[67]⟩] 114)) := ⟨((((Lit.newAt (w.alloc (.cells #[.slice (some ⟨g + 1, 0, none⟩) 2 2, .slice (some ⟨g + 1 + 1 + 1 + 1, 0, none⟩) 1 1, .slice (some ⟨g + 1 + 1 + 1 + 1 + 1, 0, none⟩) 1 1] 26)) #[.string ⟨#[69]⟩, .int .i64 1996, .int .i64 9999, .int .i64 3, .int .u8 1, .int .i64 0, .int .i64 0, .int .i64 3600, .int .u8 2, .int .i64 3600, .string ⟨#[83]⟩, .string ⟨#[69]⟩, .int .i64 1996, .int .i64 9999, .int .i64 10, .int .u8 1, .int .i64 0, .int .i64 0, .int .i64 3600, .int .u8 2, .int .i64 0, .string ⟨#[]⟩] 112 (g + 1) (by simp [hg])).allocO (.cells #[.slice (some ⟨g + 1, 0, none⟩) 2 2, .slice (some ⟨g + 1 + 1 + 1 + 1, 0, none⟩) 1 1, .slice (some ⟨g + 1 + 1 + 1 + 1 + 1, 0, none⟩) 1 1] 26)).allocO (.cells #[.int .i64 3620, .int .u8 0, .int .i64 0, .string ⟨#[]⟩, .string ⟨#[120]⟩, .bool true, .int .i64 1996, .int .i64 1, .int .u8 0, .int .i64 1, .int .i64 0, .int .i64 0, .int .u8 2, .int .i64 3600, .int .u8 2, .int .i64 0, .string ⟨#[69]⟩, .string ⟨#[67, 69, 37, 115, 84]⟩, .bool false, .int .i64 0, .int .i64 0, .int .u8 0, .int .i64 0, .int .i64 0, .int .i64 0, .int .u8 0] 191)).allocO (.cells #[.string ⟨#[65, 47, 66]⟩, .slice (some ⟨g + 1 + 1 + 1, 0, none⟩) 2 2] 117)).allocO (.cells #[.string ⟨#[65, 47, 66]⟩, .string ⟨#[67]⟩] 114), ((Lit.newAt (((w.alloc (.cells #[.slice (some ⟨g + 1, 0, none⟩) 2 2, .slice (some ⟨g + 1 + 1 + 1 + 1, 0, none⟩) 1 1, .slice (some ⟨g + 1 + 1 + 1 + 1 + 1, 0, none⟩) 1 1] 26)).alloc (.cells #[.string ⟨#[69]⟩, .int .i64 1996, .int .i64 9999, .int .i64 3, .int .u8 1, .int .i64 0, .int .i64 0, .int .i64 3600, .int .u8 2, .int .i64 3600, .string ⟨#[83]⟩, .string ⟨#[69]⟩, .int .i64 1996, .int .i64 9999, .int .i64 10, .int .u8 1, .int .i64 0, .int .i64 0, .int .i64 3600, .int .u8 2, .int .i64 0, .string ⟨#[]⟩] 112)).alloc (.cells #[.slice (some ⟨g + 1, 0, none⟩) 2 2, .slice (some ⟨g + 1 + 1 + 1 + 1, 0, none⟩) 1 1, .slice (some ⟨g + 1 + 1 + 1 + 1 + 1, 0, none⟩) 1 1] 26)) #[.int .i64 3620, .int .u8 0, .int .i64 0, .string ⟨#[]⟩, .string ⟨#[120]⟩, .bool true, .int .i64 1996, .int .i64 1, .int .u8 0, .int .i64 1, .int .i64 0, .int .i64 0, .int .u8 2, .int .i64 3600, .int .u8 2, .int .i64 0, .string ⟨#[69]⟩, .string ⟨#[67, 69, 37, 115, 84]⟩, .bool false, .int .i64 0, .int .i64 0, .int .u8 0, .int .i64 0, .int .i64 0, .int .i64 0, .int .u8 0] 191 (g + 1 + 1 + 1) (by simp [hg])).allocO (.cells #[.string ⟨#[65, 47, 66]⟩, .slice (some ⟨g + 1 + 1 + 1, 0, none⟩) 2 2] 117)).allocO (.cells #[.string ⟨#[65, 47, 66]⟩, .string ⟨#[67]⟩] 114), (Lit.newAt ((((w.alloc (.cells #[.slice (some ⟨g + 1, 0, none⟩) 2 2, .slice (some ⟨g + 1 + 1 + 1 + 1, 0, none⟩) 1 1, .slice (some ⟨g + 1 + 1 + 1 + 1 + 1, 0, none⟩) 1 1] 26)).alloc (.cells #[.string ⟨#[69]⟩, .int .i64 1996, .int .i64 9999, .int .i64 3, .int .u8 1, .int .i64 0, .int .i64 0, .int .i64 3600, .int .u8 2, .int .i64 3600, .string ⟨#[83]⟩, .string ⟨#[69]⟩, .int .i64 1996, .int .i64 9999, .int .i64 10, .int .u8 1, .int .i64 0, .int .i64 0, .int .i64 3600, .int .u8 2, .int .i64 0, .string ⟨#[]⟩] 112)).alloc (.cells #[.slice (some ⟨g + 1, 0, none⟩) 2 2, .slice (some ⟨g + 1 + 1 + 1 + 1, 0, none⟩) 1 1, .slice (some ⟨g + 1 + 1 + 1 + 1 + 1, 0, none⟩) 1 1] 26)).alloc (.cells #[.int .i64 3620, .int .u8 0, .int .i64 0, .string ⟨#[]⟩, .string ⟨#[120]⟩, .bool true, .int .i64 1996, .int .i64 1, .int .u8 0, .int .i64 1, .int .i64 0, .int .i64 0, .int .u8 2, .int .i64 3600, .int .u8 2, .int .i64 0, .string ⟨#[69]⟩, .string ⟨#[67, 69, 37, 115, 84]⟩, .bool false, .int .i64 0, .int .i64 0, .int .u8 0, .int .i64 0, .int .i64 0, .int .i64 0, .int .u8 0] 191)) #[.string ⟨#[65, 47, 66]⟩, .slice (some ⟨g + 1 + 1 + 1, 0, none⟩) 2 2] 117 (g + 1 + 1 + 1 + 1) (by simp [hg])).allocO (.cells #[.string ⟨#[65, 47, 66]⟩, .string ⟨#[67]⟩] 114), Lit.newAt (((((w.alloc (.cells #[.slice (some ⟨g + 1, 0, none⟩) 2 2, .slice (some ⟨g + 1 + 1 + 1 + 1, 0, none⟩) 1 1, .slice (some ⟨g + 1 + 1 + 1 + 1 + 1, 0, none⟩) 1 1] 26)).alloc (.cells #[.string ⟨#[69]⟩, .int .i64 1996, .int .i64 9999, .int .i64 3, .int .u8 1, .int .i64 0, .int .i64 0, .int .i64 3600, .int .u8 2, .int .i64 3600, .string ⟨#[83]⟩, .string ⟨#[69]⟩, .int .i64 1996, .int .i64 9999, .int .i64 10, .int .u8 1, .int .i64 0, .int .i64 0, .int .i64 3600, .int .u8 2, .int .i64 0, .string ⟨#[]⟩] 112)).alloc (.cells #[.slice (some ⟨g + 1, 0, none⟩) 2 2, .slice (some ⟨g + 1 + 1 + 1 + 1, 0, none⟩) 1 1, .slice (some ⟨g + 1 + 1 + 1 + 1 + 1, 0, none⟩) 1 1] 26)).alloc (.cells #[.int .i64 3620, .int .u8 0, .int .i64 0, .string ⟨#[]⟩, .string ⟨#[120]⟩, .bool true, .int .i64 1996, .int .i64 1, .int .u8 0, .int .i64 1, .int .i64 0, .int .i64 0, .int .u8 2, .int .i64 3600, .int .u8 2, .int .i64 0, .string ⟨#[69]⟩, .string ⟨#[67, 69, 37, 115, 84]⟩, .bool false, .int .i64 0, .int .i64 0, .int .u8 0, .int .i64 0, .int .i64 0, .int .i64 0, .int .u8 0] 191)).alloc (.cells #[.string ⟨#[65, 47, 66]⟩, .slice (some ⟨g + 1 + 1 + 1, 0, none⟩) 2 2] 117)) #[.string ⟨#[65, 47, 66]⟩, .string ⟨#[67]⟩] 114 (g + 1 + 1 + 1 + 1 + 1) (by simp [hg])⟩
 have HF := Lib.hid (show Eu.Ret w (.returned (.agg #[.slice (some ⟨g + 1, 0, none⟩) 2 2, .slice (some ⟨g + 1 + 1 + 1 + 1, 0, none⟩) 1 1, .slice (some ⟨g + 1 + 1 + 1 + 1 + 1, 0, none⟩) 1 1])) ((((((w.alloc (.cells #[.slice (some ⟨g + 1, 0, none⟩) 2 2, .slice (some ⟨g + 1 + 1 + 1 + 1, 0, none⟩) 1 1, .slice (some ⟨g + 1 + 1 + 1 + 1 + 1, 0, none⟩) 1 1] 26)).alloc (.cells #[.string ⟨#[69]⟩, .int .i64 1996, .int .i64 9999, .int .i64 3, .int .u8 1, .int .i64 0, .int .i64 0, .int .i64 3600, .int .u8 2, .int .i64 3600, .string ⟨#[83]⟩, .string ⟨#[69]⟩, .int .i64 1996, .int .i64 9999, .int .i64 10, .int .u8 1, .int .i64 0, .int .i64 0, .int .i64 3600, .int .u8 2, .int .i64 0, .string ⟨#[]⟩] 112)).alloc (.cells #[.slice (some ⟨g + 1, 0, none⟩) 2 2, .slice (some ⟨g + 1 + 1 + 1 + 1, 0, none⟩) 1 1, .slice (some ⟨g + 1 + 1 + 1 + 1 + 1, 0, none⟩) 1 1] 26)).alloc (.cells #[.int .i64 3620, .int .u8 0, .int .i64 0, .string ⟨#[]⟩, .string ⟨#[120]⟩, .bool true, .int .i64 1996, .int .i64 1, .int .u8 0, .int .i64 1, .int .i64 0, .int .i64 0, .int .u8 2, .int .i64 3600, .int .u8 2, .int .i64 0, .string ⟨#[69]⟩, .string ⟨#[67, 69, 37, 115, 84]⟩, .bool false, .int .i64 0, .int .i64 0, .int .u8 0, .int .i64 0, .int .i64 0, .int .i64 0, .int .u8 0] 191)).alloc (.cells #[.string ⟨#[65, 47, 66]⟩, .slice (some ⟨g + 1 + 1 + 1, 0, none⟩) 2 2] 117)).alloc (.cells #[.string ⟨#[65, 47, 66]⟩, .string ⟨#[67]⟩] 114)) from ⟨g, rfl, hI, by omega, hB⟩);have HA := Lib.hid ((((((Lit.newAt w #[.slice (some ⟨g + 1, 0, none⟩) 2 2, .slice (some ⟨g + 1 + 1 + 1 + 1, 0, none⟩) 1 1, .slice (some ⟨g + 1 + 1 + 1 + 1 + 1, 0, none⟩) 1 1] 26 (g) (by simp [hg])).allocO (.cells #[.string ⟨#[69]⟩, .int .i64 1996, .int .i64 9999, .int .i64 3, .int .u8 1, .int .i64 0, .int .i64 0, .int .i64 3600, .int .u8 2, .int .i64 3600, .string ⟨#[83]⟩, .string ⟨#[69]⟩, .int .i64 1996, .int .i64 9999, .int .i64 10, .int .u8 1, .int .i64 0, .int .i64 0, .int .i64 3600, .int .u8 2, .int .i64 0, .string ⟨#[]⟩] 112)).allocO (.cells #[.slice (some ⟨g + 1, 0, none⟩) 2 2, .slice (some ⟨g + 1 + 1 + 1 + 1, 0, none⟩) 1 1, .slice (some ⟨g + 1 + 1 + 1 + 1 + 1, 0, none⟩) 1 1] 26)).allocO (.cells #[.int .i64 3620, .int .u8 0, .int .i64 0, .string ⟨#[]⟩, .string ⟨#[120]⟩, .bool true, .int .i64 1996, .int .i64 1, .int .u8 0, .int .i64 1, .int .i64 0, .int .i64 0, .int .u8 2, .int .i64 3600, .int .u8 2, .int .i64 0, .string ⟨#[69]⟩, .string ⟨#[67, 69, 37, 115, 84]⟩, .bool false, .int .i64 0, .int .i64 0, .int .u8 0, .int .i64 0, .int .i64 0, .int .i64 0, .int .u8 0] 191)).allocO (.cells #[.string ⟨#[65, 47, 66]⟩, .slice (some ⟨g + 1 + 1 + 1, 0, none⟩) 2 2] 117)).allocO (.cells #[.string ⟨#[65, 47, 66]⟩, .string ⟨#[67]⟩] 114))
 clear hB hI;go_enter Tryz.func46, Tryz.ntmps46
 obtain ⟨c0, c1, c2, _⟩ := HA.out.three;go_wp2;refine bodyPost_ret (eu_results rfl c0 c1 c2) rfl ?_;exact HF.out
end Go.Proofs.YtjobhjemnmleaaaGreatDoor
namespace Go.Proofs.YtjobhjemnmleaaaGreatDoor
open Go.RowKit
namespace Df
theorem ChRet.list {s t : Src.S} {lo hi : Int} {w w' : World} {e : Ending} (h : ChRet s t lo hi w e w') (h1 : Vd.well s = true) (h2 : Vd.well t = true) (h3 : Ln.InY lo hi) :
  ∃ A c, e = .returned (.tuple #[.slice A (changes s t lo hi).length c, .int .i64 0]) ∧ w'.ownsRow w.heap.size 37 3 (.slice A (changes s t lo hi).length c) (changes s t lo hi).length ((changes s t lo hi).flatMap Ch.cells) ∧ Below w.heap.size w w' := by
 obtain ⟨hb, ⟨q, _⟩ | ⟨_, _, q, _⟩ | ⟨_, _, _, v, rfl, ho⟩⟩ := h
 ·exact absurd ⟨h1, h2⟩ q
 ·exact absurd h3 q
 ·obtain ⟨A, c, rfl, _, _⟩ := own_slice_cap ho;exact ⟨A, c, rfl, ho, hb⟩
theorem ChRet.form {s t : Src.S} {lo hi : Int} {w w' : World} {e : Ending} (h : ChRet s t lo hi w e w') (h1 : ¬ (Vd.well s = true ∧ Vd.well t = true)) : e = .returned (.tuple #[.slice none 0 0, .int .i64 2]) ∧ Below w.heap.size w w' := by
 obtain ⟨hb, ⟨_, rfl⟩ | ⟨q1, q2, _⟩ | ⟨q1, q2, _⟩⟩ := h
 ·exact ⟨rfl, hb⟩
 ·exact absurd ⟨q1, q2⟩ h1
 ·exact absurd ⟨q1, q2⟩ h1
theorem ChRet.range {s t : Src.S} {lo hi : Int} {w w' : World} {e : Ending} (h : ChRet s t lo hi w e w') (h1 : Vd.well s = true) (h2 : Vd.well t = true) (h3 : ¬ Ln.InY lo hi) : e = .returned (.tuple #[.slice none 0 0, .int .i64 1]) ∧ Below w.heap.size w w' := by
 obtain ⟨hb, ⟨q, _⟩ | ⟨_, _, _, rfl⟩ | ⟨_, _, q, _⟩⟩ := h
 ·exact absurd ⟨h1, h2⟩ q
 ·exact ⟨rfl, hb⟩
 ·exact absurd q h3
end Df
theorem lives46 (w : World) (hW : Wo w) (hA : Wa w) : Calls Tryz.prog 11 #[] w fun e w' => e = .returned (.bool true) ∧ Below w.heap.size w w' := by
 have HWo := Lib.hid hW;have HWa := Lib.hid hA;have HE1 := Lib.hid (europe_at w);clear hW hA;go_enter Tryz.func11, Tryz.ntmps11
 go_wp2_with fail
 refine HE1.out.mono ?_;rintro e w1 ⟨g1, rfl, hi1, hg1, hb1⟩;have HI1 := Lib.hid hi1;have HB := Lib.hid hb1;clear hi1 hb1 HE1;obtain ⟨V1, hV1⟩ : ∃ X, (w1.alloc (.cells #[.slice (some ⟨g1 + 1, 0, none⟩) 2 2, .slice (some ⟨g1 + 1 + 1 + 1 + 1, 0, none⟩) 1 1, .slice (some ⟨g1 + 1 + 1 + 1 + 1 + 1, 0, none⟩) 1 1] 26)) = X := ⟨_, rfl⟩
 obtain ⟨gA, hgA⟩ : ∃ q, w1.heap.size = q := ⟨_, rfl⟩
 have hbn : Below w1.heap.size w1 V1 := by rw [← hV1]; exact (Below.refl _ _).alloc (Nat.le_refl _) _
 have hAA : At V1 gA [.slice (some ⟨g1 + 1, 0, none⟩) 2 2, .slice (some ⟨g1 + 1 + 1 + 1 + 1, 0, none⟩) 1 1, .slice (some ⟨g1 + 1 + 1 + 1 + 1 + 1, 0, none⟩) 1 1] := by
  have h := (At.new w1 #[.slice (some ⟨g1 + 1, 0, none⟩) 2 2, .slice (some ⟨g1 + 1 + 1 + 1 + 1, 0, none⟩) 1 1, .slice (some ⟨g1 + 1 + 1 + 1 + 1 + 1, 0, none⟩) 1 1] 26)
  rw [hV1] at h
  try rw [hgA] at h
  exact h
 have geA : w.heap.size ≤ gA := by have := HB.out.size; omega
 have hBz := below_then HB.out hbn;clear HB;have HB := Lib.hid hBz;clear hBz;have HAA := Lib.hid hAA;have HEV1 := Lib.hid hV1;have HGgA := Lib.hid hgA;have hEz := HI1.out.call hbn;clear HI1;have HI1 := Lib.hid hEz;clear hEz;clear hbn hV1 hgA hAA;have HE2 := Lib.hid (europe_at V1);go_upto_region 2 with fail
 rw [HEV1.out]
 try rw [HGgA.out]
 go_wp2_with fail
 refine HE2.out.mono ?_;rintro e w2 ⟨g2, rfl, hi2, hg2, hb⟩;have HIA : Hid (gA < g2) := by
  show _ < _
  have h1 := HAA.out.lt;omega
 have hlt1 := HI1.out.link.lt;have HG12 : Hid (g1 + 1 + 1 + 1 + 1 + 1 < g2) := by
  show _ < _
  omega
 clear HE2 hlt1;have hEz := HI1.out.call hb;clear HI1;have HI1 := Lib.hid hEz;clear hEz;have HI2 := Lib.hid hi2;clear hi2;have hBz := below_then HB.out hb;clear HB;have HB := Lib.hid hBz;clear hBz;have hAz := HAA.out.call hb;clear HAA;have HAA := Lib.hid hAz;clear hAz;clear hb;obtain ⟨V2, hV2⟩ : ∃ X, (w2.alloc (.cells #[.slice (some ⟨g2 + 1, 0, none⟩) 2 2, .slice (some ⟨g2 + 1 + 1 + 1 + 1, 0, none⟩) 1 1, .slice (some ⟨g2 + 1 + 1 + 1 + 1 + 1, 0, none⟩) 1 1] 26)) = X := ⟨_, rfl⟩
 obtain ⟨gB, hgB⟩ : ∃ q, w2.heap.size = q := ⟨_, rfl⟩
 have HIB : Hid (g2 + 1 + 1 + 1 + 1 + 1 < gB) := by
  show _ < _
  have h1 := HI2.out.link.lt;omega
 have hbn : Below w2.heap.size w2 V2 := by rw [← hV2]; exact (Below.refl _ _).alloc (Nat.le_refl _) _
 have hAB : At V2 gB [.slice (some ⟨g2 + 1, 0, none⟩) 2 2, .slice (some ⟨g2 + 1 + 1 + 1 + 1, 0, none⟩) 1 1, .slice (some ⟨g2 + 1 + 1 + 1 + 1 + 1, 0, none⟩) 1 1] := by
  have h := (At.new w2 #[.slice (some ⟨g2 + 1, 0, none⟩) 2 2, .slice (some ⟨g2 + 1 + 1 + 1 + 1, 0, none⟩) 1 1, .slice (some ⟨g2 + 1 + 1 + 1 + 1 + 1, 0, none⟩) 1 1] 26)
  rw [hV2] at h
  try rw [hgB] at h
  exact h
 have geB : w.heap.size ≤ gB := by have := HB.out.size; omega
 have neB_A : gB ≠ gA := by have := HAA.out.lt; omega
 have neA_B : gA ≠ gB := by have := HAA.out.lt; omega
 have hBz := below_then HB.out hbn;clear HB;have HB := Lib.hid hBz;clear hBz;have hAz := HAA.out.call hbn;clear HAA;have HAA := Lib.hid hAz;clear hAz;have HAB := Lib.hid hAB;have HEV2 := Lib.hid hV2;have HGgB := Lib.hid hgB;have hEz := HI1.out.call hbn;clear HI1;have HI1 := Lib.hid hEz;clear hEz;have hEz := HI2.out.call hbn;clear HI2;have HI2 := Lib.hid hEz;clear hEz;clear hbn hV2 hgB hAB;go_upto_region 3 with fail
 rw [HEV2.out]
 try rw [HGgB.out]
 have B0 := HAB.out.cell 0 _ rfl;have B1 := HAB.out.cell 1 _ rfl;have B2 := HAB.out.cell 2 _ rfl;have zB := HAB.out.lt;have hr7 := HI2.out.rules.cell 7 _ rfl;have hf7 := HI2.out.rules.free 7 _ rfl;have hl1 := HI2.out.link.cell 1 _ rfl;have hf1 := HI2.out.link.free 1 _ rfl;have zr := HI2.out.rules.lt;have zl := HI2.out.link.lt;have hne15 : ¬ (g2 + 1 = g2 + 1 + 1 + 1 + 1 + 1) := by omega
 have hne51 : ¬ (g2 + 1 + 1 + 1 + 1 + 1 = g2 + 1) := by omega
 have hneB : gB ≠ g2 + 1 := by have := HI2.out.link; have := HG12.out; have := HIB.out; omega
 have hneB5 : gB ≠ g2 + 1 + 1 + 1 + 1 + 1 := by have := HIB.out; omega
 go_upto_region 5 with fail
 obtain ⟨V3, hV3⟩ : ∃ X, (V2.setCell ⟨g2 + 1, 7, none⟩ (.int .i64 7200)).setCell ⟨g2 + 1 + 1 + 1 + 1 + 1, 1, none⟩ (.string ⟨#[68]⟩) = X := ⟨_, rfl⟩
 have hI2 : Eu.Is 7200 ⟨#[68]⟩ g2 V3 := by
  rw [← hV3];exact ⟨(HI2.out.rules.set 7 (.int .i64 7200)).set_other _ _ (by show g2 + 1 + 1 + 1 + 1 + 1 ≠ g2 + 1; omega), (HI2.out.eras.set_other _ _ (by show g2 + 1 ≠ _; omega)).set_other _ _ (by show g2 + 1 + 1 + 1 + 1 + 1 ≠ _; omega), (HI2.out.zone.set_other _ _ (by show g2 + 1 ≠ _; omega)).set_other _ _ (by show g2 + 1 + 1 + 1 + 1 + 1 ≠ _; omega), (HI2.out.link.set_other _ _ (by show g2 + 1 ≠ _; omega)).set 1 (.string ⟨#[68]⟩)⟩
 have hI1 : Eu.Is 3600 ⟨#[67]⟩ g1 V3 := by
  have hq := HG12.out;rw [← hV3];exact ⟨(HI1.out.rules.set_other _ _ (by show g2 + 1 ≠ _; omega)).set_other _ _ (by show g2 + 1 + 1 + 1 + 1 + 1 ≠ _; omega), (HI1.out.eras.set_other _ _ (by show g2 + 1 ≠ _; omega)).set_other _ _ (by show g2 + 1 + 1 + 1 + 1 + 1 ≠ _; omega), (HI1.out.zone.set_other _ _ (by show g2 + 1 ≠ _; omega)).set_other _ _ (by show g2 + 1 + 1 + 1 + 1 + 1 ≠ _; omega), (HI1.out.link.set_other _ _ (by show g2 + 1 ≠ _; omega)).set_other _ _ (by show g2 + 1 + 1 + 1 + 1 + 1 ≠ _; omega)⟩
 have hqA := HIA.out;have hAz : At V3 gA [.slice (some ⟨g1 + 1, 0, none⟩) 2 2, .slice (some ⟨g1 + 1 + 1 + 1 + 1, 0, none⟩) 1 1, .slice (some ⟨g1 + 1 + 1 + 1 + 1 + 1, 0, none⟩) 1 1] := by rw [← hV3]; exact (HAA.out.set_other _ _ (by show g2 + 1 ≠ _; omega)).set_other _ _ (by show g2 + 1 + 1 + 1 + 1 + 1 ≠ _; omega)
 have hBz2 : At V3 gB [.slice (some ⟨g2 + 1, 0, none⟩) 2 2, .slice (some ⟨g2 + 1 + 1 + 1 + 1, 0, none⟩) 1 1, .slice (some ⟨g2 + 1 + 1 + 1 + 1 + 1, 0, none⟩) 1 1] := by rw [← hV3]; exact (HAB.out.set_other _ _ (Ne.symm hneB)).set_other _ _ (Ne.symm hneB5)
 have hBz : Below w.heap.size w V3 := by rw [← hV3]; exact (HB.out.setCell (p := ⟨g2 + 1, 7, none⟩) (by show _ ≤ g2 + 1; omega) _).setCell (p := ⟨g2 + 1 + 1 + 1 + 1 + 1, 1, none⟩) (by show _ ≤ g2 + 1 + 1 + 1 + 1 + 1; omega) _
 have HE3 := Lib.hid hV3;clear HI1 HI2 HAA HAB HB hr7 hf7 hl1 hf1 zr zl hne15 hne51 hneB hneB5 hqA hV3;have HI1 := Lib.hid hI1;have HI2 := Lib.hid hI2;have HAA := Lib.hid hAz;have HAB := Lib.hid hBz2;have HB := Lib.hid hBz;clear hI1 hI2 hAz hBz2 hBz;rw [HE3.out];clear B0 B1 B2 zB;have HBv : Hid (Below V3.heap.size V3 V3) := Below.refl _ _;have HCab : Hid (∀ W lo hi, Below V3.heap.size V3 W → -9223372036854775808 ≤ lo ∧ lo < 9223372036854775808 → -9223372036854775808 ≤ hi ∧ hi < 9223372036854775808 → Calls Tryz.prog 13 #[.agg #[.slice (some ⟨g1 + 1, 0, none⟩) 2 2, .slice (some ⟨g1 + 1 + 1 + 1 + 1, 0, none⟩) 1 1, .slice (some ⟨g1 + 1 + 1 + 1 + 1 + 1, 0, none⟩) 1 1], .agg #[.slice (some ⟨g2 + 1, 0, none⟩) 2 2, .slice (some ⟨g2 + 1 + 1 + 1 + 1, 0, none⟩) 1 1, .slice (some ⟨g2 + 1 + 1 + 1 + 1 + 1, 0, none⟩) 1 1], .int .i64 lo, .int .i64 hi] W (Df.ChRet L46.s M46.s lo hi W)) := fun W lo hi hb h1 h2 => dfChanges_any L46.s M46.s lo hi _ _ _ _ _ _ _ _ W (HI1.out.call hb).src (HI2.out.call hb).src2 L46.sz M46.sz (HWo.out.below (below_then HB.out hb)) (HWa.out.below (below_then HB.out hb)) h1 h2 L46.ccs L46.rcs M46.ccs M46.rcs
 have HCaa : Hid (∀ W, Below V3.heap.size V3 W → Calls Tryz.prog 13 #[.agg #[.slice (some ⟨g1 + 1, 0, none⟩) 2 2, .slice (some ⟨g1 + 1 + 1 + 1 + 1, 0, none⟩) 1 1, .slice (some ⟨g1 + 1 + 1 + 1 + 1 + 1, 0, none⟩) 1 1], .agg #[.slice (some ⟨g1 + 1, 0, none⟩) 2 2, .slice (some ⟨g1 + 1 + 1 + 1 + 1, 0, none⟩) 1 1, .slice (some ⟨g1 + 1 + 1 + 1 + 1 + 1, 0, none⟩) 1 1], .int .i64 1995, .int .i64 1997] W (Df.ChRet L46.s L46.s 1995 1997 W)) := fun W hb => dfChanges_any L46.s L46.s 1995 1997 _ _ _ _ _ _ _ _ W (HI1.out.call hb).src (HI1.out.call hb).src L46.sz L46.sz (HWo.out.below (below_then HB.out hb)) (HWa.out.below (below_then HB.out hb)) (by decide) (by decide) L46.ccs L46.rcs L46.ccs L46.rcs
 have HCak : Hid (∀ W g, Below V3.heap.size V3 W → At W g [.string ⟨#[]⟩, .slice none 0 0] → Calls Tryz.prog 13 #[.agg #[.slice (some ⟨g1 + 1, 0, none⟩) 2 2, .slice (some ⟨g1 + 1 + 1 + 1 + 1, 0, none⟩) 1 1, .slice (some ⟨g1 + 1 + 1 + 1 + 1 + 1, 0, none⟩) 1 1], .agg #[.slice none 0 0, .slice (some ⟨g, 0, none⟩) 1 1, .slice none 0 0], .int .i64 1995, .int .i64 1997] W (Df.ChRet L46.s K46.s 1995 1997 W)) := fun W g hb hg => dfChanges_any L46.s K46.s 1995 1997 _ _ _ _ _ _ _ [.slice none 0 0] W (HI1.out.call hb).src (by
  refine ⟨⟨none, 0, rfl, Nat.le_refl _, by unfold maxLen; omega, rfl, fun h => absurd h (by decide)⟩, ⟨_, 1, rfl, Nat.le_refl _, by unfold maxLen; omega, Lit.reads hg rfl⟩, ⟨none, 0, rfl, Nat.le_refl _, by unfold maxLen; omega, rfl, fun h => absurd h (by decide)⟩, rfl, ?_⟩;intro p hp;have e : p = (([], []), .slice none 0 0) := by simpa [K46.s] using hp
  subst e;exact ⟨none, 0, rfl, Nat.le_refl _, by unfold maxLen; omega, rfl, fun h => absurd h (by decide)⟩) L46.sz K46.sz (HWo.out.below (below_then HB.out hb)) (HWa.out.below (below_then HB.out hb)) (by decide) (by decide) L46.ccs L46.rcs K46.ccs K46.rcs
 have HNab : Hid (∀ W, Below V3.heap.size V3 W → Calls Tryz.prog 16 #[.agg #[.slice (some ⟨g1 + 1, 0, none⟩) 2 2, .slice (some ⟨g1 + 1 + 1 + 1 + 1, 0, none⟩) 1 1, .slice (some ⟨g1 + 1 + 1 + 1 + 1 + 1, 0, none⟩) 1 1], .agg #[.slice (some ⟨g2 + 1, 0, none⟩) 2 2, .slice (some ⟨g2 + 1 + 1 + 1 + 1, 0, none⟩) 1 1, .slice (some ⟨g2 + 1 + 1 + 1 + 1 + 1, 0, none⟩) 1 1]] W (Df.NmsRet (Df.names L46.s M46.s) W)) := fun W hb => dfNames_any L46.s M46.s _ _ _ _ _ _ _ _ W (HI1.out.call hb).src (HI2.out.call hb).src2 L46.sz.lims M46.sz.lims L46.sz.names M46.sz.names
 have A0 := HAA.out.cell 0 _ rfl;have A1 := HAA.out.cell 1 _ rfl;have A2 := HAA.out.cell 2 _ rfl;have zA := HAA.out.lt;have B0 := HAB.out.cell 0 _ rfl;have B1 := HAB.out.cell 1 _ rfl;have B2 := HAB.out.cell 2 _ rfl;have zB := HAB.out.lt;go_wp2_with fail
 clear A0 A1 A2 zA B0 B1 B2 zB;refine (HCab.out V3 1995 1997 HBv.out (by decide) (by decide)).mono ?_;intro e w4 hret;obtain ⟨A1, c1, rfl, ho1, hb⟩ := hret.list L46.well M46.well K46.inY;rw [K46.changes] at ho1 ⊢;have HO1 := Lib.hid ho1;clear hret ho1;have hBv := below_then HBv.out hb;clear HBv;have HBv := Lib.hid hBv;clear hBv;have hBz := below_then HB.out hb;clear HB;have HB := Lib.hid hBz;clear hBz;have hAz := HAA.out.call hb;clear HAA;have HAA := Lib.hid hAz;clear hAz;have hAz := HAB.out.call hb;clear HAB;have HAB := Lib.hid hAz;clear hAz;clear hb;have A0 := HAA.out.cell 0 _ rfl;have A1 := HAA.out.cell 1 _ rfl;have A2 := HAA.out.cell 2 _ rfl;have zA := HAA.out.lt;have B0 := HAB.out.cell 0 _ rfl;have B1 := HAB.out.cell 1 _ rfl;have B2 := HAB.out.cell 2 _ rfl;have zB := HAB.out.lt;go_wp2_with fail
 clear A0 A1 A2 zA B0 B1 B2 zB;refine (HCaa.out w4 HBv.out).mono ?_;intro e w5 hret;obtain ⟨A2, c2, rfl, _, hb⟩ := hret.list L46.well L46.well K46.inY;rw [Df.changes_self];have ho1 := own_below HO1.out hb;clear hret HO1;have HO1 := Lib.hid ho1;clear ho1;have hBv := below_then HBv.out hb;clear HBv;have HBv := Lib.hid hBv;clear hBv;have hBz := below_then HB.out hb;clear HB;have HB := Lib.hid hBz;clear hBz;have hAz := HAA.out.call hb;clear HAA;have HAA := Lib.hid hAz;clear hAz;have hAz := HAB.out.call hb;clear HAB;have HAB := Lib.hid hAz;clear hAz;clear hb;have A0 := HAA.out.cell 0 _ rfl;have A1 := HAA.out.cell 1 _ rfl;have A2 := HAA.out.cell 2 _ rfl;have zA := HAA.out.lt;have B0 := HAB.out.cell 0 _ rfl;have B1 := HAB.out.cell 1 _ rfl;have B2 := HAB.out.cell 2 _ rfl;have zB := HAB.out.lt;go_upto_region 7 with fail
 clear A0 A1 A2 zA B0 B1 B2 zB;obtain ⟨gz, hgz⟩ : ∃ q, w5.heap.size = q := ⟨_, rfl⟩
 obtain ⟨W6, hW6⟩ : ∃ X, w5.alloc (.cells #[.string ⟨#[]⟩, .slice none 0 0] 117) = X := ⟨_, rfl⟩
 have hb : Below w5.heap.size w5 W6 := by rw [← hW6]; exact (Below.refl _ _).alloc (Nat.le_refl _) _
 have HZn : Hid (At W6 gz [.string ⟨#[]⟩, .slice none 0 0]) := by
  show At _ _ _
  rw [← hW6, ← hgz];exact At.new _ _ _
 have HE6 := Lib.hid hW6;have HGz := Lib.hid hgz;have ho1 := own_below HO1.out hb;clear HO1 hW6 hgz;have HO1 := Lib.hid ho1;clear ho1;obtain ⟨a0, a1, a2, _⟩ := HAA.out.three;have za := HAA.out.lt;have hBv := below_then HBv.out hb;clear HBv;have HBv := Lib.hid hBv;clear hBv;have hBz := below_then HB.out hb;clear HB;have HB := Lib.hid hBz;clear hBz;have hAz := HAA.out.call hb;clear HAA;have HAA := Lib.hid hAz;clear hAz;have hAz := HAB.out.call hb;clear HAB;have HAB := Lib.hid hAz;clear hAz;clear hb;go_wp2_with fail
 rw [HE6.out]
 try rw [HGz.out]
 refine (HCak.out W6 gz HBv.out HZn.out).mono ?_;intro e w7 hret;obtain ⟨rfl, hb⟩ := hret.form K46.bad;have ho1 := own_below HO1.out hb;clear hret HO1 a0 a1 a2 za;have HO1 := Lib.hid ho1;clear ho1;have hBv := below_then HBv.out hb;clear HBv;have HBv := Lib.hid hBv;clear hBv;have hBz := below_then HB.out hb;clear HB;have HB := Lib.hid hBz;clear hBz;have hAz := HAA.out.call hb;clear HAA;have HAA := Lib.hid hAz;clear hAz;have hAz := HAB.out.call hb;clear HAB;have HAB := Lib.hid hAz;clear hAz;clear hb;have A0 := HAA.out.cell 0 _ rfl;have A1 := HAA.out.cell 1 _ rfl;have A2 := HAA.out.cell 2 _ rfl;have zA := HAA.out.lt;have B0 := HAB.out.cell 0 _ rfl;have B1 := HAB.out.cell 1 _ rfl;have B2 := HAB.out.cell 2 _ rfl;have zB := HAB.out.lt;go_wp2_with fail
 clear A0 A1 A2 zA B0 B1 B2 zB;refine (HCab.out w7 1995 1994 HBv.out (by decide) (by decide)).mono ?_;intro e w8 hret;obtain ⟨rfl, hb⟩ := hret.range L46.well M46.well (by unfold Ln.InY; omega);have ho1 := own_below HO1.out hb;clear hret HO1;have HO1 := Lib.hid ho1;clear ho1;have hBv := below_then HBv.out hb;clear HBv;have HBv := Lib.hid hBv;clear hBv;have hBz := below_then HB.out hb;clear HB;have HB := Lib.hid hBz;clear hBz;have hAz := HAA.out.call hb;clear HAA;have HAA := Lib.hid hAz;clear hAz;have hAz := HAB.out.call hb;clear HAB;have HAB := Lib.hid hAz;clear hAz;clear hb;obtain ⟨gw, hgw⟩ : ∃ q, w8.heap.size = q := ⟨_, rfl⟩
 obtain ⟨W9, hW9⟩ : ∃ X, w8.alloc (.cells #[.string ⟨#[65, 47, 66]⟩, .int .i64 0, .int .i64 828234000, .string ⟨#[67]⟩, .int .i64 3, .int .i64 0, .string ⟨#[68]⟩, .int .i64 12, .int .i64 0] 37) = X := ⟨_, rfl⟩
 have hb : Below w8.heap.size w8 W9 := by rw [← hW9]; exact (Below.refl _ _).alloc (Nat.le_refl _) _
 have hWt : At W9 gw [.string ⟨#[65, 47, 66]⟩, .int .i64 0, .int .i64 828234000, .string ⟨#[67]⟩, .int .i64 3, .int .i64 0, .string ⟨#[68]⟩, .int .i64 12, .int .i64 0] := by
  rw [← hW9, ← hgw];exact At.new _ _ _
 have ho1 := own_below HO1.out hb;have HSm := Lib.hid (same46_any A1 (some ⟨gw, 0, none⟩) 3 3 c1 3 [⟨⟨#[65, 47, 66]⟩, 0, 828234000⟩, ⟨⟨#[67]⟩, 3, 0⟩, ⟨⟨#[68]⟩, 12, 0⟩] [⟨⟨#[65, 47, 66]⟩, 0, 828234000⟩, ⟨⟨#[67]⟩, 3, 0⟩, ⟨⟨#[68]⟩, 12, 0⟩] W9 (by decide) (by decide) rfl rfl (Reads.of_own ho1) (Lit.reads hWt rfl));have HE9 := Lib.hid hW9;have HGw := Lib.hid hgw;clear hW9 hgw hWt ho1 HO1;have hBv := below_then HBv.out hb;clear HBv;have HBv := Lib.hid hBv;clear hBv;have hBz := below_then HB.out hb;clear HB;have HB := Lib.hid hBz;clear hBz;have hAz := HAA.out.call hb;clear HAA;have HAA := Lib.hid hAz;clear hAz;have hAz := HAB.out.call hb;clear HAB;have HAB := Lib.hid hAz;clear hAz;clear hb;go_upto_region 10 with fail
 rw [HE9.out]
 try rw [HGw.out]
 go_wp2_with fail
 refine HSm.out.mono ?_;rintro e w10 ⟨rfl, hd⟩;have hb := hd.below W9.heap.size;have hBv := below_then HBv.out hb;clear HBv;have HBv := Lib.hid hBv;clear hBv;clear hd HSm;have hBz := below_then HB.out hb;clear HB;have HB := Lib.hid hBz;clear hBz;have hAz := HAA.out.call hb;clear HAA;have HAA := Lib.hid hAz;clear hAz;have hAz := HAB.out.call hb;clear HAB;have HAB := Lib.hid hAz;clear hAz;clear hb;have A0 := HAA.out.cell 0 _ rfl;have A1 := HAA.out.cell 1 _ rfl;have A2 := HAA.out.cell 2 _ rfl;have zA := HAA.out.lt;have B0 := HAB.out.cell 0 _ rfl;have B1 := HAB.out.cell 1 _ rfl;have B2 := HAB.out.cell 2 _ rfl;have zB := HAB.out.lt;go_wp2_with fail
 clear A0 A1 A2 zA B0 B1 B2 zB;refine (HNab.out w10 HBv.out).mono ?_;rintro e w11 ⟨v, rfl, hb, ho⟩;rw [K46.names] at ho;obtain ⟨A3, c3, rfl, _, _⟩ := own_slice_cap ho;have HO3 := Lib.hid ho;clear ho;have hBv := below_then HBv.out hb;clear HBv;have HBv := Lib.hid hBv;clear hBv;have hBz := below_then HB.out hb;clear HB;have HB := Lib.hid hBz;clear hBz;have hAz := HAA.out.call hb;clear HAA;have HAA := Lib.hid hAz;clear hAz;have hAz := HAB.out.call hb;clear HAB;have HAB := Lib.hid hAz;clear hAz;clear hb;obtain ⟨gt, hgt⟩ : ∃ q, w11.heap.size = q := ⟨_, rfl⟩
 obtain ⟨W12, hW12⟩ : ∃ X, w11.alloc (.cells #[.string ⟨#[65, 47, 66]⟩, .string ⟨#[67]⟩, .string ⟨#[68]⟩] 9) = X := ⟨_, rfl⟩
 have hb : Below w11.heap.size w11 W12 := by rw [← hW12]; exact (Below.refl _ _).alloc (Nat.le_refl _) _
 have hWt : At W12 gt [.string ⟨#[65, 47, 66]⟩, .string ⟨#[67]⟩, .string ⟨#[68]⟩] := by
  rw [← hW12, ← hgt];exact At.new _ _ _
 have ho1 := own_below HO3.out hb;have HTx := Lib.hid (refTexts_any A3 (some ⟨gt, 0, none⟩) 3 3 c3 3 [⟨#[65, 47, 66]⟩, ⟨#[67]⟩, ⟨#[68]⟩] [⟨#[65, 47, 66]⟩, ⟨#[67]⟩, ⟨#[68]⟩] W12 (by decide) (by decide) (Reads.of_own ho1) (Lit.reads hWt rfl));have HE12 := Lib.hid hW12;have HGt := Lib.hid hgt;clear hW12 hgt hWt ho1 HO3;have hBv := below_then HBv.out hb;clear HBv;have HBv := Lib.hid hBv;clear hBv;have hBz := below_then HB.out hb;clear HB;have HB := Lib.hid hBz;clear hBz;have hAz := HAA.out.call hb;clear HAA;have HAA := Lib.hid hAz;clear hAz;have hAz := HAB.out.call hb;clear HAB;have HAB := Lib.hid hAz;clear hAz;clear hb;go_wp2_with fail
 rw [HE12.out]
 try rw [HGt.out]
 refine HTx.out.mono ?_;rintro e w13 ⟨rfl, hd⟩;have HBz := Lib.hid (below_then HB.out (hd.below W12.heap.size));clear hd;go_wp2;go_ret
 exact ⟨by first | rfl | simp, HBz.out⟩
end Go.Proofs.YtjobhjemnmleaaaGreatDoor
namespace Go.Proofs.YtjobhjemnmleaaaGreatDoor
open Go.RowKit
namespace Df
theorem inT_of {lo hi t : Int} (h : Ln.InY lo hi) (h1 : Oc.D lo * 86400 ≤ t) (h2 : t < Oc.D (hi + 1) * 86400) : Ln.InT t := by
 obtain ⟨y1, y2, y3, y4⟩ := h;obtain ⟨F1, F2, F3, F4, F5⟩ := Ln.years_in y1 y2 y3;have i := F2.of F3 h1 (by omega);have k1 := Ln.yr_le F2 i h1;have k2 := Ln.yr_le i F3 (by omega);exact ⟨i, by omega, by omega⟩
def stN (s : Src.S) (n : ByteArray) : Int → Int × Bool := Ln.st s.rules (eras s n) (Eg.ends s.rules (eras s n))
theorem line_of {s : Src.S} {lo hi : Int} {n : ByteArray} (hw : Vd.well s = true) (hr : s.rules.length ≤ 4096) (hn : n ∈ Src.names s) (h : Ln.InY lo hi) : Ln.Cov (stN s n) (Oc.D (hi + 1) * 86400) (Oc.D lo * 86400) (line s lo hi n) := by
 obtain ⟨k, z, _, hz, _, he⟩ := leads_zone hw hn;unfold stN line;rw [he];exact Ln.lineOf_cov (Eg.rules_ok2 hw hr) (Eg.zone_ok hw (List.mem_of_getElem? hz)) h
theorem named_of {s : Src.S} {t : Int} {n : ByteArray} (hw : Vd.well s = true) (hn : n ∈ Src.names s) (ht : Ln.InT t) : ∃ p : Ln.St, Ln.namedT s n t = (p, 0) ∧ (p.off, p.dst) = stN s n t := by
 obtain ⟨k, z, hwk, hz, ha, he⟩ := leads_zone hw hn;refine ⟨Ln.stAt s.rules z.2 t, ?_, ?_⟩
 ·unfold Ln.namedT;rw [if_neg (by rw [hw]; decide), hwk, if_neg (by simp)];exact Ln.atT_of hw ha ht
 ·unfold stN;rw [he];exact Ln.stAt_st s.rules z.2 t
theorem ch_mem {a b : Src.S} {lo hi : Int} {n : ByteArray} {x : Ch} (hn : n ∈ names a b) (h : ch a b lo hi n = some x) : x ∈ changes a b lo hi := List.mem_filterMap.2 ⟨n, hn, h⟩
theorem has_no {l : List ByteArray} {n : ByteArray} (h : n ∉ l) : Hv.has l n = false := by
 cases q : Hv.has l n
 ·rfl
 ·exact absurd (Hv.has_iff.1 q) h
section
variable {a b : Src.S} {lo hi : Int} (ha : Vd.well a = true) (hb : Vd.well b = true) (ra : a.rules.length ≤ 4096) (rb : b.rules.length ≤ 4096) (hI : Ln.InY lo hi)
include ha hb ra rb hI
theorem ch_says {x : Ch} (h : x ∈ changes a b lo hi) : (x.why = 3 ∨ x.why = 12) ∨ (x.why = 0 ∧ Oc.D lo * 86400 ≤ x.fr ∧ x.fr < Oc.D (hi + 1) * 86400) := by
 obtain ⟨n, hn, hc⟩ := List.mem_filterMap.1 h;unfold ch at hc;split at hc
 ·left; left
  rw [← Option.some.inj hc]
 ·split at hc
  ·left; right
   rw [← Option.some.inj hc]
  ·rename_i h1 h2
   rw [Bool.not_eq_false] at h1 h2
   right
   cases hf : first (line a lo hi n) (line b lo hi n) with
   | none => rw [hf] at hc; cases hc
   | some u =>
    rw [hf] at hc;have hs := first_cov (line_of ha ra (Hv.has_iff.1 h2) hI) (line_of hb rb (Hv.has_iff.1 h1) hI);rw [hf] at hs;rw [← Option.some.inj hc];exact ⟨rfl, hs.1, hs.2.1⟩
theorem same_at {n : ByteArray} {t : Int} (hn : n ∈ names a b) (h1 : Oc.D lo * 86400 ≤ t) (h2 : t < Oc.D (hi + 1) * 86400) (hu : ∀ x ∈ changes a b lo hi, x.nm = n → x.why = 0 ∧ t < x.fr) :
  ∃ p q : Ln.St, Ln.namedT a n t = (p, 0) ∧ Ln.namedT b n t = (q, 0) ∧ p.off = q.off ∧ p.dst = q.dst := by
 have hT := inT_of hI h1 h2;have hmb : n ∈ Src.names b := by
  apply Classical.byContradiction;intro q;have hc : ch a b lo hi n = some ⟨n, 3, 0⟩ := by unfold ch; rw [has_no q, if_pos rfl]
  have := (hu _ (ch_mem hn hc) rfl).1;exact absurd this (by simp)
 have hma : n ∈ Src.names a := by
  apply Classical.byContradiction;intro q;have hc : ch a b lo hi n = some ⟨n, 12, 0⟩ := by unfold ch; rw [Hv.has_iff.2 hmb, has_no q, if_neg (by decide), if_pos rfl]
  have := (hu _ (ch_mem hn hc) rfl).1;exact absurd this (by simp)
 have hs := first_cov (line_of ha ra hma hI) (line_of hb rb hmb hI);have he : stN a n t = stN b n t := by
  cases hf : first (line a lo hi n) (line b lo hi n) with
  | none =>
   rw [hf] at hs;exact hs t h1 h2
  | some u =>
   rw [hf] at hs;have hc : ch a b lo hi n = some ⟨n, 0, u⟩ := by unfold ch; rw [Hv.has_iff.2 hmb, Hv.has_iff.2 hma, if_neg (by decide), if_neg (by decide), hf]; rfl
   exact hs.2.2 t h1 (hu _ (ch_mem hn hc) rfl).2
 obtain ⟨p, hp, hp2⟩ := named_of ha hma hT;obtain ⟨q, hq, hq2⟩ := named_of hb hmb hT;rw [he, ← hq2] at hp2;exact ⟨p, q, hp, hq, congrArg Prod.fst hp2, congrArg Prod.snd hp2⟩
end
def hit (n : ByteArray) (t : Int) (x : Ch) : Bool := decide (x.nm = n) && (decide (x.why ≠ 0) || decide (x.fr ≤ t))
theorem any_next {α : Type} {p : α → Bool} {l : List α} {j : Nat} {x : α} (h : l[j]? = some x) : (l.take (j + 1)).any p = ((l.take j).any p || p x) := by
 rw [Hv.take_next h, List.any_append];simp
theorem not_hit {n : ByteArray} {t : Int} {l : List Ch} (h : l.any (hit n t) = false) : ∀ x ∈ l, x.nm = n → x.why = 0 ∧ t < x.fr := by
 intro x hx hn;rw [List.any_eq_false] at h;have := h x hx;unfold hit at this;rw [decide_eq_true hn] at this;simp at this
 exact this
end Df
end Go.Proofs.YtjobhjemnmleaaaGreatDoor
namespace Go.Proofs.YtjobhjemnmleaaaGreatDoor
open Go.RowKit
end Go.Proofs.YtjobhjemnmleaaaGreatDoor
