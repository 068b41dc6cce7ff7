/- The lives of law 18. -/
import Derived.Test.YtolgigaolffenaaGreatDoorQ31
import Derived.Test.YtolgigaolffenaaGreatDoorQ34
import Derived.Test.YtolgigaolffenaaGreatDoorQ38

namespace Go.Proofs.YtolgigaolffenaaGreatDoor
open Go.RowKit

namespace L18
def r0 : Ru.R := ⟨⟨#[69]⟩, 1990, 9999, 3, 1, 0, 0, 3600, 2, 3600, ⟨#[83]⟩⟩
def r1 : Ru.R := ⟨⟨#[69]⟩, 1990, 9999, 10, 1, 0, 0, 3600, 2, 0, ⟨#[]⟩⟩
def e0_0 : Er.E := ⟨3600, 2, 0, ⟨#[69]⟩, ⟨#[67, 69, 37, 115, 84]⟩, false, ⟨0, 0, 0, 0, 0, 0, 0⟩⟩
def s : Src.S := ⟨[r0, r1], [([65], [e0_0])], [], false⟩
theorem r0_ok : r0.Ok := ⟨by decide +kernel, ⟨by decide +kernel, by decide +kernel, by decide +kernel⟩, ⟨by decide +kernel, by decide +kernel⟩, by unfold Dy.Ok; decide +kernel, by decide +kernel, by decide +kernel, by decide +kernel⟩
theorem r1_ok : r1.Ok := ⟨by decide +kernel, ⟨by decide +kernel, by decide +kernel, by decide +kernel⟩, ⟨by decide +kernel, by decide +kernel⟩, by unfold Dy.Ok; decide +kernel, by decide +kernel, by decide +kernel, by decide +kernel⟩
theorem e0_0_ok : e0_0.Ok := ⟨by decide +kernel, by decide +kernel, .inr (.inr ⟨rfl, rfl, by decide +kernel⟩), fun h => (by cases h), fun _ => rfl⟩
theorem right : Src.srcB s = true := by
  have hr0 : r0.good = true := (Ru.R.good_iff r0).2 r0_ok
  have hr1 : r1.good = true := (Ru.R.good_iff r1).2 r1_ok
  have he0_0 : e0_0.good = true := by unfold Er.E.good; rw [Er.chk_ok e0_0 e0_0_ok]; rfl
  have hz0 : Src.zoneB ([65], [e0_0]) = true := by
    unfold Src.zoneB Src.erasB Src.erasB
    simp only [he0_0]
    decide +kernel
  unfold Src.srcB s
  simp only [List.all_cons, List.all_nil, hr0, hr1, hz0]
  rfl
theorem names : (Src.names s).Nodup := by
  have h : Src.names s = [⟨#[65]⟩] := rfl
  rw [h]
  decide +kernel
theorem flaws : Vd.flaws s = [] := by
  rw [Vd.flaws_iff]
  refine ⟨names, ?_, ?_, ?_⟩
  · intro z hz e he hk
    obtain rfl : z = ([65], [e0_0]) := by simpa [s] using hz
    obtain rfl : e = e0_0 := by simpa using he
    exact List.mem_map.2 ⟨r0, by simp [s], rfl⟩
  · intro z hz
    obtain rfl : z = ([65], [e0_0]) := by simpa [s] using hz
    decide +kernel
  · intro l hl
    cases hl
theorem well : Vd.well s = true := (Vd.well_iff s).2 ⟨right, flaws⟩
theorem sz : Vd.Sz s := by
  refine ⟨⟨by decide, by decide, by decide⟩, ?_, ⟨?_, ?_, ?_⟩⟩
  · intro z hz
    obtain rfl : z = ([65], [e0_0]) := by simpa [s] using hz
    decide
  · intro r hr
    have h2 : r = r0 ∨ r = r1 := by simpa [s] using hr
    rcases h2 with rfl | rfl <;> exact ⟨by decide, by decide⟩
  · intro z hz
    obtain rfl : z = ([65], [e0_0]) := by simpa [s] using hz
    refine ⟨by decide, fun e he => ?_⟩
    obtain rfl : e = e0_0 := by simpa using he
    exact ⟨by decide, by decide⟩
  · intro k hk
    cases hk
theorem rcs : ∀ r ∈ s.rules, 0 ≤ r.c := by
  intro r hr
  have h2 : r = r0 ∨ r = r1 := by simpa [s] using hr
  rcases h2 with rfl | rfl <;> decide
theorem ccs : ∀ z ∈ s.zones, ∀ e ∈ z.2, 0 ≤ e.u.c := by
  intro z hz e he
  obtain rfl : z = ([65], [e0_0]) := by simpa [s] using hz
  obtain rfl : e = e0_0 := by simpa using he
  decide
end L18
namespace L18
def v0 (w : World) : World := w
def v1 (w : World) : World := (v0 w).alloc (.cells #[.string ⟨#[69]⟩, .int .i64 1990, .int .i64 9999, .int .i64 3, .int .u8 1, .int .i64 0, .int .i64 0, .int .i64 3600, .int .u8 2, .int .i64 3600, .string ⟨#[83]⟩, .string ⟨#[69]⟩, .int .i64 1990, .int .i64 9999, .int .i64 10, .int .u8 1, .int .i64 0, .int .i64 0, .int .i64 3600, .int .u8 2, .int .i64 0, .string ⟨#[]⟩] 75)
def v2 (w : World) : World := (v1 w).alloc (.cells #[.slice (some ⟨w.heap.size, 0, none⟩) 2 2, .slice (some ⟨w.heap.size + 1 + 1 + 1, 0, none⟩) 1 1, .slice none 0 0] 26)
def v3 (w : World) : World := (v2 w).alloc (.cells #[.int .i64 3600, .int .u8 2, .int .i64 0, .string ⟨#[69]⟩, .string ⟨#[67, 69, 37, 115, 84]⟩, .bool false, .int .i64 0, .int .i64 0, .int .u8 0, .int .i64 0, .int .i64 0, .int .i64 0, .int .u8 0] 53)
def v4 (w : World) : World := (v3 w).alloc (.cells #[.string ⟨#[65]⟩, .slice (some ⟨w.heap.size + 1 + 1, 0, none⟩) 1 1] 56)
theorem n0 (w : World) : (v0 w).heap.size = w.heap.size := rfl
theorem n1 (w : World) : (v1 w).heap.size = w.heap.size + 1 := (World.size_alloc _ _).trans (congrArg (· + 1) (n0 w))
theorem n2 (w : World) : (v2 w).heap.size = w.heap.size + 1 + 1 := (World.size_alloc _ _).trans (congrArg (· + 1) (n1 w))
theorem n3 (w : World) : (v3 w).heap.size = w.heap.size + 1 + 1 + 1 := (World.size_alloc _ _).trans (congrArg (· + 1) (n2 w))
theorem b0 (w : World) : Below w.heap.size w (v0 w) := Below.refl _ _
theorem b1 (w : World) : Below w.heap.size w (v1 w) := (b0 w).alloc (b0 w).size _
theorem b2 (w : World) : Below w.heap.size w (v2 w) := (b1 w).alloc (b1 w).size _
theorem b3 (w : World) : Below w.heap.size w (v3 w) := (b2 w).alloc (b2 w).size _
theorem b4 (w : World) : Below w.heap.size w (v4 w) := (b3 w).alloc (b3 w).size _
abbrev wl (w : World) : World := v4 w
theorem below (w : World) : Below w.heap.size w (wl w) := b4 w
theorem a0_1 (w : World) : At (v1 w) (w.heap.size) [.string ⟨#[69]⟩, .int .i64 1990, .int .i64 9999, .int .i64 3, .int .u8 1, .int .i64 0, .int .i64 0, .int .i64 3600, .int .u8 2, .int .i64 3600, .string ⟨#[83]⟩, .string ⟨#[69]⟩, .int .i64 1990, .int .i64 9999, .int .i64 10, .int .u8 1, .int .i64 0, .int .i64 0, .int .i64 3600, .int .u8 2, .int .i64 0, .string ⟨#[]⟩] := by
  unfold v1
  exact Lit.newAt (v0 w) _ _ _ (n0 w).symm
theorem a0_2 (w : World) : At (v2 w) (w.heap.size) [.string ⟨#[69]⟩, .int .i64 1990, .int .i64 9999, .int .i64 3, .int .u8 1, .int .i64 0, .int .i64 0, .int .i64 3600, .int .u8 2, .int .i64 3600, .string ⟨#[83]⟩, .string ⟨#[69]⟩, .int .i64 1990, .int .i64 9999, .int .i64 10, .int .u8 1, .int .i64 0, .int .i64 0, .int .i64 3600, .int .u8 2, .int .i64 0, .string ⟨#[]⟩] := (a0_1 w).allocO _
theorem a0_3 (w : World) : At (v3 w) (w.heap.size) [.string ⟨#[69]⟩, .int .i64 1990, .int .i64 9999, .int .i64 3, .int .u8 1, .int .i64 0, .int .i64 0, .int .i64 3600, .int .u8 2, .int .i64 3600, .string ⟨#[83]⟩, .string ⟨#[69]⟩, .int .i64 1990, .int .i64 9999, .int .i64 10, .int .u8 1, .int .i64 0, .int .i64 0, .int .i64 3600, .int .u8 2, .int .i64 0, .string ⟨#[]⟩] := (a0_2 w).allocO _
theorem a0_4 (w : World) : At (v4 w) (w.heap.size) [.string ⟨#[69]⟩, .int .i64 1990, .int .i64 9999, .int .i64 3, .int .u8 1, .int .i64 0, .int .i64 0, .int .i64 3600, .int .u8 2, .int .i64 3600, .string ⟨#[83]⟩, .string ⟨#[69]⟩, .int .i64 1990, .int .i64 9999, .int .i64 10, .int .u8 1, .int .i64 0, .int .i64 0, .int .i64 3600, .int .u8 2, .int .i64 0, .string ⟨#[]⟩] := (a0_3 w).allocO _
theorem at0 (w : World) : At (wl w) (w.heap.size) [.string ⟨#[69]⟩, .int .i64 1990, .int .i64 9999, .int .i64 3, .int .u8 1, .int .i64 0, .int .i64 0, .int .i64 3600, .int .u8 2, .int .i64 3600, .string ⟨#[83]⟩, .string ⟨#[69]⟩, .int .i64 1990, .int .i64 9999, .int .i64 10, .int .u8 1, .int .i64 0, .int .i64 0, .int .i64 3600, .int .u8 2, .int .i64 0, .string ⟨#[]⟩] := a0_4 w
theorem a1_2 (w : World) : At (v2 w) (w.heap.size + 1) [.slice (some ⟨w.heap.size, 0, none⟩) 2 2, .slice (some ⟨w.heap.size + 1 + 1 + 1, 0, none⟩) 1 1, .slice none 0 0] := by
  unfold v2
  exact Lit.newAt (v1 w) _ _ _ (n1 w).symm
theorem a1_3 (w : World) : At (v3 w) (w.heap.size + 1) [.slice (some ⟨w.heap.size, 0, none⟩) 2 2, .slice (some ⟨w.heap.size + 1 + 1 + 1, 0, none⟩) 1 1, .slice none 0 0] := (a1_2 w).allocO _
theorem a1_4 (w : World) : At (v4 w) (w.heap.size + 1) [.slice (some ⟨w.heap.size, 0, none⟩) 2 2, .slice (some ⟨w.heap.size + 1 + 1 + 1, 0, none⟩) 1 1, .slice none 0 0] := (a1_3 w).allocO _
theorem at1 (w : World) : At (wl w) (w.heap.size + 1) [.slice (some ⟨w.heap.size, 0, none⟩) 2 2, .slice (some ⟨w.heap.size + 1 + 1 + 1, 0, none⟩) 1 1, .slice none 0 0] := a1_4 w
theorem a2_3 (w : World) : At (v3 w) (w.heap.size + 1 + 1) [.int .i64 3600, .int .u8 2, .int .i64 0, .string ⟨#[69]⟩, .string ⟨#[67, 69, 37, 115, 84]⟩, .bool false, .int .i64 0, .int .i64 0, .int .u8 0, .int .i64 0, .int .i64 0, .int .i64 0, .int .u8 0] := by
  unfold v3
  exact Lit.newAt (v2 w) _ _ _ (n2 w).symm
theorem a2_4 (w : World) : At (v4 w) (w.heap.size + 1 + 1) [.int .i64 3600, .int .u8 2, .int .i64 0, .string ⟨#[69]⟩, .string ⟨#[67, 69, 37, 115, 84]⟩, .bool false, .int .i64 0, .int .i64 0, .int .u8 0, .int .i64 0, .int .i64 0, .int .i64 0, .int .u8 0] := (a2_3 w).allocO _
theorem at2 (w : World) : At (wl w) (w.heap.size + 1 + 1) [.int .i64 3600, .int .u8 2, .int .i64 0, .string ⟨#[69]⟩, .string ⟨#[67, 69, 37, 115, 84]⟩, .bool false, .int .i64 0, .int .i64 0, .int .u8 0, .int .i64 0, .int .i64 0, .int .i64 0, .int .u8 0] := a2_4 w
theorem a3_4 (w : World) : At (v4 w) (w.heap.size + 1 + 1 + 1) [.string ⟨#[65]⟩, .slice (some ⟨w.heap.size + 1 + 1, 0, none⟩) 1 1] := by
  unfold v4
  exact Lit.newAt (v3 w) _ _ _ (n3 w).symm
theorem at3 (w : World) : At (wl w) (w.heap.size + 1 + 1 + 1) [.string ⟨#[65]⟩, .slice (some ⟨w.heap.size + 1 + 1, 0, none⟩) 1 1] := a3_4 w
end L18
namespace L18
theorem r (w : World) : Src.SrcR (wl w) (wl w).heap.size s (.slice (some ⟨w.heap.size, 0, none⟩) 2 2) (.slice (some ⟨w.heap.size + 1 + 1 + 1, 0, none⟩) 1 1) (.slice none 0 0) [.slice (some ⟨w.heap.size + 1 + 1, 0, none⟩) 1 1] := by
  refine ⟨⟨_, 2, rfl, Nat.le_refl _, by unfold maxLen; omega, Lit.reads (at0 w) rfl⟩, ⟨_, 1, rfl, Nat.le_refl _, by unfold maxLen; omega, Lit.reads (at3 w) rfl⟩, ⟨none, 0, rfl, Nat.le_refl _, by unfold maxLen; omega, Reads.none_⟩, rfl, ?_⟩
  intro p hp
  have e : p = (([65], [e0_0]), .slice (some ⟨w.heap.size + 1 + 1, 0, none⟩) 1 1) := by simpa [s] using hp
  subst e
  exact ⟨_, 1, rfl, Nat.le_refl _, by unfold maxLen; omega, Lit.reads (at2 w) rfl⟩
theorem at_one : Eg.zoneAt s 0 = some ([65], [e0_0]) := rfl
theorem at_none : Eg.zoneAt s 1 = none := rfl
theorem iny : Ln.InY 1999 1999 := by unfold Ln.InY; decide
theorem noy : ¬ Ln.InY 1999 1998 := by unfold Ln.InY; decide
theorem line : Ln.lineOf s [e0_0] 1999 1999 = [⟨915148800, 3600, false⟩, ⟨922582800, 7200, true⟩, ⟨941331600, 3600, false⟩] := by decide +kernel
theorem beg : Ln.begin_ 1999 = (915148800, 0) := by decide +kernel
theorem beg0 : Ln.begin_ 0 = (0, 1) := by decide +kernel
end L18
set_option maxHeartbeats 8000000 in
set_option maxRecDepth 200000 in
theorem lives18 (w : World) (hW : Wo w) (hA : Wa w) : Calls Tryz.prog 20 #[] w fun e w' => e = .returned (.bool true) ∧ Below w.heap.size w w' := by
  have hWW : ∀ W, Below (L18.wl w).heap.size (L18.wl w) W → Wo W ∧ Wa W := fun W hb => ⟨hW.below ((L18.below w).trans (hb.mono (L18.below w).size)), hA.below ((L18.below w).trans (hb.mono (L18.below w).size))⟩
  have hLn := fun z a b W (hb : Below (L18.wl w).heap.size (L18.wl w) W) (h1 : -9223372036854775808 ≤ z ∧ z < 9223372036854775808) (h2 : -9223372036854775808 ≤ a ∧ a < 9223372036854775808) (h3 : -9223372036854775808 ≤ b ∧ b < 9223372036854775808) => lnOf_any L18.s z a b _ _ _ _ W ((L18.r w).call hb) L18.sz (hWW W hb).1 (hWW W hb).2 h1 h2 h3 L18.ccs L18.rcs
  have HL1 : Hid (∀ W, Below (L18.wl w).heap.size (L18.wl w) W → Calls Tryz.prog 21 #[.agg #[.slice (some ⟨w.heap.size, 0, none⟩) 2 2, .slice (some ⟨w.heap.size + 1 + 1 + 1, 0, none⟩) 1 1, .slice none 0 0], .int .i64 0, .int .i64 1999, .int .i64 1999] W fun e w' => Below W.heap.size W w' ∧ ∃ v, e = .returned (.tuple #[v, .int .i64 0]) ∧ w'.ownsRow W.heap.size 71 3 v 3 [.int .i64 915148800, .int .i64 3600, .bool false, .int .i64 922582800, .int .i64 7200, .bool true, .int .i64 941331600, .int .i64 3600, .bool false]) := fun W hb => by
    refine (hLn 0 1999 1999 W hb (by decide) (by decide) (by decide)).mono ?_
    rintro e w' ⟨hb', ⟨hwr, _⟩ | ⟨_, hno, _⟩ | ⟨x, _, hx, hin, _⟩ | ⟨x, v, _, hx, _, rfl, ho⟩⟩
    · rw [L18.well] at hwr; cases hwr
    · rw [L18.at_one] at hno; cases hno
    · exact absurd L18.iny hin
    · rw [L18.at_one] at hx
      cases hx
      rw [L18.line] at ho
      exact ⟨hb', v, rfl, ho⟩
  have HL2 : Hid (∀ W, Below (L18.wl w).heap.size (L18.wl w) W → Calls Tryz.prog 21 #[.agg #[.slice (some ⟨w.heap.size, 0, none⟩) 2 2, .slice (some ⟨w.heap.size + 1 + 1 + 1, 0, none⟩) 1 1, .slice none 0 0], .int .i64 0, .int .i64 1999, .int .i64 1998] W fun e w' => Below W.heap.size W w' ∧ e = .returned (.tuple #[.slice none 0 0, .int .i64 1])) := fun W hb => by
    refine (hLn 0 1999 1998 W hb (by decide) (by decide) (by decide)).mono ?_
    rintro e w' ⟨hb', ⟨hwr, _⟩ | ⟨_, hno, _⟩ | ⟨x, _, hx, hin, rfl⟩ | ⟨x, v, _, hx, hin, _, _⟩⟩
    · rw [L18.well] at hwr; cases hwr
    · rw [L18.at_one] at hno; cases hno
    · exact ⟨hb', rfl⟩
    · exact absurd hin L18.noy
  have HL3 : Hid (∀ W, Below (L18.wl w).heap.size (L18.wl w) W → Calls Tryz.prog 21 #[.agg #[.slice (some ⟨w.heap.size, 0, none⟩) 2 2, .slice (some ⟨w.heap.size + 1 + 1 + 1, 0, none⟩) 1 1, .slice none 0 0], .int .i64 1, .int .i64 1999, .int .i64 1999] W fun e w' => Below W.heap.size W w' ∧ e = .returned (.tuple #[.slice none 0 0, .int .i64 3])) := fun W hb => by
    refine (hLn 1 1999 1999 W hb (by decide) (by decide) (by decide)).mono ?_
    rintro e w' ⟨hb', ⟨hwr, _⟩ | ⟨_, hno, rfl⟩ | ⟨x, _, hx, hin, _⟩ | ⟨x, v, _, hx, hin, _, _⟩⟩
    · rw [L18.well] at hwr; cases hwr
    · exact ⟨hb', rfl⟩
    · rw [L18.at_none] at hx; cases hx
    · rw [L18.at_none] at hx; cases hx
  have HB1 := Lib.hid fun W => L18.beg ▸ lnBegin_any 1999 W
  have HB2 := Lib.hid fun W => L18.beg0 ▸ lnBegin_any 0 W
  have HS := Lib.hid (L18.at1 w)
  have HB := Lib.hid (L18.below w)
  clear hW hA hWW hLn
  go_enter Tryz.func20, Tryz.ntmps20
  go_wp2_with fail
  refine (HL1.out _ (Below.refl _ _)).mono ?_
  rintro e w1 ⟨hb1, v, rfl, ho1⟩
  obtain ⟨vA, vc, rfl, hv1, hv2⟩ := own_slice_cap ho1
  have HR1 := Lib.hid (Reads.of_own ho1)
  have HC1 := Lib.hid hb1
  obtain ⟨a0, a1, a2, _⟩ := (HS.out.call hb1).three
  have z := (HS.out.call hb1).lt
  clear hb1 ho1
  go_wp2_with fail
  refine (HL2.out _ HC1.out).mono ?_
  rintro e w2 ⟨hb2, rfl⟩
  have HC2 := Lib.hid (below_then HC1.out hb2)
  have HR2 := Lib.hid ((HR1.out.below hb2).more hb2.size)
  clear hb2 a0 a1 a2 z
  obtain ⟨a0, a1, a2, _⟩ := (HS.out.call HC2.out).three
  have z := (HS.out.call HC2.out).lt
  go_wp2_with fail
  refine (HL3.out _ HC2.out).mono ?_
  rintro e w3 ⟨hb3, rfl⟩
  have HC3 := Lib.hid (below_then HC2.out hb3)
  have HR3 := Lib.hid ((HR2.out.below hb3).more hb3.size)
  clear hb3 a0 a1 a2 z
  go_wp2_with fail
  refine (HB1.out _).mono ?_
  rintro e w4 ⟨rfl, rfl⟩
  go_wp2_with fail
  refine (HB2.out _).mono ?_
  rintro e w4 ⟨rfl, rfl⟩
  have hal : Below w3.heap.size w3 (w3.alloc (.cells #[.int .i64 915148800, .int .i64 3600, .bool false, .int .i64 922582800, .int .i64 7200, .bool true, .int .i64 941331600, .int .i64 3600, .bool false] 71)) := (Below.refl _ _).alloc (Nat.le_refl _) _
  have HSm := Lib.hid (same18_any vA (some ⟨w3.heap.size, 0, none⟩) 3 3 vc 3 [⟨915148800, 3600, false⟩, ⟨922582800, 7200, true⟩, ⟨941331600, 3600, false⟩] [⟨915148800, 3600, false⟩, ⟨922582800, 7200, true⟩, ⟨941331600, 3600, false⟩] (w3.alloc (.cells #[.int .i64 915148800, .int .i64 3600, .bool false, .int .i64 922582800, .int .i64 7200, .bool true, .int .i64 941331600, .int .i64 3600, .bool false] 71)) (by decide) (by decide) rfl rfl ((HR3.out.below hal).more hal.size) (Lit.reads (At.new w3 #[.int .i64 915148800, .int .i64 3600, .bool false, .int .i64 922582800, .int .i64 7200, .bool true, .int .i64 941331600, .int .i64 3600, .bool false] 71) rfl))
  have HAl := Lib.hid hal
  clear hal
  go_wp2_with fail
  refine HSm.out.mono ?_
  rintro e w5 ⟨rfl, hd⟩
  have HC5 := Lib.hid (HC3.out.trans ((HAl.out.trans ((hd.below _).mono HAl.out.size)).mono HC3.out.size))
  clear hd
  go_wp2
  go_ret
  exact ⟨ret_bool (by decide), HB.out.trans (HC5.out.mono HB.out.size)⟩
end Go.Proofs.YtolgigaolffenaaGreatDoor
