/- ideal.Clock of a name; the lives of law 17. -/
import Derived.Test.YtolgigaolffenaaGreatDoorQ01
import Derived.Test.YtolgigaolffenaaGreatDoorQ02
import Derived.Test.YtolgigaolffenaaGreatDoorQ03
import Derived.Test.YtolgigaolffenaaGreatDoorQ04
import Derived.Test.YtolgigaolffenaaGreatDoorQ05
import Derived.Test.YtolgigaolffenaaGreatDoorQ06
import Derived.Test.YtolgigaolffenaaGreatDoorQ07
import Derived.Test.YtolgigaolffenaaGreatDoorQ08
import Derived.Test.YtolgigaolffenaaGreatDoorQ09
import Derived.Test.YtolgigaolffenaaGreatDoorQ10
import Derived.Test.YtolgigaolffenaaGreatDoorQ11
import Derived.Test.YtolgigaolffenaaGreatDoorQ12
import Derived.Test.YtolgigaolffenaaGreatDoorQ13
import Derived.Test.YtolgigaolffenaaGreatDoorQ14
import Derived.Test.YtolgigaolffenaaGreatDoorQ15
import Derived.Test.YtolgigaolffenaaGreatDoorQ16
import Derived.Test.YtolgigaolffenaaGreatDoorQ17
import Derived.Test.YtolgigaolffenaaGreatDoorQ18
import Derived.Test.YtolgigaolffenaaGreatDoorQ19
import Derived.Test.YtolgigaolffenaaGreatDoorQ20
import Derived.Test.YtolgigaolffenaaGreatDoorQ21
import Derived.Test.YtolgigaolffenaaGreatDoorQ22
import Derived.Test.YtolgigaolffenaaGreatDoorQ23
import Derived.Test.YtolgigaolffenaaGreatDoorQ24
import Derived.Test.YtolgigaolffenaaGreatDoorQ25
import Derived.Test.YtolgigaolffenaaGreatDoorQ26
import Derived.Test.YtolgigaolffenaaGreatDoorQ27
import Derived.Test.YtolgigaolffenaaGreatDoorQ29
import Derived.Test.YtolgigaolffenaaGreatDoorQ32
import Derived.Test.YtolgigaolffenaaGreatDoorQ36
import Derived.Test.YtolgigaolffenaaGreatDoorV05
import Derived.Deep.QuietTactic
import Derived.BigQuiet
import Derived.Deep.RegionWith
import Derived.Lib.ItoaLen

namespace Go.Proofs.YtolgigaolffenaaGreatDoor
open Go.RowKit

set_option maxHeartbeats 4000000 in
set_option maxRecDepth 100000 in
theorem idClock_ok (s : Src.S) (name : ByteArray) (t : Int) (X : Ln.St) (rv zv lv : Value) (evs : List Value) (w : World) (hR : Src.SrcR w w.heap.size s rv zv lv evs) (hS : Vd.Sz s) (hW : Wo w) (hA : Wa w) (hnm : name.size ≤ maxLen) (ht : -9223372036854775808 ≤ t ∧ t < 9223372036854775808)
    (hcc : ∀ x ∈ s.zones, ∀ e ∈ x.2, 0 ≤ e.u.c) (hwc : ∀ r ∈ s.rules, 0 ≤ r.c) (hN : Ln.namedT s name t = (X, 0)) (hx : -9223372036854775808 ≤ t + X.off ∧ t + X.off < 9223372036854775808) :
    Calls Tryz.prog 40 #[.agg #[rv, zv, lv], .string name, .int .i64 t] w fun e w' => e = .returned (.tuple #[.int .i64 (t + X.off), .int .i64 0]) ∧ Below w.heap.size w w' := by
  have hB0 := (Below.refl w.heap.size w).alloc (Nat.le_refl _) (.cells #[rv, zv, lv] 26)
  have HC := Lib.hid (idNamed_any s name t rv zv lv evs _ (hR.call hB0) hS (hW.below hB0) (hA.below hB0) hnm ht hcc hwc)
  rw [hN] at HC
  obtain ⟨rA, rc, rfl, _⟩ := hR.rules
  obtain ⟨zA, zc, rfl, _⟩ := hR.zones
  obtain ⟨lA, lc, rfl, _⟩ := hR.links
  obtain ⟨n1, hn1⟩ : ∃ n, s.rules.length = n := ⟨_, rfl⟩
  obtain ⟨n2, hn2⟩ : ∃ n, s.zones.length = n := ⟨_, rfl⟩
  obtain ⟨n3, hn3⟩ : ∃ n, s.links.length = n := ⟨_, rfl⟩
  rw [hn1, hn2, hn3] at HC hB0
  rw [hn1, hn2, hn3]
  obtain ⟨so, sd, sa⟩ := X
  unfold Ln.AtRet Ln.St.v at HC
  simp only at HC hx ⊢
  have HB0 := Lib.hid hB0
  have e1 : IntKind.i64.wrap (t + so) = t + so := by rw [IntKind.wrap_i64]; omega
  have e2 : wrap64 (t + so) = t + so := by unfold wrap64; omega
  clear hn1 hn2 hn3 hR hS hW hA hnm ht hcc hwc hN hx hB0
  go_enter Tryz.func40, Tryz.ntmps40
  go_wp2_with fail
  refine HC.out.mono ?_
  rintro e w1 ⟨rfl, hb1⟩
  have HB1 := Lib.hid (below_then HB0.out hb1)
  have HB2 := Lib.hid (HB1.out.alloc HB1.out.size (.cells #[.int .i64 so, .bool sd, .string sa] 31))
  clear hb1
  go_wp2
  go_ret2
  exact ⟨rfl, HB2.out⟩
namespace L17
def r0 : Ru.R := ⟨⟨#[69]⟩, 1990, 9999, 3, 1, 0, 0, 3600, 2, 3600, ⟨#[83]⟩⟩
def r1 : Ru.R := ⟨⟨#[69]⟩, 1990, 9999, 10, 1, 0, 0, 3600, 2, 0, ⟨#[]⟩⟩
def e0_0 : Er.E := ⟨3600, 2, 0, ⟨#[69]⟩, ⟨#[67, 69, 37, 115, 84]⟩, false, ⟨0, 0, 0, 0, 0, 0, 0⟩⟩
def s : Src.S := ⟨[r0, r1], [([65], [e0_0])], [([65], [66])], false⟩
theorem r0_ok : r0.Ok := ⟨by decide +kernel, ⟨by decide +kernel, by decide +kernel, by decide +kernel⟩, ⟨by decide +kernel, by decide +kernel⟩, by unfold Dy.Ok; decide +kernel, by decide +kernel, by decide +kernel, by decide +kernel⟩
theorem r1_ok : r1.Ok := ⟨by decide +kernel, ⟨by decide +kernel, by decide +kernel, by decide +kernel⟩, ⟨by decide +kernel, by decide +kernel⟩, by unfold Dy.Ok; decide +kernel, by decide +kernel, by decide +kernel, by decide +kernel⟩
theorem e0_0_ok : e0_0.Ok := ⟨by decide +kernel, by decide +kernel, .inr (.inr ⟨rfl, rfl, by decide +kernel⟩), fun h => (by cases h), fun _ => rfl⟩
theorem right : Src.srcB s = true := by
  have hr0 : r0.good = true := (Ru.R.good_iff r0).2 r0_ok
  have hr1 : r1.good = true := (Ru.R.good_iff r1).2 r1_ok
  have he0_0 : e0_0.good = true := by unfold Er.E.good; rw [Er.chk_ok e0_0 e0_0_ok]; rfl
  have hz0 : Src.zoneB ([65], [e0_0]) = true := by
    unfold Src.zoneB Src.erasB Src.erasB
    simp only [he0_0]
    decide +kernel
  have hl0 : Src.linkB ([65], [66]) = true := by decide +kernel
  unfold Src.srcB s
  simp only [List.all_cons, List.all_nil, hr0, hr1, hz0, hl0]
  rfl
theorem names : (Src.names s).Nodup := by
  have h : Src.names s = [⟨#[65]⟩, ⟨#[66]⟩] := rfl
  rw [h]
  decide +kernel
theorem flaws : Vd.flaws s = [] := by
  rw [Vd.flaws_iff]
  refine ⟨names, ?_, ?_, ?_⟩
  · intro z hz e he hk
    obtain rfl : z = ([65], [e0_0]) := by simpa [s] using hz
    obtain rfl : e = e0_0 := by simpa using he
    exact List.mem_map.2 ⟨r0, by simp [s], rfl⟩
  · intro z hz
    obtain rfl : z = ([65], [e0_0]) := by simpa [s] using hz
    decide +kernel
  · intro l hl
    obtain rfl : l = ([65], [66]) := by simpa [s] using hl
    exact ⟨0, by show _ ∈ Lk.zn s; exact List.mem_singleton.2 rfl⟩
theorem well : Vd.well s = true := (Vd.well_iff s).2 ⟨right, flaws⟩
theorem sz : Vd.Sz s := by
  refine ⟨⟨by decide, by decide, by decide⟩, ?_, ⟨?_, ?_, ?_⟩⟩
  · intro z hz
    obtain rfl : z = ([65], [e0_0]) := by simpa [s] using hz
    decide
  · intro r hr
    have h2 : r = r0 ∨ r = r1 := by simpa [s] using hr
    rcases h2 with rfl | rfl <;> exact ⟨by decide, by decide⟩
  · intro z hz
    obtain rfl : z = ([65], [e0_0]) := by simpa [s] using hz
    refine ⟨by decide, fun e he => ?_⟩
    obtain rfl : e = e0_0 := by simpa using he
    exact ⟨by decide, by decide⟩
  · intro k hk
    obtain rfl : k = ([65], [66]) := by simpa [s] using hk
    exact ⟨by decide, by decide⟩
theorem rcs : ∀ r ∈ s.rules, 0 ≤ r.c := by
  intro r hr
  have h2 : r = r0 ∨ r = r1 := by simpa [s] using hr
  rcases h2 with rfl | rfl <;> decide
theorem ccs : ∀ z ∈ s.zones, ∀ e ∈ z.2, 0 ≤ e.u.c := by
  intro z hz e he
  obtain rfl : z = ([65], [e0_0]) := by simpa [s] using hz
  obtain rfl : e = e0_0 := by simpa using he
  decide
end L17
namespace L17
def v0 (w : World) : World := w
def v1 (w : World) : World := (v0 w).alloc (.cells #[.string ⟨#[69]⟩, .int .i64 1990, .int .i64 9999, .int .i64 3, .int .u8 1, .int .i64 0, .int .i64 0, .int .i64 3600, .int .u8 2, .int .i64 3600, .string ⟨#[83]⟩, .string ⟨#[69]⟩, .int .i64 1990, .int .i64 9999, .int .i64 10, .int .u8 1, .int .i64 0, .int .i64 0, .int .i64 3600, .int .u8 2, .int .i64 0, .string ⟨#[]⟩] 75)
def v2 (w : World) : World := (v1 w).alloc (.cells #[.slice (some ⟨w.heap.size, 0, none⟩) 2 2, .slice (some ⟨w.heap.size + 1 + 1 + 1, 0, none⟩) 1 1, .slice (some ⟨w.heap.size + 1 + 1 + 1 + 1, 0, none⟩) 1 1] 26)
def v3 (w : World) : World := (v2 w).alloc (.cells #[.int .i64 3600, .int .u8 2, .int .i64 0, .string ⟨#[69]⟩, .string ⟨#[67, 69, 37, 115, 84]⟩, .bool false, .int .i64 0, .int .i64 0, .int .u8 0, .int .i64 0, .int .i64 0, .int .i64 0, .int .u8 0] 53)
def v4 (w : World) : World := (v3 w).alloc (.cells #[.string ⟨#[65]⟩, .slice (some ⟨w.heap.size + 1 + 1, 0, none⟩) 1 1] 56)
def v5 (w : World) : World := (v4 w).alloc (.cells #[.string ⟨#[65]⟩, .string ⟨#[66]⟩] 104)
theorem n0 (w : World) : (v0 w).heap.size = w.heap.size := rfl
theorem n1 (w : World) : (v1 w).heap.size = w.heap.size + 1 := (World.size_alloc _ _).trans (congrArg (· + 1) (n0 w))
theorem n2 (w : World) : (v2 w).heap.size = w.heap.size + 1 + 1 := (World.size_alloc _ _).trans (congrArg (· + 1) (n1 w))
theorem n3 (w : World) : (v3 w).heap.size = w.heap.size + 1 + 1 + 1 := (World.size_alloc _ _).trans (congrArg (· + 1) (n2 w))
theorem n4 (w : World) : (v4 w).heap.size = w.heap.size + 1 + 1 + 1 + 1 := (World.size_alloc _ _).trans (congrArg (· + 1) (n3 w))
theorem b0 (w : World) : Below w.heap.size w (v0 w) := Below.refl _ _
theorem b1 (w : World) : Below w.heap.size w (v1 w) := (b0 w).alloc (b0 w).size _
theorem b2 (w : World) : Below w.heap.size w (v2 w) := (b1 w).alloc (b1 w).size _
theorem b3 (w : World) : Below w.heap.size w (v3 w) := (b2 w).alloc (b2 w).size _
theorem b4 (w : World) : Below w.heap.size w (v4 w) := (b3 w).alloc (b3 w).size _
theorem b5 (w : World) : Below w.heap.size w (v5 w) := (b4 w).alloc (b4 w).size _
abbrev wl (w : World) : World := v5 w
theorem below (w : World) : Below w.heap.size w (wl w) := b5 w
theorem a0_1 (w : World) : At (v1 w) (w.heap.size) [.string ⟨#[69]⟩, .int .i64 1990, .int .i64 9999, .int .i64 3, .int .u8 1, .int .i64 0, .int .i64 0, .int .i64 3600, .int .u8 2, .int .i64 3600, .string ⟨#[83]⟩, .string ⟨#[69]⟩, .int .i64 1990, .int .i64 9999, .int .i64 10, .int .u8 1, .int .i64 0, .int .i64 0, .int .i64 3600, .int .u8 2, .int .i64 0, .string ⟨#[]⟩] := by
  unfold v1
  exact Lit.newAt (v0 w) _ _ _ (n0 w).symm
theorem a0_2 (w : World) : At (v2 w) (w.heap.size) [.string ⟨#[69]⟩, .int .i64 1990, .int .i64 9999, .int .i64 3, .int .u8 1, .int .i64 0, .int .i64 0, .int .i64 3600, .int .u8 2, .int .i64 3600, .string ⟨#[83]⟩, .string ⟨#[69]⟩, .int .i64 1990, .int .i64 9999, .int .i64 10, .int .u8 1, .int .i64 0, .int .i64 0, .int .i64 3600, .int .u8 2, .int .i64 0, .string ⟨#[]⟩] := (a0_1 w).allocO _
theorem a0_3 (w : World) : At (v3 w) (w.heap.size) [.string ⟨#[69]⟩, .int .i64 1990, .int .i64 9999, .int .i64 3, .int .u8 1, .int .i64 0, .int .i64 0, .int .i64 3600, .int .u8 2, .int .i64 3600, .string ⟨#[83]⟩, .string ⟨#[69]⟩, .int .i64 1990, .int .i64 9999, .int .i64 10, .int .u8 1, .int .i64 0, .int .i64 0, .int .i64 3600, .int .u8 2, .int .i64 0, .string ⟨#[]⟩] := (a0_2 w).allocO _
theorem a0_4 (w : World) : At (v4 w) (w.heap.size) [.string ⟨#[69]⟩, .int .i64 1990, .int .i64 9999, .int .i64 3, .int .u8 1, .int .i64 0, .int .i64 0, .int .i64 3600, .int .u8 2, .int .i64 3600, .string ⟨#[83]⟩, .string ⟨#[69]⟩, .int .i64 1990, .int .i64 9999, .int .i64 10, .int .u8 1, .int .i64 0, .int .i64 0, .int .i64 3600, .int .u8 2, .int .i64 0, .string ⟨#[]⟩] := (a0_3 w).allocO _
theorem a0_5 (w : World) : At (v5 w) (w.heap.size) [.string ⟨#[69]⟩, .int .i64 1990, .int .i64 9999, .int .i64 3, .int .u8 1, .int .i64 0, .int .i64 0, .int .i64 3600, .int .u8 2, .int .i64 3600, .string ⟨#[83]⟩, .string ⟨#[69]⟩, .int .i64 1990, .int .i64 9999, .int .i64 10, .int .u8 1, .int .i64 0, .int .i64 0, .int .i64 3600, .int .u8 2, .int .i64 0, .string ⟨#[]⟩] := (a0_4 w).allocO _
theorem at0 (w : World) : At (wl w) (w.heap.size) [.string ⟨#[69]⟩, .int .i64 1990, .int .i64 9999, .int .i64 3, .int .u8 1, .int .i64 0, .int .i64 0, .int .i64 3600, .int .u8 2, .int .i64 3600, .string ⟨#[83]⟩, .string ⟨#[69]⟩, .int .i64 1990, .int .i64 9999, .int .i64 10, .int .u8 1, .int .i64 0, .int .i64 0, .int .i64 3600, .int .u8 2, .int .i64 0, .string ⟨#[]⟩] := a0_5 w
theorem a1_2 (w : World) : At (v2 w) (w.heap.size + 1) [.slice (some ⟨w.heap.size, 0, none⟩) 2 2, .slice (some ⟨w.heap.size + 1 + 1 + 1, 0, none⟩) 1 1, .slice (some ⟨w.heap.size + 1 + 1 + 1 + 1, 0, none⟩) 1 1] := by
  unfold v2
  exact Lit.newAt (v1 w) _ _ _ (n1 w).symm
theorem a1_3 (w : World) : At (v3 w) (w.heap.size + 1) [.slice (some ⟨w.heap.size, 0, none⟩) 2 2, .slice (some ⟨w.heap.size + 1 + 1 + 1, 0, none⟩) 1 1, .slice (some ⟨w.heap.size + 1 + 1 + 1 + 1, 0, none⟩) 1 1] := (a1_2 w).allocO _
theorem a1_4 (w : World) : At (v4 w) (w.heap.size + 1) [.slice (some ⟨w.heap.size, 0, none⟩) 2 2, .slice (some ⟨w.heap.size + 1 + 1 + 1, 0, none⟩) 1 1, .slice (some ⟨w.heap.size + 1 + 1 + 1 + 1, 0, none⟩) 1 1] := (a1_3 w).allocO _
theorem a1_5 (w : World) : At (v5 w) (w.heap.size + 1) [.slice (some ⟨w.heap.size, 0, none⟩) 2 2, .slice (some ⟨w.heap.size + 1 + 1 + 1, 0, none⟩) 1 1, .slice (some ⟨w.heap.size + 1 + 1 + 1 + 1, 0, none⟩) 1 1] := (a1_4 w).allocO _
theorem at1 (w : World) : At (wl w) (w.heap.size + 1) [.slice (some ⟨w.heap.size, 0, none⟩) 2 2, .slice (some ⟨w.heap.size + 1 + 1 + 1, 0, none⟩) 1 1, .slice (some ⟨w.heap.size + 1 + 1 + 1 + 1, 0, none⟩) 1 1] := a1_5 w
theorem a2_3 (w : World) : At (v3 w) (w.heap.size + 1 + 1) [.int .i64 3600, .int .u8 2, .int .i64 0, .string ⟨#[69]⟩, .string ⟨#[67, 69, 37, 115, 84]⟩, .bool false, .int .i64 0, .int .i64 0, .int .u8 0, .int .i64 0, .int .i64 0, .int .i64 0, .int .u8 0] := by
  unfold v3
  exact Lit.newAt (v2 w) _ _ _ (n2 w).symm
theorem a2_4 (w : World) : At (v4 w) (w.heap.size + 1 + 1) [.int .i64 3600, .int .u8 2, .int .i64 0, .string ⟨#[69]⟩, .string ⟨#[67, 69, 37, 115, 84]⟩, .bool false, .int .i64 0, .int .i64 0, .int .u8 0, .int .i64 0, .int .i64 0, .int .i64 0, .int .u8 0] := (a2_3 w).allocO _
theorem a2_5 (w : World) : At (v5 w) (w.heap.size + 1 + 1) [.int .i64 3600, .int .u8 2, .int .i64 0, .string ⟨#[69]⟩, .string ⟨#[67, 69, 37, 115, 84]⟩, .bool false, .int .i64 0, .int .i64 0, .int .u8 0, .int .i64 0, .int .i64 0, .int .i64 0, .int .u8 0] := (a2_4 w).allocO _
theorem at2 (w : World) : At (wl w) (w.heap.size + 1 + 1) [.int .i64 3600, .int .u8 2, .int .i64 0, .string ⟨#[69]⟩, .string ⟨#[67, 69, 37, 115, 84]⟩, .bool false, .int .i64 0, .int .i64 0, .int .u8 0, .int .i64 0, .int .i64 0, .int .i64 0, .int .u8 0] := a2_5 w
theorem a3_4 (w : World) : At (v4 w) (w.heap.size + 1 + 1 + 1) [.string ⟨#[65]⟩, .slice (some ⟨w.heap.size + 1 + 1, 0, none⟩) 1 1] := by
  unfold v4
  exact Lit.newAt (v3 w) _ _ _ (n3 w).symm
theorem a3_5 (w : World) : At (v5 w) (w.heap.size + 1 + 1 + 1) [.string ⟨#[65]⟩, .slice (some ⟨w.heap.size + 1 + 1, 0, none⟩) 1 1] := (a3_4 w).allocO _
theorem at3 (w : World) : At (wl w) (w.heap.size + 1 + 1 + 1) [.string ⟨#[65]⟩, .slice (some ⟨w.heap.size + 1 + 1, 0, none⟩) 1 1] := a3_5 w
theorem a4_5 (w : World) : At (v5 w) (w.heap.size + 1 + 1 + 1 + 1) [.string ⟨#[65]⟩, .string ⟨#[66]⟩] := by
  unfold v5
  exact Lit.newAt (v4 w) _ _ _ (n4 w).symm
theorem at4 (w : World) : At (wl w) (w.heap.size + 1 + 1 + 1 + 1) [.string ⟨#[65]⟩, .string ⟨#[66]⟩] := a4_5 w
end L17
namespace L17
theorem r (w : World) : Src.SrcR (wl w) (wl w).heap.size s (.slice (some ⟨w.heap.size, 0, none⟩) 2 2) (.slice (some ⟨w.heap.size + 1 + 1 + 1, 0, none⟩) 1 1) (.slice (some ⟨w.heap.size + 1 + 1 + 1 + 1, 0, none⟩) 1 1) [.slice (some ⟨w.heap.size + 1 + 1, 0, none⟩) 1 1] := by
  refine ⟨⟨_, 2, rfl, Nat.le_refl _, by unfold maxLen; omega, Lit.reads (at0 w) rfl⟩, ⟨_, 1, rfl, Nat.le_refl _, by unfold maxLen; omega, Lit.reads (at3 w) rfl⟩, ⟨_, 1, rfl, Nat.le_refl _, by unfold maxLen; omega, Lit.reads (at4 w) rfl⟩, rfl, ?_⟩
  intro p hp
  have e : p = (([65], [e0_0]), .slice (some ⟨w.heap.size + 1 + 1, 0, none⟩) 1 1) := by simpa [s] using hp
  subst e
  exact ⟨_, 1, rfl, Nat.le_refl _, by unfold maxLen; omega, Lit.reads (at2 w) rfl⟩
theorem at_one : Eg.zoneAt s 0 = some ([65], [e0_0]) := rfl
theorem at_none : Eg.zoneAt s 1 = none := rfl
theorem walkB : (Lk.walk s ⟨#[66]⟩).2 = (0, 0) := by decide +kernel
theorem walkC : (Lk.walk s ⟨#[67]⟩).2 = (0, 3) := by decide +kernel
theorem st_eq {X : Ln.St} {a : Int} {b : Bool} {c : ByteArray} (h1 : X.off = a) (h2 : X.dst = b) (h3 : X.ab = c) : X = ⟨a, b, c⟩ := by
  obtain ⟨x, y, z⟩ := X
  simp only at h1 h2 h3
  rw [h1, h2, h3]
theorem st1 : Ln.stAt s.rules [e0_0] 922582799 = ⟨3600, false, ⟨#[67, 69, 84]⟩⟩ := st_eq (by decide +kernel) (by decide +kernel) (by decide +kernel)
theorem st2 : Ln.stAt s.rules [e0_0] 922582800 = ⟨7200, true, ⟨#[67, 69, 83, 84]⟩⟩ := st_eq (by decide +kernel) (by decide +kernel) (by decide +kernel)
theorem st3 : Ln.stAt s.rules [e0_0] 0 = ⟨3600, false, ⟨#[67, 69, 84]⟩⟩ := st_eq (by decide +kernel) (by decide +kernel) (by decide +kernel)
theorem at_in {t : Int} {X : Ln.St} (h : Ln.InT t) (hs : Ln.stAt s.rules [e0_0] t = X) : Ln.atT s 0 t = (X, 0) := by
  unfold Ln.atT
  rw [if_neg (by rw [well]; decide), at_one]
  simp only
  rw [if_pos h, hs]
theorem at1_ : Ln.atT s 0 922582799 = (⟨3600, false, ⟨#[67, 69, 84]⟩⟩, 0) := at_in (by decide +kernel) st1
theorem at3_ : Ln.atT s 0 0 = (⟨3600, false, ⟨#[67, 69, 84]⟩⟩, 0) := at_in (by decide +kernel) st3
theorem at4_ : Ln.atT s 1 0 = (Ln.St.zero, 3) := by
  unfold Ln.atT
  rw [if_neg (by rw [well]; decide), at_none]
theorem at5_ : Ln.atT s 0 1099511627776 = (Ln.St.zero, 1) := by
  unfold Ln.atT
  rw [if_neg (by rw [well]; decide), at_one]
  simp only
  rw [if_neg (by decide +kernel)]
theorem namedB : Ln.namedT s ⟨#[66]⟩ 922582800 = (⟨7200, true, ⟨#[67, 69, 83, 84]⟩⟩, 0) := by
  unfold Ln.namedT
  rw [if_neg (by rw [well]; decide), walkB, if_neg (by decide)]
  exact at_in (by decide +kernel) st2
theorem namedC : Ln.namedT s ⟨#[67]⟩ 0 = (Ln.St.zero, 3) := by
  unfold Ln.namedT
  rw [if_neg (by rw [well]; decide), walkC, if_pos (by decide)]
end L17
set_option maxHeartbeats 16000000 in
set_option maxRecDepth 200000 in
theorem lives17 (w : World) (hW : Wo w) (hA : Wa w) : Calls Tryz.prog 10 #[] w fun e w' => e = .returned (.bool true) ∧ Below w.heap.size w w' := by
  have hWW : ∀ W, Below (L17.wl w).heap.size (L17.wl w) W → Wo W ∧ Wa W := fun W hb => ⟨hW.below ((L17.below w).trans (hb.mono (L17.below w).size)), hA.below ((L17.below w).trans (hb.mono (L17.below w).size))⟩
  have HC1 : Hid (∀ W, Below (L17.wl w).heap.size (L17.wl w) W → Calls Tryz.prog 23 #[.agg #[.slice (some ⟨w.heap.size, 0, none⟩) 2 2, .slice (some ⟨w.heap.size + 1 + 1 + 1, 0, none⟩) 1 1, .slice (some ⟨w.heap.size + 1 + 1 + 1 + 1, 0, none⟩) 1 1], .int .i64 0, .int .i64 922582799] W fun e w' => e = .returned (.tuple #[.agg #[.int .i64 3600, .bool false, .string ⟨#[67, 69, 84]⟩], .int .i64 0]) ∧ Below W.heap.size W w') := fun W hb => by
    have h := idAt_any L17.s 0 922582799 _ _ _ _ W ((L17.r w).call hb) L17.sz (hWW W hb).1 (hWW W hb).2 (by decide) (by decide) L17.ccs L17.rcs
    rw [L17.at1_] at h
    exact h
  have HC2 : Hid (∀ W, Below (L17.wl w).heap.size (L17.wl w) W → Calls Tryz.prog 12 #[.agg #[.slice (some ⟨w.heap.size, 0, none⟩) 2 2, .slice (some ⟨w.heap.size + 1 + 1 + 1, 0, none⟩) 1 1, .slice (some ⟨w.heap.size + 1 + 1 + 1 + 1, 0, none⟩) 1 1], .string ⟨#[66]⟩, .int .i64 922582800] W fun e w' => e = .returned (.tuple #[.agg #[.int .i64 7200, .bool true, .string ⟨#[67, 69, 83, 84]⟩], .int .i64 0]) ∧ Below W.heap.size W w') := fun W hb => by
    have h := idNamed_any L17.s ⟨#[66]⟩ 922582800 _ _ _ _ W ((L17.r w).call hb) L17.sz (hWW W hb).1 (hWW W hb).2 (by decide) (by decide) L17.ccs L17.rcs
    rw [L17.namedB] at h
    exact h
  have HC3 : Hid (∀ W, Below (L17.wl w).heap.size (L17.wl w) W → Calls Tryz.prog 23 #[.agg #[.slice (some ⟨w.heap.size, 0, none⟩) 2 2, .slice (some ⟨w.heap.size + 1 + 1 + 1, 0, none⟩) 1 1, .slice (some ⟨w.heap.size + 1 + 1 + 1 + 1, 0, none⟩) 1 1], .int .i64 0, .int .i64 0] W fun e w' => e = .returned (.tuple #[.agg #[.int .i64 3600, .bool false, .string ⟨#[67, 69, 84]⟩], .int .i64 0]) ∧ Below W.heap.size W w') := fun W hb => by
    have h := idAt_any L17.s 0 0 _ _ _ _ W ((L17.r w).call hb) L17.sz (hWW W hb).1 (hWW W hb).2 (by decide) (by decide) L17.ccs L17.rcs
    rw [L17.at3_] at h
    exact h
  have HC4 : Hid (∀ W, Below (L17.wl w).heap.size (L17.wl w) W → Calls Tryz.prog 23 #[.agg #[.slice (some ⟨w.heap.size, 0, none⟩) 2 2, .slice (some ⟨w.heap.size + 1 + 1 + 1, 0, none⟩) 1 1, .slice (some ⟨w.heap.size + 1 + 1 + 1 + 1, 0, none⟩) 1 1], .int .i64 1, .int .i64 0] W fun e w' => e = .returned (.tuple #[.agg #[.int .i64 0, .bool false, .string ⟨#[]⟩], .int .i64 3]) ∧ Below W.heap.size W w') := fun W hb => by
    have h := idAt_any L17.s 1 0 _ _ _ _ W ((L17.r w).call hb) L17.sz (hWW W hb).1 (hWW W hb).2 (by decide) (by decide) L17.ccs L17.rcs
    rw [L17.at4_] at h
    exact h
  have HC5 : Hid (∀ W, Below (L17.wl w).heap.size (L17.wl w) W → Calls Tryz.prog 23 #[.agg #[.slice (some ⟨w.heap.size, 0, none⟩) 2 2, .slice (some ⟨w.heap.size + 1 + 1 + 1, 0, none⟩) 1 1, .slice (some ⟨w.heap.size + 1 + 1 + 1 + 1, 0, none⟩) 1 1], .int .i64 0, .int .i64 1099511627776] W fun e w' => e = .returned (.tuple #[.agg #[.int .i64 0, .bool false, .string ⟨#[]⟩], .int .i64 1]) ∧ Below W.heap.size W w') := fun W hb => by
    have h := idAt_any L17.s 0 1099511627776 _ _ _ _ W ((L17.r w).call hb) L17.sz (hWW W hb).1 (hWW W hb).2 (by decide) (by decide) L17.ccs L17.rcs
    rw [L17.at5_] at h
    exact h
  have HC6 : Hid (∀ W, Below (L17.wl w).heap.size (L17.wl w) W → Calls Tryz.prog 40 #[.agg #[.slice (some ⟨w.heap.size, 0, none⟩) 2 2, .slice (some ⟨w.heap.size + 1 + 1 + 1, 0, none⟩) 1 1, .slice (some ⟨w.heap.size + 1 + 1 + 1 + 1, 0, none⟩) 1 1], .string ⟨#[66]⟩, .int .i64 922582800] W fun e w' => e = .returned (.tuple #[.int .i64 922590000, .int .i64 0]) ∧ Below W.heap.size W w') := fun W hb => by
    exact idClock_ok L17.s ⟨#[66]⟩ 922582800 ⟨7200, true, ⟨#[67, 69, 83, 84]⟩⟩ _ _ _ _ W ((L17.r w).call hb) L17.sz (hWW W hb).1 (hWW W hb).2 (by decide) (by decide) L17.ccs L17.rcs L17.namedB (by decide)
  have HC7 : Hid (∀ W, Below (L17.wl w).heap.size (L17.wl w) W → Calls Tryz.prog 12 #[.agg #[.slice (some ⟨w.heap.size, 0, none⟩) 2 2, .slice (some ⟨w.heap.size + 1 + 1 + 1, 0, none⟩) 1 1, .slice (some ⟨w.heap.size + 1 + 1 + 1 + 1, 0, none⟩) 1 1], .string ⟨#[67]⟩, .int .i64 0] W fun e w' => e = .returned (.tuple #[.agg #[.int .i64 0, .bool false, .string ⟨#[]⟩], .int .i64 3]) ∧ Below W.heap.size W w') := fun W hb => by
    have h := idNamed_any L17.s ⟨#[67]⟩ 0 _ _ _ _ W ((L17.r w).call hb) L17.sz (hWW W hb).1 (hWW W hb).2 (by decide) (by decide) L17.ccs L17.rcs
    rw [L17.namedC] at h
    exact h
  have HS := Lib.hid (L17.at1 w)
  have HB := Lib.hid (L17.below w)
  clear hW hA hWW
  go_enter Tryz.func10, Tryz.ntmps10
  go_wp2_with fail
  refine (HC1.out _ (Below.refl _ _)).mono ?_
  rintro e w1 ⟨rfl, hb1⟩
  have HB1 := Lib.hid (hb1)
  clear hb1
  obtain ⟨V1, hV1⟩ : ∃ X, w1.alloc (.cells #[.int .i64 3600, .bool false, .string ⟨#[67, 69, 84]⟩] 31) = X := ⟨_, rfl⟩
  have hbv1 : Below w1.heap.size w1 V1 := by rw [← hV1]; exact (Below.refl _ _).alloc (Nat.le_refl _) _
  have HV1 := Lib.hid (HB1.out.trans (hbv1.mono HB1.out.size))
  have HX1_1v := Lib.hid (show At V1 w1.heap.size [.int .i64 3600, .bool false, .string ⟨#[67, 69, 84]⟩] from by rw [← hV1]; exact At.new _ _ _)
  have HE1 := Lib.hid hV1
  obtain ⟨a0, a1, a2, _⟩ := (HS.out.call HB1.out).three
  have z := (HS.out.call HB1.out).lt
  clear hV1 hbv1
  go_wp2_with fail
  rw [HE1.out]
  refine (HC2.out _ HV1.out).mono ?_
  clear a0 a1 a2 z
  rintro e w2 ⟨rfl, hb2⟩
  have HB2 := Lib.hid (HV1.out.trans (hb2.mono HV1.out.size))
  have HX1_2 := Lib.hid (HX1_1v.out.call hb2)
  clear hb2
  obtain ⟨V2, hV2⟩ : ∃ X, w2.alloc (.cells #[.int .i64 7200, .bool true, .string ⟨#[67, 69, 83, 84]⟩] 31) = X := ⟨_, rfl⟩
  have hbv2 : Below w2.heap.size w2 V2 := by rw [← hV2]; exact (Below.refl _ _).alloc (Nat.le_refl _) _
  have HV2 := Lib.hid (HB2.out.trans (hbv2.mono HB2.out.size))
  have HX1_2v := Lib.hid (HX1_2.out.call hbv2)
  have HX2_2v := Lib.hid (show At V2 w2.heap.size [.int .i64 7200, .bool true, .string ⟨#[67, 69, 83, 84]⟩] from by rw [← hV2]; exact At.new _ _ _)
  have HE2 := Lib.hid hV2
  obtain ⟨a0, a1, a2, _⟩ := (HS.out.call HB2.out).three
  have z := (HS.out.call HB2.out).lt
  clear hV2 hbv2
  go_wp2_with fail
  rw [HE2.out]
  refine (HC3.out _ HV2.out).mono ?_
  clear a0 a1 a2 z
  rintro e w3 ⟨rfl, hb3⟩
  have HB3 := Lib.hid (HV2.out.trans (hb3.mono HV2.out.size))
  have HX1_3 := Lib.hid (HX1_2v.out.call hb3)
  have HX2_3 := Lib.hid (HX2_2v.out.call hb3)
  clear hb3
  obtain ⟨V3, hV3⟩ : ∃ X, w3.alloc (.cells #[.int .i64 3600, .bool false, .string ⟨#[67, 69, 84]⟩] 31) = X := ⟨_, rfl⟩
  have hbv3 : Below w3.heap.size w3 V3 := by rw [← hV3]; exact (Below.refl _ _).alloc (Nat.le_refl _) _
  have HV3 := Lib.hid (HB3.out.trans (hbv3.mono HB3.out.size))
  have HX1_3v := Lib.hid (HX1_3.out.call hbv3)
  have HX2_3v := Lib.hid (HX2_3.out.call hbv3)
  have HX3_3v := Lib.hid (show At V3 w3.heap.size [.int .i64 3600, .bool false, .string ⟨#[67, 69, 84]⟩] from by rw [← hV3]; exact At.new _ _ _)
  have HE3 := Lib.hid hV3
  obtain ⟨a0, a1, a2, _⟩ := (HS.out.call HB3.out).three
  have z := (HS.out.call HB3.out).lt
  clear hV3 hbv3
  go_wp2_with fail
  rw [HE3.out]
  refine (HC4.out _ HV3.out).mono ?_
  clear a0 a1 a2 z
  rintro e w4 ⟨rfl, hb4⟩
  have HB4 := Lib.hid (HV3.out.trans (hb4.mono HV3.out.size))
  have HX1_4 := Lib.hid (HX1_3v.out.call hb4)
  have HX2_4 := Lib.hid (HX2_3v.out.call hb4)
  have HX3_4 := Lib.hid (HX3_3v.out.call hb4)
  clear hb4
  obtain ⟨V4, hV4⟩ : ∃ X, w4.alloc (.cells #[.int .i64 0, .bool false, .string ⟨#[]⟩] 31) = X := ⟨_, rfl⟩
  have hbv4 : Below w4.heap.size w4 V4 := by rw [← hV4]; exact (Below.refl _ _).alloc (Nat.le_refl _) _
  have HV4 := Lib.hid (HB4.out.trans (hbv4.mono HB4.out.size))
  have HX1_4v := Lib.hid (HX1_4.out.call hbv4)
  have HX2_4v := Lib.hid (HX2_4.out.call hbv4)
  have HX3_4v := Lib.hid (HX3_4.out.call hbv4)
  have HE4 := Lib.hid hV4
  obtain ⟨a0, a1, a2, _⟩ := (HS.out.call HB4.out).three
  have z := (HS.out.call HB4.out).lt
  clear hV4 hbv4
  go_wp2_with fail
  rw [HE4.out]
  refine (HC5.out _ HV4.out).mono ?_
  clear a0 a1 a2 z
  rintro e w5 ⟨rfl, hb5⟩
  have HB5 := Lib.hid (HV4.out.trans (hb5.mono HV4.out.size))
  have HX1_5 := Lib.hid (HX1_4v.out.call hb5)
  have HX2_5 := Lib.hid (HX2_4v.out.call hb5)
  have HX3_5 := Lib.hid (HX3_4v.out.call hb5)
  clear hb5
  obtain ⟨V5, hV5⟩ : ∃ X, w5.alloc (.cells #[.int .i64 0, .bool false, .string ⟨#[]⟩] 31) = X := ⟨_, rfl⟩
  have hbv5 : Below w5.heap.size w5 V5 := by rw [← hV5]; exact (Below.refl _ _).alloc (Nat.le_refl _) _
  have HV5 := Lib.hid (HB5.out.trans (hbv5.mono HB5.out.size))
  have HX1_5v := Lib.hid (HX1_5.out.call hbv5)
  have HX2_5v := Lib.hid (HX2_5.out.call hbv5)
  have HX3_5v := Lib.hid (HX3_5.out.call hbv5)
  have HE5 := Lib.hid hV5
  obtain ⟨a0, a1, a2, _⟩ := (HS.out.call HB5.out).three
  have z := (HS.out.call HB5.out).lt
  clear hV5 hbv5
  go_wp2_with fail
  rw [HE5.out]
  refine (HC6.out _ HV5.out).mono ?_
  clear a0 a1 a2 z
  rintro e w6 ⟨rfl, hb6⟩
  have HB6 := Lib.hid (HV5.out.trans (hb6.mono HV5.out.size))
  have HX1_6 := Lib.hid (HX1_5v.out.call hb6)
  have HX2_6 := Lib.hid (HX2_5v.out.call hb6)
  have HX3_6 := Lib.hid (HX3_5v.out.call hb6)
  clear hb6
  have HV6 := HB6
  have HX1_6v := HX1_6
  have HX2_6v := HX2_6
  have HX3_6v := HX3_6
  obtain ⟨a0, a1, a2, _⟩ := (HS.out.call HB6.out).three
  have z := (HS.out.call HB6.out).lt
  go_wp2_with fail
  refine (HC7.out _ HV6.out).mono ?_
  clear a0 a1 a2 z
  rintro e w7 ⟨rfl, hb7⟩
  have HB7 := Lib.hid (HV6.out.trans (hb7.mono HV6.out.size))
  have HX1_7 := Lib.hid (HX1_6v.out.call hb7)
  have HX2_7 := Lib.hid (HX2_6v.out.call hb7)
  have HX3_7 := Lib.hid (HX3_6v.out.call hb7)
  clear hb7
  obtain ⟨V7, hV7⟩ : ∃ X, w7.alloc (.cells #[.int .i64 0, .bool false, .string ⟨#[]⟩] 31) = X := ⟨_, rfl⟩
  have hbv7 : Below w7.heap.size w7 V7 := by rw [← hV7]; exact (Below.refl _ _).alloc (Nat.le_refl _) _
  have HV7 := Lib.hid (HB7.out.trans (hbv7.mono HB7.out.size))
  have HX1_7v := Lib.hid (HX1_7.out.call hbv7)
  have HX2_7v := Lib.hid (HX2_7.out.call hbv7)
  have HX3_7v := Lib.hid (HX3_7.out.call hbv7)
  have HE7 := Lib.hid hV7
  clear hV7 hbv7
  have hq1 : ∀ W, (Op.equalIn 10000 31 (.agg #[.int .i64 3600, .bool false, .string ⟨#[67, 69, 84]⟩]) (.agg #[.int .i64 3600, .bool false, .string ⟨#[67, 69, 84]⟩])).run Tryz.prog W = .ok true W := fun W => by kernel_rfl
  have hq2 : ∀ W, (Op.equalIn 10000 31 (.agg #[.int .i64 7200, .bool true, .string ⟨#[67, 69, 83, 84]⟩]) (.agg #[.int .i64 7200, .bool true, .string ⟨#[67, 69, 83, 84]⟩])).run Tryz.prog W = .ok true W := fun W => by kernel_rfl
  obtain ⟨c10, c11, c12, _⟩ := HX1_7.out.three
  have z1 := HX1_7.out.lt
  obtain ⟨c20, c21, c22, _⟩ := HX2_7.out.three
  have z2 := HX2_7.out.lt
  obtain ⟨c30, c31, c32, _⟩ := HX3_7.out.three
  have z3 := HX3_7.out.lt
  go_wp2
  go_ret
  rw [HE7.out]
  exact ⟨ret_bool (by decide), HB.out.trans (HV7.out.mono HB.out.size)⟩
end Go.Proofs.YtolgigaolffenaaGreatDoor

/- The contracts of the reference of package clock: instants. -/
namespace Go.Proofs.YtolgigaolffenaaGreatDoor
open Go.RowKit

theorem refTime_any (s : Int) (w : World) :
    Calls Tryz.prog 154 #[.int .i64 s] w fun e w' => e = .returned (.bool (decide (IsTime s))) ∧ w = w' := by
  by_cases h : IsTime s
  · have HD := Lib.hid (decide_eq_true h)
    obtain ⟨h1, h2⟩ := h
    go_enter Tryz.func154, Tryz.ntmps154
    go_wp2
    go_ret
    exact ⟨ret_bool (by rw [HD.out]), rfl⟩
  · have HD := Lib.hid (decide_eq_false h)
    have h' : s < -604800 ∨ 604800 < s := by unfold IsTime at h; omega
    clear h
    by_cases h1 : s < -604800
    · clear h'
      go_enter Tryz.func154, Tryz.ntmps154
      go_wp2
      go_ret
      exact ⟨ret_bool (by rw [HD.out]), rfl⟩
    · have h2 : 604800 < s := by omega
      clear h'
      go_enter Tryz.func154, Tryz.ntmps154
      go_wp2
      go_ret
      exact ⟨ret_bool (by rw [HD.out]; first | (simp; done) | (simp; omega)), rfl⟩

end Go.Proofs.YtolgigaolffenaaGreatDoor

/- The contracts of the reference's days of a month. -/
namespace Go.Proofs.YtolgigaolffenaaGreatDoor
open Go.RowKit

namespace Cv
end Cv
theorem refDayCheck_ok (k n d : Int) (w : World) (h : Dy.Ok k n d) :
    Calls Tryz.prog 118 #[.agg #[.int .u8 k, .int .i64 n, .int .i64 d]] w fun e w' => e = .returned (.int .i64 0) ∧ Below w.heap.size w w' := by
  rcases h with ⟨rfl, h2, h3, rfl⟩ | ⟨rfl, rfl, h2, h3⟩ | ⟨rfl | rfl, h2, h3, h4, h5⟩
  all_goals
    go_enter Tryz.func118, Tryz.ntmps118
    go_wp2
    go_ret
    exact ⟨rfl, (Below.refl _ _).alloc (Nat.le_refl _) _⟩
set_option maxHeartbeats 1000000 in
theorem refDayCheck_bad (k n d : Int) (w : World) (h0 : 0 ≤ k) (h : ¬ Dy.Ok k n d) :
    Calls Tryz.prog 118 #[.agg #[.int .u8 k, .int .i64 n, .int .i64 d]] w fun e w' => e = .returned (.int .i64 2) ∧ Below w.heap.size w w' := by
  have hk : k = 0 ∨ k = 1 ∨ k = 2 ∨ k = 3 ∨ 3 < k := by omega
  unfold Dy.Ok at h
  have hn : (1 ≤ n ∧ n ≤ 31) ∨ n < 1 ∨ (1 ≤ n ∧ 31 < n) := by omega
  have hd : (0 ≤ d ∧ d ≤ 6) ∨ d < 0 ∨ (0 ≤ d ∧ 6 < d) := by omega
  rcases hk with rfl | rfl | rfl | rfl | hk
  · rcases hn with ⟨n1, n2⟩ | n1 | ⟨n1, n2⟩
    · have q : (d == 0) = false := by rw [beq_eq_false_iff_ne]; omega
      rcases hd with ⟨d1, d2⟩ | d1 | ⟨d1, d2⟩
      all_goals
        clear h
        go_enter Tryz.func118, Tryz.ntmps118
        go_wp2
        go_ret
        exact ⟨rfl, (Below.refl _ _).alloc (Nat.le_refl _) _⟩
    all_goals
      rcases hd with ⟨d1, d2⟩ | d1 | ⟨d1, d2⟩
      all_goals
        clear h
        go_enter Tryz.func118, Tryz.ntmps118
        go_wp2
        go_ret
        exact ⟨rfl, (Below.refl _ _).alloc (Nat.le_refl _) _⟩
  · by_cases hz : n = 0
    · subst hz
      rcases hd with ⟨d1, d2⟩ | d1 | ⟨d1, d2⟩
      · omega
      all_goals
        clear h hn
        go_enter Tryz.func118, Tryz.ntmps118
        go_wp2
        go_ret
        exact ⟨rfl, (Below.refl _ _).alloc (Nat.le_refl _) _⟩
    · have q : (n == 0) = false := by rw [beq_eq_false_iff_ne]; omega
      rcases hn with ⟨n1, n2⟩ | n1 | ⟨n1, n2⟩
      all_goals
        rcases hd with ⟨d1, d2⟩ | d1 | ⟨d1, d2⟩
        all_goals
          clear h hz
          go_enter Tryz.func118, Tryz.ntmps118
          go_wp2
          go_ret
          exact ⟨rfl, (Below.refl _ _).alloc (Nat.le_refl _) _⟩
  iterate 2
    · rcases hn with ⟨n1, n2⟩ | n1 | ⟨n1, n2⟩
      all_goals
        rcases hd with ⟨d1, d2⟩ | d1 | ⟨d1, d2⟩
        all_goals
          first
          | omega
          | (clear h
             go_enter Tryz.func118, Tryz.ntmps118
             go_wp2
             go_ret
             exact ⟨rfl, (Below.refl _ _).alloc (Nat.le_refl _) _⟩)
  · have q0 : (k == 0) = false := by rw [beq_eq_false_iff_ne]; omega
    have q1 : (k == 1) = false := by rw [beq_eq_false_iff_ne]; omega
    have q2 : (k == 2) = false := by rw [beq_eq_false_iff_ne]; omega
    have q3 : (k == 3) = false := by rw [beq_eq_false_iff_ne]; omega
    rcases hn with ⟨n1, n2⟩ | n1 | ⟨n1, n2⟩
    all_goals
      rcases hd with ⟨d1, d2⟩ | d1 | ⟨d1, d2⟩
      all_goals
        clear h hk
        go_enter Tryz.func118, Tryz.ntmps118
        go_wp2
        go_ret
        exact ⟨rfl, (Below.refl _ _).alloc (Nat.le_refl _) _⟩

end Go.Proofs.YtolgigaolffenaaGreatDoor

/- The contracts of the reference's Num, two. -/
namespace Go.Proofs.YtolgigaolffenaaGreatDoor
open Go.RowKit

def Ck.dig (n : Int) : ByteArray := ⟨#[UInt8.ofNat (48 + n.toNat)]⟩
theorem dig_size (n : Int) : (Ck.dig n).size = 1 := rfl
theorem conv1 (w : World) (g : Nat) (n : Int) (h0 : 0 ≤ n) (h1 : n < 10) (hc : w.cell? ⟨g, 0, none⟩ = some (.int .u8 (48 + n))) :
    Sem.run Tryz.prog (convert 275 9 (.slice (some ⟨g, 0, none⟩) 1 1)) w = .ok (.string (Ck.dig n)) w := by
  have h := run_convert_bytes_back (P := Tryz.prog) w 275 9 5 ⟨g, 0, none⟩ 1 [UInt8.ofNat (48 + n.toNat)] Tryz.underlying275 Tryz.underlying5 Tryz.underlying9 ?_
  · exact h
  · intro j hj
    have hj0 : j = 0 := by simpa using hj
    subst hj0
    rw [show (⟨g, 0, none⟩ : Addr).add 0 = ⟨g, 0, none⟩ from rfl, hc]
    obtain ⟨k, rfl⟩ : ∃ k : Nat, n = k := ⟨n.toNat, by omega⟩
    have a1 : (48 + k) % 256 = 48 + k := by omega
    simp [UInt8.toNat_ofNat, a1]
theorem conv_new (w : World) (n : Int) (h0 : 0 ≤ n) (h1 : n < 10) :
    Sem.run Tryz.prog (convert 275 9 (.slice (some ⟨w.heap.size, 0, none⟩) 1 1)) (w.alloc (.cells #[.int .u8 (48 + n)] 5)) = .ok (.string (Ck.dig n)) (w.alloc (.cells #[.int .u8 (48 + n)] 5)) :=
  conv1 _ _ n h0 h1 (cell_of_row _ w.heap.size 0 _ _ _ (heap_alloc_new w _))
theorem conv_kept (w w1 : World) (n : Int) (h0 : 0 ≤ n) (h1 : n < 10) (hb : Below (w.heap.size + 1) (w.alloc (.cells #[.int .u8 (48 + n)] 5)) w1) :
    Sem.run Tryz.prog (convert 275 9 (.slice (some ⟨w.heap.size, 0, none⟩) 1 1)) w1 = .ok (.string (Ck.dig n)) w1 :=
  conv1 _ _ n h0 h1 ((hb.cell (p := ⟨w.heap.size, 0, none⟩) (Nat.lt_succ_self _)).trans (cell_of_row _ w.heap.size 0 _ _ _ (heap_alloc_new w _)))

set_option maxRecDepth 100000 in
theorem num_lo (n : Int) (w : World) (h0 : 0 ≤ n) (h1 : n < 10) :
    Calls Tryz.prog 155 #[.int .i64 n] w fun e w' => e = .returned (.string (Ck.dig n)) ∧ Below w.heap.size w w' := by
  have hc := conv_new w n h0 h1
  go_enter Tryz.func155, Tryz.ntmps155
  go_wp2
  go_ret
  exact ⟨rfl, (Below.refl _ _).alloc (Nat.le_refl _) _⟩

set_option maxHeartbeats 400000 in
set_option maxRecDepth 100000 in
theorem num_step (n : Int) (T : ByteArray) (w : World) (h0 : 10 ≤ n) (h1 : n < 100000) (hT : T.size ≤ 100)
    (hr : ∀ W, Calls Tryz.prog 155 #[.int .i64 (n / 10)] W fun e w' => e = .returned (.string T) ∧ Below W.heap.size W w') :
    Calls Tryz.prog 155 #[.int .i64 n] w fun e w' => e = .returned (.string (T ++ Ck.dig (n % 10))) ∧ Below w.heap.size w w' := by
  have HR := Lib.hid hr
  have HN := Lib.hid fun W => conv_new W (n % 10) (by omega) (by omega)
  have HK := Lib.hid fun W W1 => conv_kept W W1 (n % 10) (by omega) (by omega)
  have hc : Sem.run Tryz.prog (convert 275 9 (.slice (some ⟨w.heap.size, 0, none⟩) 1 1)) (w.drew.alloc (.cells #[.int .u8 (48 + n % 10)] 5)) = .ok (.string (Ck.dig (n % 10))) (w.drew.alloc (.cells #[.int .u8 (48 + n % 10)] 5)) := HN.out w.drew
  have hc2 : Sem.run Tryz.prog (convert 275 9 (.slice (some ⟨w.heap.size, 0, none⟩) 1 1)) (w.alloc (.cells #[.int .u8 (48 + n % 10)] 5)).drew = .ok (.string (Ck.dig (n % 10))) (w.alloc (.cells #[.int .u8 (48 + n % 10)] 5)).drew := conv1 _ _ (n % 10) (by omega) (by omega) (cell_of_row _ w.heap.size 0 _ _ _ (heap_alloc_new w _))
  have q1 : IntKind.i64.wrap (n.tdiv 10) = n / 10 := by rw [Int.tdiv_eq_ediv_of_nonneg (by omega)]; exact IntWalk.i64_in _ (by omega)
  have q2 : IntKind.i64.wrap (48 + n.tmod 10) = 48 + n % 10 := by rw [Int.tmod_eq_emod_of_nonneg (by omega)]; exact IntWalk.i64_in _ (by omega)
  have q3 : IntKind.u8.wrap (48 + n % 10) = 48 + n % 10 := by unfold IntKind.wrap; simp [IntKind.signed, IntKind.bits]; omega
  have s1 : ∀ W, (Op.stringOp .add T (Ck.dig (n % 10))).run Tryz.prog W = .ok (.string (T ++ Ck.dig (n % 10))) W := fun W => run_string_add_sum W _ _ (by rw [dig_size]; omega)
  clear hr hT
  go_enter Tryz.func155, Tryz.ntmps155
  go_upto_region 5 with fail
  go_region_with (go_at_call 155; refine (HR.out _).mono ?_; rintro e w1 ⟨rfl, hb⟩; first | (guard_hyp hb : Below _ (World.drew (World.alloc _ _)) _; have hck : Sem.run Tryz.prog (convert 275 9 (.slice (some ⟨w.heap.size, 0, none⟩) 1 1)) w1 = .ok (.string (Ck.dig (n % 10))) w1 := HK.out w w1 ((Below.refl _ _).drew.trans (hb.mono (by simp)))) | (have hcn := HN.out w1))
  all_goals (try go_wp2)
  all_goals go_ret
  all_goals first
    | exact ⟨rfl, (((Below.refl _ _).drew.trans hb).alloc (hb.size) _)⟩
    | exact ⟨rfl, ((Below.refl _ _).alloc (Nat.le_refl _) _).drew.trans (hb.mono (by simp))⟩
end Go.Proofs.YtolgigaolffenaaGreatDoor

/- The contracts of the reference's Num, two, Text. -/
namespace Go.Proofs.YtolgigaolffenaaGreatDoor
open Go.RowKit

def mk (l : List UInt8) : ByteArray := ⟨l.toArray⟩
theorem mk_size (l : List UInt8) : (mk l).size = l.length := by simp [mk, ByteArray.size]
theorem mk_app (a b : List UInt8) : mk a ++ mk b = mk (a ++ b) := by
  apply ByteArray.ext
  simp [mk, ByteArray.data_append]
theorem dig_mk (n : Int) : Ck.dig n = mk [UInt8.ofNat (48 + n.toNat)] := rfl
theorem itoa_lo (n : Int) (h0 : 0 ≤ n) (h1 : n < 10) : Lib.itoa n = [UInt8.ofNat (48 + n.toNat)] := by
  unfold Lib.itoa
  rw [if_neg (by omega)]
  unfold Lib.decDigits
  rw [dif_pos (by omega)]
theorem itoa_step (n : Int) (h0 : 10 ≤ n) : Lib.itoa n = Lib.itoa (n / 10) ++ [UInt8.ofNat (48 + (n % 10).toNat)] := by
  unfold Lib.itoa
  rw [if_neg (by omega), if_neg (by omega)]
  rw [Lib.decDigits, dif_neg (by omega)]
  rw [show n.toNat / 10 = (n / 10).toNat by omega, show n.toNat % 10 = (n % 10).toNat by omega]
theorem num_any : ∀ (k : Nat) (n : Int) (w : World), n.toNat = k → 0 ≤ n → n < 100000 →
    Calls Tryz.prog 155 #[.int .i64 n] w fun e w' => e = .returned (.string (mk (Lib.itoa n))) ∧ Below w.heap.size w w' := by
  intro k
  induction k using Nat.strongRecOn with
  | _ k ih =>
    intro n w hk h0 h1
    by_cases hn : n < 10
    · exact calls_str (num_lo n w h0 hn) (by rw [itoa_lo n h0 hn]; rfl)
    · have hl := Lib.itoa_length_le (n / 10) (by omega) (by omega)
      refine calls_str (num_step n (mk (Lib.itoa (n / 10))) w (by omega) h1 (by rw [mk_size]; omega) (fun W => ih (n / 10).toNat (by omega) (n / 10) W rfl (by omega) (by omega))) ?_
      rw [dig_mk, mk_app, itoa_step n (by omega)]

theorem convL (w : World) (g : Nat) (l : List UInt8) (c : Nat) (hc : ∀ j (hj : j < l.length), w.cell? ⟨g, j, none⟩ = some (.int .u8 (l[j].toNat : Int))) :
    Sem.run Tryz.prog (convert 275 9 (.slice (some ⟨g, 0, none⟩) l.length c)) w = .ok (.string (mk l)) w := by
  refine run_convert_bytes_back (P := Tryz.prog) w 275 9 5 ⟨g, 0, none⟩ c l Tryz.underlying275 Tryz.underlying5 Tryz.underlying9 ?_
  intro j hj
  have e : (⟨g, 0, none⟩ : Addr).add j = ⟨g, j, none⟩ := by
    unfold Addr.add
    split
    · subst_vars; rfl
    · simp
  rw [e, hc j hj]
theorem conv2_new (w : World) (n : Int) (h0 : 0 ≤ n) (h1 : n < 100) :
    Sem.run Tryz.prog (convert 275 9 (.slice (some ⟨w.heap.size, 0, none⟩) 2 2)) (w.alloc (.cells #[.int .u8 (48 + n / 10), .int .u8 (48 + n % 10)] 5)) = .ok (.string (mk (Ck.dig2 n))) (w.alloc (.cells #[.int .u8 (48 + n / 10), .int .u8 (48 + n % 10)] 5)) := by
  refine convL _ _ (Ck.dig2 n) 2 ?_
  intro j hj
  rw [cell_of_row _ w.heap.size j _ _ _ (heap_alloc_new w _)]
  obtain ⟨k, rfl⟩ : ∃ k : Nat, n = (k : Int) := ⟨n.toNat, by omega⟩
  have a1 : (48 + k / 10) % 256 = 48 + k / 10 := by omega
  have a2 : (48 + k % 10) % 256 = 48 + k % 10 := by omega
  have hj' : j < 2 := hj
  have : j = 0 ∨ j = 1 := by omega
  rcases this with rfl | rfl
  · simp [Ck.dig2, UInt8.toNat_ofNat, a1]
  · simp [Ck.dig2, UInt8.toNat_ofNat, a2]

set_option maxRecDepth 100000 in
theorem refTwo_any (n : Int) (w : World) (h0 : 0 ≤ n) (h1 : n < 100) :
    Calls Tryz.prog 156 #[.int .i64 n] w fun e w' => e = .returned (.string (mk (Ck.dig2 n))) ∧ Below w.heap.size w w' := by
  have hc := conv2_new w n h0 h1
  go_enter Tryz.func156, Tryz.ntmps156
  go_wp2
  go_ret
  exact ⟨rfl, (Below.refl _ _).alloc (Nat.le_refl _) _⟩
end Go.Proofs.YtolgigaolffenaaGreatDoor
