/- The statements' own 'lives' of package source. -/
import Derived.Test.YtmobejhfajnbhaaDoorK43
import Derived.Test.YtmobejhfajnbhaaDoorK29
namespace Go.Proofs.YtmobejhfajnbhaaDoor
open Go.RowKit

/-- source.Parse. -/
theorem srcParse_any (t : ByteArray) (w : World) (hW : Wq w) (hs : t.size ≤ maxLen) : Calls Tryd.prog 22 #[.string t] w (Src.PRet w (Src.parse Src.own (tl t))) := by
  unfold Src.parse
  cases hL : Sc.lines (tl t) with
  | bad l c y => exact srcParse_bad t w hW hs l c y hL
  | ok L =>
    simp only [Src.rest_all]
    exact srcParse_ok t w hW hs L hL
namespace Lv
def e1 : Er.E := ⟨3600, 2, 0, ⟨#[69, 85]⟩, ⟨#[67, 69, 37, 115, 84]⟩, true, ⟨2000, 1, 0, 1, 0, 0, 0⟩⟩
def e2 : Er.E := ⟨7200, 0, 0, ⟨#[]⟩, ⟨#[88]⟩, false, ⟨0, 0, 0, 0, 0, 0, 0⟩⟩
def r1 : Ru.R := ⟨⟨#[69, 85]⟩, 1981, 9999, 3, 1, 0, 0, 3600, 2, 3600, ⟨#[83]⟩⟩
def s1 : Src.S := ⟨[r1], [([65, 47, 66], [e1, e2])], [([65, 47, 66], [67])], false⟩
theorem p1 : Src.parse Src.own (tl ⟨([82, 117, 108, 101, 32, 69, 85, 32, 49, 57, 56, 49, 32, 109, 97, 120, 32, 45, 32, 77, 97, 114, 32, 108, 97, 115, 116, 83, 117, 110, 32, 49, 58, 48, 48, 117, 32, 49, 58, 48, 48, 32, 83, 32, 35, 32, 120, 10, 90, 111, 110, 101, 32, 65, 47, 66, 32, 49, 58, 48, 48, 32, 69, 85, 32, 67, 69, 37, 115, 84, 32, 50, 48, 48, 48, 10, 32, 50, 58, 48, 48, 32, 45, 32, 88, 10, 76, 32, 65, 47, 66, 32, 67, 10]).toArray⟩) = .ok s1 := by kernel_rfl
theorem p2 : Src.parse Src.own (tl ⟨([90, 111, 110, 101, 32, 65, 32, 49, 58, 48, 48, 32, 45, 32, 88, 32, 50, 48, 48, 48, 10]).toArray⟩) = .bad 1 1 5 := by kernel_rfl
theorem p3 : Src.parse Src.own (tl ⟨([82, 117, 108, 101, 32, 69, 85, 32, 49, 57, 56, 49, 10, 120]).toArray⟩) = .bad 1 9 5 := by kernel_rfl
theorem p4 : Src.parse Src.own (tl ⟨([10, 32, 76, 105, 110, 107, 32, 65, 32, 57, 98]).toArray⟩) = .bad 2 9 7 := by kernel_rfl
theorem p5 : Src.parse Src.own (tl ⟨([90, 111, 110, 101, 32, 65, 32, 49, 58, 48, 48, 32, 45, 32, 88, 32, 50, 48, 48, 48, 10, 32, 82, 117, 108, 101, 32, 97, 32, 98]).toArray⟩) = .bad 2 2 4 := by kernel_rfl
theorem open_ {w : World} {B : Nat} {rv zv lv : Value} {evs : List Value} (h : Src.SrcR w B s1 rv zv lv evs) : ∃ ra rc za zc la lc ea ec, rv = .slice (some ra) 1 rc ∧ zv = .slice (some za) 1 zc ∧ lv = .slice (some la) 1 lc ∧ evs = [.slice (some ea) 2 ec] ∧
    (ra.block < B ∧ za.block < B ∧ la.block < B ∧ ea.block < B) ∧ w.cell? ra = some (.string ⟨#[69, 85]⟩) ∧ w.cell? ⟨za.block, za.off + 1, none⟩ = some (.slice (some ea) 2 ec) ∧ w.cell? la = some (.string ⟨#[65, 47, 66]⟩) ∧ w.cell? ⟨la.block, la.off + 1, none⟩ = some (.string ⟨#[67]⟩) ∧ w.cell? ⟨ea.block, ea.off + 13, none⟩ = some (.int .i64 7200) := by
  obtain ⟨⟨rA, rc, rfl, hr1, hr2, hr3⟩, ⟨zA, zc, rfl, hz1, hz2, hz3⟩, ⟨lA, lc, rfl, hl1, hl2, hl3⟩, hlen, hers⟩ := h
  have hlen' : evs.length = 1 := hlen
  obtain ⟨ev, rfl⟩ : ∃ ev, evs = [ev] := by
    match evs, hlen' with
    | [ev], _ => exact ⟨ev, rfl⟩
  obtain ⟨eA, ec, he, he1, he2, he3⟩ := hers (([65, 47, 66], [e1, e2]), ev) (List.mem_cons_self)
  have he' : ev = .slice eA 2 ec := he
  subst he'
  obtain ⟨ra, rfl, rb, rcell⟩ := hr3.2 (by decide)
  obtain ⟨za, rfl, zb, zcell⟩ := hz3.2 (by decide)
  obtain ⟨la, rfl, lb, lcell⟩ := hl3.2 (by decide)
  obtain ⟨ea, rfl, eb, ecell⟩ := he3.2 (show 0 < 2 by decide)
  exact ⟨ra, rc, za, zc, la, lc, ea, ec, rfl, rfl, rfl, rfl, ⟨rb, zb, lb, eb⟩, rcell 0 _ rfl, zcell 1 _ rfl, lcell 0 _ rfl, lcell 1 _ rfl, ecell 13 _ rfl⟩
theorem r1_ok : r1.Ok := ⟨by decide +kernel, by decide +kernel, by decide +kernel, by decide +kernel, by decide +kernel, by decide +kernel, by decide +kernel⟩
theorem e1_ok : e1.Ok := ⟨by decide +kernel, by decide +kernel, .inr (.inr ⟨rfl, rfl, by decide +kernel⟩), fun _ => ⟨⟨by decide +kernel, by decide +kernel, by decide +kernel, by decide +kernel⟩, by decide +kernel, by decide +kernel⟩, fun h => (by cases h)⟩
theorem e2_ok : e2.Ok := ⟨by decide +kernel, by decide +kernel, .inl ⟨rfl, rfl, rfl⟩, fun h => (by cases h), fun _ => rfl⟩
theorem s1_ok : Src.srcB s1 = true := by
  have h1 : r1.good = true := (Ru.R.good_iff r1).2 r1_ok
  have h2 : e1.good = true := by unfold Er.E.good; rw [Er.chk_ok e1 e1_ok]; rfl
  have h3 : e2.good = true := by unfold Er.E.good; rw [Er.chk_ok e2 e2_ok]; rfl
  have h4 : Src.zoneB ([65, 47, 66], [e1, e2]) = true := by
    unfold Src.zoneB Src.erasB Src.erasB Src.erasB
    simp only [h2, h3]
    decide +kernel
  have h5 : Src.linkB ([65, 47, 66], [67]) = true := by decide +kernel
  unfold Src.srcB s1
  simp only [List.all_cons, List.all_nil, h1, h4, h5]
  rfl
theorem s1_lims : Src.Lims s1 := ⟨by decide, by decide, by decide⟩
theorem s1_sm : Src.Sm s1 := by
  refine ⟨?_, ?_, ?_⟩
  · intro r hr
    rw [show s1.rules = [r1] from rfl, List.mem_singleton] at hr
    subst hr
    decide
  · intro z hz
    rw [show s1.zones = [([65, 47, 66], [e1, e2])] from rfl, List.mem_singleton] at hz
    subst hz
    refine ⟨by decide, ?_⟩
    intro e he
    simp only [List.mem_cons, List.not_mem_nil, or_false] at he
    rcases he with rfl | rfl
    · exact ⟨by decide, by decide⟩
    · exact ⟨by decide, by decide⟩
  · intro k hk
    rw [show s1.links = [([65, 47, 66], [67])] from rfl, List.mem_singleton] at hk
    subst hk
    decide
def s2 : Src.S := ⟨[], [([65], [])], [], false⟩
theorem s2_bad : Src.srcB s2 = false := by
  have h4 : Src.zoneB ([65], []) = false := by
    unfold Src.zoneB
    simp
  unfold Src.srcB s2
  simp [h4]
theorem s2_lims : Src.Lims s2 := ⟨by decide, by decide, by decide⟩
theorem s2_sm : Src.Sm s2 := by
  refine ⟨fun r hr => (by cases hr), ?_, fun k hk => (by cases hk)⟩
  intro z hz
  rw [show s2.zones = [([65], [])] from rfl, List.mem_singleton] at hz
  subst hz
  exact ⟨by decide, fun e he => (by cases he)⟩
theorem row_nil (w : World) (B size : Nat) : Src.RowR w B size 0 (.slice none 0 0) [] := ⟨none, 0, rfl, Nat.le_refl _, by decide, ⟨by simp, fun h => absurd h (by omega)⟩⟩
theorem src_nil (w : World) (B : Nat) : Src.SrcR w B Src.St.none_ (.slice none 0 0) (.slice none 0 0) (.slice none 0 0) [] :=
  ⟨row_nil w B 11, row_nil w B 2, row_nil w B 2, rfl, fun p hp => (by cases hp)⟩
theorem src_two (w : World) : Src.SrcR (w.alloc (.cells #[.string ⟨#[65]⟩, .slice none 0 0] 37)) (w.alloc (.cells #[.string ⟨#[65]⟩, .slice none 0 0] 37)).heap.size s2 (.slice none 0 0) (.slice (some ⟨w.heap.size, 0, none⟩) 1 1) (.slice none 0 0) [.slice none 0 0] := by
  refine ⟨row_nil _ _ 11, ⟨_, 1, rfl, Nat.le_refl _, by decide, reads_cells_at w w.heap.size #[.string ⟨#[65]⟩, .slice none 0 0] 2 _ rfl rfl⟩, row_nil _ _ 2, rfl, fun p hp => ?_⟩
  have hp' : p = (([65], []), .slice none 0 0) := by simpa [s2] using hp
  subst hp'
  exact row_nil _ _ 13
theorem call_ok {t : ByteArray} {s : Src.S} (h : Src.parse Src.own (tl t) = .ok s) (w : World) (hW : Wq w) (hs : t.size ≤ maxLen) : Calls Tryd.prog 22 #[.string t] w fun e w' => Below w.heap.size w w' ∧ ∃ rv zv lv evs, e = .returned (.tuple #[.agg #[rv, zv, lv], .agg #[.int .i64 0, .int .i64 0, .int .i64 0]]) ∧ Src.SrcR w' w'.heap.size s rv zv lv evs := by
  have := srcParse_any t w hW hs
  rw [h] at this
  exact this
theorem call_bad {t : ByteArray} {l c y : Int} (h : Src.parse Src.own (tl t) = .bad l c y) (w : World) (hW : Wq w) (hs : t.size ≤ maxLen) : Calls Tryd.prog 22 #[.string t] w fun e w' => Below w.heap.size w w' ∧ e = .returned (.tuple #[.agg #[.slice none 0 0, .slice none 0 0, .slice none 0 0], .agg #[.int .i64 l, .int .i64 c, .int .i64 y]]) := by
  have := srcParse_any t w hW hs
  rw [h] at this
  exact this
end Lv
set_option maxHeartbeats 1000000 in
set_option maxRecDepth 100000 in
theorem lives11 (w : World) (hW : Wq w) : Calls Tryd.prog 21 #[] w fun e w' => e = .returned (.bool true) ∧ Below w.heap.size w w' := by
  have HP1 := Lib.hid fun W hw => Lv.call_ok Lv.p1 W hw (by decide)
  have HP2 := Lib.hid fun W hw => Lv.call_bad Lv.p2 W hw (by decide)
  have HP3 := Lib.hid fun W hw => Lv.call_bad Lv.p3 W hw (by decide)
  have HP4 := Lib.hid fun W hw => Lv.call_bad Lv.p4 W hw (by decide)
  have HP5 := Lib.hid fun W hw => Lv.call_bad Lv.p5 W hw (by decide)
  have HW := Lib.hid hW
  clear hW
  go_enter Tryd.func21, Tryd.ntmps21
  go_wp2_with fail
  refine (HP1.out _ HW.out).mono ?_
  rintro e w1 ⟨hb, rv, zv, lv, evs, rfl, hR⟩
  obtain ⟨ra, rc, za, zc, la, lc, ea, ec, rfl, rfl, rfl, rfl, ⟨rb, zb, lb, eb⟩, k1, k2, k3, k4, k5⟩ := Lv.open_ hR
  have HR := Lib.hid hR
  have HK := Lib.hid (And.intro k1 (And.intro k2 (And.intro k3 (And.intro k4 k5))))
  have HKB := Lib.hid (And.intro rb (And.intro zb (And.intro lb eb)))
  clear hR k1 k2 k3 k4 k5 rb zb lb eb
  have HB := Lib.hid hb
  clear hb
  have HBx1 := Lib.hid (((Below.refl w1.heap.size w1).alloc (Nat.le_refl _) (.cells #[.slice (some ra) 1 rc, .slice (some za) 1 zc, .slice (some la) 1 lc] 26)).alloc (by simp) (.cells #[.int .i64 0, .int .i64 0, .int .i64 0] 59))
  have HT1 := Lib.hid ((At.new w1 #[.slice (some ra) 1 rc, .slice (some za) 1 zc, .slice (some la) 1 lc] 26).allocO (.cells #[.int .i64 0, .int .i64 0, .int .i64 0] 59))
  have HF1 := Lib.hid (show At ((w1.alloc (.cells #[.slice (some ra) 1 rc, .slice (some za) 1 zc, .slice (some la) 1 lc] 26)).alloc (.cells #[.int .i64 0, .int .i64 0, .int .i64 0] 59)) (w1.heap.size + 1) [.int .i64 0, .int .i64 0, .int .i64 0] by have := At.new (w1.alloc (.cells #[.slice (some ra) 1 rc, .slice (some za) 1 zc, .slice (some la) 1 lc] 26)) #[.int .i64 0, .int .i64 0, .int .i64 0] 59; simpa using this)
  replace HB := Lib.hid (below_then HB.out HBx1.out)
  have HC := HBx1
  go_wp2_with fail
  refine (HP2.out _ (HW.out.below HB.out)).mono ?_
  rintro e w2 ⟨hb, rfl⟩
  replace HT1 := Lib.hid (HT1.out.call hb)
  replace HF1 := Lib.hid (HF1.out.call hb)
  replace HB := Lib.hid (below_then HB.out hb)
  replace HC := Lib.hid (below_then HC.out hb)
  clear hb
  have HBx2 := Lib.hid (((Below.refl w2.heap.size w2).alloc (Nat.le_refl _) (.cells #[.slice none 0 0, .slice none 0 0, .slice none 0 0] 26)).alloc (by simp) (.cells #[.int .i64 1, .int .i64 1, .int .i64 5] 59))
  have HF2 := Lib.hid (show At ((w2.alloc (.cells #[.slice none 0 0, .slice none 0 0, .slice none 0 0] 26)).alloc (.cells #[.int .i64 1, .int .i64 1, .int .i64 5] 59)) (w2.heap.size + 1) [.int .i64 1, .int .i64 1, .int .i64 5] by have := At.new (w2.alloc (.cells #[.slice none 0 0, .slice none 0 0, .slice none 0 0] 26)) #[.int .i64 1, .int .i64 1, .int .i64 5] 59; simpa using this)
  replace HT1 := Lib.hid ((HT1.out.allocO (.cells #[.slice none 0 0, .slice none 0 0, .slice none 0 0] 26)).allocO (.cells #[.int .i64 1, .int .i64 1, .int .i64 5] 59))
  replace HF1 := Lib.hid ((HF1.out.allocO (.cells #[.slice none 0 0, .slice none 0 0, .slice none 0 0] 26)).allocO (.cells #[.int .i64 1, .int .i64 1, .int .i64 5] 59))
  replace HB := Lib.hid (below_then HB.out HBx2.out)
  replace HC := Lib.hid (below_then HC.out HBx2.out)
  go_wp2_with fail
  refine (HP3.out _ (HW.out.below HB.out)).mono ?_
  rintro e w3 ⟨hb, rfl⟩
  replace HT1 := Lib.hid (HT1.out.call hb)
  replace HF1 := Lib.hid (HF1.out.call hb)
  replace HF2 := Lib.hid (HF2.out.call hb)
  replace HB := Lib.hid (below_then HB.out hb)
  replace HC := Lib.hid (below_then HC.out hb)
  clear hb
  have HBx3 := Lib.hid (((Below.refl w3.heap.size w3).alloc (Nat.le_refl _) (.cells #[.slice none 0 0, .slice none 0 0, .slice none 0 0] 26)).alloc (by simp) (.cells #[.int .i64 1, .int .i64 9, .int .i64 5] 59))
  have HF3 := Lib.hid (show At ((w3.alloc (.cells #[.slice none 0 0, .slice none 0 0, .slice none 0 0] 26)).alloc (.cells #[.int .i64 1, .int .i64 9, .int .i64 5] 59)) (w3.heap.size + 1) [.int .i64 1, .int .i64 9, .int .i64 5] by have := At.new (w3.alloc (.cells #[.slice none 0 0, .slice none 0 0, .slice none 0 0] 26)) #[.int .i64 1, .int .i64 9, .int .i64 5] 59; simpa using this)
  replace HT1 := Lib.hid ((HT1.out.allocO (.cells #[.slice none 0 0, .slice none 0 0, .slice none 0 0] 26)).allocO (.cells #[.int .i64 1, .int .i64 9, .int .i64 5] 59))
  replace HF1 := Lib.hid ((HF1.out.allocO (.cells #[.slice none 0 0, .slice none 0 0, .slice none 0 0] 26)).allocO (.cells #[.int .i64 1, .int .i64 9, .int .i64 5] 59))
  replace HF2 := Lib.hid ((HF2.out.allocO (.cells #[.slice none 0 0, .slice none 0 0, .slice none 0 0] 26)).allocO (.cells #[.int .i64 1, .int .i64 9, .int .i64 5] 59))
  replace HB := Lib.hid (below_then HB.out HBx3.out)
  replace HC := Lib.hid (below_then HC.out HBx3.out)
  go_wp2_with fail
  refine (HP4.out _ (HW.out.below HB.out)).mono ?_
  rintro e w4 ⟨hb, rfl⟩
  replace HT1 := Lib.hid (HT1.out.call hb)
  replace HF1 := Lib.hid (HF1.out.call hb)
  replace HF2 := Lib.hid (HF2.out.call hb)
  replace HF3 := Lib.hid (HF3.out.call hb)
  replace HB := Lib.hid (below_then HB.out hb)
  replace HC := Lib.hid (below_then HC.out hb)
  clear hb
  have HBx4 := Lib.hid (((Below.refl w4.heap.size w4).alloc (Nat.le_refl _) (.cells #[.slice none 0 0, .slice none 0 0, .slice none 0 0] 26)).alloc (by simp) (.cells #[.int .i64 2, .int .i64 9, .int .i64 7] 59))
  have HF4 := Lib.hid (show At ((w4.alloc (.cells #[.slice none 0 0, .slice none 0 0, .slice none 0 0] 26)).alloc (.cells #[.int .i64 2, .int .i64 9, .int .i64 7] 59)) (w4.heap.size + 1) [.int .i64 2, .int .i64 9, .int .i64 7] by have := At.new (w4.alloc (.cells #[.slice none 0 0, .slice none 0 0, .slice none 0 0] 26)) #[.int .i64 2, .int .i64 9, .int .i64 7] 59; simpa using this)
  replace HT1 := Lib.hid ((HT1.out.allocO (.cells #[.slice none 0 0, .slice none 0 0, .slice none 0 0] 26)).allocO (.cells #[.int .i64 2, .int .i64 9, .int .i64 7] 59))
  replace HF1 := Lib.hid ((HF1.out.allocO (.cells #[.slice none 0 0, .slice none 0 0, .slice none 0 0] 26)).allocO (.cells #[.int .i64 2, .int .i64 9, .int .i64 7] 59))
  replace HF2 := Lib.hid ((HF2.out.allocO (.cells #[.slice none 0 0, .slice none 0 0, .slice none 0 0] 26)).allocO (.cells #[.int .i64 2, .int .i64 9, .int .i64 7] 59))
  replace HF3 := Lib.hid ((HF3.out.allocO (.cells #[.slice none 0 0, .slice none 0 0, .slice none 0 0] 26)).allocO (.cells #[.int .i64 2, .int .i64 9, .int .i64 7] 59))
  replace HB := Lib.hid (below_then HB.out HBx4.out)
  replace HC := Lib.hid (below_then HC.out HBx4.out)
  go_wp2_with fail
  refine (HP5.out _ (HW.out.below HB.out)).mono ?_
  rintro e w5 ⟨hb, rfl⟩
  replace HT1 := Lib.hid (HT1.out.call hb)
  replace HF1 := Lib.hid (HF1.out.call hb)
  replace HF2 := Lib.hid (HF2.out.call hb)
  replace HF3 := Lib.hid (HF3.out.call hb)
  replace HF4 := Lib.hid (HF4.out.call hb)
  replace HB := Lib.hid (below_then HB.out hb)
  replace HC := Lib.hid (below_then HC.out hb)
  clear hb
  have HBx5 := Lib.hid (((Below.refl w5.heap.size w5).alloc (Nat.le_refl _) (.cells #[.slice none 0 0, .slice none 0 0, .slice none 0 0] 26)).alloc (by simp) (.cells #[.int .i64 2, .int .i64 2, .int .i64 4] 59))
  have HF5 := Lib.hid (show At ((w5.alloc (.cells #[.slice none 0 0, .slice none 0 0, .slice none 0 0] 26)).alloc (.cells #[.int .i64 2, .int .i64 2, .int .i64 4] 59)) (w5.heap.size + 1) [.int .i64 2, .int .i64 2, .int .i64 4] by have := At.new (w5.alloc (.cells #[.slice none 0 0, .slice none 0 0, .slice none 0 0] 26)) #[.int .i64 2, .int .i64 2, .int .i64 4] 59; simpa using this)
  replace HT1 := Lib.hid ((HT1.out.allocO (.cells #[.slice none 0 0, .slice none 0 0, .slice none 0 0] 26)).allocO (.cells #[.int .i64 2, .int .i64 2, .int .i64 4] 59))
  replace HF1 := Lib.hid ((HF1.out.allocO (.cells #[.slice none 0 0, .slice none 0 0, .slice none 0 0] 26)).allocO (.cells #[.int .i64 2, .int .i64 2, .int .i64 4] 59))
  replace HF2 := Lib.hid ((HF2.out.allocO (.cells #[.slice none 0 0, .slice none 0 0, .slice none 0 0] 26)).allocO (.cells #[.int .i64 2, .int .i64 2, .int .i64 4] 59))
  replace HF3 := Lib.hid ((HF3.out.allocO (.cells #[.slice none 0 0, .slice none 0 0, .slice none 0 0] 26)).allocO (.cells #[.int .i64 2, .int .i64 2, .int .i64 4] 59))
  replace HF4 := Lib.hid ((HF4.out.allocO (.cells #[.slice none 0 0, .slice none 0 0, .slice none 0 0] 26)).allocO (.cells #[.int .i64 2, .int .i64 2, .int .i64 4] 59))
  replace HB := Lib.hid (below_then HB.out HBx5.out)
  replace HC := Lib.hid (below_then HC.out HBx5.out)
  obtain ⟨W, hWW⟩ : ∃ W, (w5.alloc (.cells #[.slice none 0 0, .slice none 0 0, .slice none 0 0] 26)).alloc (.cells #[.int .i64 2, .int .i64 2, .int .i64 4] 59) = W := ⟨_, rfl⟩
  have HWW := Lib.hid hWW
  rw [hWW] at HT1 HF1 HF2 HF3 HF4 HF5 HB HC
  obtain ⟨b1, hb1⟩ : ∃ h, w1.heap.size = h := ⟨_, rfl⟩
  rw [hb1] at HF1 HT1
  obtain ⟨b2, hb2⟩ : ∃ h, w2.heap.size = h := ⟨_, rfl⟩
  rw [hb2] at HF2
  obtain ⟨b3, hb3⟩ : ∃ h, w3.heap.size = h := ⟨_, rfl⟩
  rw [hb3] at HF3
  obtain ⟨b4, hb4⟩ : ∃ h, w4.heap.size = h := ⟨_, rfl⟩
  rw [hb4] at HF4
  obtain ⟨b5, hb5⟩ : ∃ h, w5.heap.size = h := ⟨_, rfl⟩
  rw [hb5] at HF5
  obtain ⟨k1, k2, k3, k4, k5⟩ := HK.out
  obtain ⟨rb, zb, lb, eb⟩ := HKB.out
  have K1 : W.cell? ra = some (.string ⟨#[69, 85]⟩) := (HC.out.cell rb).trans k1
  have K2 : W.cell? ⟨za.block, za.off + 1, none⟩ = some (.slice (some ea) 2 ec) := (HC.out.cell (p := ⟨za.block, za.off + 1, none⟩) zb).trans k2
  have K3 : W.cell? la = some (.string ⟨#[65, 47, 66]⟩) := (HC.out.cell lb).trans k3
  have K4 : W.cell? ⟨la.block, la.off + 1, none⟩ = some (.string ⟨#[67]⟩) := (HC.out.cell (p := ⟨la.block, la.off + 1, none⟩) lb).trans k4
  have K5 : W.cell? ⟨ea.block, ea.off + 13, none⟩ = some (.int .i64 7200) := (HC.out.cell (p := ⟨ea.block, ea.off + 13, none⟩) eb).trans k5
  clear k1 k2 k3 k4 k5 rb zb lb eb
  obtain ⟨t0, t1, t2, _⟩ := HT1.out.three
  obtain ⟨f10, f11, f12, _⟩ := HF1.out.three
  obtain ⟨f20, f21, f22, _⟩ := HF2.out.three
  obtain ⟨f30, f31, f32, _⟩ := HF3.out.three
  obtain ⟨f40, f41, f42, _⟩ := HF4.out.three
  obtain ⟨f50, f51, f52, _⟩ := HF5.out.three
  have HR2 := Lib.hid (HR.out.call HC.out)
  have HCk := Lib.hid fun W' hw (h : Src.SrcR W' W'.heap.size Lv.s1 (.slice (some ra) 1 rc) (.slice (some za) 1 zc) (.slice (some la) 1 lc) [.slice (some ea) 2 ec]) => (by
    have := srcCheck_any Lv.s1 _ _ _ _ W' hw h Lv.s1_lims Lv.s1_sm
    rw [if_pos Lv.s1_ok] at this
    exact this : Calls Tryd.prog 24 #[.agg #[.slice (some ra) 1 rc, .slice (some za) 1 zc, .slice (some la) 1 lc]] W' fun e w' => e = .returned (.int .i64 0) ∧ Below W'.heap.size W' w')
  have HCk2 := Lib.hid fun W' hw => (by
    have := srcCheck_any Lv.s2 _ _ _ _ (World.alloc W' (.cells #[.string ⟨#[65]⟩, .slice none 0 0] 37)) hw (Lv.src_two W') Lv.s2_lims Lv.s2_sm
    rw [Lv.s2_bad, if_neg (by decide)] at this
    exact this : Calls Tryd.prog 24 #[.agg #[.slice none 0 0, .slice (some ⟨W'.heap.size, 0, none⟩) 1 1, .slice none 0 0]] (World.alloc W' (.cells #[.string ⟨#[65]⟩, .slice none 0 0] 37)) fun e w' => e = .returned (.int .i64 2) ∧ Below (World.alloc W' (.cells #[.string ⟨#[65]⟩, .slice none 0 0] 37)).heap.size (World.alloc W' (.cells #[.string ⟨#[65]⟩, .slice none 0 0] 37)) w')
  have HSa := Lib.hid fun W' (h : Src.SrcR W' W'.heap.size Lv.s1 (.slice (some ra) 1 rc) (.slice (some za) 1 zc) (.slice (some la) 1 lc) [.slice (some ea) 2 ec]) => calls_bool (srcSame_any Lv.s1 Lv.s1 _ _ _ _ _ _ _ _ W' h h) (show _ = true from (Src.sameB_iff _ _).2 ⟨rfl, rfl, rfl⟩)
  have HSn := Lib.hid fun W' (h : Src.SrcR W' W'.heap.size Lv.s1 (.slice (some ra) 1 rc) (.slice (some za) 1 zc) (.slice (some la) 1 lc) [.slice (some ea) 2 ec]) => calls_bool (srcSame_any Lv.s1 Src.St.none_ _ _ _ _ _ _ _ _ W' h (Lv.src_nil W' _)) (show _ = false by decide +kernel)
  go_wp2_with fail
  clear f10 f11 f12 f20 f21 f22 f30 f31 f32 f40 f41 f42 f50 f51 f52 K1 K2 K3 K4 K5 t0 t1 t2 HF1 HF2 HF3 HF4 HF5
  refine (HCk.out _ (HW.out.below HB.out).a HR2.out).mono ?_
  rintro e v1 ⟨rfl, hb⟩
  have HU1 := Lib.hid (HT1.out.call hb)
  replace HR2 := Lib.hid (HR2.out.call hb)
  replace HB := Lib.hid (below_then HB.out hb)
  clear hb
  obtain ⟨t0, t1, t2, _⟩ := HU1.out.three
  go_wp2_with fail
  clear t0 t1 t2
  refine (srcNames_any Lv.s1 _ _ _ _ _ HR2.out Lv.s1_lims).mono ?_
  rintro e v2 ⟨nA, nc, rfl, hb, hn1, hn2, hnr⟩
  have HU2 := Lib.hid (HU1.out.call hb)
  replace HR2 := Lib.hid (HR2.out.call hb)
  replace HB := Lib.hid (below_then HB.out hb)
  have HNR := Lib.hid hnr
  clear hb hnr hn1 hn2
  obtain ⟨t0, t1, t2, _⟩ := HU2.out.three
  go_wp2_with fail
  clear t0 t1 t2
  refine (texts_yes nA _ 2 2 nc 2 [⟨#[65, 47, 66]⟩, ⟨#[67]⟩] [⟨#[65, 47, 66]⟩, ⟨#[67]⟩] _ (by decide) (by decide) ((HNR.out.alloc (Nat.le_refl _) _).more (by simp)) (er_reads v2 v2.heap.size [⟨#[65, 47, 66]⟩, ⟨#[67]⟩] 9 rfl) rfl).mono ?_
  rintro e v3 ⟨rfl, hb⟩
  have hba := ((Below.refl v2.heap.size v2).alloc (Nat.le_refl _) (.cells #[.string ⟨#[65, 47, 66]⟩, .string ⟨#[67]⟩] 9))
  have hb2 := below_then hba hb
  have HU3 := Lib.hid (HU2.out.call hb2)
  replace HR2 := Lib.hid (HR2.out.call hb2)
  replace HB := Lib.hid (below_then HB.out hb2)
  clear hb hba hb2
  obtain ⟨t0, t1, t2, _⟩ := HU3.out.three
  go_wp2_with fail
  clear t0 t1 t2
  refine (srcRules_any Lv.s1 _ _ _ _ ⟨#[69, 85]⟩ _ HR2.out (by decide)).mono ?_
  rintro e v4 ⟨vr, rfl, hb, hown⟩
  obtain ⟨qA, qc, e, _, _⟩ := own_slice_cap hown
  have e2 : vr = .slice qA 1 qc := e
  subst e2
  clear e hown
  have HU4 := Lib.hid (HU3.out.call hb)
  replace HR2 := Lib.hid (HR2.out.call hb)
  replace HB := Lib.hid (below_then HB.out hb)
  clear hb
  obtain ⟨t0, t1, t2, _⟩ := HU4.out.three
  go_wp2_with fail
  clear t0 t1 t2
  refine (HSa.out _ HR2.out).mono ?_
  rintro e v5 ⟨rfl, hb⟩
  have HU5 := Lib.hid (HU4.out.call hb)
  replace HR2 := Lib.hid (HR2.out.call hb)
  replace HB := Lib.hid (below_then HB.out hb)
  clear hb
  obtain ⟨t0, t1, t2, _⟩ := HU5.out.three
  go_wp2_with fail
  clear t0 t1 t2
  refine (HSn.out _ HR2.out).mono ?_
  rintro e v6 ⟨rfl, hb⟩
  replace HB := Lib.hid (below_then HB.out hb)
  clear hb
  have HB7 := Lib.hid (HB.out.alloc HB.out.size (.cells #[.string ⟨#[65]⟩, .slice none 0 0] 37))
  go_wp2_with fail
  refine (HCk2.out _ (HW.out.below HB7.out).a).mono ?_
  rintro e v7 ⟨rfl, hb⟩
  replace HB := Lib.hid (below_then HB7.out hb)
  clear hb
  go_wp2
  go_ret
  exact ⟨rfl, HB.out⟩
end Go.Proofs.YtmobejhfajnbhaaDoor
/- What is read of a short text is right, as source.Check asks it. -/
namespace Go.Proofs.YtmobejhfajnbhaaDoor
open Go.RowKit

namespace Src
theorem name_len {t : Txt} (h : Ru.name t = true) : t.length ≤ 64 := by
  unfold Ru.name at h
  simp only [Bool.and_eq_true, decide_eq_true_eq] at h
  exact h.1.2
def GoodE (e : Er.E) : Prop := e.Ok
theorem erasB_done : ∀ (es : List Er.E) (e : Er.E), (∀ x ∈ es, x.Ok ∧ x.en = true) → e.Ok → e.en = false → erasB (es ++ [e]) = true
  | [], e, _, h, he => by
    have : e.good = true := by unfold Er.E.good; rw [Er.chk_ok e h]; rfl
    simp [erasB, this, he]
  | x :: es, e, hx, h, he => by
    have h1 := hx x List.mem_cons_self
    have : x.good = true := by unfold Er.E.good; rw [Er.chk_ok x h1.1]; rfl
    have ih := erasB_done es e (fun y hy => hx y (List.mem_cons_of_mem _ hy)) h he
    have e1 : ((es ++ [e]).isEmpty) = false := by cases es <;> rfl
    rw [List.cons_append, erasB, this, h1.2, e1, ih]
    rfl
theorem zoneB_done {z : Txt × List Er.E} (hb : Base own Er.E.Ok z) (hd : Done own z) : zoneB z = true := by
  obtain ⟨h1, h2, h3⟩ := hb
  obtain ⟨es, e, he, h4, h5⟩ := hd
  have hn : Ru.name z.1 = true := h1
  have h6 := erasB_done es e (fun x hx => ⟨h3 x (by rw [he]; simp [hx]), h4 x hx⟩) (h3 e (by rw [he]; simp)) h5
  unfold zoneB
  rw [hn, decide_eq_true (show 1 ≤ z.2.length by rw [he]; simp), decide_eq_true h2, he, h6]
  rfl
theorem zones_done : ∀ (zs : List (Txt × List Er.E)), ZonesOk own Er.E.Ok false zs → ∀ z ∈ zs, Base own Er.E.Ok z ∧ Done own z
  | [], _, z, hz => by cases hz
  | [x], h, z, hz => by
    rw [List.mem_singleton] at hz
    subst hz
    exact ⟨h.1, by have := h.2; rw [if_neg (by decide)] at this; exact this⟩
  | x :: y :: l, h, z, hz => by
    rcases List.mem_cons.1 hz with rfl | hz
    · exact ⟨h.1, h.2.1⟩
    · exact zones_done (y :: l) h.2.2 z hz
abbrev Rt (s : S) : Prop := Right own Ru.R.Ok Er.E.Ok s
theorem right_of {t : Txt} {x : S} (hs : t.length ≤ 8193) (h : parse own t = .ok x) : Rt x ∧ x.op = false := by
  refine parse_right own Ru.R.Ok Er.E.Ok ?_ ?_ t x hs h
  · intro l hl
    have hown : own.rule l = Ru.parse (l.map bts) := rfl
    rw [hown] at hl ⊢
    rcases Ru.parse_ok (l.map bts) with h | h
    · exact h.2.2.2.1
    · exact absurd hl h.1
  · intro l hl
    have hown : own.era l = Er.parse (l.map bts) := rfl
    rw [hown] at hl ⊢
    rcases Er.parse_ok (l.map bts) with h | h
    · exact h.2.2.1
    · exact absurd hl h.1
theorem right_srcB {x : S} (h : Rt x) (ho : x.op = false) : srcB x = true := by
  have hz := h.zones.2
  rw [ho] at hz
  have h1 : x.rules.all Ru.R.good = true := List.all_eq_true.2 fun r hr => (Ru.R.good_iff r).2 (h.rules.2 r hr)
  have h2 : x.zones.all zoneB = true := List.all_eq_true.2 fun z hz' => zoneB_done (zones_done x.zones hz z hz').1 (zones_done x.zones hz z hz').2
  have h3 : x.links.all linkB = true := List.all_eq_true.2 fun k hk => by
    have := h.links.2 k hk
    have h1 : Ru.name k.1 = true := this.1
    have h2 : Ru.name k.2 = true := this.2
    unfold linkB
    rw [h1, h2]
    rfl
  unfold srcB
  rw [h1, h2, h3]
  rfl
theorem right_lims {x : S} (h : Rt x) : Lims x := ⟨h.rules.1, h.zones.1, h.links.1⟩
theorem right_sm {x : S} (h : Rt x) (ho : x.op = false) : Sm x := by
  have hz := h.zones.2
  rw [ho] at hz
  refine ⟨fun r hr => ?_, fun z hz' => ?_, fun k hk => ?_⟩
  · have hR := h.rules.2 r hr
    obtain ⟨h1, _, _, _, _, _, h7⟩ := hR
    have := name_len h1
    rw [tl_length] at this
    unfold Ab.letter at h7
    simp only [Bool.and_eq_true, decide_eq_true_eq] at h7
    exact ⟨by omega, by have := h7.1.1; omega⟩
  · have hB := (zones_done x.zones hz z hz').1
    refine ⟨by have := name_len (show Ru.name z.1 = true from hB.1); omega, fun e he => ?_⟩
    obtain ⟨_, hf, hk, _⟩ := hB.2.2 e he
    refine ⟨?_, ?_⟩
    · have := Ab.fmt_size e.fm hf
      unfold maxLen
      omega
    · unfold maxLen
      rcases hk with ⟨_, _, hr⟩ | ⟨_, _, hr⟩ | ⟨_, _, hr⟩
      · rw [hr]; decide
      · rw [hr]; decide
      · have := name_len hr
        rw [tl_length] at this
        omega
  · have := h.links.2 k hk
    have h1 := name_len (show Ru.name k.1 = true from this.1)
    have h2 := name_len (show Ru.name k.2 = true from this.2)
    exact ⟨by omega, by omega⟩
end Src
end Go.Proofs.YtmobejhfajnbhaaDoor
/- A fault's line is one of the text's. -/
namespace Go.Proofs.YtmobejhfajnbhaaDoor
open Go.RowKit

namespace Src
theorem linesGo_num (N : Int) : ∀ (A : List Txt) (no : Int) (acc : List Ln), (∀ l ∈ acc, l.1 ≤ N) → no + A.length ≤ N + 1 → match Sc.linesGo A no acc with
    | .ok L => ∀ l ∈ L, l.1 ≤ N
    | .bad l _ _ => l ≤ N
  | [], no, acc, ha, hn => ha
  | t :: A, no, acc, ha, hn => by
    rw [Sc.linesGo]
    simp only [List.length_cons] at hn
    cases hf : Sc.fields t with
    | bad col why => show no ≤ N; omega
    | ok f =>
      simp only []
      refine linesGo_num N A (no + 1) _ ?_ (by omega)
      split
      · exact ha
      · intro l hl
        rcases List.mem_append.1 hl with hl | hl
        · exact ha l hl
        · rw [List.mem_singleton] at hl
          subst hl
          show no ≤ N
          omega
theorem readGo_num (N : Int) : ∀ (L : List Ln) (s : S) (l c y : Int), (∀ x ∈ L, x.1 ≤ N) → readGo own L s = .bad l c y → l ≤ N
  | [], s, l, c, y, h, hb => by cases hb
  | x :: L, s, l, c, y, h, hb => by
    rw [readGo_cons] at hb
    cases h1 : step own s (x.2.map (·.1)) with
    | bad place why =>
      rw [h1] at hb
      injection hb with e1 e2 e3
      rw [← e1]
      exact h x List.mem_cons_self
    | ok s1 =>
      rw [h1] at hb
      exact readGo_num N L s1 l c y (fun z hz => h z (List.mem_cons_of_mem _ hz)) hb
theorem parse_num {s : Txt} {l c y : Int} (hs : s.length ≤ 8193) (h : parse own s = .bad l c y) : l ≤ 8194 := by
  have hN := linesGo_num 8194 (Sc.splitNl s) 1 [] (fun x hx => by cases hx) (by
    rw [splitNl_len]
    have := List.count_le_length (a := (10 : UInt8)) (l := s)
    omega)
  unfold parse at h
  rw [linesGo_of s hs] at h
  cases hl : Sc.linesGo (Sc.splitNl s) 1 [] with
  | bad l' c' y' =>
    rw [hl] at h hN
    injection h with e1 e2 e3
    rw [← e1]
    exact hN
  | ok L =>
    rw [hl] at h hN
    simp only [] at h hN
    unfold readAll at h
    cases hg : readGo own L St.none_ with
    | bad l' c' y' =>
      rw [hg] at h
      injection h with e1 e2 e3
      rw [← e1]
      exact readGo_num 8194 L _ l' c' y' hN hg
    | ok s' =>
      rw [hg] at h
      simp only [] at h
      unfold finish at h
      split at h
      · injection h with e1 e2 e3
        rw [← e1]
        by_cases hne : L = []
        · subst hne
          show (0 : Int) ≤ 8194
          decide
        · exact hN _ (getLastD_mem L _ hne)
      · cases h
theorem count_more {l : Txt} {k : Nat} {c : UInt8} (h : l[k]? = some c) : (l.take (k + 1)).count 10 = (l.take k).count 10 + (if c = 10 then 1 else 0) := by
  rw [List.take_add_one, h, List.count_append]
  simp only [Option.toList_some, List.count_singleton]
  by_cases hc : c = 10
  · subst hc
    simp
  · simp [hc]
end Src
end Go.Proofs.YtmobejhfajnbhaaDoor
