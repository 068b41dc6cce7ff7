/- The contract of rule.read: one text of a rule. -/
import Derived.Test.YtlhoggalhjadgaaGreatDoorK12
import Derived.Test.YtlhoggalhjadgaaGreatDoorK13
import Derived.Lib.BufferOwn
import Derived.WalkLawsBesides

namespace Go.Proofs.YtlhoggalhjadgaaGreatDoor
open Go.RowKit

theorem At.grown {w w' : World} {h g : Nat} {xs : List Value} (a : At w h xs) (hg : w.grownBy w' (some g)) (hne : h ≠ g) : At w' h xs :=
  ⟨Nat.lt_of_lt_of_le a.1 hg.size, fun i v hi => ⟨(hg.cell_far ⟨h, i, none⟩ a.1 (by intro e; injection e with e; exact hne e)).trans (a.2 i v hi).1, (hg.frozen_far ⟨h, i, none⟩ a.1 (by intro e; injection e with e; exact hne e)).trans (a.2 i v hi).2⟩⟩
namespace Ru
/-- What the text at place k makes of a rule, and why it does not. -/
def rstep (k : Nat) (r : R) (x : ByteArray) : R × Int :=
  if k = 0 then (⟨x, r.fr, r.tt, r.mo, r.k, r.n, r.d, r.s, r.c, r.sv, r.lt⟩, if name (tl x) = true then 0 else 7)
  else if k = 1 then (⟨r.nm, Mo.yearV (Mo.yearN (tl x)), r.tt, r.mo, r.k, r.n, r.d, r.s, r.c, r.sv, r.lt⟩, if Mo.yearB (Mo.yearN (tl x)) = true then 0 else 4)
  else if k = 2 then (⟨r.nm, r.fr, (toS x r.fr).1, r.mo, r.k, r.n, r.d, r.s, r.c, r.sv, r.lt⟩, (toS x r.fr).2)
  else if k = 3 then (r, if x = ⟨#[45]⟩ then 0 else 4)
  else if k = 4 then (⟨r.nm, r.fr, r.tt, Wd.pick (tl x) (Months.map tl) + 1, r.k, r.n, r.d, r.s, r.c, r.sv, r.lt⟩, if Wd.pick (tl x) (Months.map tl) + 1 = 0 then 7 else 0)
  else if k = 5 then (if Dy.Ok (Dy.told (tl x)).1 (Dy.told (tl x)).2.1 (Dy.told (tl x)).2.2 then (⟨r.nm, r.fr, r.tt, r.mo, (Dy.told (tl x)).1, (Dy.told (tl x)).2.1, (Dy.told (tl x)).2.2, r.s, r.c, r.sv, r.lt⟩, 0) else (⟨r.nm, r.fr, r.tt, r.mo, 0, 0, 0, r.s, r.c, r.sv, r.lt⟩, 4))
  else if k = 6 then (⟨r.nm, r.fr, r.tt, r.mo, r.k, r.n, r.d, (Mo.parse x).1.1, (Mo.parse x).1.2, r.sv, r.lt⟩, (Mo.parse x).2)
  else if k = 7 then (if x = ⟨#[45]⟩ then (r, 0) else (⟨r.nm, r.fr, r.tt, r.mo, r.k, r.n, r.d, r.s, r.c, (Ck.parse x).1, r.lt⟩, (Ck.parse x).2))
  else (if x = ⟨#[45]⟩ then (r, 0) else (⟨r.nm, r.fr, r.tt, r.mo, r.k, r.n, r.d, r.s, r.c, r.sv, x⟩, if Ab.letter x = true then 0 else 4))
/-- What a call of read leaves. -/
def Rd (g : Nat) (w : World) (r : R) (why : Int) (e : Ending) (w' : World) : Prop := e = .returned (.int .i64 why) ∧ At w' g r.cells ∧ w.grownBy w' (some g)
end Ru
theorem dash_yes (x : ByteArray) (h : x = ⟨#[45]⟩) : (x.toList == [45]) = true := by rw [h, ByteArray.toList_eq]; rfl
set_option maxHeartbeats 1000000 in
theorem read0_ok (nm : ByteArray) (fr tt mo k n d s c sv : Int) (lt x : ByteArray) (g : Nat) (w : World) (hx : x.size ≤ 1000000) (hA : At w g [.string nm, .int .i64 fr, .int .i64 tt, .int .i64 mo, .int .u8 k, .int .i64 n, .int .i64 d, .int .i64 s, .int .u8 c, .int .i64 sv, .string lt]) (h : Ru.name (tl x) = true) :
    Calls Tryz.prog 90 #[.pointer (some ⟨g, 0, none⟩), .int .i64 0, .string x] w (Ru.Rd g w ⟨x, fr, tt, mo, k, n, d, s, c, sv, lt⟩ 0) := by
  have HA := Lib.hid hA
  have hg := hA.lt
  have HN := Lib.hid fun W => calls_bool (name_any x W hx) h
  clear h hx
  have q0 := HA.out.cell 0 _ rfl
  have p0 := HA.out.free 0 _ rfl
  clear hA
  go_enter Tryz.func90, Tryz.ntmps90
  go_wp2_with fail
  refine (HN.out _).mono ?_
  rintro e w1 ⟨rfl, hb⟩
  have A1 := Lib.hid ((HA.out.set 0 (.string x)).call hb)
  have G1 := Lib.hid (Lib.grownBy_below (Lib.grownBy_setB (World.grownBy.refl w (some g)) 0 (.string x)) hb)
  clear hb q0 p0
  go_wp2
  go_ret
  exact ⟨rfl, A1.out, G1.out⟩

set_option maxHeartbeats 1000000 in
theorem read0_no (nm : ByteArray) (fr tt mo k n d s c sv : Int) (lt x : ByteArray) (g : Nat) (w : World) (hx : x.size ≤ 1000000) (hA : At w g [.string nm, .int .i64 fr, .int .i64 tt, .int .i64 mo, .int .u8 k, .int .i64 n, .int .i64 d, .int .i64 s, .int .u8 c, .int .i64 sv, .string lt]) (h : Ru.name (tl x) = false) :
    Calls Tryz.prog 90 #[.pointer (some ⟨g, 0, none⟩), .int .i64 0, .string x] w (Ru.Rd g w ⟨x, fr, tt, mo, k, n, d, s, c, sv, lt⟩ 7) := by
  have HA := Lib.hid hA
  have hg := hA.lt
  have HN := Lib.hid fun W => calls_bool (name_any x W hx) h
  clear h hx
  have q0 := HA.out.cell 0 _ rfl
  have p0 := HA.out.free 0 _ rfl
  clear hA
  go_enter Tryz.func90, Tryz.ntmps90
  go_wp2_with fail
  refine (HN.out _).mono ?_
  rintro e w1 ⟨rfl, hb⟩
  have A1 := Lib.hid ((HA.out.set 0 (.string x)).call hb)
  have G1 := Lib.hid (Lib.grownBy_below (Lib.grownBy_setB (World.grownBy.refl w (some g)) 0 (.string x)) hb)
  clear hb q0 p0
  go_wp2
  go_ret
  exact ⟨rfl, A1.out, G1.out⟩

set_option maxHeartbeats 1000000 in
theorem read1_ok (nm : ByteArray) (fr tt mo k n d s c sv : Int) (lt x : ByteArray) (g : Nat) (w : World) (hx : x.size ≤ 1000000) (hA : At w g [.string nm, .int .i64 fr, .int .i64 tt, .int .i64 mo, .int .u8 k, .int .i64 n, .int .i64 d, .int .i64 s, .int .u8 c, .int .i64 sv, .string lt]) (h : Mo.yearB (Mo.yearN (tl x)) = true) :
    Calls Tryz.prog 90 #[.pointer (some ⟨g, 0, none⟩), .int .i64 1, .string x] w (Ru.Rd g w ⟨nm, (Mo.yearV (Mo.yearN (tl x))), tt, mo, k, n, d, s, c, sv, lt⟩ 0) := by
  have HA := Lib.hid hA
  have hg := hA.lt
  have hY := fun W => ruYear_any x W hx
  obtain ⟨V, hV⟩ : ∃ V, Mo.yearV (Mo.yearN (tl x)) = V := ⟨_, rfl⟩
  rw [hV]
  simp only [hV, h] at hY
  have HY := Lib.hid hY
  clear hY h hx hV
  clear hA
  go_enter Tryz.func90, Tryz.ntmps90
  go_wp2_with fail
  refine (HY.out _).mono ?_
  rintro e w1 ⟨rfl, hb⟩
  have A1 := Lib.hid (HA.out.call hb)
  have z1 := A1.out.lt
  have G1 := Lib.hid (Lib.grownBy_below (World.grownBy.refl w (some g)) hb)
  clear hb
  have q1 := A1.out.cell 1 _ rfl
  have p1 := A1.out.free 1 _ rfl
  go_wp2
  go_ret
  exact ⟨rfl, (A1.out).set 1 (.int .i64 V), Lib.grownBy_setB (G1.out) 1 _⟩

set_option maxHeartbeats 1000000 in
theorem read1_no (nm : ByteArray) (fr tt mo k n d s c sv : Int) (lt x : ByteArray) (g : Nat) (w : World) (hx : x.size ≤ 1000000) (hA : At w g [.string nm, .int .i64 fr, .int .i64 tt, .int .i64 mo, .int .u8 k, .int .i64 n, .int .i64 d, .int .i64 s, .int .u8 c, .int .i64 sv, .string lt]) (h : Mo.yearB (Mo.yearN (tl x)) = false) :
    Calls Tryz.prog 90 #[.pointer (some ⟨g, 0, none⟩), .int .i64 1, .string x] w (Ru.Rd g w ⟨nm, (Mo.yearV (Mo.yearN (tl x))), tt, mo, k, n, d, s, c, sv, lt⟩ 4) := by
  have HA := Lib.hid hA
  have hg := hA.lt
  have hY := fun W => ruYear_any x W hx
  obtain ⟨V, hV⟩ : ∃ V, Mo.yearV (Mo.yearN (tl x)) = V := ⟨_, rfl⟩
  rw [hV]
  simp only [hV, h] at hY
  have HY := Lib.hid hY
  clear hY h hx hV
  clear hA
  go_enter Tryz.func90, Tryz.ntmps90
  go_wp2_with fail
  refine (HY.out _).mono ?_
  rintro e w1 ⟨rfl, hb⟩
  have A1 := Lib.hid (HA.out.call hb)
  have z1 := A1.out.lt
  have G1 := Lib.hid (Lib.grownBy_below (World.grownBy.refl w (some g)) hb)
  clear hb
  have q1 := A1.out.cell 1 _ rfl
  have p1 := A1.out.free 1 _ rfl
  go_wp2
  go_ret
  exact ⟨rfl, (A1.out).set 1 (.int .i64 V), Lib.grownBy_setB (G1.out) 1 _⟩

set_option maxHeartbeats 1000000 in
theorem read2 (nm : ByteArray) (fr tt mo k n d s c sv : Int) (lt x : ByteArray) (g : Nat) (w : World) (hx : x.size ≤ 1000000) (hA : At w g [.string nm, .int .i64 fr, .int .i64 tt, .int .i64 mo, .int .u8 k, .int .i64 n, .int .i64 d, .int .i64 s, .int .u8 c, .int .i64 sv, .string lt])  :
    Calls Tryz.prog 90 #[.pointer (some ⟨g, 0, none⟩), .int .i64 2, .string x] w (Ru.Rd g w ⟨nm, fr, (Ru.toS x fr).1, mo, k, n, d, s, c, sv, lt⟩ (Ru.toS x fr).2) := by
  have HA := Lib.hid hA
  have hg := hA.lt
  have hY := fun W => ruTo_any x fr W hx
  obtain ⟨V, U, hV⟩ : ∃ V U, Ru.toS x fr = (V, U) := ⟨_, _, rfl⟩
  rw [hV]
  simp only [hV] at hY
  have HY := Lib.hid hY
  clear hY hx hV
  have q1 := HA.out.cell 1 _ rfl
  have p1 := HA.out.free 1 _ rfl
  clear hA
  go_enter Tryz.func90, Tryz.ntmps90
  go_wp2_with fail
  refine (HY.out _).mono ?_
  rintro e w1 ⟨rfl, hb⟩
  clear q1 p1
  have A1 := Lib.hid (HA.out.call hb)
  have z1 := A1.out.lt
  have G1 := Lib.hid (Lib.grownBy_below (World.grownBy.refl w (some g)) hb)
  clear hb
  have q2 := A1.out.cell 2 _ rfl
  have p2 := A1.out.free 2 _ rfl
  go_wp2
  go_ret
  exact ⟨rfl, (A1.out).set 2 (.int .i64 V), Lib.grownBy_setB (G1.out) 2 _⟩

set_option maxHeartbeats 1000000 in
theorem read3_ok (nm : ByteArray) (fr tt mo k n d s c sv : Int) (lt x : ByteArray) (g : Nat) (w : World) (_hx : x.size ≤ 1000000) (hA : At w g [.string nm, .int .i64 fr, .int .i64 tt, .int .i64 mo, .int .u8 k, .int .i64 n, .int .i64 d, .int .i64 s, .int .u8 c, .int .i64 sv, .string lt]) (h : x = ⟨#[45]⟩) :
    Calls Tryz.prog 90 #[.pointer (some ⟨g, 0, none⟩), .int .i64 3, .string x] w (Ru.Rd g w ⟨nm, fr, tt, mo, k, n, d, s, c, sv, lt⟩ 0) := by
  have HA := Lib.hid hA
  have hg := hA.lt
  have q := dash_yes x h
  clear h
  clear hA
  go_enter Tryz.func90, Tryz.ntmps90
  go_wp2
  go_ret
  exact ⟨rfl, HA.out, World.grownBy.refl w _⟩

set_option maxHeartbeats 1000000 in
theorem read3_no (nm : ByteArray) (fr tt mo k n d s c sv : Int) (lt x : ByteArray) (g : Nat) (w : World) (_hx : x.size ≤ 1000000) (hA : At w g [.string nm, .int .i64 fr, .int .i64 tt, .int .i64 mo, .int .u8 k, .int .i64 n, .int .i64 d, .int .i64 s, .int .u8 c, .int .i64 sv, .string lt]) (h : ¬ x = ⟨#[45]⟩) :
    Calls Tryz.prog 90 #[.pointer (some ⟨g, 0, none⟩), .int .i64 3, .string x] w (Ru.Rd g w ⟨nm, fr, tt, mo, k, n, d, s, c, sv, lt⟩ 4) := by
  have HA := Lib.hid hA
  have hg := hA.lt
  have q := ba_ne x [45] h
  clear h
  clear hA
  go_enter Tryz.func90, Tryz.ntmps90
  go_wp2
  go_ret
  exact ⟨rfl, HA.out, World.grownBy.refl w _⟩

set_option maxHeartbeats 1000000 in
theorem read4_ok (nm : ByteArray) (fr tt mo k n d s c sv : Int) (lt x : ByteArray) (g : Nat) (w : World) (hx : x.size ≤ 1000000) (hA : At w g [.string nm, .int .i64 fr, .int .i64 tt, .int .i64 mo, .int .u8 k, .int .i64 n, .int .i64 d, .int .i64 s, .int .u8 c, .int .i64 sv, .string lt]) (h : ¬ Wd.pick (tl x) (Months.map tl) + 1 = 0) :
    Calls Tryz.prog 90 #[.pointer (some ⟨g, 0, none⟩), .int .i64 4, .string x] w (Ru.Rd g w ⟨nm, fr, tt, (Wd.pick (tl x) (Months.map tl) + 1), k, n, d, s, c, sv, lt⟩ 0) := by
  have HA := Lib.hid hA
  have hg := hA.lt
  have hmx : x.size ≤ maxLen := by unfold maxLen; omega
  have hY := fun W => month_any x W hmx
  obtain ⟨p, hp⟩ : ∃ p, Wd.pick (tl x) (Months.map tl) + 1 = p := ⟨_, rfl⟩
  rw [hp] at h ⊢
  simp only [hp] at hY
  have HY := Lib.hid hY
  have qb : (p == 0) = false := by rw [beq_eq_false_iff_ne]; exact h
  clear hY h hx hp hmx
  clear hA
  go_enter Tryz.func90, Tryz.ntmps90
  go_wp2_with fail
  refine (HY.out _).mono ?_
  rintro e w1 ⟨rfl, hb⟩
  have A1 := Lib.hid (HA.out.call hb)
  have z1 := A1.out.lt
  have G1 := Lib.hid (Lib.grownBy_below (World.grownBy.refl w (some g)) hb)
  clear hb
  have q3 := A1.out.cell 3 _ rfl
  have p3 := A1.out.free 3 _ rfl
  go_wp2
  go_ret
  exact ⟨rfl, (A1.out).set 3 (.int .i64 p), Lib.grownBy_setB (G1.out) 3 _⟩

set_option maxHeartbeats 1000000 in
theorem read4_no (nm : ByteArray) (fr tt mo k n d s c sv : Int) (lt x : ByteArray) (g : Nat) (w : World) (hx : x.size ≤ 1000000) (hA : At w g [.string nm, .int .i64 fr, .int .i64 tt, .int .i64 mo, .int .u8 k, .int .i64 n, .int .i64 d, .int .i64 s, .int .u8 c, .int .i64 sv, .string lt]) (h : Wd.pick (tl x) (Months.map tl) + 1 = 0) :
    Calls Tryz.prog 90 #[.pointer (some ⟨g, 0, none⟩), .int .i64 4, .string x] w (Ru.Rd g w ⟨nm, fr, tt, (Wd.pick (tl x) (Months.map tl) + 1), k, n, d, s, c, sv, lt⟩ 7) := by
  have HA := Lib.hid hA
  have hg := hA.lt
  have hmx : x.size ≤ maxLen := by unfold maxLen; omega
  have hY := fun W => month_any x W hmx
  obtain ⟨p, hp⟩ : ∃ p, Wd.pick (tl x) (Months.map tl) + 1 = p := ⟨_, rfl⟩
  rw [hp] at h ⊢
  simp only [hp] at hY
  subst h
  have HY := Lib.hid hY
  clear hY hx hp hmx
  clear hA
  go_enter Tryz.func90, Tryz.ntmps90
  go_wp2_with fail
  refine (HY.out _).mono ?_
  rintro e w1 ⟨rfl, hb⟩
  have A1 := Lib.hid (HA.out.call hb)
  have z1 := A1.out.lt
  have G1 := Lib.hid (Lib.grownBy_below (World.grownBy.refl w (some g)) hb)
  clear hb
  have q3 := A1.out.cell 3 _ rfl
  have p3 := A1.out.free 3 _ rfl
  go_wp2
  go_ret
  exact ⟨rfl, (A1.out).set 3 (.int .i64 0), Lib.grownBy_setB (G1.out) 3 _⟩

set_option maxHeartbeats 1000000 in
theorem read5_ok (nm : ByteArray) (fr tt mo k n d s c sv : Int) (lt x : ByteArray) (g : Nat) (w : World) (hx : x.size ≤ 1000000) (hA : At w g [.string nm, .int .i64 fr, .int .i64 tt, .int .i64 mo, .int .u8 k, .int .i64 n, .int .i64 d, .int .i64 s, .int .u8 c, .int .i64 sv, .string lt]) (hW : Wl w) (a b e : Int) (hT : Dy.told (tl x) = (a, b, e)) (h : Dy.Ok a b e) :
    Calls Tryz.prog 90 #[.pointer (some ⟨g, 0, none⟩), .int .i64 5, .string x] w (Ru.Rd g w ⟨nm, fr, tt, mo, a, b, e, s, c, sv, lt⟩ 0) := by
  have HA := Lib.hid hA
  have hg := hA.lt
  have HY := Lib.hid (parse_is x w hW hx a b e hT h)
  clear hT h hx hW
  clear hA
  go_enter Tryz.func90, Tryz.ntmps90
  go_wp2_with fail
  refine (HY.out).mono ?_
  rintro e' w1 ⟨rfl, hb⟩
  have A1 := Lib.hid (HA.out.call hb)
  have z1 := A1.out.lt
  have G1 := Lib.hid (Lib.grownBy_below (World.grownBy.refl w (some g)) hb)
  clear hb
  have q4 := A1.out.cell 4 _ rfl
  have p4 := A1.out.free 4 _ rfl
  have q5 := A1.out.cell 5 _ rfl
  have p5 := A1.out.free 5 _ rfl
  have q6 := A1.out.cell 6 _ rfl
  have p6 := A1.out.free 6 _ rfl
  go_wp2
  go_ret
  exact ⟨rfl, (((A1.out).set 4 (.int .u8 a)).set 5 (.int .i64 b)).set 6 (.int .i64 e), Lib.grownBy_setB (Lib.grownBy_setB (Lib.grownBy_setB (G1.out) 4 _) 5 _) 6 _⟩

set_option maxHeartbeats 1000000 in
theorem read5_no (nm : ByteArray) (fr tt mo k n d s c sv : Int) (lt x : ByteArray) (g : Nat) (w : World) (hx : x.size ≤ 1000000) (hA : At w g [.string nm, .int .i64 fr, .int .i64 tt, .int .i64 mo, .int .u8 k, .int .i64 n, .int .i64 d, .int .i64 s, .int .u8 c, .int .i64 sv, .string lt]) (hW : Wl w) (a b e : Int) (hT : Dy.told (tl x) = (a, b, e)) (h : ¬ Dy.Ok a b e) :
    Calls Tryz.prog 90 #[.pointer (some ⟨g, 0, none⟩), .int .i64 5, .string x] w (Ru.Rd g w ⟨nm, fr, tt, mo, 0, 0, 0, s, c, sv, lt⟩ 4) := by
  have HA := Lib.hid hA
  have hg := hA.lt
  have HY := Lib.hid (parse_no x w hW hx a b e hT h)
  clear hT h hx hW
  clear hA
  go_enter Tryz.func90, Tryz.ntmps90
  go_wp2_with fail
  refine (HY.out).mono ?_
  rintro e' w1 ⟨rfl, hb⟩
  have A1 := Lib.hid (HA.out.call hb)
  have z1 := A1.out.lt
  have G1 := Lib.hid (Lib.grownBy_below (World.grownBy.refl w (some g)) hb)
  clear hb
  have q4 := A1.out.cell 4 _ rfl
  have p4 := A1.out.free 4 _ rfl
  have q5 := A1.out.cell 5 _ rfl
  have p5 := A1.out.free 5 _ rfl
  have q6 := A1.out.cell 6 _ rfl
  have p6 := A1.out.free 6 _ rfl
  go_wp2
  go_ret
  exact ⟨rfl, (((A1.out).set 4 (.int .u8 0)).set 5 (.int .i64 0)).set 6 (.int .i64 0), Lib.grownBy_setB (Lib.grownBy_setB (Lib.grownBy_setB (G1.out) 4 _) 5 _) 6 _⟩

set_option maxHeartbeats 1000000 in
theorem read6 (nm : ByteArray) (fr tt mo k n d s c sv : Int) (lt x : ByteArray) (g : Nat) (w : World) (hx : x.size ≤ 1000000) (hA : At w g [.string nm, .int .i64 fr, .int .i64 tt, .int .i64 mo, .int .u8 k, .int .i64 n, .int .i64 d, .int .i64 s, .int .u8 c, .int .i64 sv, .string lt]) (hW : Wp w) :
    Calls Tryz.prog 90 #[.pointer (some ⟨g, 0, none⟩), .int .i64 6, .string x] w (Ru.Rd g w ⟨nm, fr, tt, mo, k, n, d, (Mo.parse x).1.1, (Mo.parse x).1.2, sv, lt⟩ (Mo.parse x).2) := by
  have HA := Lib.hid hA
  have hg := hA.lt
  have hY := momParse_any x w hW hx
  obtain ⟨a, b, e, hp⟩ : ∃ a b e, Mo.parse x = ((a, b), e) := ⟨_, _, _, rfl⟩
  rw [hp] at hY ⊢
  have HY := Lib.hid hY
  clear hY hp hx hW
  clear hA
  go_enter Tryz.func90, Tryz.ntmps90
  go_wp2_with fail
  refine (HY.out).mono ?_
  rintro e' w1 ⟨rfl, hb⟩
  have A1 := Lib.hid (HA.out.call hb)
  have z1 := A1.out.lt
  have G1 := Lib.hid (Lib.grownBy_below (World.grownBy.refl w (some g)) hb)
  clear hb
  have q7 := A1.out.cell 7 _ rfl
  have p7 := A1.out.free 7 _ rfl
  have q8 := A1.out.cell 8 _ rfl
  have p8 := A1.out.free 8 _ rfl
  go_wp2
  go_ret
  exact ⟨rfl, ((A1.out).set 7 (.int .i64 a)).set 8 (.int .u8 b), Lib.grownBy_setB (Lib.grownBy_setB (G1.out) 7 _) 8 _⟩

set_option maxHeartbeats 1000000 in
theorem read7_no (nm : ByteArray) (fr tt mo k n d s c sv : Int) (lt x : ByteArray) (g : Nat) (w : World) (_hx : x.size ≤ 1000000) (hA : At w g [.string nm, .int .i64 fr, .int .i64 tt, .int .i64 mo, .int .u8 k, .int .i64 n, .int .i64 d, .int .i64 s, .int .u8 c, .int .i64 sv, .string lt]) (h : x = ⟨#[45]⟩) :
    Calls Tryz.prog 90 #[.pointer (some ⟨g, 0, none⟩), .int .i64 7, .string x] w (Ru.Rd g w ⟨nm, fr, tt, mo, k, n, d, s, c, sv, lt⟩ 0) := by
  have HA := Lib.hid hA
  have hg := hA.lt
  have q := dash_yes x h
  clear h
  clear hA
  go_enter Tryz.func90, Tryz.ntmps90
  go_wp2
  go_ret
  exact ⟨rfl, HA.out, World.grownBy.refl w _⟩

set_option maxHeartbeats 1000000 in
theorem read7 (nm : ByteArray) (fr tt mo k n d s c sv : Int) (lt x : ByteArray) (g : Nat) (w : World) (hx : x.size ≤ 1000000) (hA : At w g [.string nm, .int .i64 fr, .int .i64 tt, .int .i64 mo, .int .u8 k, .int .i64 n, .int .i64 d, .int .i64 s, .int .u8 c, .int .i64 sv, .string lt]) (hW : Wp w) (h : ¬ x = ⟨#[45]⟩) :
    Calls Tryz.prog 90 #[.pointer (some ⟨g, 0, none⟩), .int .i64 7, .string x] w (Ru.Rd g w ⟨nm, fr, tt, mo, k, n, d, s, c, (Ck.parse x).1, lt⟩ (Ck.parse x).2) := by
  have HA := Lib.hid hA
  have hg := hA.lt
  obtain ⟨a, b, hp⟩ : ∃ a b, Ck.parse x = (a, b) := ⟨_, _, rfl⟩
  have hY := clockParse_all x w hW hx a b hp
  rw [hp]
  have HY := Lib.hid hY
  have q := ba_ne x [45] h
  clear hY hp hx hW h
  clear hA
  go_enter Tryz.func90, Tryz.ntmps90
  go_wp2_with fail
  refine (HY.out).mono ?_
  rintro e w1 ⟨rfl, hb⟩
  have A1 := Lib.hid (HA.out.call hb)
  have z1 := A1.out.lt
  have G1 := Lib.hid (Lib.grownBy_below (World.grownBy.refl w (some g)) hb)
  clear hb
  have q9 := A1.out.cell 9 _ rfl
  have p9 := A1.out.free 9 _ rfl
  go_wp2
  go_ret
  exact ⟨rfl, (A1.out).set 9 (.int .i64 a), Lib.grownBy_setB (G1.out) 9 _⟩

set_option maxHeartbeats 1000000 in
theorem read8_no (nm : ByteArray) (fr tt mo k n d s c sv : Int) (lt x : ByteArray) (g : Nat) (w : World) (_hx : x.size ≤ 1000000) (hA : At w g [.string nm, .int .i64 fr, .int .i64 tt, .int .i64 mo, .int .u8 k, .int .i64 n, .int .i64 d, .int .i64 s, .int .u8 c, .int .i64 sv, .string lt]) (h : x = ⟨#[45]⟩) :
    Calls Tryz.prog 90 #[.pointer (some ⟨g, 0, none⟩), .int .i64 8, .string x] w (Ru.Rd g w ⟨nm, fr, tt, mo, k, n, d, s, c, sv, lt⟩ 0) := by
  have HA := Lib.hid hA
  have hg := hA.lt
  have q := dash_yes x h
  clear h
  clear hA
  go_enter Tryz.func90, Tryz.ntmps90
  go_wp2
  go_ret
  exact ⟨rfl, HA.out, World.grownBy.refl w _⟩

set_option maxHeartbeats 1000000 in
theorem read8_ok (nm : ByteArray) (fr tt mo k n d s c sv : Int) (lt x : ByteArray) (g : Nat) (w : World) (hx : x.size ≤ 1000000) (hA : At w g [.string nm, .int .i64 fr, .int .i64 tt, .int .i64 mo, .int .u8 k, .int .i64 n, .int .i64 d, .int .i64 s, .int .u8 c, .int .i64 sv, .string lt]) (h : ¬ x = ⟨#[45]⟩) (hl : Ab.letter x = true) :
    Calls Tryz.prog 90 #[.pointer (some ⟨g, 0, none⟩), .int .i64 8, .string x] w (Ru.Rd g w ⟨nm, fr, tt, mo, k, n, d, s, c, sv, x⟩ 0) := by
  have HA := Lib.hid hA
  have hg := hA.lt
  have HN := Lib.hid fun W => checkLetter_yes x W hx hl
  have q := ba_ne x [45] h
  clear h hl hx
  have q10 := HA.out.cell 10 _ rfl
  have p10 := HA.out.free 10 _ rfl
  clear hA
  go_enter Tryz.func90, Tryz.ntmps90
  go_wp2_with fail
  refine (HN.out _).mono ?_
  rintro e w1 ⟨rfl, hb⟩
  have A1 := Lib.hid ((HA.out.set 10 (.string x)).call hb)
  have G1 := Lib.hid (Lib.grownBy_below (Lib.grownBy_setB (World.grownBy.refl w (some g)) 10 (.string x)) hb)
  clear hb q10 p10
  go_wp2
  go_ret
  exact ⟨rfl, A1.out, G1.out⟩

set_option maxHeartbeats 1000000 in
theorem read8_bad (nm : ByteArray) (fr tt mo k n d s c sv : Int) (lt x : ByteArray) (g : Nat) (w : World) (hx : x.size ≤ 1000000) (hA : At w g [.string nm, .int .i64 fr, .int .i64 tt, .int .i64 mo, .int .u8 k, .int .i64 n, .int .i64 d, .int .i64 s, .int .u8 c, .int .i64 sv, .string lt]) (h : ¬ x = ⟨#[45]⟩) (hl : Ab.letter x = false) :
    Calls Tryz.prog 90 #[.pointer (some ⟨g, 0, none⟩), .int .i64 8, .string x] w (Ru.Rd g w ⟨nm, fr, tt, mo, k, n, d, s, c, sv, x⟩ 4) := by
  have HA := Lib.hid hA
  have hg := hA.lt
  have HN := Lib.hid fun W => checkLetter_no x W hx hl
  have q := ba_ne x [45] h
  clear h hl hx
  have q10 := HA.out.cell 10 _ rfl
  have p10 := HA.out.free 10 _ rfl
  clear hA
  go_enter Tryz.func90, Tryz.ntmps90
  go_wp2_with fail
  refine (HN.out _).mono ?_
  rintro e w1 ⟨rfl, hb⟩
  have A1 := Lib.hid ((HA.out.set 10 (.string x)).call hb)
  have G1 := Lib.hid (Lib.grownBy_below (Lib.grownBy_setB (World.grownBy.refl w (some g)) 10 (.string x)) hb)
  clear hb q10 p10
  go_wp2
  go_ret
  exact ⟨rfl, A1.out, G1.out⟩

/-- read, at any place. -/
theorem read_any (j : Nat) (hj : j < 9) (r : Ru.R) (x : ByteArray) (g : Nat) (w : World) (hx : x.size ≤ 1000000) (hA : At w g r.cells) (hW : Wp w) :
    Calls Tryz.prog 90 #[.pointer (some ⟨g, 0, none⟩), .int .i64 j, .string x] w (Ru.Rd g w (Ru.rstep j r x).1 (Ru.rstep j r x).2) := by
  have hjj : j = 0 ∨ j = 1 ∨ j = 2 ∨ j = 3 ∨ j = 4 ∨ j = 5 ∨ j = 6 ∨ j = 7 ∨ j = 8 := by omega
  rcases hjj with rfl | rfl | rfl | rfl | rfl | rfl | rfl | rfl | rfl
  · unfold Ru.rstep
    rw [if_pos rfl]
    cases h : Ru.name (tl x)
    · exact read0_no r.nm r.fr r.tt r.mo r.k r.n r.d r.s r.c r.sv r.lt x g w hx hA h
    · exact read0_ok r.nm r.fr r.tt r.mo r.k r.n r.d r.s r.c r.sv r.lt x g w hx hA h
  · unfold Ru.rstep
    rw [if_neg (by omega), if_pos rfl]
    cases h : Mo.yearB (Mo.yearN (tl x))
    · exact read1_no r.nm r.fr r.tt r.mo r.k r.n r.d r.s r.c r.sv r.lt x g w hx hA h
    · exact read1_ok r.nm r.fr r.tt r.mo r.k r.n r.d r.s r.c r.sv r.lt x g w hx hA h
  · unfold Ru.rstep
    rw [if_neg (by omega), if_neg (by omega), if_pos rfl]
    exact read2 r.nm r.fr r.tt r.mo r.k r.n r.d r.s r.c r.sv r.lt x g w hx hA
  · unfold Ru.rstep
    rw [if_neg (by omega), if_neg (by omega), if_neg (by omega), if_pos rfl]
    by_cases h : x = ⟨#[45]⟩
    · simp only [if_pos h]
      exact read3_ok r.nm r.fr r.tt r.mo r.k r.n r.d r.s r.c r.sv r.lt x g w hx hA h
    · simp only [if_neg h]
      exact read3_no r.nm r.fr r.tt r.mo r.k r.n r.d r.s r.c r.sv r.lt x g w hx hA h
  · unfold Ru.rstep
    rw [if_neg (by omega), if_neg (by omega), if_neg (by omega), if_neg (by omega), if_pos rfl]
    by_cases h : Wd.pick (tl x) (Months.map tl) + 1 = 0
    · simp only [if_pos h]
      exact read4_no r.nm r.fr r.tt r.mo r.k r.n r.d r.s r.c r.sv r.lt x g w hx hA h
    · simp only [if_neg h]
      exact read4_ok r.nm r.fr r.tt r.mo r.k r.n r.d r.s r.c r.sv r.lt x g w hx hA h
  · unfold Ru.rstep
    rw [if_neg (by omega), if_neg (by omega), if_neg (by omega), if_neg (by omega), if_neg (by omega), if_pos rfl]
    by_cases h : Dy.Ok (Dy.told (tl x)).1 (Dy.told (tl x)).2.1 (Dy.told (tl x)).2.2
    · rw [if_pos h]
      exact read5_ok r.nm r.fr r.tt r.mo r.k r.n r.d r.s r.c r.sv r.lt x g w hx hA hW.l _ _ _ rfl h
    · rw [if_neg h]
      exact read5_no r.nm r.fr r.tt r.mo r.k r.n r.d r.s r.c r.sv r.lt x g w hx hA hW.l _ _ _ rfl h
  · unfold Ru.rstep
    rw [if_neg (by omega), if_neg (by omega), if_neg (by omega), if_neg (by omega), if_neg (by omega), if_neg (by omega), if_pos rfl]
    exact read6 r.nm r.fr r.tt r.mo r.k r.n r.d r.s r.c r.sv r.lt x g w hx hA hW
  · unfold Ru.rstep
    rw [if_neg (by omega), if_neg (by omega), if_neg (by omega), if_neg (by omega), if_neg (by omega), if_neg (by omega), if_neg (by omega), if_pos rfl]
    by_cases h : x = ⟨#[45]⟩
    · rw [if_pos h]
      exact read7_no r.nm r.fr r.tt r.mo r.k r.n r.d r.s r.c r.sv r.lt x g w hx hA h
    · rw [if_neg h]
      exact read7 r.nm r.fr r.tt r.mo r.k r.n r.d r.s r.c r.sv r.lt x g w hx hA hW h
  · unfold Ru.rstep
    rw [if_neg (by omega), if_neg (by omega), if_neg (by omega), if_neg (by omega), if_neg (by omega), if_neg (by omega), if_neg (by omega), if_neg (by omega)]
    by_cases h : x = ⟨#[45]⟩
    · rw [if_pos h]
      exact read8_no r.nm r.fr r.tt r.mo r.k r.n r.d r.s r.c r.sv r.lt x g w hx hA h
    · rw [if_neg h]
      cases hl : Ab.letter x
      · exact read8_bad r.nm r.fr r.tt r.mo r.k r.n r.d r.s r.c r.sv r.lt x g w hx hA h hl
      · exact read8_ok r.nm r.fr r.tt r.mo r.k r.n r.d r.s r.c r.sv r.lt x g w hx hA h hl
end Go.Proofs.YtlhoggalhjadgaaGreatDoor

/- The contract of rule.Parse. -/
namespace Go.Proofs.YtlhoggalhjadgaaGreatDoor
open Go.RowKit

theorem At.eleven {w : World} {g : Nat} {r : Ru.R} (h : At w g r.cells) :
    (w.cell? ⟨g, 0, none⟩ = some (.string r.nm) ∧ w.cell? ⟨g, 1, none⟩ = some (.int .i64 r.fr) ∧ w.cell? ⟨g, 2, none⟩ = some (.int .i64 r.tt) ∧ w.cell? ⟨g, 3, none⟩ = some (.int .i64 r.mo) ∧ w.cell? ⟨g, 4, none⟩ = some (.int .u8 r.k) ∧ w.cell? ⟨g, 5, none⟩ = some (.int .i64 r.n) ∧ w.cell? ⟨g, 6, none⟩ = some (.int .i64 r.d) ∧ w.cell? ⟨g, 7, none⟩ = some (.int .i64 r.s) ∧ w.cell? ⟨g, 8, none⟩ = some (.int .u8 r.c) ∧ w.cell? ⟨g, 9, none⟩ = some (.int .i64 r.sv) ∧ w.cell? ⟨g, 10, none⟩ = some (.string r.lt)) ∧ (w.frozen? ⟨g, 0, none⟩ = false ∧ w.frozen? ⟨g, 1, none⟩ = false ∧ w.frozen? ⟨g, 2, none⟩ = false ∧ w.frozen? ⟨g, 3, none⟩ = false ∧ w.frozen? ⟨g, 4, none⟩ = false ∧ w.frozen? ⟨g, 5, none⟩ = false ∧ w.frozen? ⟨g, 6, none⟩ = false ∧ w.frozen? ⟨g, 7, none⟩ = false ∧ w.frozen? ⟨g, 8, none⟩ = false ∧ w.frozen? ⟨g, 9, none⟩ = false ∧ w.frozen? ⟨g, 10, none⟩ = false) :=
  ⟨⟨h.cell 0 _ rfl, h.cell 1 _ rfl, h.cell 2 _ rfl, h.cell 3 _ rfl, h.cell 4 _ rfl, h.cell 5 _ rfl, h.cell 6 _ rfl, h.cell 7 _ rfl, h.cell 8 _ rfl, h.cell 9 _ rfl, h.cell 10 _ rfl⟩, ⟨h.free 0 _ rfl, h.free 1 _ rfl, h.free 2 _ rfl, h.free 3 _ rfl, h.free 4 _ rfl, h.free 5 _ rfl, h.free 6 _ rfl, h.free 7 _ rfl, h.free 8 _ rfl, h.free 9 _ rfl, h.free 10 _ rfl⟩⟩
namespace Ru
def run : List ByteArray → Nat → R → R × Int × Int
  | [], _, r => (r, 0, 0)
  | t :: l, k, r => if (rstep k r t).2 = 0 then run l (k + 1) (rstep k r t).1 else (R.zero, k, (rstep k r t).2)
def parse (l : List ByteArray) : R × Int × Int :=
  if (run (l.take 9) 0 R.zero).2.2 = 0 then (if l.length < 9 then (R.zero, l.length, 5) else if 9 < l.length then (R.zero, 9, 6) else ((run (l.take 9) 0 R.zero).1, 0, 0)) else run (l.take 9) 0 R.zero
theorem run_bad (l : List ByteArray) (k : Nat) (r : R) (t : ByteArray) (P : R × Int × Int) (h : P = run (l.drop k) k r) (ht : l[k]? = some t) (he : (rstep k r t).2 ≠ 0) : P = (R.zero, (k : Int), (rstep k r t).2) := by
  rw [h, drop_of ht, run, if_neg he]
theorem run_next (l : List ByteArray) (k : Nat) (r : R) (t : ByteArray) (P : R × Int × Int) (h : P = run (l.drop k) k r) (ht : l[k]? = some t) (he : (rstep k r t).2 = 0) : P = run (l.drop (k + 1)) (k + 1) (rstep k r t).1 := by
  rw [h, drop_of ht, run, if_pos he]
theorem run_end (l : List ByteArray) (k : Nat) (r : R) (P : R × Int × Int) (h : P = run (l.drop k) k r) (hk : l.length = k) : P = (r, 0, 0) := by
  rw [h, List.drop_eq_nil_of_le (by omega)]; rfl
def PRel (w : World) (m : Nat) (L : List ByteArray) (P : R × Int × Int) (i : Value) (wr : World) : Prop :=
  ∃ (k : Nat) (r : R), k ≤ m ∧ i = .int .i64 k ∧ Hid (At wr (w.heap.size + 1) r.cells) ∧ Hid (At wr w.heap.size R.zero.cells) ∧ Hid (Below w.heap.size w wr) ∧ Hid (P = run (L.drop k) k r)
end Ru
set_option maxHeartbeats 4000000 in
set_option maxRecDepth 100000 in
theorem ruParse_any (A : Option Addr) (n c : Nat) (ss : List ByteArray) (w : World) (hW : Wp w) (hn : n ≤ c) (hc : c ≤ maxLen) (hr : Reads w w.heap.size 1 A n (ss.map Value.string)) (hs : ∀ t ∈ ss, t.size ≤ 1000000) :
    Calls Tryz.prog 73 #[.slice A n c] w fun e w' => e = .returned (.tuple #[(Ru.parse ss).1.v, .int .i64 (Ru.parse ss).2.1, .int .i64 (Ru.parse ss).2.2]) ∧ Below w.heap.size w w' := by
  unfold maxLen at hc
  have hlen : ss.length = n := by have := hr.1; simpa using this
  obtain ⟨P, hP⟩ : ∃ P, Ru.run (ss.take 9) 0 Ru.R.zero = P := ⟨_, rfl⟩
  have hX : Ru.parse ss = if P.2.2 = 0 then (if n < 9 then (Ru.R.zero, (n : Int), 5) else if 9 < n then (Ru.R.zero, 9, 6) else (P.1, 0, 0)) else P := by unfold Ru.parse; rw [hP, hlen]
  obtain ⟨m, hm⟩ : ∃ m, min n 9 = m := ⟨_, rfl⟩
  have hLm : (ss.take 9).length = m := by rw [List.length_take, hlen]; omega
  have hget : ∀ k x, k < m → (ss[k]? = some x ↔ (ss.take 9)[k]? = some x) := by
    intro k x hk
    rw [List.getElem?_take, if_pos (by omega)]
  have HX := Lib.hid hX
  have HP := Lib.hid hP.symm
  have HR := Lib.hid hr
  have HS := Lib.hid hs
  have HW := Lib.hid hW
  have HLm := Lib.hid hLm
  have HGet := Lib.hid hget
  have hA0 : At ((w.alloc (.cells (Ru.R.zero.cells.toArray) 47)).alloc (.cells (Ru.R.zero.cells.toArray) 47)) w.heap.size Ru.R.zero.cells := (At.new w _ _).alloc _ _
  have hA1 : At ((w.alloc (.cells (Ru.R.zero.cells.toArray) 47)).alloc (.cells (Ru.R.zero.cells.toArray) 47)) (w.heap.size + 1) Ru.R.zero.cells := by
    have := At.new (w.alloc (.cells (Ru.R.zero.cells.toArray) 47)) (Ru.R.zero.cells.toArray) 47
    simpa using this
  have hBB : Below w.heap.size w ((w.alloc (.cells (Ru.R.zero.cells.toArray) 47)).alloc (.cells (Ru.R.zero.cells.toArray) 47)) := ((Below.refl _ _).alloc (Nat.le_refl _) _).alloc (by simp) _
  have HA0 := Lib.hid hA0
  have HA1 := Lib.hid hA1
  have HBB := Lib.hid hBB
  have hmn : m ≤ n ∧ m ≤ 9 ∧ (m = n ∨ m = 9) := by omega
  have hmin : min (n : Int) 9 = (m : Int) := by omega
  have m1 : (0 : Int) ≤ (m : Int) := by omega
  have m2 : (m : Int) ≤ (c : Int) := by omega
  obtain ⟨mn1, mn2, mn3⟩ := hmn
  have HMax : Hid (max (min (n : Int) 9) 0 = (m : Int)) := by show _ = _; omega
  have HMinN : Hid ((min (n : Int) 9).toNat = m) := by show _ = _; omega
  clear hP hX hm hLm hget hr hs hW hlen hA0 hA1 hBB hmin
  go_enter Tryz.func73, Tryz.ntmps73
  go_wp2
  rw [HMax.out, HMinN.out]
  go_loopw [15] (Ru.PRel w m (ss.take 9) P) (fun i _ => m - (intOf i).toNat)
  case atStart => exact ⟨0, Ru.R.zero, by omega, rfl, HA1.out, HA0.out, HBB.out, HP.out⟩
  case round =>
    obtain ⟨k, r, hk, rfl, HU, HZ, HB, HK⟩ := hrel
    have huz := HU.out.lt
    by_cases hlt : k < m
    · obtain ⟨ad, x, rfl, hnm, hcell⟩ : ∃ ad nm, A = some ad ∧ Hid (ss[k]? = some nm) ∧ wr.cell? (ad.add k) = some (.string nm) := reads_str (HR.out.below HB.out) (show k < n by omega)
      have q2 : (0 : Int) ≤ (k : Int) := by omega
      have q3 : (k : Int) < (m : Int) := by omega
      have hsz : x.size ≤ 1000000 := HS.out x (List.mem_iff_getElem?.2 ⟨k, hnm.out⟩)
      have hnm9 := (HGet.out k x hlt).1 hnm.out
      have HRd := Lib.hid (read_any k (by omega) r x (w.heap.size + 1) wr hsz HU.out (HW.out.below HB.out))
      have hbad := Ru.run_bad (ss.take 9) k r x P HK.out hnm9
      have hnext := Ru.run_next (ss.take 9) k r x P HK.out hnm9
      obtain ⟨r2, why, hst⟩ : ∃ r2 why, Ru.rstep k r x = (r2, why) := ⟨_, _, rfl⟩
      rw [hst] at HRd hbad hnext
      by_cases hy : why = 0
      · have HN := Lib.hid (hnext hy)
        subst hy
        clear hbad hnext hst hnm9 hsz
        go_wp2_with fail
        refine HRd.out.mono ?_
        rintro e w1 ⟨rfl, hA2, hg2⟩
        have HU2 := Lib.hid hA2
        have HZ2 := Lib.hid (HZ.out.grown hg2 (by omega))
        have HB2 := Lib.hid (HB.out.grown hg2 HB.out.size (fun j hj => by injection hj with hj; omega))
        clear hA2 hg2
        go_wp2
        go_roundw
        case rel => exact ⟨k + 1, r2, by omega, by go_num, HU2, HZ2, HB2, HN⟩
        case measure => simp [intOf]; omega
      · have HXb : Hid (Ru.parse ss = (Ru.R.zero, (k : Int), why)) := by
          show _ = _
          rw [HX.out, hbad hy, if_neg hy]
        have q4 : (why != 0) = true := by simpa using hy
        have q5 : (why == 0) = false := by simpa using hy
        clear hbad hnext hst hnm9 hsz hy
        go_wp2_with fail
        refine HRd.out.mono ?_
        rintro e w1 ⟨rfl, hA2, hg2⟩
        have HZ2 := Lib.hid (HZ.out.grown hg2 (by omega))
        have HB2 := Lib.hid (HB.out.grown hg2 HB.out.size (fun j hj => by injection hj with hj; omega))
        have z1 := HZ2.out.lt
        clear hA2 hg2
        obtain ⟨⟨d0, d1, d2, d3, d4, d5, d6, d7, d8, d9, d10⟩, ⟨e0, e1, e2, e3, e4, e5, e6, e7, e8, e9, e10⟩⟩ := HZ2.out.eleven
        go_wp2
        refine bodyPost_ret (v := .tuple #[Ru.R.zero.v, .int .i64 k, .int .i64 why]) (by simp [results, Tryz.results73, go_sem, Ru.R.v, Ru.R.zero, *]) rfl ⟨?_, ?_⟩
        · rw [HXb.out]
        · exact (((((((((((HB2.out).setCell (p := ⟨w.heap.size, _, none⟩) (Nat.le_refl _) _).setCell (p := ⟨w.heap.size, _, none⟩) (Nat.le_refl _) _).setCell (p := ⟨w.heap.size, _, none⟩) (Nat.le_refl _) _).setCell (p := ⟨w.heap.size, _, none⟩) (Nat.le_refl _) _).setCell (p := ⟨w.heap.size, _, none⟩) (Nat.le_refl _) _).setCell (p := ⟨w.heap.size, _, none⟩) (Nat.le_refl _) _).setCell (p := ⟨w.heap.size, _, none⟩) (Nat.le_refl _) _).setCell (p := ⟨w.heap.size, _, none⟩) (Nat.le_refl _) _).setCell (p := ⟨w.heap.size, _, none⟩) (Nat.le_refl _) _).setCell (p := ⟨w.heap.size, _, none⟩) (Nat.le_refl _) _).setCell (p := ⟨w.heap.size, _, none⟩) (Nat.le_refl _) _
    · obtain rfl : k = m := by omega
      have hE := Ru.run_end (ss.take 9) k r P HK.out HLm.out
      have HZ2 := HZ
      have HB2 := HB
      have z1 := HZ2.out.lt
      have q3 : ¬ (k : Int) < (k : Int) := by omega
      by_cases h9 : n < 9
      · have HXb : Hid (Ru.parse ss = (Ru.R.zero, (n : Int), 5)) := by
          show _ = _
          rw [HX.out, hE, if_pos rfl, if_pos h9]
        have q6 : (n : Int) < 9 := by omega
        clear hE
        obtain ⟨⟨d0, d1, d2, d3, d4, d5, d6, d7, d8, d9, d10⟩, ⟨e0, e1, e2, e3, e4, e5, e6, e7, e8, e9, e10⟩⟩ := HZ2.out.eleven
        go_wp2
        refine bodyPost_ret (v := .tuple #[Ru.R.zero.v, .int .i64 n, .int .i64 5]) (by simp [results, Tryz.results73, go_sem, Ru.R.v, Ru.R.zero, *]) rfl ⟨?_, ?_⟩
        · rw [HXb.out]
        · exact (((((((((((HB2.out).setCell (p := ⟨w.heap.size, _, none⟩) (Nat.le_refl _) _).setCell (p := ⟨w.heap.size, _, none⟩) (Nat.le_refl _) _).setCell (p := ⟨w.heap.size, _, none⟩) (Nat.le_refl _) _).setCell (p := ⟨w.heap.size, _, none⟩) (Nat.le_refl _) _).setCell (p := ⟨w.heap.size, _, none⟩) (Nat.le_refl _) _).setCell (p := ⟨w.heap.size, _, none⟩) (Nat.le_refl _) _).setCell (p := ⟨w.heap.size, _, none⟩) (Nat.le_refl _) _).setCell (p := ⟨w.heap.size, _, none⟩) (Nat.le_refl _) _).setCell (p := ⟨w.heap.size, _, none⟩) (Nat.le_refl _) _).setCell (p := ⟨w.heap.size, _, none⟩) (Nat.le_refl _) _).setCell (p := ⟨w.heap.size, _, none⟩) (Nat.le_refl _) _
      · have q6 : ¬ (n : Int) < 9 := by omega
        by_cases h10 : 9 < n
        · have HXb : Hid (Ru.parse ss = (Ru.R.zero, 9, 6)) := by
            show _ = _
            rw [HX.out, hE, if_pos rfl, if_neg h9, if_pos h10]
          have q7 : (9 : Int) < (n : Int) := by omega
          clear hE
          obtain ⟨⟨d0, d1, d2, d3, d4, d5, d6, d7, d8, d9, d10⟩, ⟨e0, e1, e2, e3, e4, e5, e6, e7, e8, e9, e10⟩⟩ := HZ2.out.eleven
          go_wp2
          refine bodyPost_ret (v := .tuple #[Ru.R.zero.v, .int .i64 9, .int .i64 6]) (by simp [results, Tryz.results73, go_sem, Ru.R.v, Ru.R.zero, *]) rfl ⟨?_, ?_⟩
          · rw [HXb.out]
          · exact (((((((((((HB2.out).setCell (p := ⟨w.heap.size, _, none⟩) (Nat.le_refl _) _).setCell (p := ⟨w.heap.size, _, none⟩) (Nat.le_refl _) _).setCell (p := ⟨w.heap.size, _, none⟩) (Nat.le_refl _) _).setCell (p := ⟨w.heap.size, _, none⟩) (Nat.le_refl _) _).setCell (p := ⟨w.heap.size, _, none⟩) (Nat.le_refl _) _).setCell (p := ⟨w.heap.size, _, none⟩) (Nat.le_refl _) _).setCell (p := ⟨w.heap.size, _, none⟩) (Nat.le_refl _) _).setCell (p := ⟨w.heap.size, _, none⟩) (Nat.le_refl _) _).setCell (p := ⟨w.heap.size, _, none⟩) (Nat.le_refl _) _).setCell (p := ⟨w.heap.size, _, none⟩) (Nat.le_refl _) _).setCell (p := ⟨w.heap.size, _, none⟩) (Nat.le_refl _) _
        · have HXb : Hid (Ru.parse ss = (r, 0, 0)) := by
            show _ = _
            rw [HX.out, hE, if_pos rfl, if_neg h9, if_neg h10]
          have q7 : ¬ (9 : Int) < (n : Int) := by omega
          clear hE
          obtain ⟨nm, fr, tt, mo, kk, nn, dd, s, cc, sv, lt⟩ := r
          obtain ⟨⟨c0, c1, c2, c3, c4, c5, c6, c7, c8, c9, c10⟩, ⟨f0, f1, f2, f3, f4, f5, f6, f7, f8, f9, f10⟩⟩ := HU.out.eleven
          obtain ⟨⟨d0, d1, d2, d3, d4, d5, d6, d7, d8, d9, d10⟩, ⟨e0, e1, e2, e3, e4, e5, e6, e7, e8, e9, e10⟩⟩ := HZ2.out.eleven
          go_wp2
          refine bodyPost_ret (v := .tuple #[(Ru.R.mk nm fr tt mo kk nn dd s cc sv lt).v, .int .i64 0, .int .i64 0]) (by simp [results, Tryz.results73, go_sem, Ru.R.v, *]) rfl ⟨?_, ?_⟩
          · rw [HXb.out]
          · exact (((((((((((HB2.out).setCell (p := ⟨w.heap.size, _, none⟩) (Nat.le_refl _) _).setCell (p := ⟨w.heap.size, _, none⟩) (Nat.le_refl _) _).setCell (p := ⟨w.heap.size, _, none⟩) (Nat.le_refl _) _).setCell (p := ⟨w.heap.size, _, none⟩) (Nat.le_refl _) _).setCell (p := ⟨w.heap.size, _, none⟩) (Nat.le_refl _) _).setCell (p := ⟨w.heap.size, _, none⟩) (Nat.le_refl _) _).setCell (p := ⟨w.heap.size, _, none⟩) (Nat.le_refl _) _).setCell (p := ⟨w.heap.size, _, none⟩) (Nat.le_refl _) _).setCell (p := ⟨w.heap.size, _, none⟩) (Nat.le_refl _) _).setCell (p := ⟨w.heap.size, _, none⟩) (Nat.le_refl _) _).setCell (p := ⟨w.heap.size, _, none⟩) (Nat.le_refl _) _
end Go.Proofs.YtlhoggalhjadgaaGreatDoor
