/- The contract of rule.read: one text of a rule. -/
import Derived.Test.YtlhoggalhjadgaaDoorK15
import Derived.Test.YtlhoggalhjadgaaDoorK16
import Derived.Lib.BufferOwn
namespace Go.Proofs.YtlhoggalhjadgaaDoor
open Go.RowKit

theorem At.grown {w w' : World} {h g : Nat} {xs : List Value} (a : At w h xs) (hg : w.grownBy w' (some g)) (hne : h ≠ g) : At w' h xs :=
  ⟨Nat.lt_of_lt_of_le a.1 hg.size, fun i v hi => ⟨(hg.cell_far ⟨h, i, none⟩ a.1 (by intro e; injection e with e; exact hne e)).trans (a.2 i v hi).1, (hg.frozen_far ⟨h, i, none⟩ a.1 (by intro e; injection e with e; exact hne e)).trans (a.2 i v hi).2⟩⟩
namespace Ru
/-- What the text at place k makes of a rule, and why it does not. -/
def rstep (k : Nat) (r : R) (x : ByteArray) : R × Int :=
  if k = 0 then (⟨x, r.fr, r.tt, r.mo, r.k, r.n, r.d, r.s, r.c, r.sv, r.lt⟩, if name (tl x) = true then 0 else 7)
  else if k = 1 then (⟨r.nm, Mo.yearV (Mo.yearN (tl x)), r.tt, r.mo, r.k, r.n, r.d, r.s, r.c, r.sv, r.lt⟩, if Mo.yearB (Mo.yearN (tl x)) = true then 0 else 4)
  else if k = 2 then (⟨r.nm, r.fr, (toS x r.fr).1, r.mo, r.k, r.n, r.d, r.s, r.c, r.sv, r.lt⟩, (toS x r.fr).2)
  else if k = 3 then (r, if x = ⟨#[45]⟩ then 0 else 4)
  else if k = 4 then (⟨r.nm, r.fr, r.tt, Wd.pick (tl x) (Months.map tl) + 1, r.k, r.n, r.d, r.s, r.c, r.sv, r.lt⟩, if Wd.pick (tl x) (Months.map tl) + 1 = 0 then 7 else 0)
  else if k = 5 then (if Dy.Ok (Dy.told (tl x)).1 (Dy.told (tl x)).2.1 (Dy.told (tl x)).2.2 then (⟨r.nm, r.fr, r.tt, r.mo, (Dy.told (tl x)).1, (Dy.told (tl x)).2.1, (Dy.told (tl x)).2.2, r.s, r.c, r.sv, r.lt⟩, 0) else (⟨r.nm, r.fr, r.tt, r.mo, 0, 0, 0, r.s, r.c, r.sv, r.lt⟩, 4))
  else if k = 6 then (⟨r.nm, r.fr, r.tt, r.mo, r.k, r.n, r.d, (Mo.parse x).1.1, (Mo.parse x).1.2, r.sv, r.lt⟩, (Mo.parse x).2)
  else if k = 7 then (if x = ⟨#[45]⟩ then (r, 0) else (⟨r.nm, r.fr, r.tt, r.mo, r.k, r.n, r.d, r.s, r.c, (Ck.parse x).1, r.lt⟩, (Ck.parse x).2))
  else (if x = ⟨#[45]⟩ then (r, 0) else (⟨r.nm, r.fr, r.tt, r.mo, r.k, r.n, r.d, r.s, r.c, r.sv, x⟩, if Ab.letter x = true then 0 else 4))
/-- What a call of read leaves. -/
def Rd (g : Nat) (w : World) (r : R) (why : Int) (e : Ending) (w' : World) : Prop := e = .returned (.int .i64 why) ∧ At w' g r.cells ∧ w.grownBy w' (some g)
end Ru
theorem dash_yes (x : ByteArray) (h : x = ⟨#[45]⟩) : (x.toList == [45]) = true := by rw [h, ByteArray.toList_eq]; rfl
set_option maxHeartbeats 1000000 in
theorem read0_ok (nm : ByteArray) (fr tt mo k n d s c sv : Int) (lt x : ByteArray) (g : Nat) (w : World) (hx : x.size ≤ 1000000) (hA : At w g [.string nm, .int .i64 fr, .int .i64 tt, .int .i64 mo, .int .u8 k, .int .i64 n, .int .i64 d, .int .i64 s, .int .u8 c, .int .i64 sv, .string lt]) (h : Ru.name (tl x) = true) :
    Calls Tryd.prog 21 #[.pointer (some ⟨g, 0, none⟩), .int .i64 0, .string x] w (Ru.Rd g w ⟨x, fr, tt, mo, k, n, d, s, c, sv, lt⟩ 0) := by
  have HA := Lib.hid hA
  have hg := hA.lt
  have HN := Lib.hid fun W => calls_bool (name_any x W hx) h
  clear h hx
  have q0 := HA.out.cell 0 _ rfl
  have p0 := HA.out.free 0 _ rfl
  clear hA
  go_enter Tryd.func21, Tryd.ntmps21
  go_wp2_with fail
  refine (HN.out _).mono ?_
  rintro e w1 ⟨rfl, hb⟩
  have A1 := Lib.hid ((HA.out.set 0 (.string x)).call hb)
  have G1 := Lib.hid (Lib.grownBy_below (Lib.grownBy_setB (World.grownBy.refl w (some g)) 0 (.string x)) hb)
  clear hb q0 p0
  go_wp2
  go_ret
  exact ⟨rfl, A1.out, G1.out⟩

set_option maxHeartbeats 1000000 in
theorem read0_no (nm : ByteArray) (fr tt mo k n d s c sv : Int) (lt x : ByteArray) (g : Nat) (w : World) (hx : x.size ≤ 1000000) (hA : At w g [.string nm, .int .i64 fr, .int .i64 tt, .int .i64 mo, .int .u8 k, .int .i64 n, .int .i64 d, .int .i64 s, .int .u8 c, .int .i64 sv, .string lt]) (h : Ru.name (tl x) = false) :
    Calls Tryd.prog 21 #[.pointer (some ⟨g, 0, none⟩), .int .i64 0, .string x] w (Ru.Rd g w ⟨x, fr, tt, mo, k, n, d, s, c, sv, lt⟩ 7) := by
  have HA := Lib.hid hA
  have hg := hA.lt
  have HN := Lib.hid fun W => calls_bool (name_any x W hx) h
  clear h hx
  have q0 := HA.out.cell 0 _ rfl
  have p0 := HA.out.free 0 _ rfl
  clear hA
  go_enter Tryd.func21, Tryd.ntmps21
  go_wp2_with fail
  refine (HN.out _).mono ?_
  rintro e w1 ⟨rfl, hb⟩
  have A1 := Lib.hid ((HA.out.set 0 (.string x)).call hb)
  have G1 := Lib.hid (Lib.grownBy_below (Lib.grownBy_setB (World.grownBy.refl w (some g)) 0 (.string x)) hb)
  clear hb q0 p0
  go_wp2
  go_ret
  exact ⟨rfl, A1.out, G1.out⟩

set_option maxHeartbeats 1000000 in
theorem read1_ok (nm : ByteArray) (fr tt mo k n d s c sv : Int) (lt x : ByteArray) (g : Nat) (w : World) (hx : x.size ≤ 1000000) (hA : At w g [.string nm, .int .i64 fr, .int .i64 tt, .int .i64 mo, .int .u8 k, .int .i64 n, .int .i64 d, .int .i64 s, .int .u8 c, .int .i64 sv, .string lt]) (h : Mo.yearB (Mo.yearN (tl x)) = true) :
    Calls Tryd.prog 21 #[.pointer (some ⟨g, 0, none⟩), .int .i64 1, .string x] w (Ru.Rd g w ⟨nm, (Mo.yearV (Mo.yearN (tl x))), tt, mo, k, n, d, s, c, sv, lt⟩ 0) := by
  have HA := Lib.hid hA
  have hg := hA.lt
  have hY := fun W => ruYear_any x W hx
  obtain ⟨V, hV⟩ : ∃ V, Mo.yearV (Mo.yearN (tl x)) = V := ⟨_, rfl⟩
  rw [hV]
  simp only [hV, h] at hY
  have HY := Lib.hid hY
  clear hY h hx hV
  clear hA
  go_enter Tryd.func21, Tryd.ntmps21
  go_wp2_with fail
  refine (HY.out _).mono ?_
  rintro e w1 ⟨rfl, hb⟩
  have A1 := Lib.hid (HA.out.call hb)
  have z1 := A1.out.lt
  have G1 := Lib.hid (Lib.grownBy_below (World.grownBy.refl w (some g)) hb)
  clear hb
  have q1 := A1.out.cell 1 _ rfl
  have p1 := A1.out.free 1 _ rfl
  go_wp2
  go_ret
  exact ⟨rfl, (A1.out).set 1 (.int .i64 V), Lib.grownBy_setB (G1.out) 1 _⟩

set_option maxHeartbeats 1000000 in
theorem read1_no (nm : ByteArray) (fr tt mo k n d s c sv : Int) (lt x : ByteArray) (g : Nat) (w : World) (hx : x.size ≤ 1000000) (hA : At w g [.string nm, .int .i64 fr, .int .i64 tt, .int .i64 mo, .int .u8 k, .int .i64 n, .int .i64 d, .int .i64 s, .int .u8 c, .int .i64 sv, .string lt]) (h : Mo.yearB (Mo.yearN (tl x)) = false) :
    Calls Tryd.prog 21 #[.pointer (some ⟨g, 0, none⟩), .int .i64 1, .string x] w (Ru.Rd g w ⟨nm, (Mo.yearV (Mo.yearN (tl x))), tt, mo, k, n, d, s, c, sv, lt⟩ 4) := by
  have HA := Lib.hid hA
  have hg := hA.lt
  have hY := fun W => ruYear_any x W hx
  obtain ⟨V, hV⟩ : ∃ V, Mo.yearV (Mo.yearN (tl x)) = V := ⟨_, rfl⟩
  rw [hV]
  simp only [hV, h] at hY
  have HY := Lib.hid hY
  clear hY h hx hV
  clear hA
  go_enter Tryd.func21, Tryd.ntmps21
  go_wp2_with fail
  refine (HY.out _).mono ?_
  rintro e w1 ⟨rfl, hb⟩
  have A1 := Lib.hid (HA.out.call hb)
  have z1 := A1.out.lt
  have G1 := Lib.hid (Lib.grownBy_below (World.grownBy.refl w (some g)) hb)
  clear hb
  have q1 := A1.out.cell 1 _ rfl
  have p1 := A1.out.free 1 _ rfl
  go_wp2
  go_ret
  exact ⟨rfl, (A1.out).set 1 (.int .i64 V), Lib.grownBy_setB (G1.out) 1 _⟩

set_option maxHeartbeats 1000000 in
theorem read2 (nm : ByteArray) (fr tt mo k n d s c sv : Int) (lt x : ByteArray) (g : Nat) (w : World) (hx : x.size ≤ 1000000) (hA : At w g [.string nm, .int .i64 fr, .int .i64 tt, .int .i64 mo, .int .u8 k, .int .i64 n, .int .i64 d, .int .i64 s, .int .u8 c, .int .i64 sv, .string lt])  :
    Calls Tryd.prog 21 #[.pointer (some ⟨g, 0, none⟩), .int .i64 2, .string x] w (Ru.Rd g w ⟨nm, fr, (Ru.toS x fr).1, mo, k, n, d, s, c, sv, lt⟩ (Ru.toS x fr).2) := by
  have HA := Lib.hid hA
  have hg := hA.lt
  have hY := fun W => ruTo_any x fr W hx
  obtain ⟨V, U, hV⟩ : ∃ V U, Ru.toS x fr = (V, U) := ⟨_, _, rfl⟩
  rw [hV]
  simp only [hV] at hY
  have HY := Lib.hid hY
  clear hY hx hV
  have q1 := HA.out.cell 1 _ rfl
  have p1 := HA.out.free 1 _ rfl
  clear hA
  go_enter Tryd.func21, Tryd.ntmps21
  go_wp2_with fail
  refine (HY.out _).mono ?_
  rintro e w1 ⟨rfl, hb⟩
  clear q1 p1
  have A1 := Lib.hid (HA.out.call hb)
  have z1 := A1.out.lt
  have G1 := Lib.hid (Lib.grownBy_below (World.grownBy.refl w (some g)) hb)
  clear hb
  have q2 := A1.out.cell 2 _ rfl
  have p2 := A1.out.free 2 _ rfl
  go_wp2
  go_ret
  exact ⟨rfl, (A1.out).set 2 (.int .i64 V), Lib.grownBy_setB (G1.out) 2 _⟩

set_option maxHeartbeats 1000000 in
theorem read3_ok (nm : ByteArray) (fr tt mo k n d s c sv : Int) (lt x : ByteArray) (g : Nat) (w : World) (_hx : x.size ≤ 1000000) (hA : At w g [.string nm, .int .i64 fr, .int .i64 tt, .int .i64 mo, .int .u8 k, .int .i64 n, .int .i64 d, .int .i64 s, .int .u8 c, .int .i64 sv, .string lt]) (h : x = ⟨#[45]⟩) :
    Calls Tryd.prog 21 #[.pointer (some ⟨g, 0, none⟩), .int .i64 3, .string x] w (Ru.Rd g w ⟨nm, fr, tt, mo, k, n, d, s, c, sv, lt⟩ 0) := by
  have HA := Lib.hid hA
  have hg := hA.lt
  have q := dash_yes x h
  clear h
  clear hA
  go_enter Tryd.func21, Tryd.ntmps21
  go_wp2
  go_ret
  exact ⟨rfl, HA.out, World.grownBy.refl w _⟩

set_option maxHeartbeats 1000000 in
theorem read3_no (nm : ByteArray) (fr tt mo k n d s c sv : Int) (lt x : ByteArray) (g : Nat) (w : World) (_hx : x.size ≤ 1000000) (hA : At w g [.string nm, .int .i64 fr, .int .i64 tt, .int .i64 mo, .int .u8 k, .int .i64 n, .int .i64 d, .int .i64 s, .int .u8 c, .int .i64 sv, .string lt]) (h : ¬ x = ⟨#[45]⟩) :
    Calls Tryd.prog 21 #[.pointer (some ⟨g, 0, none⟩), .int .i64 3, .string x] w (Ru.Rd g w ⟨nm, fr, tt, mo, k, n, d, s, c, sv, lt⟩ 4) := by
  have HA := Lib.hid hA
  have hg := hA.lt
  have q := ba_ne x [45] h
  clear h
  clear hA
  go_enter Tryd.func21, Tryd.ntmps21
  go_wp2
  go_ret
  exact ⟨rfl, HA.out, World.grownBy.refl w _⟩

set_option maxHeartbeats 1000000 in
theorem read4_ok (nm : ByteArray) (fr tt mo k n d s c sv : Int) (lt x : ByteArray) (g : Nat) (w : World) (hx : x.size ≤ 1000000) (hA : At w g [.string nm, .int .i64 fr, .int .i64 tt, .int .i64 mo, .int .u8 k, .int .i64 n, .int .i64 d, .int .i64 s, .int .u8 c, .int .i64 sv, .string lt]) (h : ¬ Wd.pick (tl x) (Months.map tl) + 1 = 0) :
    Calls Tryd.prog 21 #[.pointer (some ⟨g, 0, none⟩), .int .i64 4, .string x] w (Ru.Rd g w ⟨nm, fr, tt, (Wd.pick (tl x) (Months.map tl) + 1), k, n, d, s, c, sv, lt⟩ 0) := by
  have HA := Lib.hid hA
  have hg := hA.lt
  have hmx : x.size ≤ maxLen := by unfold maxLen; omega
  have hY := fun W => month_any x W hmx
  obtain ⟨p, hp⟩ : ∃ p, Wd.pick (tl x) (Months.map tl) + 1 = p := ⟨_, rfl⟩
  rw [hp] at h ⊢
  simp only [hp] at hY
  have HY := Lib.hid hY
  have qb : (p == 0) = false := by rw [beq_eq_false_iff_ne]; exact h
  clear hY h hx hp hmx
  clear hA
  go_enter Tryd.func21, Tryd.ntmps21
  go_wp2_with fail
  refine (HY.out _).mono ?_
  rintro e w1 ⟨rfl, hb⟩
  have A1 := Lib.hid (HA.out.call hb)
  have z1 := A1.out.lt
  have G1 := Lib.hid (Lib.grownBy_below (World.grownBy.refl w (some g)) hb)
  clear hb
  have q3 := A1.out.cell 3 _ rfl
  have p3 := A1.out.free 3 _ rfl
  go_wp2
  go_ret
  exact ⟨rfl, (A1.out).set 3 (.int .i64 p), Lib.grownBy_setB (G1.out) 3 _⟩

set_option maxHeartbeats 1000000 in
theorem read4_no (nm : ByteArray) (fr tt mo k n d s c sv : Int) (lt x : ByteArray) (g : Nat) (w : World) (hx : x.size ≤ 1000000) (hA : At w g [.string nm, .int .i64 fr, .int .i64 tt, .int .i64 mo, .int .u8 k, .int .i64 n, .int .i64 d, .int .i64 s, .int .u8 c, .int .i64 sv, .string lt]) (h : Wd.pick (tl x) (Months.map tl) + 1 = 0) :
    Calls Tryd.prog 21 #[.pointer (some ⟨g, 0, none⟩), .int .i64 4, .string x] w (Ru.Rd g w ⟨nm, fr, tt, (Wd.pick (tl x) (Months.map tl) + 1), k, n, d, s, c, sv, lt⟩ 7) := by
  have HA := Lib.hid hA
  have hg := hA.lt
  have hmx : x.size ≤ maxLen := by unfold maxLen; omega
  have hY := fun W => month_any x W hmx
  obtain ⟨p, hp⟩ : ∃ p, Wd.pick (tl x) (Months.map tl) + 1 = p := ⟨_, rfl⟩
  rw [hp] at h ⊢
  simp only [hp] at hY
  subst h
  have HY := Lib.hid hY
  clear hY hx hp hmx
  clear hA
  go_enter Tryd.func21, Tryd.ntmps21
  go_wp2_with fail
  refine (HY.out _).mono ?_
  rintro e w1 ⟨rfl, hb⟩
  have A1 := Lib.hid (HA.out.call hb)
  have z1 := A1.out.lt
  have G1 := Lib.hid (Lib.grownBy_below (World.grownBy.refl w (some g)) hb)
  clear hb
  have q3 := A1.out.cell 3 _ rfl
  have p3 := A1.out.free 3 _ rfl
  go_wp2
  go_ret
  exact ⟨rfl, (A1.out).set 3 (.int .i64 0), Lib.grownBy_setB (G1.out) 3 _⟩

set_option maxHeartbeats 1000000 in
theorem read5_ok (nm : ByteArray) (fr tt mo k n d s c sv : Int) (lt x : ByteArray) (g : Nat) (w : World) (hx : x.size ≤ 1000000) (hA : At w g [.string nm, .int .i64 fr, .int .i64 tt, .int .i64 mo, .int .u8 k, .int .i64 n, .int .i64 d, .int .i64 s, .int .u8 c, .int .i64 sv, .string lt]) (hW : Wl w) (a b e : Int) (hT : Dy.told (tl x) = (a, b, e)) (h : Dy.Ok a b e) :
    Calls Tryd.prog 21 #[.pointer (some ⟨g, 0, none⟩), .int .i64 5, .string x] w (Ru.Rd g w ⟨nm, fr, tt, mo, a, b, e, s, c, sv, lt⟩ 0) := by
  have HA := Lib.hid hA
  have hg := hA.lt
  have HY := Lib.hid (parse_is x w hW hx a b e hT h)
  clear hT h hx hW
  clear hA
  go_enter Tryd.func21, Tryd.ntmps21
  go_wp2_with fail
  refine (HY.out).mono ?_
  rintro e' w1 ⟨rfl, hb⟩
  have A1 := Lib.hid (HA.out.call hb)
  have z1 := A1.out.lt
  have G1 := Lib.hid (Lib.grownBy_below (World.grownBy.refl w (some g)) hb)
  clear hb
  have q4 := A1.out.cell 4 _ rfl
  have p4 := A1.out.free 4 _ rfl
  have q5 := A1.out.cell 5 _ rfl
  have p5 := A1.out.free 5 _ rfl
  have q6 := A1.out.cell 6 _ rfl
  have p6 := A1.out.free 6 _ rfl
  go_wp2
  go_ret
  exact ⟨rfl, (((A1.out).set 4 (.int .u8 a)).set 5 (.int .i64 b)).set 6 (.int .i64 e), Lib.grownBy_setB (Lib.grownBy_setB (Lib.grownBy_setB (G1.out) 4 _) 5 _) 6 _⟩

set_option maxHeartbeats 1000000 in
theorem read5_no (nm : ByteArray) (fr tt mo k n d s c sv : Int) (lt x : ByteArray) (g : Nat) (w : World) (hx : x.size ≤ 1000000) (hA : At w g [.string nm, .int .i64 fr, .int .i64 tt, .int .i64 mo, .int .u8 k, .int .i64 n, .int .i64 d, .int .i64 s, .int .u8 c, .int .i64 sv, .string lt]) (hW : Wl w) (a b e : Int) (hT : Dy.told (tl x) = (a, b, e)) (h : ¬ Dy.Ok a b e) :
    Calls Tryd.prog 21 #[.pointer (some ⟨g, 0, none⟩), .int .i64 5, .string x] w (Ru.Rd g w ⟨nm, fr, tt, mo, 0, 0, 0, s, c, sv, lt⟩ 4) := by
  have HA := Lib.hid hA
  have hg := hA.lt
  have HY := Lib.hid (parse_no x w hW hx a b e hT h)
  clear hT h hx hW
  clear hA
  go_enter Tryd.func21, Tryd.ntmps21
  go_wp2_with fail
  refine (HY.out).mono ?_
  rintro e' w1 ⟨rfl, hb⟩
  have A1 := Lib.hid (HA.out.call hb)
  have z1 := A1.out.lt
  have G1 := Lib.hid (Lib.grownBy_below (World.grownBy.refl w (some g)) hb)
  clear hb
  have q4 := A1.out.cell 4 _ rfl
  have p4 := A1.out.free 4 _ rfl
  have q5 := A1.out.cell 5 _ rfl
  have p5 := A1.out.free 5 _ rfl
  have q6 := A1.out.cell 6 _ rfl
  have p6 := A1.out.free 6 _ rfl
  go_wp2
  go_ret
  exact ⟨rfl, (((A1.out).set 4 (.int .u8 0)).set 5 (.int .i64 0)).set 6 (.int .i64 0), Lib.grownBy_setB (Lib.grownBy_setB (Lib.grownBy_setB (G1.out) 4 _) 5 _) 6 _⟩

set_option maxHeartbeats 1000000 in
theorem read6 (nm : ByteArray) (fr tt mo k n d s c sv : Int) (lt x : ByteArray) (g : Nat) (w : World) (hx : x.size ≤ 1000000) (hA : At w g [.string nm, .int .i64 fr, .int .i64 tt, .int .i64 mo, .int .u8 k, .int .i64 n, .int .i64 d, .int .i64 s, .int .u8 c, .int .i64 sv, .string lt]) (hW : Wp w) :
    Calls Tryd.prog 21 #[.pointer (some ⟨g, 0, none⟩), .int .i64 6, .string x] w (Ru.Rd g w ⟨nm, fr, tt, mo, k, n, d, (Mo.parse x).1.1, (Mo.parse x).1.2, sv, lt⟩ (Mo.parse x).2) := by
  have HA := Lib.hid hA
  have hg := hA.lt
  have hY := momParse_any x w hW hx
  obtain ⟨a, b, e, hp⟩ : ∃ a b e, Mo.parse x = ((a, b), e) := ⟨_, _, _, rfl⟩
  rw [hp] at hY ⊢
  have HY := Lib.hid hY
  clear hY hp hx hW
  clear hA
  go_enter Tryd.func21, Tryd.ntmps21
  go_wp2_with fail
  refine (HY.out).mono ?_
  rintro e' w1 ⟨rfl, hb⟩
  have A1 := Lib.hid (HA.out.call hb)
  have z1 := A1.out.lt
  have G1 := Lib.hid (Lib.grownBy_below (World.grownBy.refl w (some g)) hb)
  clear hb
  have q7 := A1.out.cell 7 _ rfl
  have p7 := A1.out.free 7 _ rfl
  have q8 := A1.out.cell 8 _ rfl
  have p8 := A1.out.free 8 _ rfl
  go_wp2
  go_ret
  exact ⟨rfl, ((A1.out).set 7 (.int .i64 a)).set 8 (.int .u8 b), Lib.grownBy_setB (Lib.grownBy_setB (G1.out) 7 _) 8 _⟩

set_option maxHeartbeats 1000000 in
theorem read7_no (nm : ByteArray) (fr tt mo k n d s c sv : Int) (lt x : ByteArray) (g : Nat) (w : World) (_hx : x.size ≤ 1000000) (hA : At w g [.string nm, .int .i64 fr, .int .i64 tt, .int .i64 mo, .int .u8 k, .int .i64 n, .int .i64 d, .int .i64 s, .int .u8 c, .int .i64 sv, .string lt]) (h : x = ⟨#[45]⟩) :
    Calls Tryd.prog 21 #[.pointer (some ⟨g, 0, none⟩), .int .i64 7, .string x] w (Ru.Rd g w ⟨nm, fr, tt, mo, k, n, d, s, c, sv, lt⟩ 0) := by
  have HA := Lib.hid hA
  have hg := hA.lt
  have q := dash_yes x h
  clear h
  clear hA
  go_enter Tryd.func21, Tryd.ntmps21
  go_wp2
  go_ret
  exact ⟨rfl, HA.out, World.grownBy.refl w _⟩

set_option maxHeartbeats 1000000 in
theorem read7 (nm : ByteArray) (fr tt mo k n d s c sv : Int) (lt x : ByteArray) (g : Nat) (w : World) (hx : x.size ≤ 1000000) (hA : At w g [.string nm, .int .i64 fr, .int .i64 tt, .int .i64 mo, .int .u8 k, .int .i64 n, .int .i64 d, .int .i64 s, .int .u8 c, .int .i64 sv, .string lt]) (hW : Wp w) (h : ¬ x = ⟨#[45]⟩) :
    Calls Tryd.prog 21 #[.pointer (some ⟨g, 0, none⟩), .int .i64 7, .string x] w (Ru.Rd g w ⟨nm, fr, tt, mo, k, n, d, s, c, (Ck.parse x).1, lt⟩ (Ck.parse x).2) := by
  have HA := Lib.hid hA
  have hg := hA.lt
  obtain ⟨a, b, hp⟩ : ∃ a b, Ck.parse x = (a, b) := ⟨_, _, rfl⟩
  have hY := clockParse_all x w hW hx a b hp
  rw [hp]
  have HY := Lib.hid hY
  have q := ba_ne x [45] h
  clear hY hp hx hW h
  clear hA
  go_enter Tryd.func21, Tryd.ntmps21
  go_wp2_with fail
  refine (HY.out).mono ?_
  rintro e w1 ⟨rfl, hb⟩
  have A1 := Lib.hid (HA.out.call hb)
  have z1 := A1.out.lt
  have G1 := Lib.hid (Lib.grownBy_below (World.grownBy.refl w (some g)) hb)
  clear hb
  have q9 := A1.out.cell 9 _ rfl
  have p9 := A1.out.free 9 _ rfl
  go_wp2
  go_ret
  exact ⟨rfl, (A1.out).set 9 (.int .i64 a), Lib.grownBy_setB (G1.out) 9 _⟩

set_option maxHeartbeats 1000000 in
theorem read8_no (nm : ByteArray) (fr tt mo k n d s c sv : Int) (lt x : ByteArray) (g : Nat) (w : World) (_hx : x.size ≤ 1000000) (hA : At w g [.string nm, .int .i64 fr, .int .i64 tt, .int .i64 mo, .int .u8 k, .int .i64 n, .int .i64 d, .int .i64 s, .int .u8 c, .int .i64 sv, .string lt]) (h : x = ⟨#[45]⟩) :
    Calls Tryd.prog 21 #[.pointer (some ⟨g, 0, none⟩), .int .i64 8, .string x] w (Ru.Rd g w ⟨nm, fr, tt, mo, k, n, d, s, c, sv, lt⟩ 0) := by
  have HA := Lib.hid hA
  have hg := hA.lt
  have q := dash_yes x h
  clear h
  clear hA
  go_enter Tryd.func21, Tryd.ntmps21
  go_wp2
  go_ret
  exact ⟨rfl, HA.out, World.grownBy.refl w _⟩

set_option maxHeartbeats 1000000 in
theorem read8_ok (nm : ByteArray) (fr tt mo k n d s c sv : Int) (lt x : ByteArray) (g : Nat) (w : World) (hx : x.size ≤ 1000000) (hA : At w g [.string nm, .int .i64 fr, .int .i64 tt, .int .i64 mo, .int .u8 k, .int .i64 n, .int .i64 d, .int .i64 s, .int .u8 c, .int .i64 sv, .string lt]) (h : ¬ x = ⟨#[45]⟩) (hl : Ab.letter x = true) :
    Calls Tryd.prog 21 #[.pointer (some ⟨g, 0, none⟩), .int .i64 8, .string x] w (Ru.Rd g w ⟨nm, fr, tt, mo, k, n, d, s, c, sv, x⟩ 0) := by
  have HA := Lib.hid hA
  have hg := hA.lt
  have HN := Lib.hid fun W => checkLetter_yes x W hx hl
  have q := ba_ne x [45] h
  clear h hl hx
  have q10 := HA.out.cell 10 _ rfl
  have p10 := HA.out.free 10 _ rfl
  clear hA
  go_enter Tryd.func21, Tryd.ntmps21
  go_wp2_with fail
  refine (HN.out _).mono ?_
  rintro e w1 ⟨rfl, hb⟩
  have A1 := Lib.hid ((HA.out.set 10 (.string x)).call hb)
  have G1 := Lib.hid (Lib.grownBy_below (Lib.grownBy_setB (World.grownBy.refl w (some g)) 10 (.string x)) hb)
  clear hb q10 p10
  go_wp2
  go_ret
  exact ⟨rfl, A1.out, G1.out⟩

set_option maxHeartbeats 1000000 in
theorem read8_bad (nm : ByteArray) (fr tt mo k n d s c sv : Int) (lt x : ByteArray) (g : Nat) (w : World) (hx : x.size ≤ 1000000) (hA : At w g [.string nm, .int .i64 fr, .int .i64 tt, .int .i64 mo, .int .u8 k, .int .i64 n, .int .i64 d, .int .i64 s, .int .u8 c, .int .i64 sv, .string lt]) (h : ¬ x = ⟨#[45]⟩) (hl : Ab.letter x = false) :
    Calls Tryd.prog 21 #[.pointer (some ⟨g, 0, none⟩), .int .i64 8, .string x] w (Ru.Rd g w ⟨nm, fr, tt, mo, k, n, d, s, c, sv, x⟩ 4) := by
  have HA := Lib.hid hA
  have hg := hA.lt
  have HN := Lib.hid fun W => checkLetter_no x W hx hl
  have q := ba_ne x [45] h
  clear h hl hx
  have q10 := HA.out.cell 10 _ rfl
  have p10 := HA.out.free 10 _ rfl
  clear hA
  go_enter Tryd.func21, Tryd.ntmps21
  go_wp2_with fail
  refine (HN.out _).mono ?_
  rintro e w1 ⟨rfl, hb⟩
  have A1 := Lib.hid ((HA.out.set 10 (.string x)).call hb)
  have G1 := Lib.hid (Lib.grownBy_below (Lib.grownBy_setB (World.grownBy.refl w (some g)) 10 (.string x)) hb)
  clear hb q10 p10
  go_wp2
  go_ret
  exact ⟨rfl, A1.out, G1.out⟩

/-- read, at any place. -/
theorem read_any (j : Nat) (hj : j < 9) (r : Ru.R) (x : ByteArray) (g : Nat) (w : World) (hx : x.size ≤ 1000000) (hA : At w g r.cells) (hW : Wp w) :
    Calls Tryd.prog 21 #[.pointer (some ⟨g, 0, none⟩), .int .i64 j, .string x] w (Ru.Rd g w (Ru.rstep j r x).1 (Ru.rstep j r x).2) := by
  have hjj : j = 0 ∨ j = 1 ∨ j = 2 ∨ j = 3 ∨ j = 4 ∨ j = 5 ∨ j = 6 ∨ j = 7 ∨ j = 8 := by omega
  rcases hjj with rfl | rfl | rfl | rfl | rfl | rfl | rfl | rfl | rfl
  · unfold Ru.rstep
    rw [if_pos rfl]
    cases h : Ru.name (tl x)
    · exact read0_no r.nm r.fr r.tt r.mo r.k r.n r.d r.s r.c r.sv r.lt x g w hx hA h
    · exact read0_ok r.nm r.fr r.tt r.mo r.k r.n r.d r.s r.c r.sv r.lt x g w hx hA h
  · unfold Ru.rstep
    rw [if_neg (by omega), if_pos rfl]
    cases h : Mo.yearB (Mo.yearN (tl x))
    · exact read1_no r.nm r.fr r.tt r.mo r.k r.n r.d r.s r.c r.sv r.lt x g w hx hA h
    · exact read1_ok r.nm r.fr r.tt r.mo r.k r.n r.d r.s r.c r.sv r.lt x g w hx hA h
  · unfold Ru.rstep
    rw [if_neg (by omega), if_neg (by omega), if_pos rfl]
    exact read2 r.nm r.fr r.tt r.mo r.k r.n r.d r.s r.c r.sv r.lt x g w hx hA
  · unfold Ru.rstep
    rw [if_neg (by omega), if_neg (by omega), if_neg (by omega), if_pos rfl]
    by_cases h : x = ⟨#[45]⟩
    · simp only [if_pos h]
      exact read3_ok r.nm r.fr r.tt r.mo r.k r.n r.d r.s r.c r.sv r.lt x g w hx hA h
    · simp only [if_neg h]
      exact read3_no r.nm r.fr r.tt r.mo r.k r.n r.d r.s r.c r.sv r.lt x g w hx hA h
  · unfold Ru.rstep
    rw [if_neg (by omega), if_neg (by omega), if_neg (by omega), if_neg (by omega), if_pos rfl]
    by_cases h : Wd.pick (tl x) (Months.map tl) + 1 = 0
    · simp only [if_pos h]
      exact read4_no r.nm r.fr r.tt r.mo r.k r.n r.d r.s r.c r.sv r.lt x g w hx hA h
    · simp only [if_neg h]
      exact read4_ok r.nm r.fr r.tt r.mo r.k r.n r.d r.s r.c r.sv r.lt x g w hx hA h
  · unfold Ru.rstep
    rw [if_neg (by omega), if_neg (by omega), if_neg (by omega), if_neg (by omega), if_neg (by omega), if_pos rfl]
    by_cases h : Dy.Ok (Dy.told (tl x)).1 (Dy.told (tl x)).2.1 (Dy.told (tl x)).2.2
    · rw [if_pos h]
      exact read5_ok r.nm r.fr r.tt r.mo r.k r.n r.d r.s r.c r.sv r.lt x g w hx hA hW.l _ _ _ rfl h
    · rw [if_neg h]
      exact read5_no r.nm r.fr r.tt r.mo r.k r.n r.d r.s r.c r.sv r.lt x g w hx hA hW.l _ _ _ rfl h
  · unfold Ru.rstep
    rw [if_neg (by omega), if_neg (by omega), if_neg (by omega), if_neg (by omega), if_neg (by omega), if_neg (by omega), if_pos rfl]
    exact read6 r.nm r.fr r.tt r.mo r.k r.n r.d r.s r.c r.sv r.lt x g w hx hA hW
  · unfold Ru.rstep
    rw [if_neg (by omega), if_neg (by omega), if_neg (by omega), if_neg (by omega), if_neg (by omega), if_neg (by omega), if_neg (by omega), if_pos rfl]
    by_cases h : x = ⟨#[45]⟩
    · rw [if_pos h]
      exact read7_no r.nm r.fr r.tt r.mo r.k r.n r.d r.s r.c r.sv r.lt x g w hx hA h
    · rw [if_neg h]
      exact read7 r.nm r.fr r.tt r.mo r.k r.n r.d r.s r.c r.sv r.lt x g w hx hA hW h
  · unfold Ru.rstep
    rw [if_neg (by omega), if_neg (by omega), if_neg (by omega), if_neg (by omega), if_neg (by omega), if_neg (by omega), if_neg (by omega), if_neg (by omega)]
    by_cases h : x = ⟨#[45]⟩
    · rw [if_pos h]
      exact read8_no r.nm r.fr r.tt r.mo r.k r.n r.d r.s r.c r.sv r.lt x g w hx hA h
    · rw [if_neg h]
      cases hl : Ab.letter x
      · exact read8_bad r.nm r.fr r.tt r.mo r.k r.n r.d r.s r.c r.sv r.lt x g w hx hA h hl
      · exact read8_ok r.nm r.fr r.tt r.mo r.k r.n r.d r.s r.c r.sv r.lt x g w hx hA h hl
end Go.Proofs.YtlhoggalhjadgaaDoor
