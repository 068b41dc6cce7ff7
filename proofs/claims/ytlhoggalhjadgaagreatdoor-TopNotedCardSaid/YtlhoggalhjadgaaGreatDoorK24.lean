/- The contracts of era.saved and era.read: one text of an era. -/
import Derived.Test.YtlhoggalhjadgaaGreatDoorK18
import Derived.Test.YtlhoggalhjadgaaGreatDoorK14

namespace Go.Proofs.YtlhoggalhjadgaaGreatDoor
open Go.RowKit

namespace Er
/-- What a call of read leaves. -/
def Rd (g : Nat) (w : World) (r : E) (why : Int) (e : Ending) (w' : World) : Prop := e = .returned (.int .i64 why) ∧ At w' g r.cells ∧ w.grownBy w' (some g)
theorem num_cases (x : ByteArray) : (num x = true ∧ digAt x 0 = true) ∨ (num x = true ∧ digAt x 0 = false ∧ (∃ h : 0 < x.size, x[0].toNat = 45) ∧ digAt x 1 = true) ∨
    (num x = false ∧ digAt x 0 = false ∧ x = ⟨#[]⟩) ∨ (num x = false ∧ digAt x 0 = false ∧ (∃ h : 0 < x.size, x[0].toNat ≠ 45)) ∨
    (num x = false ∧ digAt x 0 = false ∧ (∃ h : 0 < x.size, x[0].toNat = 45) ∧ digAt x 1 = false) := by
  unfold num
  cases h0 : digAt x 0
  · right
    by_cases hs : 0 < x.size
    · have hg := Dy.tl_get x 0 hs
      by_cases h45 : x[0].toNat = 45
      · have e : (tl x)[0]? = some 45 := by
          rw [hg]
          congr 1
          exact UInt8.toNat.inj h45
        cases h1 : digAt x 1
        · exact .inr (.inr (.inr ⟨by simp, rfl, ⟨hs, h45⟩, rfl⟩))
        · exact .inl ⟨by rw [decide_eq_true e]; rfl, rfl, ⟨hs, h45⟩, rfl⟩
      · have e : ¬ (tl x)[0]? = some 45 := by
          rw [hg]
          intro y
          exact h45 (by rw [Option.some.inj y]; rfl)
        exact .inr (.inr (.inl ⟨by rw [decide_eq_false e]; rfl, rfl, ⟨hs, h45⟩⟩))
    · refine .inr (.inl ⟨?_, rfl, ?_⟩)
      · have e : ¬ (tl x)[0]? = some 45 := by
          rw [List.getElem?_eq_none (by rw [tl_length]; omega)]
          intro y
          cases y
        rw [decide_eq_false e]; rfl
      · apply ByteArray.ext
        apply Array.ext'
        exact List.eq_nil_of_length_eq_zero (by have : x.data.toList.length = x.size := tl_length x; omega)
  · exact .inl ⟨rfl, rfl⟩
end Er
set_option maxHeartbeats 1000000 in
theorem saved_dash (std k sv : Int) (ru fm : ByteArray) (en : Bool) (y m dk dn dd s c : Int) (x : ByteArray) (g : Nat) (w : World) (_hx : x.size ≤ 1000000) (hA : At w g [.int .i64 std, .int .u8 k, .int .i64 sv, .string ru, .string fm, .bool en, .int .i64 y, .int .i64 m, .int .u8 dk, .int .i64 dn, .int .i64 dd, .int .i64 s, .int .u8 c]) (h : x = ⟨#[45]⟩) :
    Calls Tryz.prog 100 #[.pointer (some ⟨g, 0, none⟩), .string x] w (Er.Rd g w ⟨std, k, sv, ru, fm, en, ⟨y, m, dk, dn, dd, s, c⟩⟩ 0) := by
  have HA := Lib.hid hA
  have hg := hA.lt
  have q := dash_yes x h
  clear h
  clear hA
  go_enter Tryz.func100, Tryz.ntmps100
  go_wp2
  go_ret
  exact ⟨rfl, HA.out, World.grownBy.refl w _⟩

set_option maxHeartbeats 1000000 in
theorem saved_A (std k sv : Int) (ru fm : ByteArray) (en : Bool) (y m dk dn dd s c : Int) (x : ByteArray) (g : Nat) (w : World) (hx : x.size ≤ 1000000) (hA : At w g [.int .i64 std, .int .u8 k, .int .i64 sv, .string ru, .string fm, .bool en, .int .i64 y, .int .i64 m, .int .u8 dk, .int .i64 dn, .int .i64 dd, .int .i64 s, .int .u8 c]) (hg0 : Wp (w.setCell ⟨g, 1, none⟩ (.int .u8 1))) (hd : ¬ x = ⟨#[45]⟩) (h0 : Er.digAt x 0 = true) :
    Calls Tryz.prog 100 #[.pointer (some ⟨g, 0, none⟩), .string x] w (Er.Rd g w ⟨std, 1, (Ck.parse x).1, ru, fm, en, ⟨y, m, dk, dn, dd, s, c⟩⟩ (Ck.parse x).2) := by
  have HA := Lib.hid hA
  have hg := hA.lt
  have q := ba_ne x [45] hd
  have HD0 := Lib.hid fun W => isDigit_is x 0 (by omega) W hx true h0
  clear h0
  obtain ⟨a, b, hp⟩ : ∃ a b, Ck.parse x = (a, b) := ⟨_, _, rfl⟩
  have hY := fun W hw => clockParse_all x W hw hx a b hp
  rw [hp]
  have HY := Lib.hid hY
  have HG0 := Lib.hid hg0
  have q1 := HA.out.cell 1 _ rfl
  have p1 := HA.out.free 1 _ rfl
  clear hA hY hp hg0 hd
  go_enter Tryz.func100, Tryz.ntmps100
  go_wp2_with fail
  refine (HD0.out _).mono ?_
  rintro e w1 ⟨rfl, rfl⟩
  go_wp2_with fail
  refine (HY.out _ HG0.out).mono ?_
  rintro e w1 ⟨rfl, hb⟩
  have A1 := Lib.hid ((HA.out.set 1 (.int .u8 1)).call hb)
  have z1 := A1.out.lt
  have G1 := Lib.hid (Lib.grownBy_below (Lib.grownBy_setB (World.grownBy.refl w (some g)) 1 (.int .u8 1)) hb)
  clear hb
  have q2 := A1.out.cell 2 _ rfl
  have p2 := A1.out.free 2 _ rfl
  go_wp2
  go_ret
  exact ⟨rfl, (A1.out).set 2 (.int .i64 a), Lib.grownBy_setB (G1.out) 2 _⟩

set_option maxHeartbeats 1000000 in
theorem saved_B (std k sv : Int) (ru fm : ByteArray) (en : Bool) (y m dk dn dd s c : Int) (x : ByteArray) (g : Nat) (w : World) (hx : x.size ≤ 1000000) (hA : At w g [.int .i64 std, .int .u8 k, .int .i64 sv, .string ru, .string fm, .bool en, .int .i64 y, .int .i64 m, .int .u8 dk, .int .i64 dn, .int .i64 dd, .int .i64 s, .int .u8 c]) (hg0 : Wp (w.setCell ⟨g, 1, none⟩ (.int .u8 1))) (hd : ¬ x = ⟨#[45]⟩) (h0 : Er.digAt x 0 = false) (hs : 0 < x.size) (h45 : x[0].toNat = 45) (h1 : Er.digAt x 1 = true) :
    Calls Tryz.prog 100 #[.pointer (some ⟨g, 0, none⟩), .string x] w (Er.Rd g w ⟨std, 1, (Ck.parse x).1, ru, fm, en, ⟨y, m, dk, dn, dd, s, c⟩⟩ (Ck.parse x).2) := by
  have HA := Lib.hid hA
  have hg := hA.lt
  have q := ba_ne x [45] hd
  have HD0 := Lib.hid fun W => isDigit_is x 0 (by omega) W hx false h0
  have HD1 := Lib.hid fun W => isDigit_is x 1 (by omega) W hx true h1
  have e1 : x.toList.isEmpty = false := empty_no x (by intro y; subst y; exact absurd hs (by decide))
  have e2 : (0 : Int) < (x.size : Int) := by omega
  have e3 : ((x[0].toNat : Int) == 45) = true := by rw [h45]; rfl
  clear h0 h1 h45
  obtain ⟨a, b, hp⟩ : ∃ a b, Ck.parse x = (a, b) := ⟨_, _, rfl⟩
  have hY := fun W hw => clockParse_all x W hw hx a b hp
  rw [hp]
  have HY := Lib.hid hY
  have HG0 := Lib.hid hg0
  have q1 := HA.out.cell 1 _ rfl
  have p1 := HA.out.free 1 _ rfl
  clear hA hY hp hg0 hd
  go_enter Tryz.func100, Tryz.ntmps100
  go_wp2_with fail
  refine (HD0.out _).mono ?_
  rintro e w1 ⟨rfl, rfl⟩
  go_wp2_with fail
  refine (HD1.out _).mono ?_
  rintro e w1 ⟨rfl, rfl⟩
  go_wp2_with fail
  refine (HY.out _ HG0.out).mono ?_
  rintro e w1 ⟨rfl, hb⟩
  have A1 := Lib.hid ((HA.out.set 1 (.int .u8 1)).call hb)
  have z1 := A1.out.lt
  have G1 := Lib.hid (Lib.grownBy_below (Lib.grownBy_setB (World.grownBy.refl w (some g)) 1 (.int .u8 1)) hb)
  clear hb
  have q2 := A1.out.cell 2 _ rfl
  have p2 := A1.out.free 2 _ rfl
  go_wp2
  go_ret
  exact ⟨rfl, (A1.out).set 2 (.int .i64 a), Lib.grownBy_setB (G1.out) 2 _⟩

set_option maxHeartbeats 1000000 in
theorem saved_C_true (std k sv : Int) (ru fm : ByteArray) (en : Bool) (y m dk dn dd s c : Int) (x : ByteArray) (g : Nat) (w : World) (hx : x.size ≤ 1000000) (hA : At w g [.int .i64 std, .int .u8 k, .int .i64 sv, .string ru, .string fm, .bool en, .int .i64 y, .int .i64 m, .int .u8 dk, .int .i64 dn, .int .i64 dd, .int .i64 s, .int .u8 c]) (hd : ¬ x = ⟨#[45]⟩) (h0 : Er.digAt x 0 = false) (h : x = ⟨#[]⟩) (hn : Ru.name (tl x) = true) :
    Calls Tryz.prog 100 #[.pointer (some ⟨g, 0, none⟩), .string x] w (Er.Rd g w ⟨std, 2, sv, x, fm, en, ⟨y, m, dk, dn, dd, s, c⟩⟩ 0) := by
  have HA := Lib.hid hA
  have hg := hA.lt
  have q := ba_ne x [45] hd
  have HD0 := Lib.hid fun W => isDigit_is x 0 (by omega) W hx false h0
  have e1 : x.toList.isEmpty = true := by rw [h, ByteArray.toList_eq]; rfl
  clear h0 h
  have HN := Lib.hid fun W => calls_bool (name_any x W hx) hn
  clear hA hn hd
  go_enter Tryz.func100, Tryz.ntmps100
  go_wp2_with fail
  refine (HD0.out _).mono ?_
  rintro e w1 ⟨rfl, rfl⟩
  go_wp2_with fail
  refine (HN.out _).mono ?_
  rintro e w1 ⟨rfl, hb⟩
  have A1 := Lib.hid (HA.out.call hb)
  have z1 := A1.out.lt
  have G1 := Lib.hid (Lib.grownBy_below (World.grownBy.refl w (some g)) hb)
  clear hb
  have q1 := A1.out.cell 1 _ rfl
  have p1 := A1.out.free 1 _ rfl
  have q3 := A1.out.cell 3 _ rfl
  have p3 := A1.out.free 3 _ rfl
  go_wp2
  go_ret
  exact ⟨rfl, ((A1.out).set 1 (.int .u8 2)).set 3 (.string x), Lib.grownBy_setB (Lib.grownBy_setB (G1.out) 1 _) 3 _⟩

set_option maxHeartbeats 1000000 in
theorem saved_C_false (std k sv : Int) (ru fm : ByteArray) (en : Bool) (y m dk dn dd s c : Int) (x : ByteArray) (g : Nat) (w : World) (hx : x.size ≤ 1000000) (hA : At w g [.int .i64 std, .int .u8 k, .int .i64 sv, .string ru, .string fm, .bool en, .int .i64 y, .int .i64 m, .int .u8 dk, .int .i64 dn, .int .i64 dd, .int .i64 s, .int .u8 c]) (hd : ¬ x = ⟨#[45]⟩) (h0 : Er.digAt x 0 = false) (h : x = ⟨#[]⟩) (hn : Ru.name (tl x) = false) :
    Calls Tryz.prog 100 #[.pointer (some ⟨g, 0, none⟩), .string x] w (Er.Rd g w ⟨std, k, sv, ru, fm, en, ⟨y, m, dk, dn, dd, s, c⟩⟩ 7) := by
  have HA := Lib.hid hA
  have hg := hA.lt
  have q := ba_ne x [45] hd
  have HD0 := Lib.hid fun W => isDigit_is x 0 (by omega) W hx false h0
  have e1 : x.toList.isEmpty = true := by rw [h, ByteArray.toList_eq]; rfl
  clear h0 h
  have HN := Lib.hid fun W => calls_bool (name_any x W hx) hn
  clear hA hn hd
  go_enter Tryz.func100, Tryz.ntmps100
  go_wp2_with fail
  refine (HD0.out _).mono ?_
  rintro e w1 ⟨rfl, rfl⟩
  go_wp2_with fail
  refine (HN.out _).mono ?_
  rintro e w1 ⟨rfl, hb⟩
  have A1 := Lib.hid (HA.out.call hb)
  have G1 := Lib.hid (Lib.grownBy_below (World.grownBy.refl w (some g)) hb)
  clear hb
  go_wp2
  go_ret
  exact ⟨rfl, A1.out, G1.out⟩

set_option maxHeartbeats 1000000 in
theorem saved_D_true (std k sv : Int) (ru fm : ByteArray) (en : Bool) (y m dk dn dd s c : Int) (x : ByteArray) (g : Nat) (w : World) (hx : x.size ≤ 1000000) (hA : At w g [.int .i64 std, .int .u8 k, .int .i64 sv, .string ru, .string fm, .bool en, .int .i64 y, .int .i64 m, .int .u8 dk, .int .i64 dn, .int .i64 dd, .int .i64 s, .int .u8 c]) (hd : ¬ x = ⟨#[45]⟩) (h0 : Er.digAt x 0 = false) (hs : 0 < x.size) (h45 : x[0].toNat ≠ 45) (hn : Ru.name (tl x) = true) :
    Calls Tryz.prog 100 #[.pointer (some ⟨g, 0, none⟩), .string x] w (Er.Rd g w ⟨std, 2, sv, x, fm, en, ⟨y, m, dk, dn, dd, s, c⟩⟩ 0) := by
  have HA := Lib.hid hA
  have hg := hA.lt
  have q := ba_ne x [45] hd
  have HD0 := Lib.hid fun W => isDigit_is x 0 (by omega) W hx false h0
  have e1 : x.toList.isEmpty = false := empty_no x (by intro y; subst y; exact absurd hs (by decide))
  have e2 : (0 : Int) < (x.size : Int) := by omega
  have e3 : ((x[0].toNat : Int) == 45) = false := by rw [beq_eq_false_iff_ne]; omega
  clear h0 h45
  have HN := Lib.hid fun W => calls_bool (name_any x W hx) hn
  clear hA hn hd
  go_enter Tryz.func100, Tryz.ntmps100
  go_wp2_with fail
  refine (HD0.out _).mono ?_
  rintro e w1 ⟨rfl, rfl⟩
  go_wp2_with fail
  refine (HN.out _).mono ?_
  rintro e w1 ⟨rfl, hb⟩
  have A1 := Lib.hid (HA.out.call hb)
  have z1 := A1.out.lt
  have G1 := Lib.hid (Lib.grownBy_below (World.grownBy.refl w (some g)) hb)
  clear hb
  have q1 := A1.out.cell 1 _ rfl
  have p1 := A1.out.free 1 _ rfl
  have q3 := A1.out.cell 3 _ rfl
  have p3 := A1.out.free 3 _ rfl
  go_wp2
  go_ret
  exact ⟨rfl, ((A1.out).set 1 (.int .u8 2)).set 3 (.string x), Lib.grownBy_setB (Lib.grownBy_setB (G1.out) 1 _) 3 _⟩

set_option maxHeartbeats 1000000 in
theorem saved_D_false (std k sv : Int) (ru fm : ByteArray) (en : Bool) (y m dk dn dd s c : Int) (x : ByteArray) (g : Nat) (w : World) (hx : x.size ≤ 1000000) (hA : At w g [.int .i64 std, .int .u8 k, .int .i64 sv, .string ru, .string fm, .bool en, .int .i64 y, .int .i64 m, .int .u8 dk, .int .i64 dn, .int .i64 dd, .int .i64 s, .int .u8 c]) (hd : ¬ x = ⟨#[45]⟩) (h0 : Er.digAt x 0 = false) (hs : 0 < x.size) (h45 : x[0].toNat ≠ 45) (hn : Ru.name (tl x) = false) :
    Calls Tryz.prog 100 #[.pointer (some ⟨g, 0, none⟩), .string x] w (Er.Rd g w ⟨std, k, sv, ru, fm, en, ⟨y, m, dk, dn, dd, s, c⟩⟩ 7) := by
  have HA := Lib.hid hA
  have hg := hA.lt
  have q := ba_ne x [45] hd
  have HD0 := Lib.hid fun W => isDigit_is x 0 (by omega) W hx false h0
  have e1 : x.toList.isEmpty = false := empty_no x (by intro y; subst y; exact absurd hs (by decide))
  have e2 : (0 : Int) < (x.size : Int) := by omega
  have e3 : ((x[0].toNat : Int) == 45) = false := by rw [beq_eq_false_iff_ne]; omega
  clear h0 h45
  have HN := Lib.hid fun W => calls_bool (name_any x W hx) hn
  clear hA hn hd
  go_enter Tryz.func100, Tryz.ntmps100
  go_wp2_with fail
  refine (HD0.out _).mono ?_
  rintro e w1 ⟨rfl, rfl⟩
  go_wp2_with fail
  refine (HN.out _).mono ?_
  rintro e w1 ⟨rfl, hb⟩
  have A1 := Lib.hid (HA.out.call hb)
  have G1 := Lib.hid (Lib.grownBy_below (World.grownBy.refl w (some g)) hb)
  clear hb
  go_wp2
  go_ret
  exact ⟨rfl, A1.out, G1.out⟩

set_option maxHeartbeats 1000000 in
theorem saved_E_true (std k sv : Int) (ru fm : ByteArray) (en : Bool) (y m dk dn dd s c : Int) (x : ByteArray) (g : Nat) (w : World) (hx : x.size ≤ 1000000) (hA : At w g [.int .i64 std, .int .u8 k, .int .i64 sv, .string ru, .string fm, .bool en, .int .i64 y, .int .i64 m, .int .u8 dk, .int .i64 dn, .int .i64 dd, .int .i64 s, .int .u8 c]) (hd : ¬ x = ⟨#[45]⟩) (h0 : Er.digAt x 0 = false) (hs : 0 < x.size) (h45 : x[0].toNat = 45) (h1 : Er.digAt x 1 = false) (hn : Ru.name (tl x) = true) :
    Calls Tryz.prog 100 #[.pointer (some ⟨g, 0, none⟩), .string x] w (Er.Rd g w ⟨std, 2, sv, x, fm, en, ⟨y, m, dk, dn, dd, s, c⟩⟩ 0) := by
  have HA := Lib.hid hA
  have hg := hA.lt
  have q := ba_ne x [45] hd
  have HD0 := Lib.hid fun W => isDigit_is x 0 (by omega) W hx false h0
  have HD1 := Lib.hid fun W => isDigit_is x 1 (by omega) W hx false h1
  have e1 : x.toList.isEmpty = false := empty_no x (by intro y; subst y; exact absurd hs (by decide))
  have e2 : (0 : Int) < (x.size : Int) := by omega
  have e3 : ((x[0].toNat : Int) == 45) = true := by rw [h45]; rfl
  clear h0 h1 h45
  have HN := Lib.hid fun W => calls_bool (name_any x W hx) hn
  clear hA hn hd
  go_enter Tryz.func100, Tryz.ntmps100
  go_wp2_with fail
  refine (HD0.out _).mono ?_
  rintro e w1 ⟨rfl, rfl⟩
  go_wp2_with fail
  refine (HD1.out _).mono ?_
  rintro e w1 ⟨rfl, rfl⟩
  go_wp2_with fail
  refine (HN.out _).mono ?_
  rintro e w1 ⟨rfl, hb⟩
  have A1 := Lib.hid (HA.out.call hb)
  have z1 := A1.out.lt
  have G1 := Lib.hid (Lib.grownBy_below (World.grownBy.refl w (some g)) hb)
  clear hb
  have q1 := A1.out.cell 1 _ rfl
  have p1 := A1.out.free 1 _ rfl
  have q3 := A1.out.cell 3 _ rfl
  have p3 := A1.out.free 3 _ rfl
  go_wp2
  go_ret
  exact ⟨rfl, ((A1.out).set 1 (.int .u8 2)).set 3 (.string x), Lib.grownBy_setB (Lib.grownBy_setB (G1.out) 1 _) 3 _⟩

set_option maxHeartbeats 1000000 in
theorem saved_E_false (std k sv : Int) (ru fm : ByteArray) (en : Bool) (y m dk dn dd s c : Int) (x : ByteArray) (g : Nat) (w : World) (hx : x.size ≤ 1000000) (hA : At w g [.int .i64 std, .int .u8 k, .int .i64 sv, .string ru, .string fm, .bool en, .int .i64 y, .int .i64 m, .int .u8 dk, .int .i64 dn, .int .i64 dd, .int .i64 s, .int .u8 c]) (hd : ¬ x = ⟨#[45]⟩) (h0 : Er.digAt x 0 = false) (hs : 0 < x.size) (h45 : x[0].toNat = 45) (h1 : Er.digAt x 1 = false) (hn : Ru.name (tl x) = false) :
    Calls Tryz.prog 100 #[.pointer (some ⟨g, 0, none⟩), .string x] w (Er.Rd g w ⟨std, k, sv, ru, fm, en, ⟨y, m, dk, dn, dd, s, c⟩⟩ 7) := by
  have HA := Lib.hid hA
  have hg := hA.lt
  have q := ba_ne x [45] hd
  have HD0 := Lib.hid fun W => isDigit_is x 0 (by omega) W hx false h0
  have HD1 := Lib.hid fun W => isDigit_is x 1 (by omega) W hx false h1
  have e1 : x.toList.isEmpty = false := empty_no x (by intro y; subst y; exact absurd hs (by decide))
  have e2 : (0 : Int) < (x.size : Int) := by omega
  have e3 : ((x[0].toNat : Int) == 45) = true := by rw [h45]; rfl
  clear h0 h1 h45
  have HN := Lib.hid fun W => calls_bool (name_any x W hx) hn
  clear hA hn hd
  go_enter Tryz.func100, Tryz.ntmps100
  go_wp2_with fail
  refine (HD0.out _).mono ?_
  rintro e w1 ⟨rfl, rfl⟩
  go_wp2_with fail
  refine (HD1.out _).mono ?_
  rintro e w1 ⟨rfl, rfl⟩
  go_wp2_with fail
  refine (HN.out _).mono ?_
  rintro e w1 ⟨rfl, hb⟩
  have A1 := Lib.hid (HA.out.call hb)
  have G1 := Lib.hid (Lib.grownBy_below (World.grownBy.refl w (some g)) hb)
  clear hb
  go_wp2
  go_ret
  exact ⟨rfl, A1.out, G1.out⟩

theorem saved_any (e : Er.E) (x : ByteArray) (g : Nat) (w : World) (hx : x.size ≤ 1000000) (hA : At w g e.cells) (hg0 : Wp (w.setCell ⟨g, 1, none⟩ (.int .u8 1))) :
    Calls Tryz.prog 100 #[.pointer (some ⟨g, 0, none⟩), .string x] w (Er.Rd g w (Er.savS e x).1 (Er.savS e x).2) := by
  unfold Er.savS
  by_cases hd : x = ⟨#[45]⟩
  · rw [if_pos hd]
    exact saved_dash e.std e.k e.sv e.ru e.fm e.en e.u.y e.u.m e.u.k e.u.n e.u.d e.u.s e.u.c x g w hx hA hd
  · rw [if_neg hd]
    rcases Er.num_cases x with ⟨hn, h0⟩ | ⟨hn, h0, ⟨hs, h45⟩, h1⟩ | ⟨hn, h0, h⟩ | ⟨hn, h0, ⟨hs, h45⟩⟩ | ⟨hn, h0, ⟨hs, h45⟩, h1⟩
    · rw [if_pos hn]
      exact saved_A e.std e.k e.sv e.ru e.fm e.en e.u.y e.u.m e.u.k e.u.n e.u.d e.u.s e.u.c x g w hx hA hg0 hd h0
    · rw [if_pos hn]
      exact saved_B e.std e.k e.sv e.ru e.fm e.en e.u.y e.u.m e.u.k e.u.n e.u.d e.u.s e.u.c x g w hx hA hg0 hd h0 hs h45 h1
    · rw [if_neg (by rw [hn]; decide)]
      cases hm : Ru.name (tl x)
      · rw [if_neg (by decide)]; exact saved_C_false e.std e.k e.sv e.ru e.fm e.en e.u.y e.u.m e.u.k e.u.n e.u.d e.u.s e.u.c x g w hx hA hd h0 h hm
      · rw [if_pos rfl]; exact saved_C_true e.std e.k e.sv e.ru e.fm e.en e.u.y e.u.m e.u.k e.u.n e.u.d e.u.s e.u.c x g w hx hA hd h0 h hm
    · rw [if_neg (by rw [hn]; decide)]
      cases hm : Ru.name (tl x)
      · rw [if_neg (by decide)]; exact saved_D_false e.std e.k e.sv e.ru e.fm e.en e.u.y e.u.m e.u.k e.u.n e.u.d e.u.s e.u.c x g w hx hA hd h0 hs h45 hm
      · rw [if_pos rfl]; exact saved_D_true e.std e.k e.sv e.ru e.fm e.en e.u.y e.u.m e.u.k e.u.n e.u.d e.u.s e.u.c x g w hx hA hd h0 hs h45 hm
    · rw [if_neg (by rw [hn]; decide)]
      cases hm : Ru.name (tl x)
      · rw [if_neg (by decide)]; exact saved_E_false e.std e.k e.sv e.ru e.fm e.en e.u.y e.u.m e.u.k e.u.n e.u.d e.u.s e.u.c x g w hx hA hd h0 hs h45 h1 hm
      · rw [if_pos rfl]; exact saved_E_true e.std e.k e.sv e.ru e.fm e.en e.u.y e.u.m e.u.k e.u.n e.u.d e.u.s e.u.c x g w hx hA hd h0 hs h45 h1 hm
set_option maxHeartbeats 1000000 in
theorem eread0_no (std k sv : Int) (ru fm : ByteArray) (en : Bool) (y m dk dn dd s c : Int) (x : ByteArray) (g : Nat) (w : World) (_hx : x.size ≤ 1000000) (hA : At w g [.int .i64 std, .int .u8 k, .int .i64 sv, .string ru, .string fm, .bool en, .int .i64 y, .int .i64 m, .int .u8 dk, .int .i64 dn, .int .i64 dd, .int .i64 s, .int .u8 c]) (h : x = ⟨#[45]⟩) :
    Calls Tryz.prog 87 #[.pointer (some ⟨g, 0, none⟩), .int .i64 0, .string x] w (Er.Rd g w ⟨std, k, sv, ru, fm, en, ⟨y, m, dk, dn, dd, s, c⟩⟩ 0) := by
  have HA := Lib.hid hA
  have hg := hA.lt
  have q := dash_yes x h
  clear h
  clear hA
  go_enter Tryz.func87, Tryz.ntmps87
  go_wp2
  go_ret
  exact ⟨rfl, HA.out, World.grownBy.refl w _⟩

set_option maxHeartbeats 1000000 in
theorem eread0 (std k sv : Int) (ru fm : ByteArray) (en : Bool) (y m dk dn dd s c : Int) (x : ByteArray) (g : Nat) (w : World) (hx : x.size ≤ 1000000) (hA : At w g [.int .i64 std, .int .u8 k, .int .i64 sv, .string ru, .string fm, .bool en, .int .i64 y, .int .i64 m, .int .u8 dk, .int .i64 dn, .int .i64 dd, .int .i64 s, .int .u8 c]) (hW : Wp w) (h : ¬ x = ⟨#[45]⟩) :
    Calls Tryz.prog 87 #[.pointer (some ⟨g, 0, none⟩), .int .i64 0, .string x] w (Er.Rd g w ⟨(Ck.parse x).1, k, sv, ru, fm, en, ⟨y, m, dk, dn, dd, s, c⟩⟩ (Ck.parse x).2) := by
  have HA := Lib.hid hA
  have hg := hA.lt
  obtain ⟨a, b, hp⟩ : ∃ a b, Ck.parse x = (a, b) := ⟨_, _, rfl⟩
  have hY := clockParse_all x w hW hx a b hp
  rw [hp]
  have HY := Lib.hid hY
  have q := ba_ne x [45] h
  clear hA hY hp hx hW h
  go_enter Tryz.func87, Tryz.ntmps87
  go_wp2_with fail
  refine (HY.out).mono ?_
  rintro e' w1 ⟨rfl, hb⟩
  have A1 := Lib.hid (HA.out.call hb)
  have z1 := A1.out.lt
  have G1 := Lib.hid (Lib.grownBy_below (World.grownBy.refl w (some g)) hb)
  clear hb
  have q0 := A1.out.cell 0 _ rfl
  have p0 := A1.out.free 0 _ rfl
  go_wp2
  go_ret
  exact ⟨rfl, (A1.out).set 0 (.int .i64 a), Lib.grownBy_setB (G1.out) 0 _⟩

set_option maxHeartbeats 1000000 in
theorem eread2_true (std k sv : Int) (ru fm : ByteArray) (en : Bool) (y m dk dn dd s c : Int) (x : ByteArray) (g : Nat) (w : World) (hx : x.size ≤ 1000000) (hA : At w g [.int .i64 std, .int .u8 k, .int .i64 sv, .string ru, .string fm, .bool en, .int .i64 y, .int .i64 m, .int .u8 dk, .int .i64 dn, .int .i64 dd, .int .i64 s, .int .u8 c]) (hf : Ab.fmt x = true) (hW : Wa (w.setCell ⟨g, 4, none⟩ (.string x))) :
    Calls Tryz.prog 87 #[.pointer (some ⟨g, 0, none⟩), .int .i64 2, .string x] w (Er.Rd g w ⟨std, k, sv, ru, x, en, ⟨y, m, dk, dn, dd, s, c⟩⟩ 0) := by
  have HA := Lib.hid hA
  have hg := hA.lt
  have HF := Lib.hid (abbrCheck_is x _ hW hx true hf)
  have q4 := HA.out.cell 4 _ rfl
  have p4 := HA.out.free 4 _ rfl
  clear hA hf hW
  go_enter Tryz.func87, Tryz.ntmps87
  go_wp2_with fail
  refine (HF.out).mono ?_
  rintro e' w1 ⟨rfl, hb⟩
  have A1 := Lib.hid ((HA.out.set 4 (.string x)).call hb)
  have G1 := Lib.hid (Lib.grownBy_below (Lib.grownBy_setB (World.grownBy.refl w (some g)) 4 (.string x)) hb)
  clear hb q4 p4
  go_wp2
  go_ret
  exact ⟨rfl, A1.out, G1.out⟩

set_option maxHeartbeats 1000000 in
theorem eread2_false (std k sv : Int) (ru fm : ByteArray) (en : Bool) (y m dk dn dd s c : Int) (x : ByteArray) (g : Nat) (w : World) (hx : x.size ≤ 1000000) (hA : At w g [.int .i64 std, .int .u8 k, .int .i64 sv, .string ru, .string fm, .bool en, .int .i64 y, .int .i64 m, .int .u8 dk, .int .i64 dn, .int .i64 dd, .int .i64 s, .int .u8 c]) (hf : Ab.fmt x = false) (hW : Wa (w.setCell ⟨g, 4, none⟩ (.string x))) :
    Calls Tryz.prog 87 #[.pointer (some ⟨g, 0, none⟩), .int .i64 2, .string x] w (Er.Rd g w ⟨std, k, sv, ru, x, en, ⟨y, m, dk, dn, dd, s, c⟩⟩ 4) := by
  have HA := Lib.hid hA
  have hg := hA.lt
  have HF := Lib.hid (abbrCheck_is x _ hW hx false hf)
  have q4 := HA.out.cell 4 _ rfl
  have p4 := HA.out.free 4 _ rfl
  clear hA hf hW
  go_enter Tryz.func87, Tryz.ntmps87
  go_wp2_with fail
  refine (HF.out).mono ?_
  rintro e' w1 ⟨rfl, hb⟩
  have A1 := Lib.hid ((HA.out.set 4 (.string x)).call hb)
  have G1 := Lib.hid (Lib.grownBy_below (Lib.grownBy_setB (World.grownBy.refl w (some g)) 4 (.string x)) hb)
  clear hb q4 p4
  go_wp2
  go_ret
  exact ⟨rfl, A1.out, G1.out⟩

/-- read, at any place; w0: a world from which on the block has been made. -/
theorem eread_any (j : Nat) (hj : j < 3) (e : Er.E) (x : ByteArray) (g : Nat) (w : World) (hx : x.size ≤ 1000000) (hA : At w g e.cells) (w0 : World) (hb : Below w0.heap.size w0 w) (hg : w0.heap.size ≤ g) (hp : Wp w0) (ha : Wa w0) :
    Calls Tryz.prog 87 #[.pointer (some ⟨g, 0, none⟩), .int .i64 j, .string x] w (Er.Rd g w (Er.estep j e x).1 (Er.estep j e x).2) := by
  have hjj : j = 0 ∨ j = 1 ∨ j = 2 := by omega
  rcases hjj with rfl | rfl | rfl
  · unfold Er.estep Er.stdS
    rw [if_pos rfl]
    by_cases h : x = ⟨#[45]⟩
    · rw [if_pos h]
      exact eread0_no e.std e.k e.sv e.ru e.fm e.en e.u.y e.u.m e.u.k e.u.n e.u.d e.u.s e.u.c x g w hx hA h
    · rw [if_neg h]
      exact eread0 e.std e.k e.sv e.ru e.fm e.en e.u.y e.u.m e.u.k e.u.n e.u.d e.u.s e.u.c x g w hx hA (hp.below hb) h
  · unfold Er.estep
    rw [if_neg (by omega), if_pos rfl]
    obtain ⟨E1, why, hE⟩ : ∃ a b, Er.savS e x = (a, b) := ⟨_, _, rfl⟩
    have HS := Lib.hid (saved_any e x g w hx hA (hp.below (hb.setCell (p := ⟨g, 1, none⟩) hg _)))
    rw [hE] at HS ⊢
    clear hE hA hp ha hb
    go_enter Tryz.func87, Tryz.ntmps87
    go_wp2_with fail
    refine (HS.out).mono ?_
    rintro e' w1 ⟨rfl, hA1, hg1⟩
    go_wp2
    go_ret
    exact ⟨rfl, hA1, hg1⟩
  · unfold Er.estep Er.fmS
    rw [if_neg (by omega), if_neg (by omega)]
    cases hf : Ab.fmt x
    · rw [if_neg (by decide)]
      exact eread2_false e.std e.k e.sv e.ru e.fm e.en e.u.y e.u.m e.u.k e.u.n e.u.d e.u.s e.u.c x g w hx hA hf (ha.below (hb.setCell (p := ⟨g, 4, none⟩) hg _))
    · rw [if_pos rfl]
      exact eread2_true e.std e.k e.sv e.ru e.fm e.en e.u.y e.u.m e.u.k e.u.n e.u.d e.u.s e.u.c x g w hx hA hf (ha.below (hb.setCell (p := ⟨g, 4, none⟩) hg _))
end Go.Proofs.YtlhoggalhjadgaaGreatDoor
