/- Plain law of digits: what a text of digits tells. -/
import Derived.Test.YtjobhjemnmleaaaGreatDoorQ02
import Derived.Test.YtjobhjemnmleaaaGreatDoorQ03
import Derived.Lib.AppendIntMem
import Derived.Deep.RegionHeld3
import Derived.WideShapes
import Derived.Lib.Split
import Derived.Lib.CutLaws
set_option maxRecDepth 100000
set_option maxHeartbeats 2000000
namespace Go.Proofs.YtjobhjemnmleaaaGreatDoor.Dy
open Go.RowKit
def numLoop : List UInt8 → Int → Int
 | [], a => a
 | c :: r, a => if (c.toNat : Int) < 48 ∨ 57 < (c.toNat : Int) then -1 else numLoop r (a * 10 + ((c.toNat : Int) - 48))
theorem tl_get (s : ByteArray) (k : Nat) (h : k < s.size) : (tl s)[k]? = some s[k] := by
 unfold tl;rw [List.getElem?_eq_getElem (by simpa using h), Array.getElem_toList];rfl
def Ok (k n w : Int) : Prop := (k = 0 ∧ 1 ≤ n ∧ n ≤ 31 ∧ w = 0) ∨ (k = 1 ∧ n = 0 ∧ 0 ≤ w ∧ w ≤ 6) ∨ ((k = 2 ∨ k = 3) ∧ 1 ≤ n ∧ n ≤ 31 ∧ 0 ≤ w ∧ w ≤ 6)
instance (k n w : Int) : Decidable (Ok k n w) := by unfold Ok; exact inferInstance
end Go.Proofs.YtjobhjemnmleaaaGreatDoor.Dy
namespace Go.Proofs.YtjobhjemnmleaaaGreatDoor
open Go.RowKit
theorem dayCheck_ok (k n d : Int) (w : World) (h : Dy.Ok k n d) :
  Calls Tryz.prog 127 #[.agg #[.int .u8 k, .int .i64 n, .int .i64 d]] w fun e w' => e = .returned (.int .i64 0) ∧ Below w.heap.size w w' := by
 rcases h with ⟨rfl, h1, h2, rfl⟩ | ⟨rfl, rfl, h1, h2⟩ | ⟨rfl | rfl, h1, h2, h3, h4⟩
 all_goals
  go_enter Tryz.func127, Tryz.ntmps127
  go_wp2;go_ret
  exact ⟨rfl, (Below.refl _ _).alloc (Nat.le_refl _) _⟩
theorem dayCheck_bad (k n d : Int) (w : World) (h : ¬ Dy.Ok k n d) :
  Calls Tryz.prog 127 #[.agg #[.int .u8 k, .int .i64 n, .int .i64 d]] w fun e w' => e = .returned (.int .i64 2) ∧ Below w.heap.size w w' := by
 have H := Lib.hid h;clear h
 by_cases k0 : k = 0
 ·subst k0;go_enter Tryz.func127, Tryz.ntmps127
  go_wp2
  all_goals first
   | (exfalso; refine H.out ?_; unfold Dy.Ok; omega)
   | (go_ret; exact ⟨rfl, (Below.refl _ _).alloc (Nat.le_refl _) _⟩)
 by_cases k1 : k = 1
 ·subst k1;go_enter Tryz.func127, Tryz.ntmps127
  go_wp2
  all_goals first
   | (exfalso; refine H.out ?_; unfold Dy.Ok; omega)
   | (go_ret; exact ⟨rfl, (Below.refl _ _).alloc (Nat.le_refl _) _⟩)
 by_cases k2 : k = 2
 ·subst k2;go_enter Tryz.func127, Tryz.ntmps127
  go_wp2
  all_goals first
   | (exfalso; refine H.out ?_; unfold Dy.Ok; omega)
   | (go_ret; exact ⟨rfl, (Below.refl _ _).alloc (Nat.le_refl _) _⟩)
 by_cases k3 : k = 3
 ·subst k3;go_enter Tryz.func127, Tryz.ntmps127
  go_wp2
  all_goals first
   | (exfalso; refine H.out ?_; unfold Dy.Ok; omega)
   | (go_ret; exact ⟨rfl, (Below.refl _ _).alloc (Nat.le_refl _) _⟩)
 have e0 : (k == 0) = false := by simp [k0]
 have e1 : (k == 1) = false := by simp [k1]
 have e2 : (k == 2) = false := by simp [k2]
 have e3 : (k == 3) = false := by simp [k3]
 clear k0 k1 k2 k3;go_enter Tryz.func127, Tryz.ntmps127
 go_wp2;go_ret
 exact ⟨rfl, (Below.refl _ _).alloc (Nat.le_refl _) _⟩
structure Wo (w : World) : Prop where
 lens : Lens w
 maxl : ∃ m, w.cell? ⟨2, 0, none⟩ = some (.int .i64 m)
theorem Wo.below {w w' : World} (h : Wo w) (hb : Below w.heap.size w w') : Wo w' := by
 refine ⟨h.lens.below hb, ?_⟩;obtain ⟨m, hm⟩ := h.maxl;exact ⟨m, (hb.cell (p := ⟨_, 0, none⟩) (block_lt_of_cell hm)).trans hm⟩
theorem tl_mk (l : List UInt8) : tl ⟨l.toArray⟩ = l := by simp [tl]
theorem cut_len (s sep : List UInt8) : (Lib.cut s sep).1.length ≤ s.length ∧ (Lib.cut s sep).2.1.length ≤ s.length := by
 unfold Lib.cut;split
 ·simp only [List.length_take, List.length_drop]; omega
 ·simp
theorem new3 {w w1 : World} {a b c : Value} {t : TypeId} (hb : Below (w.heap.size + 1) (w.alloc (.cells #[a, b, c] t)) w1) :
  w1.cell? ⟨w.heap.size, 0, none⟩ = some a ∧ w1.cell? ⟨w.heap.size, 1, none⟩ = some b ∧ w1.cell? ⟨w.heap.size, 2, none⟩ = some c ∧
  w1.frozen? ⟨w.heap.size, 0, none⟩ = false ∧ w1.frozen? ⟨w.heap.size, 1, none⟩ = false ∧ w1.frozen? ⟨w.heap.size, 2, none⟩ = false := by
 have h : ∀ i, w1.cell? ⟨w.heap.size, i, none⟩ = #[a, b, c][i]? := fun i => (hb.cell (p := ⟨w.heap.size, i, none⟩) (Nat.lt_succ_self _)).trans (cell_of_row _ w.heap.size i _ _ _ (heap_alloc_new w _))
 have hf : ∀ i, w1.frozen? ⟨w.heap.size, i, none⟩ = false := fun i => (hb.frozen (p := ⟨w.heap.size, i, none⟩) (Nat.lt_succ_self _)).trans (by have e := heap_alloc_new w (.cells #[a, b, c] t); unfold World.frozen?; simp only [e]; simp)
 exact ⟨h 0, h 1, h 2, hf 0, hf 1, hf 2⟩
theorem below_new {w w1 : World} {o : Obj} (hb : Below (w.heap.size + 1) (w.alloc o) w1) : Below w.heap.size w w1 := ((Below.refl _ _).alloc (Nat.le_refl _) _).trans (hb.mono (Nat.le_succ _))
namespace Dy
def base (k n y m : Int) : Int := Cv.num y m (if k = 1 then Cv.len y m else n)
def res (k n d y m : Int) : Int := if k = 2 then base k n y m + (d - dow (base k n y m)) % 7 else if k = 0 then base k n y m else base k n y m - (dow (base k n y m) - d) % 7
def inS (k n d y m : Int) : Int × Int :=
 if ¬ Ok k n d then (0, 2) else if ¬ (1 ≤ y ∧ y ≤ 9999 ∧ 1 ≤ m ∧ m ≤ 12) then (0, 1) else if n > Cv.len y m then (0, 3)
 else if -719162 ≤ res k n d y m ∧ res k n d y m < 2932897 then (res k n d y m, 0) else (0, 1)
end Dy
theorem dow_bd (n : Int) : 0 ≤ dow n ∧ dow n ≤ 6 := by unfold dow; omega
theorem num_bd (y m d : Int) (h : Cv.Valid y m d) : -719162 ≤ Cv.num y m d ∧ Cv.num y m d < 2932897 := by
 have h1 := Cv.first_le y m d h;obtain ⟨a, b, _⟩ := h;have h2 := Cv.first_mono 1 y a;have h3 := Cv.first_mono (y + 1) 10000 (by omega);rw [num_min] at h2;rw [num_max] at h3;omega
theorem in_form (k n d : Int) (y m : Int) (w : World) (h : ¬ Dy.Ok k n d) :
  Calls Tryz.prog 145 #[.agg #[.int .u8 k, .int .i64 n, .int .i64 d], .int .i64 y, .int .i64 m] w fun e w' => e = .returned (.tuple #[.int .i64 0, .int .i64 2]) ∧ Below w.heap.size w w' := by
 have HC := Lib.hid fun W => dayCheck_bad k n d W h
 clear h;go_enter Tryz.func145, Tryz.ntmps145
 go_wp2_with fail
 refine (HC.out _).mono ?_;rintro e w1 ⟨rfl, hb1⟩;have HB := Lib.hid (below_new (hb1.mono (by simp) : Below (w.heap.size + 1) (w.alloc (.cells #[.int .u8 k, .int .i64 n, .int .i64 d] 110)) w1));clear hb1;go_wp2;go_ret2
 exact ⟨rfl, HB.out⟩
theorem in_range (k n d : Int) (y m : Int) (w : World) (h : Dy.Ok k n d) (hc : ¬ InCal y m) :
  Calls Tryz.prog 145 #[.agg #[.int .u8 k, .int .i64 n, .int .i64 d], .int .i64 y, .int .i64 m] w fun e w' => e = .returned (.tuple #[.int .i64 0, .int .i64 1]) ∧ Below w.heap.size w w' := by
 have HC := Lib.hid fun W => dayCheck_ok k n d W h
 have HL := Lib.hid fun W => length_bad y m W hc
 clear h hc;go_enter Tryz.func145, Tryz.ntmps145
 go_wp2_with fail
 refine (HC.out _).mono ?_;rintro e w1 ⟨rfl, hb1⟩;have HB := Lib.hid (below_new (hb1.mono (by simp) : Below (w.heap.size + 1) (w.alloc (.cells #[.int .u8 k, .int .i64 n, .int .i64 d] 110)) w1));clear hb1;go_wp2_with fail
 refine (HL.out _).mono ?_;rintro e w2 ⟨rfl, rfl⟩;go_wp2;go_ret2
 exact ⟨rfl, HB.out⟩
theorem in_none (k n d : Int) (y m : Int) (w : World) (hW : Wo w) (h : Dy.Ok k n d) (hc : InCal y m) (hn : n > Cv.len y m) :
  Calls Tryz.prog 145 #[.agg #[.int .u8 k, .int .i64 n, .int .i64 d], .int .i64 y, .int .i64 m] w fun e w' => e = .returned (.tuple #[.int .i64 0, .int .i64 3]) ∧ Below w.heap.size w w' := by
 have HC := Lib.hid fun W => dayCheck_ok k n d W h
 have hL := fun W (hw : Lens W) => length_ok y m W hw hc
 obtain ⟨L, hl⟩ : ∃ L, Cv.len y m = L := ⟨_, rfl⟩
 rw [hl] at hn;simp only [hl] at hL;have HL := Lib.hid hL;have HW := Lib.hid hW;clear h hc hL hl hW;go_enter Tryz.func145, Tryz.ntmps145
 go_wp2_with fail
 refine (HC.out _).mono ?_;rintro e w1 ⟨rfl, hb1⟩;have hb' : Below (w.heap.size + 1) (w.alloc (.cells #[.int .u8 k, .int .i64 n, .int .i64 d] 110)) w1 := hb1.mono (by simp);obtain ⟨c0, c1, c2, _, _, _⟩ := new3 hb';have HB := Lib.hid (below_new hb');clear hb1 hb';go_wp2_with fail
 refine (HL.out _ (HW.out.below HB.out).lens).mono ?_;rintro e w2 ⟨rfl, rfl⟩;go_wp2;go_ret2
 exact ⟨rfl, HB.out⟩
theorem in_k0 (n y m : Int) (w : World) (hW : Wo w) (hc : InCal y m) (h1 : 1 ≤ n) (h2 : n ≤ 31) (hn : n ≤ Cv.len y m) :
  Calls Tryz.prog 145 #[.agg #[.int .u8 0, .int .i64 n, .int .i64 0], .int .i64 y, .int .i64 m] w fun e w' => e = .returned (.tuple #[.int .i64 (if -719162 ≤ Dy.res 0 n 0 y m ∧ Dy.res 0 n 0 y m < 2932897 then Dy.res 0 n 0 y m else 0), .int .i64 (if -719162 ≤ Dy.res 0 n 0 y m ∧ Dy.res 0 n 0 y m < 2932897 then 0 else 1)]) ∧ Below w.heap.size w w' := by
 have HC := Lib.hid fun W => dayCheck_ok 0 n 0 W (.inl ⟨rfl, h1, h2, rfl⟩)
 have hL := fun W (hw : Lens W) => length_ok y m W hw hc
 have hl31 : 28 ≤ Cv.len y m ∧ Cv.len y m ≤ 31 := by
  rw [Cv.len_month y m hc.2.2.1 hc.2.2.2];split
  ·split <;> omega
  ·split <;> omega
 have hv : Cv.Valid y m (n) := ⟨hc.1, hc.2.1, hc.2.2.1, hc.2.2.2, by omega, by omega⟩
 have hD := fun W (hw : Lens W) => days_ok y m (n) W hw hv
 obtain ⟨L, hl⟩ : ∃ L, Cv.len y m = L := ⟨_, rfl⟩
 rw [hl] at hl31 hn;simp only [hl] at hL
 try simp only [hl] at hD
 have hnb := num_bd y m (n) hv;have hR : Dy.res 0 n 0 y m = Dy.res 0 n 0 y m := rfl;obtain ⟨B, hB⟩ : ∃ B, Cv.num y m (n) = B := ⟨_, rfl⟩
 rw [hB] at hnb
 try simp only [hl] at hB
 simp only [hB] at hD;have hX0 : ∀ W, Calls Tryz.prog 179 #[.int .i64 B] W fun e w' => e = .returned (.int .i64 (dow B)) ∧ w' = W := fun W => (civWeekday_any B W).mono fun _ _ ⟨a, b⟩ => ⟨a, b.symm⟩
 have hXb := dow_bd B;obtain ⟨X, hX⟩ : ∃ X, dow B = X := ⟨_, rfl⟩
 rw [hX] at hXb;simp only [hX] at hX0;have hres : Dy.res 0 n 0 y m = B := by
  unfold Dy.res Dy.base;simp [hB]
 rw [hres];have HL := Lib.hid hL;have HD := Lib.hid hD;have HX := Lib.hid hX0;have HW := Lib.hid hW;obtain ⟨l1, l2⟩ := hl31;obtain ⟨n1, n2⟩ := hnb;obtain ⟨x1, x2⟩ := hXb;clear hL hl hW hD hX0 hX hB hres hR hv hc
 by_cases hr : -719162 ≤ B ∧ B < 2932897
 ·rw [if_pos hr, if_pos hr];obtain ⟨r1, r2⟩ := hr;have HOf := Lib.hid fun W => of_ok (B) W r1 r2
  go_enter Tryz.func145, Tryz.ntmps145
  go_wp2_with fail
  refine (HC.out _).mono ?_;rintro e w1 ⟨rfl, hb1⟩;have hb' : Below (w.heap.size + 1) (w.alloc (.cells #[.int .u8 0, .int .i64 n, .int .i64 0] 110)) w1 := hb1.mono (by simp);obtain ⟨c0, c1, c2, _, _, _⟩ := new3 hb';have HB := Lib.hid (below_new hb');have HB' := Lib.hid hb';clear hb1 hb';go_wp2_with fail
  refine (HL.out _ (HW.out.below HB.out).lens).mono ?_;rintro e w2 ⟨rfl, rfl⟩;go_wp2_with fail
  refine (HD.out _ (HW.out.below HB.out).lens).mono ?_;rintro e w2 ⟨rfl, hb2⟩;have hb' := HB'.out.trans (hb2.mono (by have := HB'.out.size; simpa using this));clear c0 c1 c2 HB HB' hb2;obtain ⟨c0, c1, c2, _, _, _⟩ := new3 hb';have HB := Lib.hid (below_new hb');clear hb';go_wp2_with fail
  go_wp2_with fail
  refine (HOf.out _).mono ?_;rintro e w3 ⟨rfl, hb3⟩;go_wp2;go_ret2
  exact ⟨rfl, (below_then HB.out hb3).alloc (by have := (below_then HB.out hb3).size; exact this) _⟩
 ·rw [if_neg hr, if_neg hr];have HOf := Lib.hid fun W => of_bad (B) W (by omega)
  clear hr;go_enter Tryz.func145, Tryz.ntmps145
  go_wp2_with fail
  refine (HC.out _).mono ?_;rintro e w1 ⟨rfl, hb1⟩;have hb' : Below (w.heap.size + 1) (w.alloc (.cells #[.int .u8 0, .int .i64 n, .int .i64 0] 110)) w1 := hb1.mono (by simp);obtain ⟨c0, c1, c2, _, _, _⟩ := new3 hb';have HB := Lib.hid (below_new hb');have HB' := Lib.hid hb';clear hb1 hb';go_wp2_with fail
  refine (HL.out _ (HW.out.below HB.out).lens).mono ?_;rintro e w2 ⟨rfl, rfl⟩;go_wp2_with fail
  refine (HD.out _ (HW.out.below HB.out).lens).mono ?_;rintro e w2 ⟨rfl, hb2⟩;have hb' := HB'.out.trans (hb2.mono (by have := HB'.out.size; simpa using this));clear c0 c1 c2 HB HB' hb2;obtain ⟨c0, c1, c2, _, _, _⟩ := new3 hb';have HB := Lib.hid (below_new hb');clear hb';go_wp2_with fail
  go_wp2_with fail
  refine (HOf.out _).mono ?_;rintro e w3 ⟨rfl, hb3⟩;go_wp2;go_ret2
  exact ⟨rfl, (below_then HB.out hb3).alloc (by have := (below_then HB.out hb3).size; exact this) _⟩
theorem in_k1 (d y m : Int) (w : World) (hW : Wo w) (hc : InCal y m) (d0 : 0 ≤ d) (d1 : d ≤ 6) :
  Calls Tryz.prog 145 #[.agg #[.int .u8 1, .int .i64 0, .int .i64 d], .int .i64 y, .int .i64 m] w fun e w' => e = .returned (.tuple #[.int .i64 (if -719162 ≤ Dy.res 1 0 d y m ∧ Dy.res 1 0 d y m < 2932897 then Dy.res 1 0 d y m else 0), .int .i64 (if -719162 ≤ Dy.res 1 0 d y m ∧ Dy.res 1 0 d y m < 2932897 then 0 else 1)]) ∧ Below w.heap.size w w' := by
 have HC := Lib.hid fun W => dayCheck_ok 1 0 d W (.inr (.inl ⟨rfl, rfl, d0, d1⟩))
 have hL := fun W (hw : Lens W) => length_ok y m W hw hc
 have hl31 : 28 ≤ Cv.len y m ∧ Cv.len y m ≤ 31 := by
  rw [Cv.len_month y m hc.2.2.1 hc.2.2.2];split
  ·split <;> omega
  ·split <;> omega
 have hv : Cv.Valid y m (Cv.len y m) := ⟨hc.1, hc.2.1, hc.2.2.1, hc.2.2.2, by omega, by omega⟩
 have hD := fun W (hw : Lens W) => days_ok y m (Cv.len y m) W hw hv
 obtain ⟨L, hl⟩ : ∃ L, Cv.len y m = L := ⟨_, rfl⟩
 rw [hl] at hl31;simp only [hl] at hL
 try simp only [hl] at hD
 have hnb := num_bd y m (Cv.len y m) hv;have hR : Dy.res 1 0 d y m = Dy.res 1 0 d y m := rfl;obtain ⟨B, hB⟩ : ∃ B, Cv.num y m (Cv.len y m) = B := ⟨_, rfl⟩
 rw [hB] at hnb
 try simp only [hl] at hB
 simp only [hB] at hD;have hX0 : ∀ W, Calls Tryz.prog 179 #[.int .i64 B] W fun e w' => e = .returned (.int .i64 (dow B)) ∧ w' = W := fun W => (civWeekday_any B W).mono fun _ _ ⟨a, b⟩ => ⟨a, b.symm⟩
 have hXb := dow_bd B;obtain ⟨X, hX⟩ : ∃ X, dow B = X := ⟨_, rfl⟩
 rw [hX] at hXb;simp only [hX] at hX0;have hres : Dy.res 1 0 d y m = B - (X - d) % 7 := by
  unfold Dy.res Dy.base;simp [hl, hB, hX]
 rw [hres];have HL := Lib.hid hL;have HD := Lib.hid hD;have HX := Lib.hid hX0;have HW := Lib.hid hW;obtain ⟨l1, l2⟩ := hl31;obtain ⟨n1, n2⟩ := hnb;obtain ⟨x1, x2⟩ := hXb;clear hL hl hW hD hX0 hX hB hres hR hv hc
 by_cases hr : -719162 ≤ B - (X - d) % 7 ∧ B - (X - d) % 7 < 2932897
 ·rw [if_pos hr, if_pos hr];obtain ⟨r1, r2⟩ := hr;have HOf := Lib.hid fun W => of_ok (B - (X - d) % 7) W r1 r2
  go_enter Tryz.func145, Tryz.ntmps145
  go_wp2_with fail
  refine (HC.out _).mono ?_;rintro e w1 ⟨rfl, hb1⟩;have hb' : Below (w.heap.size + 1) (w.alloc (.cells #[.int .u8 1, .int .i64 0, .int .i64 d] 110)) w1 := hb1.mono (by simp);obtain ⟨c0, c1, c2, _, _, _⟩ := new3 hb';have HB := Lib.hid (below_new hb');have HB' := Lib.hid hb';clear hb1 hb';go_wp2_with fail
  refine (HL.out _ (HW.out.below HB.out).lens).mono ?_;rintro e w2 ⟨rfl, rfl⟩;go_wp2_with fail
  refine (HD.out _ (HW.out.below HB.out).lens).mono ?_;rintro e w2 ⟨rfl, hb2⟩;have hb' := HB'.out.trans (hb2.mono (by have := HB'.out.size; simpa using this));clear c0 c1 c2 HB HB' hb2;obtain ⟨c0, c1, c2, _, _, _⟩ := new3 hb';have HB := Lib.hid (below_new hb');clear hb';go_wp2_with fail
  have s1 : IntKind.i64.wrap (X - d) = X - d := IntWalk.i64_in _ (by omega);have s2 : IntKind.i64.wrap (X - d + 7) = X - d + 7 := IntWalk.i64_in _ (by omega);have s3 : (X - d + 7).tmod 7 = (X - d + 7) % 7 := Int.tmod_eq_emod_of_nonneg (by omega);have s4 : IntKind.i64.wrap (B - (X - d) % 7) = B - (X - d) % 7 := IntWalk.i64_in _ (by omega);go_quiet ((go_at_call 179; exact Calls.quiet_of_same (HX.out _)))
  clear s1 s2 s3 s4;go_wp2_with fail
  refine (HOf.out _).mono ?_;rintro e w3 ⟨rfl, hb3⟩;go_wp2;go_ret2
  exact ⟨rfl, (HB.out.trans (((below_drewN (Below.refl _ w2) _).trans hb3).mono HB.out.size)).alloc (by have := HB.out.size; have := hb3.size; simp at this; omega) _⟩
 ·rw [if_neg hr, if_neg hr];have HOf := Lib.hid fun W => of_bad (B - (X - d) % 7) W (by omega)
  clear hr;go_enter Tryz.func145, Tryz.ntmps145
  go_wp2_with fail
  refine (HC.out _).mono ?_;rintro e w1 ⟨rfl, hb1⟩;have hb' : Below (w.heap.size + 1) (w.alloc (.cells #[.int .u8 1, .int .i64 0, .int .i64 d] 110)) w1 := hb1.mono (by simp);obtain ⟨c0, c1, c2, _, _, _⟩ := new3 hb';have HB := Lib.hid (below_new hb');have HB' := Lib.hid hb';clear hb1 hb';go_wp2_with fail
  refine (HL.out _ (HW.out.below HB.out).lens).mono ?_;rintro e w2 ⟨rfl, rfl⟩;go_wp2_with fail
  refine (HD.out _ (HW.out.below HB.out).lens).mono ?_;rintro e w2 ⟨rfl, hb2⟩;have hb' := HB'.out.trans (hb2.mono (by have := HB'.out.size; simpa using this));clear c0 c1 c2 HB HB' hb2;obtain ⟨c0, c1, c2, _, _, _⟩ := new3 hb';have HB := Lib.hid (below_new hb');clear hb';go_wp2_with fail
  have s1 : IntKind.i64.wrap (X - d) = X - d := IntWalk.i64_in _ (by omega);have s2 : IntKind.i64.wrap (X - d + 7) = X - d + 7 := IntWalk.i64_in _ (by omega);have s3 : (X - d + 7).tmod 7 = (X - d + 7) % 7 := Int.tmod_eq_emod_of_nonneg (by omega);have s4 : IntKind.i64.wrap (B - (X - d) % 7) = B - (X - d) % 7 := IntWalk.i64_in _ (by omega);go_quiet ((go_at_call 179; exact Calls.quiet_of_same (HX.out _)))
  clear s1 s2 s3 s4;go_wp2_with fail
  refine (HOf.out _).mono ?_;rintro e w3 ⟨rfl, hb3⟩;go_wp2;go_ret2
  exact ⟨rfl, (HB.out.trans (((below_drewN (Below.refl _ w2) _).trans hb3).mono HB.out.size)).alloc (by have := HB.out.size; have := hb3.size; simp at this; omega) _⟩
theorem in_k2 (n d y m : Int) (w : World) (hW : Wo w) (hc : InCal y m) (h1 : 1 ≤ n) (h2 : n ≤ 31) (d0 : 0 ≤ d) (d1 : d ≤ 6) (hn : n ≤ Cv.len y m) :
  Calls Tryz.prog 145 #[.agg #[.int .u8 2, .int .i64 n, .int .i64 d], .int .i64 y, .int .i64 m] w fun e w' => e = .returned (.tuple #[.int .i64 (if -719162 ≤ Dy.res 2 n d y m ∧ Dy.res 2 n d y m < 2932897 then Dy.res 2 n d y m else 0), .int .i64 (if -719162 ≤ Dy.res 2 n d y m ∧ Dy.res 2 n d y m < 2932897 then 0 else 1)]) ∧ Below w.heap.size w w' := by
 have HC := Lib.hid fun W => dayCheck_ok 2 n d W (.inr (.inr ⟨.inl rfl, h1, h2, d0, d1⟩))
 have hL := fun W (hw : Lens W) => length_ok y m W hw hc
 have hl31 : 28 ≤ Cv.len y m ∧ Cv.len y m ≤ 31 := by
  rw [Cv.len_month y m hc.2.2.1 hc.2.2.2];split
  ·split <;> omega
  ·split <;> omega
 have hv : Cv.Valid y m (n) := ⟨hc.1, hc.2.1, hc.2.2.1, hc.2.2.2, by omega, by omega⟩
 have hD := fun W (hw : Lens W) => days_ok y m (n) W hw hv
 obtain ⟨L, hl⟩ : ∃ L, Cv.len y m = L := ⟨_, rfl⟩
 rw [hl] at hl31 hn;simp only [hl] at hL
 try simp only [hl] at hD
 have hnb := num_bd y m (n) hv;have hR : Dy.res 2 n d y m = Dy.res 2 n d y m := rfl;obtain ⟨B, hB⟩ : ∃ B, Cv.num y m (n) = B := ⟨_, rfl⟩
 rw [hB] at hnb
 try simp only [hl] at hB
 simp only [hB] at hD;have hX0 : ∀ W, Calls Tryz.prog 179 #[.int .i64 B] W fun e w' => e = .returned (.int .i64 (dow B)) ∧ w' = W := fun W => (civWeekday_any B W).mono fun _ _ ⟨a, b⟩ => ⟨a, b.symm⟩
 have hXb := dow_bd B;obtain ⟨X, hX⟩ : ∃ X, dow B = X := ⟨_, rfl⟩
 rw [hX] at hXb;simp only [hX] at hX0;have hres : Dy.res 2 n d y m = B + (d - X) % 7 := by
  unfold Dy.res Dy.base;simp [hB, hX]
 rw [hres];have HL := Lib.hid hL;have HD := Lib.hid hD;have HX := Lib.hid hX0;have HW := Lib.hid hW;obtain ⟨l1, l2⟩ := hl31;obtain ⟨n1, n2⟩ := hnb;obtain ⟨x1, x2⟩ := hXb;clear hL hl hW hD hX0 hX hB hres hR hv hc
 by_cases hr : -719162 ≤ B + (d - X) % 7 ∧ B + (d - X) % 7 < 2932897
 ·rw [if_pos hr, if_pos hr];obtain ⟨r1, r2⟩ := hr;have HOf := Lib.hid fun W => of_ok (B + (d - X) % 7) W r1 r2
  go_enter Tryz.func145, Tryz.ntmps145
  go_wp2_with fail
  refine (HC.out _).mono ?_;rintro e w1 ⟨rfl, hb1⟩;have hb' : Below (w.heap.size + 1) (w.alloc (.cells #[.int .u8 2, .int .i64 n, .int .i64 d] 110)) w1 := hb1.mono (by simp);obtain ⟨c0, c1, c2, _, _, _⟩ := new3 hb';have HB := Lib.hid (below_new hb');have HB' := Lib.hid hb';clear hb1 hb';go_wp2_with fail
  refine (HL.out _ (HW.out.below HB.out).lens).mono ?_;rintro e w2 ⟨rfl, rfl⟩;go_wp2_with fail
  refine (HD.out _ (HW.out.below HB.out).lens).mono ?_;rintro e w2 ⟨rfl, hb2⟩;have hb' := HB'.out.trans (hb2.mono (by have := HB'.out.size; simpa using this));clear c0 c1 c2 HB HB' hb2;obtain ⟨c0, c1, c2, _, _, _⟩ := new3 hb';have HB := Lib.hid (below_new hb');clear hb';go_wp2_with fail
  have s1 : IntKind.i64.wrap (d - X) = d - X := IntWalk.i64_in _ (by omega);have s2 : IntKind.i64.wrap (d - X + 7) = d - X + 7 := IntWalk.i64_in _ (by omega);have s3 : (d - X + 7).tmod 7 = (d - X + 7) % 7 := Int.tmod_eq_emod_of_nonneg (by omega);have s4 : IntKind.i64.wrap (B + (d - X) % 7) = B + (d - X) % 7 := IntWalk.i64_in _ (by omega);go_quiet ((go_at_call 179; exact Calls.quiet_of_same (HX.out _)))
  clear s1 s2 s3 s4;go_wp2_with fail
  refine (HOf.out _).mono ?_;rintro e w3 ⟨rfl, hb3⟩;go_wp2;go_ret2
  exact ⟨rfl, (HB.out.trans (((below_drewN (Below.refl _ w2) _).trans hb3).mono HB.out.size)).alloc (by have := HB.out.size; have := hb3.size; simp at this; omega) _⟩
 ·rw [if_neg hr, if_neg hr];have HOf := Lib.hid fun W => of_bad (B + (d - X) % 7) W (by omega)
  clear hr;go_enter Tryz.func145, Tryz.ntmps145
  go_wp2_with fail
  refine (HC.out _).mono ?_;rintro e w1 ⟨rfl, hb1⟩;have hb' : Below (w.heap.size + 1) (w.alloc (.cells #[.int .u8 2, .int .i64 n, .int .i64 d] 110)) w1 := hb1.mono (by simp);obtain ⟨c0, c1, c2, _, _, _⟩ := new3 hb';have HB := Lib.hid (below_new hb');have HB' := Lib.hid hb';clear hb1 hb';go_wp2_with fail
  refine (HL.out _ (HW.out.below HB.out).lens).mono ?_;rintro e w2 ⟨rfl, rfl⟩;go_wp2_with fail
  refine (HD.out _ (HW.out.below HB.out).lens).mono ?_;rintro e w2 ⟨rfl, hb2⟩;have hb' := HB'.out.trans (hb2.mono (by have := HB'.out.size; simpa using this));clear c0 c1 c2 HB HB' hb2;obtain ⟨c0, c1, c2, _, _, _⟩ := new3 hb';have HB := Lib.hid (below_new hb');clear hb';go_wp2_with fail
  have s1 : IntKind.i64.wrap (d - X) = d - X := IntWalk.i64_in _ (by omega);have s2 : IntKind.i64.wrap (d - X + 7) = d - X + 7 := IntWalk.i64_in _ (by omega);have s3 : (d - X + 7).tmod 7 = (d - X + 7) % 7 := Int.tmod_eq_emod_of_nonneg (by omega);have s4 : IntKind.i64.wrap (B + (d - X) % 7) = B + (d - X) % 7 := IntWalk.i64_in _ (by omega);go_quiet ((go_at_call 179; exact Calls.quiet_of_same (HX.out _)))
  clear s1 s2 s3 s4;go_wp2_with fail
  refine (HOf.out _).mono ?_;rintro e w3 ⟨rfl, hb3⟩;go_wp2;go_ret2
  exact ⟨rfl, (HB.out.trans (((below_drewN (Below.refl _ w2) _).trans hb3).mono HB.out.size)).alloc (by have := HB.out.size; have := hb3.size; simp at this; omega) _⟩
theorem in_k3 (n d y m : Int) (w : World) (hW : Wo w) (hc : InCal y m) (h1 : 1 ≤ n) (h2 : n ≤ 31) (d0 : 0 ≤ d) (d1 : d ≤ 6) (hn : n ≤ Cv.len y m) :
  Calls Tryz.prog 145 #[.agg #[.int .u8 3, .int .i64 n, .int .i64 d], .int .i64 y, .int .i64 m] w fun e w' => e = .returned (.tuple #[.int .i64 (if -719162 ≤ Dy.res 3 n d y m ∧ Dy.res 3 n d y m < 2932897 then Dy.res 3 n d y m else 0), .int .i64 (if -719162 ≤ Dy.res 3 n d y m ∧ Dy.res 3 n d y m < 2932897 then 0 else 1)]) ∧ Below w.heap.size w w' := by
 have HC := Lib.hid fun W => dayCheck_ok 3 n d W (.inr (.inr ⟨.inr rfl, h1, h2, d0, d1⟩))
 have hL := fun W (hw : Lens W) => length_ok y m W hw hc
 have hl31 : 28 ≤ Cv.len y m ∧ Cv.len y m ≤ 31 := by
  rw [Cv.len_month y m hc.2.2.1 hc.2.2.2];split
  ·split <;> omega
  ·split <;> omega
 have hv : Cv.Valid y m (n) := ⟨hc.1, hc.2.1, hc.2.2.1, hc.2.2.2, by omega, by omega⟩
 have hD := fun W (hw : Lens W) => days_ok y m (n) W hw hv
 obtain ⟨L, hl⟩ : ∃ L, Cv.len y m = L := ⟨_, rfl⟩
 rw [hl] at hl31 hn;simp only [hl] at hL
 try simp only [hl] at hD
 have hnb := num_bd y m (n) hv;have hR : Dy.res 3 n d y m = Dy.res 3 n d y m := rfl;obtain ⟨B, hB⟩ : ∃ B, Cv.num y m (n) = B := ⟨_, rfl⟩
 rw [hB] at hnb
 try simp only [hl] at hB
 simp only [hB] at hD;have hX0 : ∀ W, Calls Tryz.prog 179 #[.int .i64 B] W fun e w' => e = .returned (.int .i64 (dow B)) ∧ w' = W := fun W => (civWeekday_any B W).mono fun _ _ ⟨a, b⟩ => ⟨a, b.symm⟩
 have hXb := dow_bd B;obtain ⟨X, hX⟩ : ∃ X, dow B = X := ⟨_, rfl⟩
 rw [hX] at hXb;simp only [hX] at hX0;have hres : Dy.res 3 n d y m = B - (X - d) % 7 := by
  unfold Dy.res Dy.base;simp [hB, hX]
 rw [hres];have HL := Lib.hid hL;have HD := Lib.hid hD;have HX := Lib.hid hX0;have HW := Lib.hid hW;obtain ⟨l1, l2⟩ := hl31;obtain ⟨n1, n2⟩ := hnb;obtain ⟨x1, x2⟩ := hXb;clear hL hl hW hD hX0 hX hB hres hR hv hc
 by_cases hr : -719162 ≤ B - (X - d) % 7 ∧ B - (X - d) % 7 < 2932897
 ·rw [if_pos hr, if_pos hr];obtain ⟨r1, r2⟩ := hr;have HOf := Lib.hid fun W => of_ok (B - (X - d) % 7) W r1 r2
  go_enter Tryz.func145, Tryz.ntmps145
  go_wp2_with fail
  refine (HC.out _).mono ?_;rintro e w1 ⟨rfl, hb1⟩;have hb' : Below (w.heap.size + 1) (w.alloc (.cells #[.int .u8 3, .int .i64 n, .int .i64 d] 110)) w1 := hb1.mono (by simp);obtain ⟨c0, c1, c2, _, _, _⟩ := new3 hb';have HB := Lib.hid (below_new hb');have HB' := Lib.hid hb';clear hb1 hb';go_wp2_with fail
  refine (HL.out _ (HW.out.below HB.out).lens).mono ?_;rintro e w2 ⟨rfl, rfl⟩;go_wp2_with fail
  refine (HD.out _ (HW.out.below HB.out).lens).mono ?_;rintro e w2 ⟨rfl, hb2⟩;have hb' := HB'.out.trans (hb2.mono (by have := HB'.out.size; simpa using this));clear c0 c1 c2 HB HB' hb2;obtain ⟨c0, c1, c2, _, _, _⟩ := new3 hb';have HB := Lib.hid (below_new hb');clear hb';go_wp2_with fail
  have s1 : IntKind.i64.wrap (X - d) = X - d := IntWalk.i64_in _ (by omega);have s2 : IntKind.i64.wrap (X - d + 7) = X - d + 7 := IntWalk.i64_in _ (by omega);have s3 : (X - d + 7).tmod 7 = (X - d + 7) % 7 := Int.tmod_eq_emod_of_nonneg (by omega);have s4 : IntKind.i64.wrap (B - (X - d) % 7) = B - (X - d) % 7 := IntWalk.i64_in _ (by omega);go_quiet ((go_at_call 179; exact Calls.quiet_of_same (HX.out _)))
  clear s1 s2 s3 s4;go_wp2_with fail
  refine (HOf.out _).mono ?_;rintro e w3 ⟨rfl, hb3⟩;go_wp2;go_ret2
  exact ⟨rfl, (HB.out.trans (((below_drewN (Below.refl _ w2) _).trans hb3).mono HB.out.size)).alloc (by have := HB.out.size; have := hb3.size; simp at this; omega) _⟩
 ·rw [if_neg hr, if_neg hr];have HOf := Lib.hid fun W => of_bad (B - (X - d) % 7) W (by omega)
  clear hr;go_enter Tryz.func145, Tryz.ntmps145
  go_wp2_with fail
  refine (HC.out _).mono ?_;rintro e w1 ⟨rfl, hb1⟩;have hb' : Below (w.heap.size + 1) (w.alloc (.cells #[.int .u8 3, .int .i64 n, .int .i64 d] 110)) w1 := hb1.mono (by simp);obtain ⟨c0, c1, c2, _, _, _⟩ := new3 hb';have HB := Lib.hid (below_new hb');have HB' := Lib.hid hb';clear hb1 hb';go_wp2_with fail
  refine (HL.out _ (HW.out.below HB.out).lens).mono ?_;rintro e w2 ⟨rfl, rfl⟩;go_wp2_with fail
  refine (HD.out _ (HW.out.below HB.out).lens).mono ?_;rintro e w2 ⟨rfl, hb2⟩;have hb' := HB'.out.trans (hb2.mono (by have := HB'.out.size; simpa using this));clear c0 c1 c2 HB HB' hb2;obtain ⟨c0, c1, c2, _, _, _⟩ := new3 hb';have HB := Lib.hid (below_new hb');clear hb';go_wp2_with fail
  have s1 : IntKind.i64.wrap (X - d) = X - d := IntWalk.i64_in _ (by omega);have s2 : IntKind.i64.wrap (X - d + 7) = X - d + 7 := IntWalk.i64_in _ (by omega);have s3 : (X - d + 7).tmod 7 = (X - d + 7) % 7 := Int.tmod_eq_emod_of_nonneg (by omega);have s4 : IntKind.i64.wrap (B - (X - d) % 7) = B - (X - d) % 7 := IntWalk.i64_in _ (by omega);go_quiet ((go_at_call 179; exact Calls.quiet_of_same (HX.out _)))
  clear s1 s2 s3 s4;go_wp2_with fail
  refine (HOf.out _).mono ?_;rintro e w3 ⟨rfl, hb3⟩;go_wp2;go_ret2
  exact ⟨rfl, (HB.out.trans (((below_drewN (Below.refl _ w2) _).trans hb3).mono HB.out.size)).alloc (by have := HB.out.size; have := hb3.size; simp at this; omega) _⟩
end Go.Proofs.YtjobhjemnmleaaaGreatDoor
namespace Go.Proofs.YtjobhjemnmleaaaGreatDoor
open Go.RowKit
theorem inS_ok (k n d y m : Int) (h : Dy.Ok k n d) (hc : InCal y m) (hn : ¬ n > Cv.len y m) : Dy.inS k n d y m = (if -719162 ≤ Dy.res k n d y m ∧ Dy.res k n d y m < 2932897 then Dy.res k n d y m else 0, if -719162 ≤ Dy.res k n d y m ∧ Dy.res k n d y m < 2932897 then 0 else 1) := by
 unfold Dy.inS;rw [if_neg (fun x => x h), if_neg (fun x => x hc), if_neg hn]
 by_cases hr : -719162 ≤ Dy.res k n d y m ∧ Dy.res k n d y m < 2932897
 ·rw [if_pos hr, if_pos hr, if_pos hr]
 ·rw [if_neg hr, if_neg hr, if_neg hr]
theorem in_any (k n d y m : Int) (w : World) (hW : Wo w) :
  Calls Tryz.prog 145 #[.agg #[.int .u8 k, .int .i64 n, .int .i64 d], .int .i64 y, .int .i64 m] w fun e w' => e = .returned (.tuple #[.int .i64 (Dy.inS k n d y m).1, .int .i64 (Dy.inS k n d y m).2]) ∧ Below w.heap.size w w' := by
 by_cases h : Dy.Ok k n d
 ·by_cases hc : InCal y m
  ·by_cases hn : n > Cv.len y m
   ·have e : Dy.inS k n d y m = (0, 3) := by unfold Dy.inS; rw [if_neg (fun x => x h), if_neg (fun x => x hc), if_pos hn]
    rw [e];exact in_none k n d y m w hW h hc hn
   ·rw [inS_ok k n d y m h hc hn];rcases h with ⟨rfl, h1, h2, rfl⟩ | ⟨rfl, rfl, h1, h2⟩ | ⟨rfl | rfl, h1, h2, h3, h4⟩
    ·exact in_k0 n y m w hW hc h1 h2 (by omega)
    ·exact in_k1 d y m w hW hc h1 h2
    ·exact in_k2 n d y m w hW hc h1 h2 h3 h4 (by omega)
    ·exact in_k3 n d y m w hW hc h1 h2 h3 h4 (by omega)
  ·have e : Dy.inS k n d y m = (0, 1) := by unfold Dy.inS; rw [if_neg (fun x => x h), if_pos (show ¬ (1 ≤ y ∧ y ≤ 9999 ∧ 1 ≤ m ∧ m ≤ 12) from hc)]
   rw [e];exact in_range k n d y m w h hc
 ·have e : Dy.inS k n d y m = (0, 2) := by unfold Dy.inS; rw [if_pos h]
  rw [e];exact in_form k n d y m w h
theorem in_is (k n d y m : Int) (w : World) (hW : Wo w) (a b : Int) (h : Dy.inS k n d y m = (a, b)) :
  Calls Tryz.prog 145 #[.agg #[.int .u8 k, .int .i64 n, .int .i64 d], .int .i64 y, .int .i64 m] w fun e w' => e = .returned (.tuple #[.int .i64 a, .int .i64 b]) ∧ Below w.heap.size w w' :=
 calls_val (in_any k n d y m w hW) (by rw [h])
def IsTime (s : Int) : Prop := -604800 ≤ s ∧ s ≤ 604800
instance (s : Int) : Decidable (IsTime s) := by unfold IsTime; exact inferInstance
def InT (s : Int) : Prop := -1099511627776 ≤ s ∧ s ≤ 1099511627776
instance (s : Int) : Decidable (InT s) := by unfold InT; exact inferInstance
theorem isTime_any (s : Int) (w : World) :
  Calls Tryz.prog 180 #[.int .i64 s] w fun e w' => e = .returned (.bool (decide (IsTime s))) ∧ w = w' := by
 by_cases h : IsTime s
 ·have HD := Lib.hid (decide_eq_true h);obtain ⟨h1, h2⟩ := h;go_enter Tryz.func180, Tryz.ntmps180
  go_wp2;go_ret
  exact ⟨ret_bool (by rw [HD.out]), rfl⟩
 ·have HD := Lib.hid (decide_eq_false h);have h' : s < -604800 ∨ 604800 < s := by unfold IsTime at h; omega
  clear h
  by_cases h1 : s < -604800
  ·clear h';go_enter Tryz.func180, Tryz.ntmps180
   go_wp2;go_ret
   exact ⟨ret_bool (by rw [HD.out]), rfl⟩
  ·have h2 : 604800 < s := by omega
   clear h';go_enter Tryz.func180, Tryz.ntmps180
   go_wp2;go_ret
   exact ⟨ret_bool (by rw [HD.out]; first | (simp; done) | (simp; omega)), rfl⟩
theorem at_ok (d s : Int) (w : World) (h1 : -719162 ≤ d) (h2 : d < 2932897) (h3 : IsTime s) :
  Calls Tryz.prog 146 #[.int .i64 d, .int .i64 s] w fun e w' => e = .returned (.tuple #[.int .i64 (d * 86400 + s), .int .i64 0]) ∧ Below w.heap.size w w' := by
 have HO := Lib.hid fun W => of_ok d W h1 h2
 have HT := Lib.hid fun W => calls_bool (isTime_any s W) (decide_eq_true h3)
 obtain ⟨s1, s2⟩ := h3;go_enter Tryz.func146, Tryz.ntmps146
 go_wp2_with fail
 refine (HO.out _).mono ?_;rintro e w1 ⟨rfl, hb⟩;go_wp2_with fail
 refine (HT.out _).mono ?_;rintro e w2 ⟨rfl, rfl⟩;go_wp2;go_ret2
 exact ⟨rfl, hb.alloc hb.size _⟩
theorem ret_int22 {k : IntKind} {a b c d : Int} (h : a = b) (h' : c = d) : Ending.returned (.tuple #[.int k a, .int k c]) = .returned (.tuple #[.int k b, .int k d]) := by rw [h, h']
theorem split_any (t : Int) (w : World) (h0 : -9223372036854775808 ≤ t) (h1 : t ≤ 9223372036854775807) :
  Calls Tryz.prog 74 #[.int .i64 t] w fun e w' => e = .returned (.tuple #[.int .i64 (t / 86400), .int .i64 (t % 86400)]) ∧ w = w' := by
 by_cases hp : 0 ≤ t
 ·go_enter Tryz.func74, Tryz.ntmps74
  go_wp2;go_ret2
  exact ⟨rfl, rfl⟩
 ·obtain ⟨u, rfl⟩ : ∃ u, t = -u := ⟨-t, by omega⟩
  have e1 : (-u).tdiv 86400 = -(u / 86400) := by rw [Int.neg_tdiv, Int.tdiv_eq_ediv_of_nonneg (by omega)]
  have e2 : (-u).tmod 86400 = -(u % 86400) := by rw [Int.neg_tmod, Int.tmod_eq_emod_of_nonneg (by omega)]
  by_cases hz : u % 86400 = 0
  ·have hneg : ¬ (-(u % 86400) < 0) := by omega
   have b1 : 0 < u := by omega
   have b2 : u ≤ 9223372036854775808 := by omega
   have HZ := Lib.hid hz;clear hz h0 h1 hp;go_enter Tryz.func74, Tryz.ntmps74
   go_wp2;go_ret2
   exact ⟨ret_int22 (by have := HZ.out; omega) (by have := HZ.out; omega), rfl⟩
  ·have hneg : -(u % 86400) < 0 := by omega
   have b1 : 0 < u := by omega
   have b2 : u ≤ 9223372036854775808 := by omega
   have HZ := Lib.hid hz;clear hz h0 h1 hp;go_enter Tryz.func74, Tryz.ntmps74
   go_wp2;go_ret2
   exact ⟨ret_int22 (by have := HZ.out; omega) (by have := HZ.out; omega), rfl⟩
theorem year_ok (t : Int) (w : World) (h1 : -719162 ≤ t / 86400) (h2 : t / 86400 < 2932897) :
  Calls Tryz.prog 32 #[.int .i64 t] w fun e w' => e = .returned (.tuple #[.int .i64 (Cv.yearOf (t / 86400)), .int .i64 0]) ∧ Below w.heap.size w w' := by
 have HS := Lib.hid fun W => split_any t W (by omega) (by omega)
 have HO := Lib.hid fun W => of_ok (t / 86400) W h1 h2
 clear h1 h2;go_enter Tryz.func32, Tryz.ntmps32
 go_wp2_with fail
 refine (HS.out _).mono ?_;rintro e w1 ⟨rfl, rfl⟩;go_wp2_with fail
 refine (HO.out _).mono ?_;rintro e w2 ⟨rfl, hb⟩;go_wp2;go_ret2
 exact ⟨rfl, hb.alloc hb.size _⟩
theorem year_bad (t : Int) (w : World) (h0 : -9223372036854775808 ≤ t) (h1 : t ≤ 9223372036854775807) (h : ¬ (-719162 ≤ t / 86400 ∧ t / 86400 < 2932897)) :
  Calls Tryz.prog 32 #[.int .i64 t] w fun e w' => e = .returned (.tuple #[.int .i64 0, .int .i64 1]) ∧ Below w.heap.size w w' := by
 have HS := Lib.hid fun W => split_any t W h0 h1
 have HO := Lib.hid fun W => of_bad (t / 86400) W (by omega)
 clear h0 h1 h;go_enter Tryz.func32, Tryz.ntmps32
 go_wp2_with fail
 refine (HS.out _).mono ?_;rintro e w1 ⟨rfl, rfl⟩;go_wp2_with fail
 refine (HO.out _).mono ?_;rintro e w2 ⟨rfl, hb⟩;go_wp2;go_ret2
 exact ⟨rfl, hb.alloc hb.size _⟩
namespace Ck
def numC (l : List UInt8) (least most : Nat) : Int := if l.length < least ∨ most < l.length then -1 else Dy.numLoop l 0
end Ck
end Go.Proofs.YtjobhjemnmleaaaGreatDoor
namespace Go.Proofs.YtjobhjemnmleaaaGreatDoor
open Go.RowKit
namespace Ck
def part (i : Nat) : Int := if i = 0 then 3600 else if i = 1 then 60 else 1
def least (i : Nat) : Nat := if i = 0 then 1 else 2
def most (i : Nat) : Nat := if i = 0 then 3 else 2
def bad (v : Int) (i : Nat) : Bool := decide (v = -1) || (decide (0 < i) && decide (60 ≤ v))
def loop : List ByteArray → Nat → Int → Option Int
 | [], _, s => some s
 | f :: r, i, s => if bad (numC (tl f) (least i) (most i)) i = true then none else loop r (i + 1) (s + numC (tl f) (least i) (most i) * part i)
def fin (o : Option Int) (b : Bool) : Int × Int :=
 match o with
 | none => (0, 4)
 | some v => if IsTime (if b then -v else v) then (if b then -v else v, 0) else (0, 1)
def rest (s : ByteArray) : ByteArray := ⟨(Lib.trimPrefix s.data.toList [45]).toArray⟩
def fields (r : ByteArray) : List ByteArray := Lib.splitB ⟨#[58]⟩ 0 (min 4 (r.size + 1) - 1) r
def parse (s : ByteArray) : Int × Int := if 3 < (fields (rest s)).length then (0, 4) else fin (loop (fields (rest s)) 0 0) (Lib.hasPrefix s.data.toList [45])
end Ck
end Go.Proofs.YtjobhjemnmleaaaGreatDoor
