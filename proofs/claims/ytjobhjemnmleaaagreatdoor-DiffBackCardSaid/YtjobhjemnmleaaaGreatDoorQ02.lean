/- The contracts of package civil. -/
import Derived.Test.YtjobhjemnmleaaaGreatDoorQ01
import Derived.Deep.DeepCutAuto
namespace Go.Proofs.YtjobhjemnmleaaaGreatDoor
open Go.RowKit
def Lens (w : World) : Prop := ∀ k : Nat, k < 12 → w.cell? ⟨0, k, none⟩ = some (.int .i64 (Cv.lens.getD k 0))
theorem Lens.lt {w : World} (h : Lens w) : 0 < w.heap.size := block_lt_of_cell (h 0 (by omega))
theorem Lens.below {w w' : World} (h : Lens w) (hb : Below w.heap.size w w') : Lens w' := fun k hk => (hb.cell (p := ⟨_, k, none⟩) h.lt).trans (h k hk)
def InCal (y m : Int) : Prop := 1 ≤ y ∧ y ≤ 9999 ∧ 1 ≤ m ∧ m ≤ 12
theorem leap_any (y : Int) (w : World) (h0 : 1 ≤ y) (h1 : y ≤ 9999) :
  Calls Tryz.prog 189 #[.int .i64 y] w fun e w' => e = .returned (.bool (Cv.leap y)) ∧ w = w' := by
 go_enter Tryz.func189, Tryz.ntmps189
 go_wp2
 all_goals go_ret
 all_goals refine ⟨ret_bool ?_, rfl⟩
 all_goals (unfold Cv.leap; simp_all)
theorem length_bad (y m : Int) (w : World) (h : ¬ InCal y m) :
  Calls Tryz.prog 155 #[.int .i64 y, .int .i64 m] w fun e w' => e = .returned (.tuple #[.int .i64 0, .int .i64 1]) ∧ w = w' := by
 unfold InCal at h
 by_cases h1 : y < 1
 ·clear h;go_enter Tryz.func155, Tryz.ntmps155
  go_wp2;go_ret2
  exact ⟨rfl, rfl⟩
 by_cases h2 : 9999 < y
 ·clear h;go_enter Tryz.func155, Tryz.ntmps155
  go_wp2;go_ret2
  exact ⟨rfl, rfl⟩
 by_cases h3 : m < 1
 ·clear h;go_enter Tryz.func155, Tryz.ntmps155
  go_wp2;go_ret2
  exact ⟨rfl, rfl⟩
 have h4 : 12 < m := by omega
 clear h;go_enter Tryz.func155, Tryz.ntmps155
 go_wp2;go_ret2
 exact ⟨rfl, rfl⟩
theorem ret_int2 {k : IntKind} {a b : Int} {v : Value} (h : a = b) : Ending.returned (.tuple #[.int k a, v]) = .returned (.tuple #[.int k b, v]) := by rw [h]
theorem length_ok (y m : Int) (w : World) (hL : Lens w) (h : InCal y m) :
  Calls Tryz.prog 155 #[.int .i64 y, .int .i64 m] w fun e w' => e = .returned (.tuple #[.int .i64 (Cv.len y m), .int .i64 0]) ∧ w = w' := by
 obtain ⟨h1, h2, h3, h4⟩ := h;have hc := hL (m - 1).toNat (by omega);have hi : (((m - 1).toNat : Nat) : Int) = m - 1 := by omega
 obtain ⟨k, rfl⟩ : ∃ k : Nat, m = (k : Int) + 1 := ⟨(m - 1).toNat, by omega⟩
 have hk : ((k : Int) + 1 - 1).toNat = k := by omega
 rw [hk] at hc;have hE : Cv.len y ((k : Int) + 1) = if ((k : Int) + 1) = 2 ∧ Cv.leap y = true then 29 else Cv.lens.getD k 0 := by unfold Cv.len; rw [hk]
 have q1 : (0 : Int) ≤ (k : Int) := by omega
 have q2 : (k : Int) < 12 := by omega
 have HE := Lib.hid hE;clear hE hk hi hL;obtain ⟨v, hv⟩ : ∃ v, Cv.lens.getD k 0 = v := ⟨_, rfl⟩
 rw [hv] at hc;have HV := Lib.hid hv;clear hv
 by_cases h5 : k = 1
 ·subst h5;have t1 : (((1 : Nat) : Int) + 1 == 2) = true := by decide
  cases hl : Cv.leap y
  ·have HL := Lib.hid hl;clear hl;go_enter Tryz.func155, Tryz.ntmps155
   go_wp2_with (go_at_call 189; refine (leap_any y _ h1 h2).mono ?_; rw [HL.out]; rintro e w1 ⟨rfl, rfl⟩)
   go_ret2
   exact ⟨ret_int2 (by rw [HE.out, HL.out, HV.out]; simp), rfl⟩
  ·have HL := Lib.hid hl;clear hl;go_enter Tryz.func155, Tryz.ntmps155
   go_wp2_with (go_at_call 189; refine (leap_any y _ h1 h2).mono ?_; rw [HL.out]; rintro e w1 ⟨rfl, rfl⟩)
   go_ret2
   exact ⟨ret_int2 (by rw [HE.out, HL.out]; simp), rfl⟩
 ·have t1 : ((k : Int) + 1 == 2) = false := by simp; omega
  have H5 := Lib.hid h5;clear h5;go_enter Tryz.func155, Tryz.ntmps155
  go_wp2;go_ret2
  exact ⟨ret_int2 (by rw [HE.out, HV.out, if_neg]; have := H5.out; omega), rfl⟩
theorem number_any (y m d : Int) (w : World) (hy : 1 ≤ y ∧ y ≤ 10000) (hm : 1 ≤ m ∧ m ≤ 12) (hd : 1 ≤ d ∧ d ≤ 31) :
  Calls Tryz.prog 100 #[.int .i64 y, .int .i64 m, .int .i64 d] w fun e w' => e = .returned (.int .i64 (Cv.num y m d)) ∧ w = w' := by
 obtain ⟨h1, h2⟩ := hy;obtain ⟨h3, h4⟩ := hm;obtain ⟨h5, h6⟩ := hd
 by_cases hlt : m < 3
 ·go_enter Tryz.func100, Tryz.ntmps100
  go_wp2;go_ret
  refine ⟨ret_int ?_, rfl⟩;unfold Cv.num Cv.begun Cv.my Cv.mm;simp only [if_pos hlt];rw [show m - 3 + 12 = m + 9 by omega]
 ·go_enter Tryz.func100, Tryz.ntmps100
  go_wp2;go_ret
  refine ⟨ret_int ?_, rfl⟩;have hge : ¬ m < 3 := by omega
  unfold Cv.num Cv.begun Cv.my Cv.mm;simp only [if_neg hge]
theorem check_ok (y m d : Int) (w : World) (hL : Lens w) (h : Cv.Valid y m d) :
  Calls Tryz.prog 203 #[.agg #[.int .i64 y, .int .i64 m, .int .i64 d]] w fun e w' => e = .returned (.int .i64 0) ∧ Below w.heap.size w w' := by
 obtain ⟨h1, h2, h3, h4, h5, h6⟩ := h;have hl := length_ok y m (w.alloc (.cells #[.int .i64 y, .int .i64 m, .int .i64 d] 174)) (hL.below ((Below.refl _ _).alloc (Nat.le_refl _) _)) ⟨h1, h2, h3, h4⟩;obtain ⟨n, hn⟩ : ∃ n, Cv.len y m = n := ⟨_, rfl⟩
 rw [hn] at hl h6;have HN := Lib.hid hl;clear hn hl hL;go_enter Tryz.func203, Tryz.ntmps203
 go_wp2_with (go_at_call 155; refine HN.out.mono ?_; rintro e w1 ⟨rfl, rfl⟩)
 go_ret
 exact ⟨rfl, (Below.refl _ _).alloc (Nat.le_refl _) _⟩
theorem valid_31 {y m d : Int} (h : Cv.Valid y m d) : 1 ≤ d ∧ d ≤ 31 := by
 obtain ⟨h1, h2, h3, h4, h5, h6⟩ := h;rw [Cv.len_month y m h3 h4] at h6;refine ⟨h5, ?_⟩;split at h6
 ·split at h6 <;> omega
 ·split at h6 <;> omega
theorem days_ok (y m d : Int) (w : World) (hL : Lens w) (h : Cv.Valid y m d) :
  Calls Tryz.prog 178 #[.agg #[.int .i64 y, .int .i64 m, .int .i64 d]] w fun e w' => e = .returned (.tuple #[.int .i64 (Cv.num y m d), .int .i64 0]) ∧ Below w.heap.size w w' := by
 have HC := Lib.hid (check_ok y m d (w.alloc (.cells #[.int .i64 y, .int .i64 m, .int .i64 d] 174)) (hL.below ((Below.refl _ _).alloc (Nat.le_refl _) _)) h);have h31 := valid_31 h;obtain ⟨h1, h2, h3, h4, h5, h6⟩ := h;have HNum := fun W => number_any y m d W ⟨h1, by omega⟩ ⟨h3, h4⟩ h31
 have HN := Lib.hid HNum;clear HNum hL h6;go_enter Tryz.func178, Tryz.ntmps178
 go_wp2_with fail
 refine HC.out.mono ?_;rintro e w1 ⟨rfl, hb⟩;have c0 := (hb.cell (p := ⟨w.heap.size, 0, none⟩) (by simp)).trans (cell_of_row _ w.heap.size 0 _ _ _ (heap_alloc_new w _));have c1 := (hb.cell (p := ⟨w.heap.size, 1, none⟩) (by simp)).trans (cell_of_row _ w.heap.size 1 _ _ _ (heap_alloc_new w _));have c2 := (hb.cell (p := ⟨w.heap.size, 2, none⟩) (by simp)).trans (cell_of_row _ w.heap.size 2 _ _ _ (heap_alloc_new w _));go_wp2_with (go_at_call 100; refine (HN.out _).mono ?_; rintro e w2 ⟨rfl, rfl⟩)
 go_ret2
 exact ⟨rfl, ((Below.refl _ _).alloc (Nat.le_refl _) _).trans (hb.mono (by simp))⟩
def dow (n : Int) : Int := (n % 7 + 4) % 7
theorem tmod_7 (n : Int) : n.tmod 7 = if 0 ≤ n then n % 7 else -((-n) % 7) := by
 by_cases h : 0 ≤ n
 ·rw [if_pos h, Int.tmod_eq_emod_of_nonneg h]
 ·rw [if_neg h];have : n = -(-n) := by omega
  rw [this, Int.neg_tmod, Int.tmod_eq_emod_of_nonneg (by omega)];omega
theorem dow_walk (n : Int) : (wrap64 (n.tmod 7 + 11)).tmod 7 = dow n := by
 have h := tmod_7 n;have hb : 0 ≤ n.tmod 7 + 11 ∧ n.tmod 7 + 11 ≤ 17 := by rw [h]; split <;> omega
 have hw : wrap64 (n.tmod 7 + 11) = n.tmod 7 + 11 := by unfold wrap64; omega
 rw [hw, Int.tmod_eq_emod_of_nonneg hb.1, h];unfold dow;split <;> omega
theorem civWeekday_any (n : Int) (w : World) :
  Calls Tryz.prog 179 #[.int .i64 n] w fun e w' => e = .returned (.int .i64 (dow n)) ∧ w = w' := by
 go_enter Tryz.func179, Tryz.ntmps179
 go_wp2;go_ret
 exact ⟨ret_int (dow_walk n), rfl⟩
theorem first_bad (y : Int) (w : World) (h : y < 1 ∨ 10000 < y) :
  Calls Tryz.prog 57 #[.int .i64 y] w fun e w' => e = .returned (.tuple #[.int .i64 0, .int .i64 1]) ∧ w = w' := by
 by_cases h1 : y < 1
 ·clear h;go_enter Tryz.func57, Tryz.ntmps57
  go_wp2;go_ret2
  exact ⟨rfl, rfl⟩
 ·have h2 : 10000 < y := by omega
  clear h;go_enter Tryz.func57, Tryz.ntmps57
  go_wp2;go_ret2
  exact ⟨rfl, rfl⟩
theorem first_ok (y : Int) (w : World) (h0 : 1 ≤ y) (h1 : y ≤ 10000) :
  Calls Tryz.prog 57 #[.int .i64 y] w fun e w' => e = .returned (.tuple #[.int .i64 (Cv.num y 1 1), .int .i64 0]) ∧ w = w' := by
 go_enter Tryz.func57, Tryz.ntmps57
 go_wp2_with (go_at_call 100; refine (number_any y 1 1 _ ⟨h0, h1⟩ (by omega) (by omega)).mono ?_; rintro e w2 ⟨rfl, rfl⟩)
 go_ret2
 exact ⟨rfl, rfl⟩
theorem num_min : Cv.num 1 1 1 = -719162 := by decide
theorem num_max : Cv.num 10000 1 1 = 2932897 := by decide
theorem of_bad (n : Int) (w : World) (h : n < -719162 ∨ 2932897 ≤ n) :
  Calls Tryz.prog 75 #[.int .i64 n] w fun e w' => e = .returned (.tuple #[.agg #[.int .i64 0, .int .i64 0, .int .i64 0], .int .i64 1]) ∧ Below w.heap.size w w' := by
 have A1 := Lib.hid fun W => calls_int (number_any 1 1 1 W (by omega) (by omega) (by omega)) num_min
 have A2 := Lib.hid fun W => calls_int (number_any 10000 1 1 W (by omega) (by omega) (by omega)) num_max
 by_cases h1 : n < -719162
 ·clear h;go_enter Tryz.func75, Tryz.ntmps75
  go_wp2_with fail
  refine (A1.out _).mono ?_;rintro e w1 ⟨rfl, rfl⟩;go_wp2;exact bodyPost_ret (v := .tuple #[.agg #[.int .i64 0, .int .i64 0, .int .i64 0], .int .i64 1]) (by simp [results, Tryz.results75, go_sem]) rfl ⟨rfl, (Below.refl _ _).alloc (Nat.le_refl _) _⟩
 ·have h2 : 2932897 ≤ n := by omega
  clear h;go_enter Tryz.func75, Tryz.ntmps75
  go_wp2_with fail
  refine (A1.out _).mono ?_;rintro e w1 ⟨rfl, rfl⟩;go_wp2_with fail
  refine (A2.out _).mono ?_;rintro e w1 ⟨rfl, rfl⟩;go_wp2;exact bodyPost_ret (v := .tuple #[.agg #[.int .i64 0, .int .i64 0, .int .i64 0], .int .i64 1]) (by simp [results, Tryz.results75, go_sem]) rfl ⟨rfl, (Below.refl _ _).alloc (Nat.le_refl _) _⟩
theorem of_ok (n : Int) (w : World) (h1 : -719162 ≤ n) (h2 : n < 2932897) :
  Calls Tryz.prog 75 #[.int .i64 n] w fun e w' => e = .returned (.tuple #[.agg #[.int .i64 (Cv.yearOf n), .int .i64 (Cv.monthOf n), .int .i64 (Cv.dayOf n)], .int .i64 0]) ∧ Below w.heap.size w w' := by
 have A1 := Lib.hid fun W => calls_int (number_any 1 1 1 W (by omega) (by omega) (by omega)) num_min
 have A2 := Lib.hid fun W => calls_int (number_any 10000 1 1 W (by omega) (by omega) (by omega)) num_max
 go_enter Tryz.func75, Tryz.ntmps75
 go_wp2_with fail
 refine (A1.out _).mono ?_;rintro e w1 ⟨rfl, rfl⟩;go_wp2_with fail
 refine (A2.out _).mono ?_;rintro e w1 ⟨rfl, rfl⟩;go_upto_region 6 with fail
 obtain ⟨g, hg⟩ : ∃ g, (n + 719468) / 146097 = g := ⟨_, rfl⟩
 obtain ⟨r, hr⟩ : ∃ r, (n + 719468) % 146097 = r := ⟨_, rfl⟩
 rw [hg, hr];obtain ⟨y, hy⟩ : ∃ y, (r - r / 1460 + r / 36524 - r / 146096) / 365 = y := ⟨_, rfl⟩
 rw [hy];obtain ⟨d, hd⟩ : ∃ d, r - (365 * y + y / 4 - y / 100) = d := ⟨_, rfl⟩
 obtain ⟨f1, f2, f3, f4, f5⟩ := Cv.of_facts n g r y d hg hr hy hd;have b1 : 0 ≤ g ∧ g ≤ 24 := by omega
 have b2 : 0 ≤ r ∧ r ≤ 146096 := by omega
 have b3 : 0 ≤ y ∧ y ≤ 400 := by omega
 obtain ⟨b11, b12⟩ := b1;obtain ⟨b21, b22⟩ := b2;obtain ⟨b31, b32⟩ := b3;have F := Lib.hid (And.intro f3 (And.intro f4 f5));have HD := Lib.hid hd;clear f3 f4 f5 hd hg hr hy;go_upto_region 7 with fail
 rw [HD.out];clear HD b21 b22
 by_cases hm : (5 * d + 2) / 153 + 3 > 12
 ·go_wp2;refine bodyPost_ret (v := .tuple #[.agg #[.int .i64 (y + g * 400 + 1), .int .i64 ((5 * d + 2) / 153 + 3 - 12), .int .i64 (d - (153 * ((5 * d + 2) / 153) + 2) / 5 + 1)], .int .i64 0]) (by simp [results, Tryz.results75, go_sem]) rfl ⟨?_, ?_⟩
  ·obtain ⟨rfl, rfl, rfl⟩ := F.out;obtain ⟨e1, e2, e3⟩ := Cv.parts_big n hm;rw [e1, e2, e3]
  ·exact (Below.refl _ _).alloc (Nat.le_refl _) _
 ·go_wp2;refine bodyPost_ret (v := .tuple #[.agg #[.int .i64 (y + g * 400), .int .i64 ((5 * d + 2) / 153 + 3), .int .i64 (d - (153 * ((5 * d + 2) / 153) + 2) / 5 + 1)], .int .i64 0]) (by simp [results, Tryz.results75, go_sem]) rfl ⟨?_, ?_⟩
  ·obtain ⟨rfl, rfl, rfl⟩ := F.out;obtain ⟨e1, e2, e3⟩ := Cv.parts_small n (by omega);rw [e1, e2, e3]
  ·exact (Below.refl _ _).alloc (Nat.le_refl _) _
end Go.Proofs.YtjobhjemnmleaaaGreatDoor
