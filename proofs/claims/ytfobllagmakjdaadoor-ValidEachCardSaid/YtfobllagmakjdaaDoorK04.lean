/- The contracts of package civil. -/
import Derived.Test.YtfobllagmakjdaaDoorK01
import Derived.Test.YtfobllagmakjdaaDoorK03
import Derived.WalkKit
import Derived.Outline
import Derived.Lib.Hide
import Derived.IntWalk
import Derived.WalkSpells
import Derived.WalkLawsBesides
import Derived.Deep.DeepFit
import Derived.Deep.DeepCutAuto
import Derived.Shelf.Strings.Search1
import Derived.Shelf.Strings.Search2
import Derived.Shelf.Strings.Cut
import Derived.Test.YtfobllagmakjdaaDoorProg
import Derived.Lib.AppendIntMem
import Derived.Deep.RegionHeld3
import Derived.Deep.QuietTactic
import Derived.BigQuiet
namespace Go.Proofs.YtfobllagmakjdaaDoor
open Go.RowKit

/-- What the table of the months' lengths holds. -/
def Lens (w : World) : Prop := ∀ k : Nat, k < 12 → w.cell? ⟨0, k, none⟩ = some (.int .i64 (Cv.lens.getD k 0))
theorem Lens.lt {w : World} (h : Lens w) : 0 < w.heap.size := block_lt_of_cell (h 0 (by omega))
theorem Lens.below {w w' : World} (h : Lens w) (hb : Below w.heap.size w w') : Lens w' := fun k hk => (hb.cell (p := ⟨_, k, none⟩) h.lt).trans (h k hk)

def InCal (y m : Int) : Prop := 1 ≤ y ∧ y ≤ 9999 ∧ 1 ≤ m ∧ m ≤ 12

theorem leap_any (y : Int) (w : World) (h0 : 1 ≤ y) (h1 : y ≤ 9999) :
    Calls Tryd.prog 56 #[.int .i64 y] w fun e w' => e = .returned (.bool (Cv.leap y)) ∧ w = w' := by
  go_enter Tryd.func56, Tryd.ntmps56
  go_wp2
  all_goals go_ret
  all_goals refine ⟨ret_bool ?_, rfl⟩
  all_goals (unfold Cv.leap; simp_all)

theorem length_bad (y m : Int) (w : World) (h : ¬ InCal y m) :
    Calls Tryd.prog 50 #[.int .i64 y, .int .i64 m] w fun e w' => e = .returned (.tuple #[.int .i64 0, .int .i64 1]) ∧ w = w' := by
  unfold InCal at h
  by_cases h1 : y < 1
  · clear h
    go_enter Tryd.func50, Tryd.ntmps50
    go_wp2
    go_ret2
    exact ⟨rfl, rfl⟩
  by_cases h2 : 9999 < y
  · clear h
    go_enter Tryd.func50, Tryd.ntmps50
    go_wp2
    go_ret2
    exact ⟨rfl, rfl⟩
  by_cases h3 : m < 1
  · clear h
    go_enter Tryd.func50, Tryd.ntmps50
    go_wp2
    go_ret2
    exact ⟨rfl, rfl⟩
  have h4 : 12 < m := by omega
  clear h
  go_enter Tryd.func50, Tryd.ntmps50
  go_wp2
  go_ret2
  exact ⟨rfl, rfl⟩

theorem ret_int2 {k : IntKind} {a b : Int} {v : Value} (h : a = b) : Ending.returned (.tuple #[.int k a, v]) = .returned (.tuple #[.int k b, v]) := by rw [h]

theorem length_ok (y m : Int) (w : World) (hL : Lens w) (h : InCal y m) :
    Calls Tryd.prog 50 #[.int .i64 y, .int .i64 m] w fun e w' => e = .returned (.tuple #[.int .i64 (Cv.len y m), .int .i64 0]) ∧ w = w' := by
  obtain ⟨h1, h2, h3, h4⟩ := h
  have hc := hL (m - 1).toNat (by omega)
  have hi : (((m - 1).toNat : Nat) : Int) = m - 1 := by omega
  obtain ⟨k, rfl⟩ : ∃ k : Nat, m = (k : Int) + 1 := ⟨(m - 1).toNat, by omega⟩
  have hk : ((k : Int) + 1 - 1).toNat = k := by omega
  rw [hk] at hc
  have hE : Cv.len y ((k : Int) + 1) = if ((k : Int) + 1) = 2 ∧ Cv.leap y = true then 29 else Cv.lens.getD k 0 := by unfold Cv.len; rw [hk]
  have q1 : (0 : Int) ≤ (k : Int) := by omega
  have q2 : (k : Int) < 12 := by omega
  have HE := Lib.hid hE
  clear hE hk hi hL
  obtain ⟨v, hv⟩ : ∃ v, Cv.lens.getD k 0 = v := ⟨_, rfl⟩
  rw [hv] at hc
  have HV := Lib.hid hv
  clear hv
  by_cases h5 : k = 1
  · subst h5
    have t1 : (((1 : Nat) : Int) + 1 == 2) = true := by decide
    cases hl : Cv.leap y
    · have HL := Lib.hid hl
      clear hl
      go_enter Tryd.func50, Tryd.ntmps50
      go_wp2_with (go_at_call 56; refine (leap_any y _ h1 h2).mono ?_; rw [HL.out]; rintro e w1 ⟨rfl, rfl⟩)
      go_ret2
      exact ⟨ret_int2 (by rw [HE.out, HL.out, HV.out]; simp), rfl⟩
    · have HL := Lib.hid hl
      clear hl
      go_enter Tryd.func50, Tryd.ntmps50
      go_wp2_with (go_at_call 56; refine (leap_any y _ h1 h2).mono ?_; rw [HL.out]; rintro e w1 ⟨rfl, rfl⟩)
      go_ret2
      exact ⟨ret_int2 (by rw [HE.out, HL.out]; simp), rfl⟩
  · have t1 : ((k : Int) + 1 == 2) = false := by simp; omega
    have H5 := Lib.hid h5
    clear h5
    go_enter Tryd.func50, Tryd.ntmps50
    go_wp2
    go_ret2
    exact ⟨ret_int2 (by rw [HE.out, HV.out, if_neg]; have := H5.out; omega), rfl⟩

theorem number_any (y m d : Int) (w : World) (hy : 1 ≤ y ∧ y ≤ 10000) (hm : 1 ≤ m ∧ m ≤ 12) (hd : 1 ≤ d ∧ d ≤ 31) :
    Calls Tryd.prog 58 #[.int .i64 y, .int .i64 m, .int .i64 d] w fun e w' => e = .returned (.int .i64 (Cv.num y m d)) ∧ w = w' := by
  obtain ⟨h1, h2⟩ := hy
  obtain ⟨h3, h4⟩ := hm
  obtain ⟨h5, h6⟩ := hd
  by_cases hlt : m < 3
  · go_enter Tryd.func58, Tryd.ntmps58
    go_wp2
    go_ret
    refine ⟨ret_int ?_, rfl⟩
    unfold Cv.num Cv.begun Cv.my Cv.mm
    simp only [if_pos hlt]
    rw [show m - 3 + 12 = m + 9 by omega]
  · go_enter Tryd.func58, Tryd.ntmps58
    go_wp2
    go_ret
    refine ⟨ret_int ?_, rfl⟩
    have hge : ¬ m < 3 := by omega
    unfold Cv.num Cv.begun Cv.my Cv.mm
    simp only [if_neg hge]

theorem check_ok (y m d : Int) (w : World) (hL : Lens w) (h : Cv.Valid y m d) :
    Calls Tryd.prog 57 #[.agg #[.int .i64 y, .int .i64 m, .int .i64 d]] w fun e w' => e = .returned (.int .i64 0) ∧ Below w.heap.size w w' := by
  obtain ⟨h1, h2, h3, h4, h5, h6⟩ := h
  have hl := length_ok y m (w.alloc (.cells #[.int .i64 y, .int .i64 m, .int .i64 d] 113)) (hL.below ((Below.refl _ _).alloc (Nat.le_refl _) _)) ⟨h1, h2, h3, h4⟩
  obtain ⟨n, hn⟩ : ∃ n, Cv.len y m = n := ⟨_, rfl⟩
  rw [hn] at hl h6
  have HN := Lib.hid hl
  clear hn hl hL
  go_enter Tryd.func57, Tryd.ntmps57
  go_wp2_with (go_at_call 50; refine HN.out.mono ?_; rintro e w1 ⟨rfl, rfl⟩)
  go_ret
  exact ⟨rfl, (Below.refl _ _).alloc (Nat.le_refl _) _⟩

theorem check_bad (y m d : Int) (w : World) (hL : Lens w) (h : ¬ Cv.Valid y m d) :
    Calls Tryd.prog 57 #[.agg #[.int .i64 y, .int .i64 m, .int .i64 d]] w fun e w' => e = .returned (.int .i64 1) ∧ Below w.heap.size w w' := by
  by_cases hin : InCal y m
  · have hl := length_ok y m (w.alloc (.cells #[.int .i64 y, .int .i64 m, .int .i64 d] 113)) (hL.below ((Below.refl _ _).alloc (Nat.le_refl _) _)) hin
    have hor : d < 1 ∨ Cv.len y m < d := by
      unfold Cv.Valid at h
      obtain ⟨h1, h2, h3, h4⟩ := hin
      omega
    obtain ⟨n, hn⟩ : ∃ n, Cv.len y m = n := ⟨_, rfl⟩
    rw [hn] at hl hor
    have HN := Lib.hid hl
    clear hn hl hL h hin
    by_cases h5 : d < 1
    · clear hor
      go_enter Tryd.func57, Tryd.ntmps57
      go_wp2_with (go_at_call 50; refine HN.out.mono ?_; rintro e w1 ⟨rfl, rfl⟩)
      go_ret
      exact ⟨rfl, (Below.refl _ _).alloc (Nat.le_refl _) _⟩
    · have h6 : n < d := by omega
      clear hor
      go_enter Tryd.func57, Tryd.ntmps57
      go_wp2_with (go_at_call 50; refine HN.out.mono ?_; rintro e w1 ⟨rfl, rfl⟩)
      go_ret
      exact ⟨rfl, (Below.refl _ _).alloc (Nat.le_refl _) _⟩
  · have HN := Lib.hid (length_bad y m (w.alloc (.cells #[.int .i64 y, .int .i64 m, .int .i64 d] 113)) hin)
    clear h hin hL
    go_enter Tryd.func57, Tryd.ntmps57
    go_wp2_with (go_at_call 50; refine HN.out.mono ?_; rintro e w1 ⟨rfl, rfl⟩)
    go_ret
    exact ⟨rfl, (Below.refl _ _).alloc (Nat.le_refl _) _⟩

theorem valid_31 {y m d : Int} (h : Cv.Valid y m d) : 1 ≤ d ∧ d ≤ 31 := by
  obtain ⟨h1, h2, h3, h4, h5, h6⟩ := h
  rw [Cv.len_month y m h3 h4] at h6
  refine ⟨h5, ?_⟩
  split at h6
  · split at h6 <;> omega
  · split at h6 <;> omega

theorem days_ok (y m d : Int) (w : World) (hL : Lens w) (h : Cv.Valid y m d) :
    Calls Tryd.prog 51 #[.agg #[.int .i64 y, .int .i64 m, .int .i64 d]] w fun e w' => e = .returned (.tuple #[.int .i64 (Cv.num y m d), .int .i64 0]) ∧ Below w.heap.size w w' := by
  have HC := Lib.hid (check_ok y m d (w.alloc (.cells #[.int .i64 y, .int .i64 m, .int .i64 d] 113)) (hL.below ((Below.refl _ _).alloc (Nat.le_refl _) _)) h)
  have h31 := valid_31 h
  obtain ⟨h1, h2, h3, h4, h5, h6⟩ := h
  have HNum := fun W => number_any y m d W ⟨h1, by omega⟩ ⟨h3, h4⟩ h31
  have HN := Lib.hid HNum
  clear HNum hL h6
  go_enter Tryd.func51, Tryd.ntmps51
  go_wp2_with fail
  refine HC.out.mono ?_
  rintro e w1 ⟨rfl, hb⟩
  have c0 := (hb.cell (p := ⟨w.heap.size, 0, none⟩) (by simp)).trans (cell_of_row _ w.heap.size 0 _ _ _ (heap_alloc_new w _))
  have c1 := (hb.cell (p := ⟨w.heap.size, 1, none⟩) (by simp)).trans (cell_of_row _ w.heap.size 1 _ _ _ (heap_alloc_new w _))
  have c2 := (hb.cell (p := ⟨w.heap.size, 2, none⟩) (by simp)).trans (cell_of_row _ w.heap.size 2 _ _ _ (heap_alloc_new w _))
  go_wp2_with (go_at_call 58; refine (HN.out _).mono ?_; rintro e w2 ⟨rfl, rfl⟩)
  go_ret2
  exact ⟨rfl, ((Below.refl _ _).alloc (Nat.le_refl _) _).trans (hb.mono (by simp))⟩
theorem days_bad (y m d : Int) (w : World) (hL : Lens w) (h : ¬ Cv.Valid y m d) :
    Calls Tryd.prog 51 #[.agg #[.int .i64 y, .int .i64 m, .int .i64 d]] w fun e w' => e = .returned (.tuple #[.int .i64 0, .int .i64 1]) ∧ Below w.heap.size w w' := by
  have HC := Lib.hid (check_bad y m d (w.alloc (.cells #[.int .i64 y, .int .i64 m, .int .i64 d] 113)) (hL.below ((Below.refl _ _).alloc (Nat.le_refl _) _)) h)
  clear hL h
  go_enter Tryd.func51, Tryd.ntmps51
  go_wp2_with fail
  refine HC.out.mono ?_
  rintro e w1 ⟨rfl, hb⟩
  go_wp2
  go_ret2
  exact ⟨rfl, ((Below.refl _ _).alloc (Nat.le_refl _) _).trans (hb.mono (by simp))⟩

def dow (n : Int) : Int := (n % 7 + 4) % 7
theorem tmod_7 (n : Int) : n.tmod 7 = if 0 ≤ n then n % 7 else -((-n) % 7) := by
  by_cases h : 0 ≤ n
  · rw [if_pos h, Int.tmod_eq_emod_of_nonneg h]
  · rw [if_neg h]
    have : n = -(-n) := by omega
    rw [this, Int.neg_tmod, Int.tmod_eq_emod_of_nonneg (by omega)]
    omega
theorem dow_walk (n : Int) : (wrap64 (n.tmod 7 + 11)).tmod 7 = dow n := by
  have h := tmod_7 n
  have hb : 0 ≤ n.tmod 7 + 11 ∧ n.tmod 7 + 11 ≤ 17 := by rw [h]; split <;> omega
  have hw : wrap64 (n.tmod 7 + 11) = n.tmod 7 + 11 := by unfold wrap64; omega
  rw [hw, Int.tmod_eq_emod_of_nonneg hb.1, h]
  unfold dow
  split <;> omega
theorem civWeekday_any (n : Int) (w : World) :
    Calls Tryd.prog 52 #[.int .i64 n] w fun e w' => e = .returned (.int .i64 (dow n)) ∧ w = w' := by
  go_enter Tryd.func52, Tryd.ntmps52
  go_wp2
  go_ret
  exact ⟨ret_int (dow_walk n), rfl⟩

theorem num_min : Cv.num 1 1 1 = -719162 := by decide
theorem num_max : Cv.num 10000 1 1 = 2932897 := by decide
theorem of_bad (n : Int) (w : World) (h : n < -719162 ∨ 2932897 ≤ n) :
    Calls Tryd.prog 53 #[.int .i64 n] w fun e w' => e = .returned (.tuple #[.agg #[.int .i64 0, .int .i64 0, .int .i64 0], .int .i64 1]) ∧ Below w.heap.size w w' := by
  have A1 := Lib.hid fun W => calls_int (number_any 1 1 1 W (by omega) (by omega) (by omega)) num_min
  have A2 := Lib.hid fun W => calls_int (number_any 10000 1 1 W (by omega) (by omega) (by omega)) num_max
  by_cases h1 : n < -719162
  · clear h
    go_enter Tryd.func53, Tryd.ntmps53
    go_wp2_with fail
    refine (A1.out _).mono ?_
    rintro e w1 ⟨rfl, rfl⟩
    go_wp2
    exact bodyPost_ret (v := .tuple #[.agg #[.int .i64 0, .int .i64 0, .int .i64 0], .int .i64 1]) (by simp [results, Tryd.results53, go_sem]) rfl ⟨rfl, (Below.refl _ _).alloc (Nat.le_refl _) _⟩
  · have h2 : 2932897 ≤ n := by omega
    clear h
    go_enter Tryd.func53, Tryd.ntmps53
    go_wp2_with fail
    refine (A1.out _).mono ?_
    rintro e w1 ⟨rfl, rfl⟩
    go_wp2_with fail
    refine (A2.out _).mono ?_
    rintro e w1 ⟨rfl, rfl⟩
    go_wp2
    exact bodyPost_ret (v := .tuple #[.agg #[.int .i64 0, .int .i64 0, .int .i64 0], .int .i64 1]) (by simp [results, Tryd.results53, go_sem]) rfl ⟨rfl, (Below.refl _ _).alloc (Nat.le_refl _) _⟩
theorem of_ok (n : Int) (w : World) (h1 : -719162 ≤ n) (h2 : n < 2932897) :
    Calls Tryd.prog 53 #[.int .i64 n] w fun e w' => e = .returned (.tuple #[.agg #[.int .i64 (Cv.yearOf n), .int .i64 (Cv.monthOf n), .int .i64 (Cv.dayOf n)], .int .i64 0]) ∧ Below w.heap.size w w' := by
  have A1 := Lib.hid fun W => calls_int (number_any 1 1 1 W (by omega) (by omega) (by omega)) num_min
  have A2 := Lib.hid fun W => calls_int (number_any 10000 1 1 W (by omega) (by omega) (by omega)) num_max
  go_enter Tryd.func53, Tryd.ntmps53
  go_wp2_with fail
  refine (A1.out _).mono ?_
  rintro e w1 ⟨rfl, rfl⟩
  go_wp2_with fail
  refine (A2.out _).mono ?_
  rintro e w1 ⟨rfl, rfl⟩
  go_upto_region 6 with fail
  obtain ⟨g, hg⟩ : ∃ g, (n + 719468) / 146097 = g := ⟨_, rfl⟩
  obtain ⟨r, hr⟩ : ∃ r, (n + 719468) % 146097 = r := ⟨_, rfl⟩
  rw [hg, hr]
  obtain ⟨y, hy⟩ : ∃ y, (r - r / 1460 + r / 36524 - r / 146096) / 365 = y := ⟨_, rfl⟩
  rw [hy]
  obtain ⟨d, hd⟩ : ∃ d, r - (365 * y + y / 4 - y / 100) = d := ⟨_, rfl⟩
  obtain ⟨f1, f2, f3, f4, f5⟩ := Cv.of_facts n g r y d hg hr hy hd
  have b1 : 0 ≤ g ∧ g ≤ 24 := by omega
  have b2 : 0 ≤ r ∧ r ≤ 146096 := by omega
  have b3 : 0 ≤ y ∧ y ≤ 400 := by omega
  obtain ⟨b11, b12⟩ := b1
  obtain ⟨b21, b22⟩ := b2
  obtain ⟨b31, b32⟩ := b3
  have F := Lib.hid (And.intro f3 (And.intro f4 f5))
  have HD := Lib.hid hd
  clear f3 f4 f5 hd hg hr hy
  go_upto_region 7 with fail
  rw [HD.out]
  clear HD b21 b22
  by_cases hm : (5 * d + 2) / 153 + 3 > 12
  · go_wp2
    refine bodyPost_ret (v := .tuple #[.agg #[.int .i64 (y + g * 400 + 1), .int .i64 ((5 * d + 2) / 153 + 3 - 12), .int .i64 (d - (153 * ((5 * d + 2) / 153) + 2) / 5 + 1)], .int .i64 0]) (by simp [results, Tryd.results53, go_sem]) rfl ⟨?_, ?_⟩
    · obtain ⟨rfl, rfl, rfl⟩ := F.out
      obtain ⟨e1, e2, e3⟩ := Cv.parts_big n hm
      rw [e1, e2, e3]
    · exact (Below.refl _ _).alloc (Nat.le_refl _) _
  · go_wp2
    refine bodyPost_ret (v := .tuple #[.agg #[.int .i64 (y + g * 400), .int .i64 ((5 * d + 2) / 153 + 3), .int .i64 (d - (153 * ((5 * d + 2) / 153) + 2) / 5 + 1)], .int .i64 0]) (by simp [results, Tryd.results53, go_sem]) rfl ⟨?_, ?_⟩
    · obtain ⟨rfl, rfl, rfl⟩ := F.out
      obtain ⟨e1, e2, e3⟩ := Cv.parts_small n (by omega)
      rw [e1, e2, e3]
    · exact (Below.refl _ _).alloc (Nat.le_refl _) _
end Go.Proofs.YtfobllagmakjdaaDoor
/-
  DERIVED: THE SHELF's CONTRACTS AT THIS DUMP, IN PLAIN WORDS (tools/lay-plain.mjs out of 'TrydShelf.lean', which tools/lay-shelf.mjs wrote): THE SAME DECLARATIONS UNDER THE SAME NAMES: 'import', 'namespace', 'open', 'def', 'theorem' AND NOTHING ELSE: no command of the shelf's: FOR A HAND-IN. Each laying: the table of numbers ('.._ren') and one theorem, a field a fact of the dump's own or the kernel's comparison; each contract: ONE APPLICATION.
-/
namespace Go.Proofs
open Go.Shelf
def Tryd.lays217_ren : Go.Shelf.Ren := ⟨fun | 217 => 62 | 266 => 66 | n => n, fun | 9 => 9 | 5 => 5 | 3 => 3 | n => n, fun | n => n⟩
theorem Tryd.lays217 : Go.Proofs.Lays.n217 Tryd.prog Tryd.lays217_ren := {
  mixed := by kernel_rfl
  f217 := Tryd.func62.trans (congrArg some (by kernel_rfl))
  f266 := Tryd.func66.trans (congrArg some (by kernel_rfl))
  t3 := Tryd.underlying3
  a3 := Tryd.isAgg3
  z3 := Tryd.sizeOf3
  v3 := Tryd.zeroValue3
  t5 := Tryd.underlying5
  a5 := Tryd.isAgg5
  z5 := Tryd.sizeOf5
  v5 := Tryd.zeroValue5
  t9 := Tryd.underlying9
  a9 := Tryd.isAgg9
  z9 := Tryd.sizeOf9
  v9 := Tryd.zeroValue9 }
open Go.RowKit Go.Lib in
/-- internal/stringslite.IndexByte (what strings.IndexByte calls): IT RETURNS 'Lib.indexByte s c'; the world is as it was. (LAID: no walk: one application.) -/
theorem Tryd.stringslite_IndexByte (s : ByteArray) (c : Int) (w : World) :
    Calls Tryd.prog 62 #[.string s, .int .u8 c] w fun e w' => e = .returned (.int .i64 (Lib.indexByte s.data.toList c.toNat.toUInt8)) ∧ w' = w := Any.stringslite_IndexByte Tryd.lays217 s c w
def Tryd.lays224_ren : Go.Shelf.Ren := ⟨fun | 224 => 64 | n => n, fun | 3 => 3 | n => n, fun | n => n⟩
theorem Tryd.lays224 : Go.Proofs.Lays.n224 Tryd.prog Tryd.lays224_ren := {
  mixed := by kernel_rfl
  f224 := Tryd.func64.trans (congrArg some (by kernel_rfl))
  t3 := Tryd.underlying3
  a3 := Tryd.isAgg3
  z3 := Tryd.sizeOf3
  v3 := Tryd.zeroValue3 }
open Go.RowKit Go.Lib in
/-- internal/bytealg.Cutover: "Cutover reports the number of failures of IndexByte we should tolerate before switching over to Index. n is the number of bytes processed so far.": on amd64: (n + 16) / 8. (LAID: no walk: one application.) -/
theorem Tryd.bytealg_Cutover (n : Int) (h0 : 0 ≤ n) (h1 : n < 4611686018427387904) (w : World) :
    Calls Tryd.prog 64 #[.int .i64 n] w fun e w' => e = .returned (.int .i64 ((n + 16) / 8)) ∧ w' = w := Any.bytealg_Cutover Tryd.lays224 n h0 h1 w
def Tryd.lays314_ren : Go.Shelf.Ren := ⟨fun | 314 => 67 | n => n, fun | 9 => 9 | 51 => 130 | 3 => 3 | 4 => 4 | 5 => 5 | 46 => 129 | n => n, fun | n => n⟩
theorem Tryd.lays314 : Go.Proofs.Lays.n314 Tryd.prog Tryd.lays314_ren := {
  mixed := by kernel_rfl
  f314 := Tryd.func67.trans (congrArg some (by kernel_rfl))
  t3 := Tryd.underlying3
  a3 := Tryd.isAgg3
  z3 := Tryd.sizeOf3
  v3 := Tryd.zeroValue3
  t4 := Tryd.underlying4
  a4 := Tryd.isAgg4
  z4 := Tryd.sizeOf4
  v4 := Tryd.zeroValue4
  t5 := Tryd.underlying5
  a5 := Tryd.isAgg5
  z5 := Tryd.sizeOf5
  v5 := Tryd.zeroValue5
  t9 := Tryd.underlying9
  a9 := Tryd.isAgg9
  z9 := Tryd.sizeOf9
  v9 := Tryd.zeroValue9
  t46 := Tryd.underlying129
  a46 := Tryd.isAgg129
  z46 := Tryd.sizeOf129
  v46 := Tryd.zeroValue129
  t51 := Tryd.underlying130
  a51 := Tryd.isAgg130
  z51 := Tryd.sizeOf130
  v51 := Tryd.zeroValue130 }
open Go.RowKit Go.Lib in
/-- hashStr: "returns the hash and the appropriate multiplicative factor for use in Rabin-Karp algorithm": THE HASH OF ALL OF sep, AND 16777619 ^ len(sep), both in uint32. (LAID: no walk: one application.) -/
theorem Tryd.bytealg_hashStr (sep : ByteArray) (hs : sep.size < 4294967281) (w : World) :
    Calls Tryd.prog 67 #[.string sep] w fun e w' => e = .returned (.tuple #[.int .u32 (RK.H sep.data.toList % 4294967296), .int .u32 (16777619 ^ sep.size % 4294967296)]) ∧ w' = w := Any.bytealg_hashStr Tryd.lays314 sep hs w
def Tryd.lays267_ren : Go.Shelf.Ren := ⟨fun | 267 => 65 | 314 => 67 | n => n, fun | 9 => 9 | 3 => 3 | 146 => 131 | 51 => 130 | 4 => 4 | 5 => 5 | 46 => 129 | n => n, fun | n => n⟩
theorem Tryd.lays267 : Go.Proofs.Lays.n267 Tryd.prog Tryd.lays267_ren := {
  mixed := by kernel_rfl
  f267 := Tryd.func65.trans (congrArg some (by kernel_rfl))
  f314 := Tryd.func67.trans (congrArg some (by kernel_rfl))
  t3 := Tryd.underlying3
  a3 := Tryd.isAgg3
  z3 := Tryd.sizeOf3
  v3 := Tryd.zeroValue3
  t4 := Tryd.underlying4
  a4 := Tryd.isAgg4
  z4 := Tryd.sizeOf4
  v4 := Tryd.zeroValue4
  t5 := Tryd.underlying5
  a5 := Tryd.isAgg5
  z5 := Tryd.sizeOf5
  v5 := Tryd.zeroValue5
  t9 := Tryd.underlying9
  a9 := Tryd.isAgg9
  z9 := Tryd.sizeOf9
  v9 := Tryd.zeroValue9
  t46 := Tryd.underlying129
  a46 := Tryd.isAgg129
  z46 := Tryd.sizeOf129
  v46 := Tryd.zeroValue129
  t51 := Tryd.underlying130
  a51 := Tryd.isAgg130
  z51 := Tryd.sizeOf130
  v51 := Tryd.zeroValue130
  t146 := Tryd.underlying131
  a146 := Tryd.isAgg131
  z146 := Tryd.sizeOf131
  v146 := Tryd.zeroValue131 }
open Go.RowKit Go.Lib in
theorem Tryd.bytealg_IndexRabinKarp (s sep : ByteArray) (h1 : 1 ≤ sep.size) (h2 : sep.size ≤ s.size) (hs : s.size < 4294967281) (w : World) :
    Calls Tryd.prog 65 #[.string s, .string sep] w fun e w' => e = .returned (.int .i64 (Lib.index s.data.toList sep.data.toList)) ∧ w' = w := Any.bytealg_IndexRabinKarp Tryd.lays267 s sep h1 h2 hs w
def Tryd.lays219_ren : Go.Shelf.Ren := ⟨fun | 219 => 61 | 217 => 62 | 225 => 63 | 224 => 64 | 267 => 65 | 266 => 66 | 314 => 67 | n => n, fun | 9 => 9 | 3 => 3 | 4 => 4 | 5 => 5 | 46 => 129 | 146 => 131 | 51 => 130 | n => n, fun | 1 => 2 | n => n⟩
theorem Tryd.lays219 : Go.Proofs.Lays.n219 Tryd.prog Tryd.lays219_ren := {
  mixed := by kernel_rfl
  f217 := Tryd.func62.trans (congrArg some (by kernel_rfl))
  f219 := Tryd.func61.trans (congrArg some (by kernel_rfl))
  f224 := Tryd.func64.trans (congrArg some (by kernel_rfl))
  f225 := Tryd.func63.trans (congrArg some (by kernel_rfl))
  f266 := Tryd.func66.trans (congrArg some (by kernel_rfl))
  f267 := Tryd.func65.trans (congrArg some (by kernel_rfl))
  f314 := Tryd.func67.trans (congrArg some (by kernel_rfl))
  t3 := Tryd.underlying3
  a3 := Tryd.isAgg3
  z3 := Tryd.sizeOf3
  v3 := Tryd.zeroValue3
  t4 := Tryd.underlying4
  a4 := Tryd.isAgg4
  z4 := Tryd.sizeOf4
  v4 := Tryd.zeroValue4
  t5 := Tryd.underlying5
  a5 := Tryd.isAgg5
  z5 := Tryd.sizeOf5
  v5 := Tryd.zeroValue5
  t9 := Tryd.underlying9
  a9 := Tryd.isAgg9
  z9 := Tryd.sizeOf9
  v9 := Tryd.zeroValue9
  t46 := Tryd.underlying129
  a46 := Tryd.isAgg129
  z46 := Tryd.sizeOf129
  v46 := Tryd.zeroValue129
  t51 := Tryd.underlying130
  a51 := Tryd.isAgg130
  z51 := Tryd.sizeOf130
  v51 := Tryd.zeroValue130
  t146 := Tryd.underlying131
  a146 := Tryd.isAgg131
  z146 := Tryd.sizeOf131
  v146 := Tryd.zeroValue131
  g1 := by kernel_rfl }
open Go.RowKit Go.Lib in
/-- internal/stringslite.Index (what strings.Index calls) AT A substr OF ONE BYTE c: IT RETURNS 'Lib.indexByte s c'; the world is as it was. (LAID: no walk: one application.) -/
theorem Tryd.stringslite_Index_one (s : ByteArray) (c : UInt8) (w : World) :
    Calls Tryd.prog 61 #[.string s, .string ⟨#[c]⟩] w fun e w' => e = .returned (.int .i64 (Lib.indexByte s.data.toList c)) ∧ w' = w := Any.stringslite_Index_one Tryd.lays219 s c w
open Go.RowKit Go.Lib in
/-- internal/stringslite.Index (what strings.Index calls) AT A substr OF WHATEVER LENGTH: IT RETURNS 'Lib.index s substr'; the world is as it was. 'm': what internal/bytealg.MaxLen holds: whatever. (LAID: no walk: one application.) -/
theorem Tryd.stringslite_Index (s sub : ByteArray) (m : Int) (w : World) (hs : s.size < 4294967281) (hm : w.cell? ⟨2, 0, none⟩ = some (.int .i64 m)) :
    Calls Tryd.prog 61 #[.string s, .string sub] w fun e w' => e = .returned (.int .i64 (Lib.index s.data.toList sub.data.toList)) ∧ w' = w := Any.stringslite_Index Tryd.lays219 s sub m w hs hm
def Tryd.lays220_ren : Go.Shelf.Ren := ⟨fun | 220 => 60 | 219 => 61 | 217 => 62 | 225 => 63 | 224 => 64 | 267 => 65 | 266 => 66 | 314 => 67 | n => n, fun | 9 => 9 | 4 => 4 | 3 => 3 | 5 => 5 | 46 => 129 | 146 => 131 | 51 => 130 | n => n, fun | 1 => 2 | n => n⟩
theorem Tryd.lays220 : Go.Proofs.Lays.n220 Tryd.prog Tryd.lays220_ren := {
  mixed := by kernel_rfl
  f217 := Tryd.func62.trans (congrArg some (by kernel_rfl))
  f219 := Tryd.func61.trans (congrArg some (by kernel_rfl))
  f220 := Tryd.func60.trans (congrArg some (by kernel_rfl))
  f224 := Tryd.func64.trans (congrArg some (by kernel_rfl))
  f225 := Tryd.func63.trans (congrArg some (by kernel_rfl))
  f266 := Tryd.func66.trans (congrArg some (by kernel_rfl))
  f267 := Tryd.func65.trans (congrArg some (by kernel_rfl))
  f314 := Tryd.func67.trans (congrArg some (by kernel_rfl))
  t3 := Tryd.underlying3
  a3 := Tryd.isAgg3
  z3 := Tryd.sizeOf3
  v3 := Tryd.zeroValue3
  t4 := Tryd.underlying4
  a4 := Tryd.isAgg4
  z4 := Tryd.sizeOf4
  v4 := Tryd.zeroValue4
  t5 := Tryd.underlying5
  a5 := Tryd.isAgg5
  z5 := Tryd.sizeOf5
  v5 := Tryd.zeroValue5
  t9 := Tryd.underlying9
  a9 := Tryd.isAgg9
  z9 := Tryd.sizeOf9
  v9 := Tryd.zeroValue9
  t46 := Tryd.underlying129
  a46 := Tryd.isAgg129
  z46 := Tryd.sizeOf129
  v46 := Tryd.zeroValue129
  t51 := Tryd.underlying130
  a51 := Tryd.isAgg130
  z51 := Tryd.sizeOf130
  v51 := Tryd.zeroValue130
  t146 := Tryd.underlying131
  a146 := Tryd.isAgg131
  z146 := Tryd.sizeOf131
  v146 := Tryd.zeroValue131
  g1 := by kernel_rfl }
open Go.RowKit Go.Lib in
/-- internal/stringslite.Cut (what strings.Cut calls): IT RETURNS 'Lib.cut s sep'; the world is as it was but for the count of draws. (LAID: no walk: one application.) -/
theorem Tryd.stringslite_Cut (s sep : ByteArray) (m : Int) (w : World) (hs : s.size < 4294967281) (hm : w.cell? ⟨2, 0, none⟩ = some (.int .i64 m)) :
    Calls Tryd.prog 60 #[.string s, .string sep] w fun e w' => e = .returned (.tuple #[.string ⟨(Lib.cut s.data.toList sep.data.toList).1.toArray⟩, .string ⟨(Lib.cut s.data.toList sep.data.toList).2.1.toArray⟩, .bool (Lib.cut s.data.toList sep.data.toList).2.2]) ∧ ∃ n, w' = w.drewN n := Any.stringslite_Cut Tryd.lays220 s sep m w hs hm
def Tryd.lays145_ren : Go.Shelf.Ren := ⟨fun | 145 => 59 | 220 => 60 | 219 => 61 | 217 => 62 | 225 => 63 | 224 => 64 | 267 => 65 | 266 => 66 | 314 => 67 | n => n, fun | 9 => 9 | 4 => 4 | 59 => 124 | 3 => 3 | 5 => 5 | 46 => 129 | 146 => 131 | 51 => 130 | n => n, fun | 1 => 2 | n => n⟩
theorem Tryd.lays145 : Go.Proofs.Lays.n145 Tryd.prog Tryd.lays145_ren := {
  mixed := by kernel_rfl
  f145 := Tryd.func59.trans (congrArg some (by kernel_rfl))
  f217 := Tryd.func62.trans (congrArg some (by kernel_rfl))
  f219 := Tryd.func61.trans (congrArg some (by kernel_rfl))
  f220 := Tryd.func60.trans (congrArg some (by kernel_rfl))
  f224 := Tryd.func64.trans (congrArg some (by kernel_rfl))
  f225 := Tryd.func63.trans (congrArg some (by kernel_rfl))
  f266 := Tryd.func66.trans (congrArg some (by kernel_rfl))
  f267 := Tryd.func65.trans (congrArg some (by kernel_rfl))
  f314 := Tryd.func67.trans (congrArg some (by kernel_rfl))
  t3 := Tryd.underlying3
  a3 := Tryd.isAgg3
  z3 := Tryd.sizeOf3
  v3 := Tryd.zeroValue3
  t4 := Tryd.underlying4
  a4 := Tryd.isAgg4
  z4 := Tryd.sizeOf4
  v4 := Tryd.zeroValue4
  t5 := Tryd.underlying5
  a5 := Tryd.isAgg5
  z5 := Tryd.sizeOf5
  v5 := Tryd.zeroValue5
  t9 := Tryd.underlying9
  a9 := Tryd.isAgg9
  z9 := Tryd.sizeOf9
  v9 := Tryd.zeroValue9
  t46 := Tryd.underlying129
  a46 := Tryd.isAgg129
  z46 := Tryd.sizeOf129
  v46 := Tryd.zeroValue129
  t51 := Tryd.underlying130
  a51 := Tryd.isAgg130
  z51 := Tryd.sizeOf130
  v51 := Tryd.zeroValue130
  t59 := Tryd.underlying124
  a59 := Tryd.isAgg124
  z59 := Tryd.sizeOf124
  v59 := Tryd.zeroValue124
  t146 := Tryd.underlying131
  a146 := Tryd.isAgg131
  z146 := Tryd.sizeOf131
  v146 := Tryd.zeroValue131
  g1 := by kernel_rfl }
open Go.RowKit Go.Lib in
/-- strings.Cut: "Cut slices s around the first instance of sep, returning the text before and after sep. The found result reports whether sep appears in s. If sep does not appear in s, cut returns s, "", false.": IT RETURNS 'Lib.cut s sep'; the world is as it was but for the count of draws. (LAID: no walk: one application.) -/
theorem Tryd.strings_Cut (s sep : ByteArray) (m : Int) (w : World) (hs : s.size < 4294967281) (hm : w.cell? ⟨2, 0, none⟩ = some (.int .i64 m)) :
    Calls Tryd.prog 59 #[.string s, .string sep] w fun e w' => e = .returned (.tuple #[.string ⟨(Lib.cut s.data.toList sep.data.toList).1.toArray⟩, .string ⟨(Lib.cut s.data.toList sep.data.toList).2.1.toArray⟩, .bool (Lib.cut s.data.toList sep.data.toList).2.2]) ∧ ∃ n, w' = w.drewN n := Any.strings_Cut Tryd.lays145 s sep m w hs hm
end Go.Proofs
/- Plain law of digits: what a text of digits tells. -/
namespace Go.Proofs.YtfobllagmakjdaaDoor.Dy
open Go.RowKit

def numLoop : List UInt8 → Int → Int
  | [], a => a
  | c :: r, a => if (c.toNat : Int) < 48 ∨ 57 < (c.toNat : Int) then -1 else numLoop r (a * 10 + ((c.toNat : Int) - 48))

theorem numLoop_bad (l : List UInt8) (k : Nat) (c : UInt8) (a : Int) (N : Int) (hN : N = numLoop (l.drop k) a) (hc : l[k]? = some c) (h : (c.toNat : Int) < 48 ∨ 57 < (c.toNat : Int)) : N = -1 := by
  obtain ⟨hk, e⟩ := List.getElem?_eq_some_iff.1 hc
  rw [hN, List.drop_eq_getElem_cons hk, e]
  simp only [numLoop]
  rw [if_pos h]
theorem numLoop_next (l : List UInt8) (k : Nat) (c : UInt8) (a : Int) (N : Int) (hN : N = numLoop (l.drop k) a) (hc : l[k]? = some c) (h : ¬ ((c.toNat : Int) < 48 ∨ 57 < (c.toNat : Int))) : N = numLoop (l.drop (k + 1)) (a * 10 + ((c.toNat : Int) - 48)) := by
  obtain ⟨hk, e⟩ := List.getElem?_eq_some_iff.1 hc
  rw [hN, List.drop_eq_getElem_cons hk, e]
  simp only [numLoop]
  rw [if_neg h]
theorem numLoop_end (l : List UInt8) (k : Nat) (a : Int) (N : Int) (hN : N = numLoop (l.drop k) a) (h : l.length = k) : N = a := by
  rw [hN, List.drop_eq_nil_of_le (by omega)]; rfl
theorem tl_get (s : ByteArray) (k : Nat) (h : k < s.size) : (tl s)[k]? = some s[k] := by
  unfold tl
  rw [List.getElem?_eq_getElem (by simpa using h), Array.getElem_toList]
  rfl
end Go.Proofs.YtfobllagmakjdaaDoor.Dy
/- Plain law of the days of a month: what is read of a text, and how one is written. -/
namespace Go.Proofs.YtfobllagmakjdaaDoor.Dy
open Go.RowKit

/-- Whether a day is right: 0, or 2. -/
def Ok (k n w : Int) : Prop := (k = 0 ∧ 1 ≤ n ∧ n ≤ 31 ∧ w = 0) ∨ (k = 1 ∧ n = 0 ∧ 0 ≤ w ∧ w ≤ 6) ∨ ((k = 2 ∨ k = 3) ∧ 1 ≤ n ∧ n ≤ 31 ∧ 0 ≤ w ∧ w ≤ 6)
instance (k n w : Int) : Decidable (Ok k n w) := by unfold Ok; exact inferInstance

def numD (l : List UInt8) : Int := if l.length < 1 ∨ 2 < l.length then -1 else numLoop l 0

theorem numLoop_bd : ∀ (l : List UInt8) (a : Int), 0 ≤ a → a < 100000 → l.length ≤ 2 → -1 ≤ numLoop l a ∧ numLoop l a < 100000000 := by
  intro l a h0 h1 hl
  match l, hl with
  | [], _ => simp only [numLoop]; omega
  | [c], _ =>
    simp only [numLoop]
    split <;> omega
  | [c, d], _ =>
    simp only [numLoop]
    split
    · omega
    · split <;> omega
theorem numD_bd (l : List UInt8) : -1 ≤ numD l ∧ numD l < 100000000 := by
  unfold numD
  split
  · omega
  · exact numLoop_bd l 0 (by omega) (by omega) (by omega)

def lastL : List UInt8 := [108, 97, 115, 116]
def fromL : List UInt8 := [62, 61]
def uptoL : List UInt8 := [60, 61]
def told (l : List UInt8) : Int × Int × Int :=
  if 0 ≤ numD l then (0, numD l, 0)
  else if 4 ≤ l.length ∧ Wd.same (l.take 4) lastL = true then (1, 0, Wd.pick (l.drop 4) (Days.map tl))
  else if (Lib.cut l fromL).2.2 = true then (2, numD (Lib.cut l fromL).2.1, Wd.pick (Lib.cut l fromL).1 (Days.map tl))
  else if (Lib.cut l uptoL).2.2 = true then (3, numD (Lib.cut l uptoL).2.1, Wd.pick (Lib.cut l uptoL).1 (Days.map tl))
  else (4, 0, 0)
def dec (n : Int) : List UInt8 := if n < 10 then [UInt8.ofNat (48 + n.toNat)] else [UInt8.ofNat (48 + n.toNat / 10), UInt8.ofNat (48 + n.toNat % 10)]
theorem dec_eq (n : Nat) (h : n < 100) : Lib.decDigits n = dec (n : Int) := by
  unfold dec Lib.decDigits
  by_cases h1 : n < 10
  · rw [dif_pos h1, if_pos (by omega), Int.toNat_natCast]
  · rw [dif_neg h1, if_neg (by omega), Int.toNat_natCast]
    unfold Lib.decDigits
    rw [dif_pos (by omega)]; rfl
def text (k n w : Int) : List UInt8 :=
  if k = 1 then lastL ++ tl (textOf Days w) else if k = 2 then tl (textOf Days w) ++ fromL ++ dec n else if k = 3 then tl (textOf Days w) ++ uptoL ++ dec n else dec n

def backOk (k n w : Int) : Bool := decide (told (text k n w) = (k, n, w))
theorem back0 : ∀ n : Nat, n < 31 → backOk 0 ((n : Int) + 1) 0 = true := by decide +kernel
theorem back1 : ∀ w : Nat, w < 7 → backOk 1 0 (w : Int) = true := by decide +kernel
theorem back2 : ∀ n : Nat, n < 31 → ∀ w : Nat, w < 7 → backOk 2 ((n : Int) + 1) (w : Int) = true := by decide +kernel
theorem back3 : ∀ n : Nat, n < 31 → ∀ w : Nat, w < 7 → backOk 3 ((n : Int) + 1) (w : Int) = true := by decide +kernel
/-- A right day is read from its text. -/
theorem told_text (k n w : Int) (h : Ok k n w) : told (text k n w) = (k, n, w) := by
  rcases h with ⟨rfl, h1, h2, rfl⟩ | ⟨rfl, rfl, h1, h2⟩ | ⟨hk, h1, h2, h3, h4⟩
  · have := back0 (n - 1).toNat (by omega)
    rw [show (((n - 1).toNat : Nat) : Int) + 1 = n by omega] at this
    exact of_decide_eq_true this
  · have := back1 w.toNat (by omega)
    rw [show ((w.toNat : Nat) : Int) = w by omega] at this
    exact of_decide_eq_true this
  · rcases hk with rfl | rfl
    · have := back2 (n - 1).toNat (by omega) w.toNat (by omega)
      rw [show (((n - 1).toNat : Nat) : Int) + 1 = n by omega, show ((w.toNat : Nat) : Int) = w by omega] at this
      exact of_decide_eq_true this
    · have := back3 (n - 1).toNat (by omega) w.toNat (by omega)
      rw [show (((n - 1).toNat : Nat) : Int) + 1 = n by omega, show ((w.toNat : Nat) : Int) = w by omega] at this
      exact of_decide_eq_true this
end Go.Proofs.YtfobllagmakjdaaDoor.Dy
/- The contracts of package day. -/
namespace Go.Proofs.YtfobllagmakjdaaDoor
open Go.RowKit

set_option maxHeartbeats 1000000 in
theorem dayCheck_ok (k n d : Int) (w : World) (h : Dy.Ok k n d) :
    Calls Tryd.prog 18 #[.agg #[.int .u8 k, .int .i64 n, .int .i64 d]] w fun e w' => e = .returned (.int .i64 0) ∧ Below w.heap.size w w' := by
  rcases h with ⟨rfl, h1, h2, rfl⟩ | ⟨rfl, rfl, h1, h2⟩ | ⟨rfl | rfl, h1, h2, h3, h4⟩
  all_goals
    go_enter Tryd.func18, Tryd.ntmps18
    go_wp2
    go_ret
    exact ⟨rfl, (Below.refl _ _).alloc (Nat.le_refl _) _⟩

set_option maxHeartbeats 2000000 in
theorem dayCheck_bad (k n d : Int) (w : World) (h : ¬ Dy.Ok k n d) :
    Calls Tryd.prog 18 #[.agg #[.int .u8 k, .int .i64 n, .int .i64 d]] w fun e w' => e = .returned (.int .i64 2) ∧ Below w.heap.size w w' := by
  have H := Lib.hid h
  clear h
  by_cases k0 : k = 0
  · subst k0
    go_enter Tryd.func18, Tryd.ntmps18
    go_wp2
    all_goals first
      | (exfalso; refine H.out ?_; unfold Dy.Ok; omega)
      | (go_ret; exact ⟨rfl, (Below.refl _ _).alloc (Nat.le_refl _) _⟩)
  by_cases k1 : k = 1
  · subst k1
    go_enter Tryd.func18, Tryd.ntmps18
    go_wp2
    all_goals first
      | (exfalso; refine H.out ?_; unfold Dy.Ok; omega)
      | (go_ret; exact ⟨rfl, (Below.refl _ _).alloc (Nat.le_refl _) _⟩)
  by_cases k2 : k = 2
  · subst k2
    go_enter Tryd.func18, Tryd.ntmps18
    go_wp2
    all_goals first
      | (exfalso; refine H.out ?_; unfold Dy.Ok; omega)
      | (go_ret; exact ⟨rfl, (Below.refl _ _).alloc (Nat.le_refl _) _⟩)
  by_cases k3 : k = 3
  · subst k3
    go_enter Tryd.func18, Tryd.ntmps18
    go_wp2
    all_goals first
      | (exfalso; refine H.out ?_; unfold Dy.Ok; omega)
      | (go_ret; exact ⟨rfl, (Below.refl _ _).alloc (Nat.le_refl _) _⟩)
  have e0 : (k == 0) = false := by simp [k0]
  have e1 : (k == 1) = false := by simp [k1]
  have e2 : (k == 2) = false := by simp [k2]
  have e3 : (k == 3) = false := by simp [k3]
  clear k0 k1 k2 k3
  go_enter Tryd.func18, Tryd.ntmps18
  go_wp2
  go_ret
  exact ⟨rfl, (Below.refl _ _).alloc (Nat.le_refl _) _⟩

end Go.Proofs.YtfobllagmakjdaaDoor
