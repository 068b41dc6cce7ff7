/- The contracts of package day: Parse, Text. -/
import Derived.Test.YtlhoggalhjadgaaDoorK05
import Derived.WideShapes
import Derived.Lib.AppendIntMem
namespace Go.Proofs.YtlhoggalhjadgaaDoor
open Go.RowKit

theorem parse_any (s : ByteArray) (w : World) (hW : Wl w) (hs : s.size ≤ 1000000) (k n d : Int) (hT : Dy.told (tl s) = (k, n, d)) :
    Calls Tryd.prog 43 #[.string s] w fun e w' => e = .returned (if Dy.Ok k n d then .tuple #[.agg #[.int .u8 k, .int .i64 n, .int .i64 d], .int .i64 0] else .tuple #[.agg #[.int .u8 0, .int .i64 0, .int .i64 0], .int .i64 4]) ∧ Below w.heap.size w w' := by
  have AT := calls_val (told_any s (w.alloc (.cells #[.int .u8 0, .int .i64 0, .int .i64 0] 24)) (hW.below ((Below.refl _ _).alloc (Nat.le_refl _) _)) hs) (show dayV (Dy.told (tl s)) = .agg #[.int .u8 k, .int .i64 n, .int .i64 d] by rw [hT]; rfl)
  have HAT := Lib.hid AT
  clear AT hT hW
  by_cases hok : Dy.Ok k n d
  · rw [if_pos hok]
    have HC := Lib.hid fun W => dayCheck_ok k n d W hok
    clear hok
    go_enter Tryd.func43, Tryd.ntmps43
    go_wp2_with fail
    refine HAT.out.mono ?_
    rintro e w1 ⟨rfl, hb1⟩
    have hb' : Below (w.heap.size + 1) (w.alloc (.cells #[.int .u8 0, .int .i64 0, .int .i64 0] 24)) w1 := hb1.mono (by simp)
    have hz : w.heap.size + 1 ≤ w1.heap.size := by have := hb'.size; simpa using this
    clear hb1
    go_wp2_with fail
    refine (HC.out _).mono ?_
    rintro e w2 ⟨rfl, hb2⟩
    have hb3 := (hb'.alloc (by omega) (.cells #[.int .u8 k, .int .i64 n, .int .i64 d] 24)).trans (hb2.mono (by simp; omega))
    obtain ⟨c0, c1, c2, f0, f1, f2⟩ := new3 hb3
    obtain ⟨g0, g1, g2, _, _, _⟩ := new3 (hb2.mono (by simp) : Below (w1.heap.size + 1) (w1.alloc (.cells #[.int .u8 k, .int .i64 n, .int .i64 d] 24)) w2)
    have HB := Lib.hid (below_new hb3)
    clear hb' hb2 hb3
    go_wp2
    refine bodyPost_ret (v := .tuple #[.agg #[.int .u8 k, .int .i64 n, .int .i64 d], .int .i64 0]) (by simp [results, Tryd.results43, go_sem, *]) rfl ⟨rfl, ?_⟩
    exact ((HB.out.setCell (p := ⟨w.heap.size, _, none⟩) (Nat.le_refl _) _).setCell (p := ⟨w.heap.size, _, none⟩) (Nat.le_refl _) _).setCell (p := ⟨w.heap.size, _, none⟩) (Nat.le_refl _) _
  · rw [if_neg hok]
    have HC := Lib.hid fun W => dayCheck_bad k n d W hok
    clear hok
    go_enter Tryd.func43, Tryd.ntmps43
    go_wp2_with fail
    refine HAT.out.mono ?_
    rintro e w1 ⟨rfl, hb1⟩
    have hb' : Below (w.heap.size + 1) (w.alloc (.cells #[.int .u8 0, .int .i64 0, .int .i64 0] 24)) w1 := hb1.mono (by simp)
    have hz : w.heap.size + 1 ≤ w1.heap.size := by have := hb'.size; simpa using this
    clear hb1
    go_wp2_with fail
    refine (HC.out _).mono ?_
    rintro e w2 ⟨rfl, hb2⟩
    have hb3 := (hb'.alloc (by omega) (.cells #[.int .u8 k, .int .i64 n, .int .i64 d] 24)).trans (hb2.mono (by simp; omega))
    obtain ⟨c0, c1, c2, f0, f1, f2⟩ := new3 hb3
    have HB := Lib.hid (below_new hb3)
    clear hb' hb2 hb3
    go_wp2
    refine bodyPost_ret (v := .tuple #[.agg #[.int .u8 0, .int .i64 0, .int .i64 0], .int .i64 4]) (by simp [results, Tryd.results43, go_sem, *]) rfl ⟨rfl, ?_⟩
    exact ((HB.out.setCell (p := ⟨w.heap.size, _, none⟩) (Nat.le_refl _) _).setCell (p := ⟨w.heap.size, _, none⟩) (Nat.le_refl _) _).setCell (p := ⟨w.heap.size, _, none⟩) (Nat.le_refl _) _

theorem itoa_small (n : Int) (w : World) (h0 : 0 ≤ n) (h1 : n < 100) :
    Calls Tryd.prog 14 #[.int .i64 n] w fun e w' => e = .returned (.string ⟨(Dy.dec n).toArray⟩) ∧ w' = w := by
  obtain ⟨k, rfl⟩ : ∃ k : Nat, n = (k : Int) := ⟨n.toNat, by omega⟩
  rw [← Dy.dec_eq k (by omega)]
  exact Tryd.strconv_Itoa_small k (by omega) w

theorem app_mk (a b : ByteArray) : a ++ b = ⟨(tl a ++ tl b).toArray⟩ := by
  apply WideShapes.bytes_inj
  simp [tl]
theorem app_mk2 (a b c : ByteArray) : a ++ b ++ c = ⟨(tl a ++ tl b ++ tl c).toArray⟩ := by
  rw [app_mk (a ++ b) c, app_mk a b, tl_mk]
theorem textDays_size (d : Int) : (textOf Days d).size ≤ 3 := by
  unfold textOf
  split
  · simp only [ByteArray.size_extract]; omega
  · exact Nat.zero_le _
theorem dec_size (n : Int) : (⟨(Dy.dec n).toArray⟩ : ByteArray).size ≤ 2 := by
  rw [size_mk]; unfold Dy.dec; split <;> simp
theorem ret_str2 {a b : ByteArray} {v : Value} (h : a = b) : Ending.returned (.tuple #[.string a, v]) = .returned (.tuple #[.string b, v]) := by rw [h]

set_option maxHeartbeats 1000000 in
theorem dayText_ok (k n d : Int) (w : World) (h : Dy.Ok k n d) :
    Calls Tryd.prog 15 #[.agg #[.int .u8 k, .int .i64 n, .int .i64 d]] w fun e w' => e = .returned (.tuple #[.string ⟨(Dy.text k n d).toArray⟩, .int .i64 0]) ∧ Below w.heap.size w w' := by
  have HC := Lib.hid fun W => dayCheck_ok k n d W h
  rcases h with ⟨rfl, h1, h2, rfl⟩ | ⟨rfl, rfl, h1, h2⟩ | ⟨hk, h1, h2, h3, h4⟩
  · go_enter Tryd.func15, Tryd.ntmps15
    go_wp2_with fail
    refine (HC.out _).mono ?_
    rintro e w1 ⟨rfl, hb1⟩
    have hb' : Below (w.heap.size + 1) (w.alloc (.cells #[.int .u8 0, .int .i64 n, .int .i64 0] 24)) w1 := hb1.mono (by simp)
    obtain ⟨c0, c1, c2, _, _, _⟩ := new3 hb'
    have HB := Lib.hid (below_new hb')
    clear hb1 hb'
    go_wp2_with (go_at_call 14; refine (itoa_small n _ (by omega) (by omega)).mono ?_; rintro e w2 ⟨rfl, rfl⟩)
    go_ret2
    exact ⟨rfl, HB.out⟩
  · go_enter Tryd.func15, Tryd.ntmps15
    go_wp2_with fail
    refine (HC.out _).mono ?_
    rintro e w1 ⟨rfl, hb1⟩
    have hb' : Below (w.heap.size + 1) (w.alloc (.cells #[.int .u8 1, .int .i64 0, .int .i64 d] 24)) w1 := hb1.mono (by simp)
    obtain ⟨c0, c1, c2, _, _, _⟩ := new3 hb'
    have HB := Lib.hid (below_new hb')
    clear hb1 hb'
    have AW := fun W => weekdayText_any d W
    have hE : Dy.text 1 0 d = Dy.lastL ++ tl (textOf Days d) := rfl
    have hs3 := textDays_size d
    obtain ⟨T, hT⟩ : ∃ T, textOf Days d = T := ⟨_, rfl⟩
    rw [hT] at hE hs3
    simp only [hT] at AW
    have HAW := Lib.hid AW
    have HE := Lib.hid hE
    clear AW hE hT
    go_wp2_with (go_at_call 33; refine (HAW.out _).mono ?_; rintro e w2 ⟨rfl, hb2⟩)
    go_ret2
    exact ⟨ret_str2 (by rw [HE.out, app_mk]; rfl), below_then HB.out hb2⟩
  · have hs3 := textDays_size d
    have hs2 := dec_size n
    have AW := fun W => weekdayText_any d W
    have AI := fun W => itoa_small n W (by omega) (by omega)
    obtain ⟨D, hD⟩ : ∃ D, (⟨(Dy.dec n).toArray⟩ : ByteArray) = D := ⟨_, rfl⟩
    have hDn : Dy.dec n = tl D := by rw [← hD, tl_mk]
    obtain ⟨T, hT⟩ : ∃ T, textOf Days d = T := ⟨_, rfl⟩
    have hE2 : Dy.text 2 n d = tl T ++ Dy.fromL ++ tl D := by rw [← hT, ← hDn]; rfl
    have hE3 : Dy.text 3 n d = tl T ++ Dy.uptoL ++ tl D := by rw [← hT, ← hDn]; rfl
    rw [hT] at hs3
    rw [hD] at hs2
    simp only [hT] at AW
    simp only [hD] at AI
    have HAW := Lib.hid AW
    have HAI := Lib.hid AI
    have HE2 := Lib.hid hE2
    have HE3 := Lib.hid hE3
    clear AW AI hE2 hE3 hT hD hDn
    rcases hk with rfl | rfl
    · have s1 : ∀ W, (Op.stringOp .add T ⟨#[62, 61]⟩).run Tryd.prog W = .ok (.string (T ++ ⟨#[62, 61]⟩)) W := fun W => run_string_add_sum W _ _ (by have : (⟨#[62, 61]⟩ : ByteArray).size = 2 := rfl; omega)
      have s2 : ∀ W, (Op.stringOp .add (T ++ ⟨#[62, 61]⟩) D).run Tryd.prog W = .ok (.string (T ++ ⟨#[62, 61]⟩ ++ D)) W := fun W => run_string_add_sum W _ _ (by rw [ByteArray.size_append]; have : (⟨#[62, 61]⟩ : ByteArray).size = 2 := rfl; omega)
      go_enter Tryd.func15, Tryd.ntmps15
      go_wp2_with fail
      refine (HC.out _).mono ?_
      rintro e w1 ⟨rfl, hb1⟩
      have hb' : Below (w.heap.size + 1) (w.alloc (.cells #[.int .u8 2, .int .i64 n, .int .i64 d] 24)) w1 := hb1.mono (by simp)
      obtain ⟨c0, c1, c2, _, _, _⟩ := new3 hb'
      have HB := Lib.hid (below_new hb')
      have hz : w.heap.size + 1 ≤ w1.heap.size := by have := hb'.size; simpa using this
      clear hb1 hb'
      go_wp2_with fail
      go_region_held3 (fun w' => w'.cell? ⟨w.heap.size, 1, none⟩ = some (.int .i64 n) ∧ w'.cell? ⟨w.heap.size, 2, none⟩ = some (.int .i64 d)) (first | exact ⟨c1, c2⟩ | exact ⟨by assumption, by assumption⟩)
        (first
          | (go_at_call 14; refine (HAI.out _).mono ?_; rintro e w' ⟨rfl, rfl⟩)
          | (go_at_call 33; refine (HAW.out _).mono ?_; rintro e w' ⟨rfl, hb2⟩; have c1' := (hb2.cell (p := ⟨w.heap.size, 1, none⟩) (by simp; omega)); have c2' := (hb2.cell (p := ⟨w.heap.size, 2, none⟩) (by simp; omega)); simp only [*] at c1' c2'))
      all_goals go_wp2
      all_goals go_ret2
      all_goals exact ⟨ret_str2 (by rw [HE2.out, app_mk2]; rfl), below_then HB.out ((Below.refl w1.heap.size w1).drew.trans hb2)⟩
    · have s1 : ∀ W, (Op.stringOp .add T ⟨#[60, 61]⟩).run Tryd.prog W = .ok (.string (T ++ ⟨#[60, 61]⟩)) W := fun W => run_string_add_sum W _ _ (by have : (⟨#[60, 61]⟩ : ByteArray).size = 2 := rfl; omega)
      have s2 : ∀ W, (Op.stringOp .add (T ++ ⟨#[60, 61]⟩) D).run Tryd.prog W = .ok (.string (T ++ ⟨#[60, 61]⟩ ++ D)) W := fun W => run_string_add_sum W _ _ (by rw [ByteArray.size_append]; have : (⟨#[60, 61]⟩ : ByteArray).size = 2 := rfl; omega)
      go_enter Tryd.func15, Tryd.ntmps15
      go_wp2_with fail
      refine (HC.out _).mono ?_
      rintro e w1 ⟨rfl, hb1⟩
      have hb' : Below (w.heap.size + 1) (w.alloc (.cells #[.int .u8 3, .int .i64 n, .int .i64 d] 24)) w1 := hb1.mono (by simp)
      obtain ⟨c0, c1, c2, _, _, _⟩ := new3 hb'
      have HB := Lib.hid (below_new hb')
      have hz : w.heap.size + 1 ≤ w1.heap.size := by have := hb'.size; simpa using this
      clear hb1 hb'
      go_wp2_with fail
      go_region_held3 (fun w' => w'.cell? ⟨w.heap.size, 1, none⟩ = some (.int .i64 n) ∧ w'.cell? ⟨w.heap.size, 2, none⟩ = some (.int .i64 d)) (first | exact ⟨c1, c2⟩ | exact ⟨by assumption, by assumption⟩)
        (first
          | (go_at_call 14; refine (HAI.out _).mono ?_; rintro e w' ⟨rfl, rfl⟩)
          | (go_at_call 33; refine (HAW.out _).mono ?_; rintro e w' ⟨rfl, hb2⟩; have c1' := (hb2.cell (p := ⟨w.heap.size, 1, none⟩) (by simp; omega)); have c2' := (hb2.cell (p := ⟨w.heap.size, 2, none⟩) (by simp; omega)); simp only [*] at c1' c2'))
      all_goals go_wp2
      all_goals go_ret2
      all_goals exact ⟨ret_str2 (by rw [HE3.out, app_mk2]; rfl), below_then HB.out ((Below.refl w1.heap.size w1).drew.trans hb2)⟩
end Go.Proofs.YtlhoggalhjadgaaDoor
/- The contract of day.In. -/
namespace Go.Proofs.YtlhoggalhjadgaaDoor
open Go.RowKit

theorem dayText_bad (k n d : Int) (w : World) (h : ¬ Dy.Ok k n d) :
    Calls Tryd.prog 15 #[.agg #[.int .u8 k, .int .i64 n, .int .i64 d]] w fun e w' => e = .returned (.tuple #[.string ⟨#[]⟩, .int .i64 2]) ∧ Below w.heap.size w w' := by
  have HC := Lib.hid fun W => dayCheck_bad k n d W h
  clear h
  go_enter Tryd.func15, Tryd.ntmps15
  go_wp2_with fail
  refine (HC.out _).mono ?_
  rintro e w1 ⟨rfl, hb1⟩
  have HB := Lib.hid (below_new (hb1.mono (by simp) : Below (w.heap.size + 1) (w.alloc (.cells #[.int .u8 k, .int .i64 n, .int .i64 d] 24)) w1))
  clear hb1
  go_wp2
  go_ret2
  exact ⟨rfl, HB.out⟩

namespace Dy
/-- The day that a kind tells, ahead of the look at the calendar's bounds. -/
def base (k n y m : Int) : Int := Cv.num y m (if k = 1 then Cv.len y m else n)
def res (k n d y m : Int) : Int := if k = 2 then base k n y m + (d - dow (base k n y m)) % 7 else if k = 0 then base k n y m else base k n y m - (dow (base k n y m) - d) % 7
def inS (k n d y m : Int) : Int × Int :=
  if ¬ Ok k n d then (0, 2) else if ¬ (1 ≤ y ∧ y ≤ 9999 ∧ 1 ≤ m ∧ m ≤ 12) then (0, 1) else if n > Cv.len y m then (0, 3)
  else if -719162 ≤ res k n d y m ∧ res k n d y m < 2932897 then (res k n d y m, 0) else (0, 1)
end Dy
theorem dow_bd (n : Int) : 0 ≤ dow n ∧ dow n ≤ 6 := by unfold dow; omega
theorem num_bd (y m d : Int) (h : Cv.Valid y m d) : -719162 ≤ Cv.num y m d ∧ Cv.num y m d < 2932897 := by
  have h1 := Cv.first_le y m d h
  obtain ⟨a, b, _⟩ := h
  have h2 := Cv.first_mono 1 y a
  have h3 := Cv.first_mono (y + 1) 10000 (by omega)
  rw [num_min] at h2
  rw [num_max] at h3
  omega

end Go.Proofs.YtlhoggalhjadgaaDoor
/- The contract of the statements' own 'lives' of package day. -/
namespace Go.Proofs.YtlhoggalhjadgaaDoor
open Go.RowKit

theorem inS_ok (k n d y m : Int) (h : Dy.Ok k n d) (hc : InCal y m) (hn : ¬ n > Cv.len y m) : Dy.inS k n d y m = (if -719162 ≤ Dy.res k n d y m ∧ Dy.res k n d y m < 2932897 then Dy.res k n d y m else 0, if -719162 ≤ Dy.res k n d y m ∧ Dy.res k n d y m < 2932897 then 0 else 1) := by
  unfold Dy.inS
  rw [if_neg (fun x => x h), if_neg (fun x => x hc), if_neg hn]
  by_cases hr : -719162 ≤ Dy.res k n d y m ∧ Dy.res k n d y m < 2932897
  · rw [if_pos hr, if_pos hr, if_pos hr]
  · rw [if_neg hr, if_neg hr, if_neg hr]
theorem parse_is (s : ByteArray) (w : World) (hW : Wl w) (hs : s.size ≤ 1000000) (k n d : Int) (hT : Dy.told (tl s) = (k, n, d)) (hok : Dy.Ok k n d) :
    Calls Tryd.prog 43 #[.string s] w fun e w' => e = .returned (.tuple #[.agg #[.int .u8 k, .int .i64 n, .int .i64 d], .int .i64 0]) ∧ Below w.heap.size w w' :=
  calls_val (parse_any s w hW hs k n d hT) (if_pos hok)
theorem parse_no (s : ByteArray) (w : World) (hW : Wl w) (hs : s.size ≤ 1000000) (k n d : Int) (hT : Dy.told (tl s) = (k, n, d)) (hok : ¬ Dy.Ok k n d) :
    Calls Tryd.prog 43 #[.string s] w fun e w' => e = .returned (.tuple #[.agg #[.int .u8 0, .int .i64 0, .int .i64 0], .int .i64 4]) ∧ Below w.heap.size w w' :=
  calls_val (parse_any s w hW hs k n d hT) (if_neg hok)
/-- What a block of cells holds stays behind what a callee did. -/
theorem kept3 {w w1 : World} {g : Nat} {a b c : Value} (h : w.cell? ⟨g, 0, none⟩ = some a ∧ w.cell? ⟨g, 1, none⟩ = some b ∧ w.cell? ⟨g, 2, none⟩ = some c) (hb : Below w.heap.size w w1) :
    w1.cell? ⟨g, 0, none⟩ = some a ∧ w1.cell? ⟨g, 1, none⟩ = some b ∧ w1.cell? ⟨g, 2, none⟩ = some c := by
  have hg : g < w.heap.size := block_lt_of_cell h.1
  exact ⟨(hb.cell (p := ⟨g, 0, none⟩) hg).trans h.1, (hb.cell (p := ⟨g, 1, none⟩) hg).trans h.2.1, (hb.cell (p := ⟨g, 2, none⟩) hg).trans h.2.2⟩
theorem laid3 (w : World) (a b c : Value) (t : TypeId) : (w.alloc (.cells #[a, b, c] t)).cell? ⟨w.heap.size, 0, none⟩ = some a ∧ (w.alloc (.cells #[a, b, c] t)).cell? ⟨w.heap.size, 1, none⟩ = some b ∧ (w.alloc (.cells #[a, b, c] t)).cell? ⟨w.heap.size, 2, none⟩ = some c :=
  ⟨cell_of_row _ w.heap.size 0 _ _ _ (heap_alloc_new w _), cell_of_row _ w.heap.size 1 _ _ _ (heap_alloc_new w _), cell_of_row _ w.heap.size 2 _ _ _ (heap_alloc_new w _)⟩

theorem kept3a {w w1 : World} {o : Obj} {g : Nat} {a b c : Value} (h : w.cell? ⟨g, 0, none⟩ = some a ∧ w.cell? ⟨g, 1, none⟩ = some b ∧ w.cell? ⟨g, 2, none⟩ = some c) (hb : Below (w.alloc o).heap.size (w.alloc o) w1) :
    w1.cell? ⟨g, 0, none⟩ = some a ∧ w1.cell? ⟨g, 1, none⟩ = some b ∧ w1.cell? ⟨g, 2, none⟩ = some c := kept3 (kept3 h ((Below.refl _ _).alloc (Nat.le_refl _) _)) hb

end Go.Proofs.YtlhoggalhjadgaaDoor
/- The contracts of package clock: instants. -/
namespace Go.Proofs.YtlhoggalhjadgaaDoor
open Go.RowKit

def IsTime (s : Int) : Prop := -604800 ≤ s ∧ s ≤ 604800
instance (s : Int) : Decidable (IsTime s) := by unfold IsTime; exact inferInstance
def InT (s : Int) : Prop := -1099511627776 ≤ s ∧ s ≤ 1099511627776
instance (s : Int) : Decidable (InT s) := by unfold InT; exact inferInstance

theorem isTime_any (s : Int) (w : World) :
    Calls Tryd.prog 35 #[.int .i64 s] w fun e w' => e = .returned (.bool (decide (IsTime s))) ∧ w = w' := by
  by_cases h : IsTime s
  · have HD := Lib.hid (decide_eq_true h)
    obtain ⟨h1, h2⟩ := h
    go_enter Tryd.func35, Tryd.ntmps35
    go_wp2
    go_ret
    exact ⟨ret_bool (by rw [HD.out]), rfl⟩
  · have HD := Lib.hid (decide_eq_false h)
    have h' : s < -604800 ∨ 604800 < s := by unfold IsTime at h; omega
    clear h
    by_cases h1 : s < -604800
    · clear h'
      go_enter Tryd.func35, Tryd.ntmps35
      go_wp2
      go_ret
      exact ⟨ret_bool (by rw [HD.out]), rfl⟩
    · have h2 : 604800 < s := by omega
      clear h'
      go_enter Tryd.func35, Tryd.ntmps35
      go_wp2
      go_ret
      exact ⟨ret_bool (by rw [HD.out]; first | (simp; done) | (simp; omega)), rfl⟩

theorem ret_int22 {k : IntKind} {a b c d : Int} (h : a = b) (h' : c = d) : Ending.returned (.tuple #[.int k a, .int k c]) = .returned (.tuple #[.int k b, .int k d]) := by rw [h, h']
end Go.Proofs.YtlhoggalhjadgaaDoor
/- The contracts of package clock: a time's text is read. -/
namespace Go.Proofs.YtlhoggalhjadgaaDoor
open Go.RowKit

namespace Ck
def numC (l : List UInt8) (least most : Nat) : Int := if l.length < least ∨ most < l.length then -1 else Dy.numLoop l 0
def resN (N : Int) : Int := if N = -1 then 0 else N
def okN (N : Int) : Bool := !decide (N = -1)
end Ck
theorem ret_nb {a c : Int} {b d : Bool} (h : a = c) (h' : b = d) : Ending.returned (.tuple #[.int .i64 a, .bool b]) = .returned (.tuple #[.int .i64 c, .bool d]) := by rw [h, h']

theorem numLoop3_bd : ∀ (l : List UInt8) (a : Int), 0 ≤ a → -1 ≤ Dy.numLoop l a := by
  intro l
  induction l with
  | nil => intro a h; simp only [Dy.numLoop]; omega
  | cons c r ih =>
    intro a h
    simp only [Dy.numLoop]
    split
    · omega
    · exact ih _ (by omega)

set_option maxHeartbeats 1000000 in
theorem clockNumber_any (s : ByteArray) (least most : Nat) (w : World) (hs : s.size ≤ maxLen) (hm : most ≤ 3) :
    Calls Tryd.prog 60 #[.string s, .int .i64 least, .int .i64 most] w fun e w' => e = .returned (.tuple #[.int .i64 (Ck.resN (Ck.numC (tl s) least most)), .bool (Ck.okN (Ck.numC (tl s) least most))]) ∧ w = w' := by
  unfold maxLen at hs
  by_cases h1 : s.size < least
  · have hE : Ck.numC (tl s) least most = -1 := by unfold Ck.numC; rw [tl_length, if_pos (.inl h1)]
    rw [hE]
    have q : (s.size : Int) < (least : Int) := by omega
    clear hE h1
    go_enter Tryd.func60, Tryd.ntmps60
    go_wp2
    go_ret2
    exact ⟨rfl, rfl⟩
  by_cases h2 : most < s.size
  · have hE : Ck.numC (tl s) least most = -1 := by unfold Ck.numC; rw [tl_length, if_pos (.inr h2)]
    rw [hE]
    have q : ¬ (s.size : Int) < (least : Int) := by omega
    have q2 : (most : Int) < (s.size : Int) := by omega
    clear hE h1 h2
    go_enter Tryd.func60, Tryd.ntmps60
    go_wp2
    go_ret2
    exact ⟨rfl, rfl⟩
  have hE : Ck.numC (tl s) least most = Dy.numLoop ((tl s).drop 0) 0 := by unfold Ck.numC; rw [tl_length, if_neg (by omega)]; rfl
  have hNb := numLoop3_bd ((tl s).drop 0) 0 (by omega)
  obtain ⟨N, hN⟩ : ∃ N, Ck.numC (tl s) least most = N := ⟨_, rfl⟩
  rw [hN] at hE ⊢
  have HE := Lib.hid hE
  have q : ¬ (s.size : Int) < (least : Int) := by omega
  have q2 : ¬ (most : Int) < (s.size : Int) := by omega
  have q3 : s.size ≤ 3 := by omega
  clear hN hE hNb h1 h2
  go_enter Tryd.func60, Tryd.ntmps60
  go_wp2
  go_loop [8, 22] (fun t i => ∃ (k : Nat) (a : Int), k ≤ s.size ∧ i = .int .i64 k ∧ t = .int .i64 a ∧ 0 ≤ a ∧ a ≤ 999 ∧ Hid (k ≤ 2 → a ≤ 99) ∧ Hid (k ≤ 1 → a ≤ 9) ∧ Hid (k = 0 → a = 0) ∧ Hid (N = Dy.numLoop ((tl s).drop k) a)) (fun _ i => s.size - (intOf i).toNat)
  case atStart => exact ⟨0, 0, by omega, rfl, rfl, by omega, by omega, fun _ => by omega, fun _ => by omega, fun _ => rfl, HE.out⟩
  case round =>
    obtain ⟨k, a, hk, rfl, rfl, a0, a1, HA2, HA1, HA0, HN⟩ := hrel
    by_cases hlt : k < s.size
    · have p1 : (0 : Int) ≤ (k : Int) := by omega
      have p2 : (k : Int) < (s.size : Int) := by omega
      have b1 := u8_bd s[k]
      have a2 : a ≤ 99 := HA2.out (by omega)
      by_cases hc : (s[k].toNat : Int) < 48 ∨ 57 < (s[k].toNat : Int)
      · have HB := Lib.hid (Dy.numLoop_bad (tl s) k s[k] a N HN.out (Dy.tl_get s k hlt) hc)
        by_cases hc1 : (s[k].toNat : Int) < 48
        · clear hc
          go_wp2
          go_ret2
          exact ⟨ret_nb (by rw [HB.out]; rfl) (by rw [HB.out]; rfl), rfl⟩
        · have hc2 : 57 < (s[k].toNat : Int) := by omega
          clear hc
          go_wp2
          go_ret2
          exact ⟨ret_nb (by rw [HB.out]; rfl) (by rw [HB.out]; rfl), rfl⟩
      · have HB := Lib.hid (Dy.numLoop_next (tl s) k s[k] a N HN.out (Dy.tl_get s k hlt) hc)
        have c1 : 48 ≤ (s[k].toNat : Int) := by omega
        have c2 : (s[k].toNat : Int) ≤ 57 := by omega
        have HA0' := HA0.out
        have HA1' := HA1.out
        have HZ : Hid (k + 1 ≤ 1 → a * 10 + ((s[k].toNat : Int) - 48) ≤ 9) := by intro h; have := HA0' (by omega); omega
        have HZ2 : Hid (k + 1 ≤ 2 → a * 10 + ((s[k].toNat : Int) - 48) ≤ 99) := by intro h; have := HA1' (by omega); omega
        clear hc HA0' HA1'
        go_wp2
        go_round
        case rel => exact ⟨k + 1, a * 10 + ((s[k].toNat : Int) - 48), by omega, by go_num, rfl, by omega, by omega, HZ2, HZ, fun h => absurd h (by omega), HB⟩
        case measure => simp [intOf]; omega
    · obtain rfl : k = s.size := by omega
      have HB := Lib.hid (Dy.numLoop_end (tl s) s.size a N HN.out (tl_length s))
      go_wp2
      go_ret2
      have hne : ¬ N = -1 := by have := HB.out; omega
      exact ⟨ret_nb (by unfold Ck.resN; rw [if_neg hne, HB.out]) (by unfold Ck.okN; rw [decide_eq_false hne]; rfl), rfl⟩

/-- What stands in the program's variables: what reading asks. -/
structure Wp (w : World) : Prop where
  p0 : w.cell? ⟨0, 0, none⟩ = some (.int .i64 3600)
  p1 : w.cell? ⟨0, 1, none⟩ = some (.int .i64 60)
  p2 : w.cell? ⟨0, 2, none⟩ = some (.int .i64 1)
  maxl : ∃ m, w.cell? ⟨3, 0, none⟩ = some (.int .i64 m)
theorem Wp.below {w w' : World} (h : Wp w) (hb : Below w.heap.size w w') : Wp w' := by
  obtain ⟨m, hm⟩ := h.maxl
  have hl : 0 < w.heap.size := block_lt_of_cell h.p0
  exact ⟨(hb.cell (p := ⟨_, 0, none⟩) hl).trans h.p0, (hb.cell (p := ⟨_, 1, none⟩) hl).trans h.p1, (hb.cell (p := ⟨_, 2, none⟩) hl).trans h.p2,
    ⟨m, (hb.cell (p := ⟨_, 0, none⟩) (block_lt_of_cell hm)).trans hm⟩⟩
/-- What stands in the program's variables: what writing asks, too. -/
structure Wc (w : World) : Prop where
  p0 : w.cell? ⟨0, 0, none⟩ = some (.int .i64 3600)
  p1 : w.cell? ⟨0, 1, none⟩ = some (.int .i64 60)
  p2 : w.cell? ⟨0, 2, none⟩ = some (.int .i64 1)
  maxl : ∃ m, w.cell? ⟨3, 0, none⟩ = some (.int .i64 m)
  pow : Lib.TabIs Tryd.prog w "internal/strconv.uint64pow10" .u64 Lib.pow10Tab
theorem Wc.below {w w' : World} (h : Wc w) (hb : Below w.heap.size w w') : Wc w' := by
  obtain ⟨m, hm⟩ := h.maxl
  have hl : 0 < w.heap.size := block_lt_of_cell h.p0
  exact ⟨(hb.cell (p := ⟨_, 0, none⟩) hl).trans h.p0, (hb.cell (p := ⟨_, 1, none⟩) hl).trans h.p1, (hb.cell (p := ⟨_, 2, none⟩) hl).trans h.p2,
    ⟨m, (hb.cell (p := ⟨_, 0, none⟩) (block_lt_of_cell hm)).trans hm⟩, Lib.tabBelow_of_tabIs h.pow w' hb⟩
theorem Wc.p {w : World} (h : Wc w) : Wp w := ⟨h.p0, h.p1, h.p2, h.maxl⟩
end Go.Proofs.YtlhoggalhjadgaaDoor
