/- The contracts of package day: Parse, Text. -/
import Derived.Test.YtmobejhfajnbhaaDoorK06
import Derived.WideShapes
namespace Go.Proofs.YtmobejhfajnbhaaDoor
open Go.RowKit

theorem parse_any (s : ByteArray) (w : World) (hW : Wl w) (hs : s.size ≤ 1000000) (k n d : Int) (hT : Dy.told (tl s) = (k, n, d)) :
    Calls Tryd.prog 111 #[.string s] w fun e w' => e = .returned (if Dy.Ok k n d then .tuple #[.agg #[.int .u8 k, .int .i64 n, .int .i64 d], .int .i64 0] else .tuple #[.agg #[.int .u8 0, .int .i64 0, .int .i64 0], .int .i64 4]) ∧ Below w.heap.size w w' := by
  have AT := calls_val (told_any s (w.alloc (.cells #[.int .u8 0, .int .i64 0, .int .i64 0] 29)) (hW.below ((Below.refl _ _).alloc (Nat.le_refl _) _)) hs) (show dayV (Dy.told (tl s)) = .agg #[.int .u8 k, .int .i64 n, .int .i64 d] by rw [hT]; rfl)
  have HAT := Lib.hid AT
  clear AT hT hW
  by_cases hok : Dy.Ok k n d
  · rw [if_pos hok]
    have HC := Lib.hid fun W => dayCheck_ok k n d W hok
    clear hok
    go_enter Tryd.func111, Tryd.ntmps111
    go_wp2_with fail
    refine HAT.out.mono ?_
    rintro e w1 ⟨rfl, hb1⟩
    have hb' : Below (w.heap.size + 1) (w.alloc (.cells #[.int .u8 0, .int .i64 0, .int .i64 0] 29)) w1 := hb1.mono (by simp)
    have hz : w.heap.size + 1 ≤ w1.heap.size := by have := hb'.size; simpa using this
    clear hb1
    go_wp2_with fail
    refine (HC.out _).mono ?_
    rintro e w2 ⟨rfl, hb2⟩
    have hb3 := (hb'.alloc (by omega) (.cells #[.int .u8 k, .int .i64 n, .int .i64 d] 29)).trans (hb2.mono (by simp; omega))
    obtain ⟨c0, c1, c2, f0, f1, f2⟩ := new3 hb3
    obtain ⟨g0, g1, g2, _, _, _⟩ := new3 (hb2.mono (by simp) : Below (w1.heap.size + 1) (w1.alloc (.cells #[.int .u8 k, .int .i64 n, .int .i64 d] 29)) w2)
    have HB := Lib.hid (below_new hb3)
    clear hb' hb2 hb3
    go_wp2
    refine bodyPost_ret (v := .tuple #[.agg #[.int .u8 k, .int .i64 n, .int .i64 d], .int .i64 0]) (by simp [results, Tryd.results111, go_sem, *]) rfl ⟨rfl, ?_⟩
    exact ((HB.out.setCell (p := ⟨w.heap.size, _, none⟩) (Nat.le_refl _) _).setCell (p := ⟨w.heap.size, _, none⟩) (Nat.le_refl _) _).setCell (p := ⟨w.heap.size, _, none⟩) (Nat.le_refl _) _
  · rw [if_neg hok]
    have HC := Lib.hid fun W => dayCheck_bad k n d W hok
    clear hok
    go_enter Tryd.func111, Tryd.ntmps111
    go_wp2_with fail
    refine HAT.out.mono ?_
    rintro e w1 ⟨rfl, hb1⟩
    have hb' : Below (w.heap.size + 1) (w.alloc (.cells #[.int .u8 0, .int .i64 0, .int .i64 0] 29)) w1 := hb1.mono (by simp)
    have hz : w.heap.size + 1 ≤ w1.heap.size := by have := hb'.size; simpa using this
    clear hb1
    go_wp2_with fail
    refine (HC.out _).mono ?_
    rintro e w2 ⟨rfl, hb2⟩
    have hb3 := (hb'.alloc (by omega) (.cells #[.int .u8 k, .int .i64 n, .int .i64 d] 29)).trans (hb2.mono (by simp; omega))
    obtain ⟨c0, c1, c2, f0, f1, f2⟩ := new3 hb3
    have HB := Lib.hid (below_new hb3)
    clear hb' hb2 hb3
    go_wp2
    refine bodyPost_ret (v := .tuple #[.agg #[.int .u8 0, .int .i64 0, .int .i64 0], .int .i64 4]) (by simp [results, Tryd.results111, go_sem, *]) rfl ⟨rfl, ?_⟩
    exact ((HB.out.setCell (p := ⟨w.heap.size, _, none⟩) (Nat.le_refl _) _).setCell (p := ⟨w.heap.size, _, none⟩) (Nat.le_refl _) _).setCell (p := ⟨w.heap.size, _, none⟩) (Nat.le_refl _) _

theorem itoa_small (n : Int) (w : World) (h0 : 0 ≤ n) (h1 : n < 100) :
    Calls Tryd.prog 65 #[.int .i64 n] w fun e w' => e = .returned (.string ⟨(Dy.dec n).toArray⟩) ∧ w' = w := by
  obtain ⟨k, rfl⟩ : ∃ k : Nat, n = (k : Int) := ⟨n.toNat, by omega⟩
  rw [← Dy.dec_eq k (by omega)]
  exact Tryd.strconv_Itoa_small k (by omega) w

theorem app_mk (a b : ByteArray) : a ++ b = ⟨(tl a ++ tl b).toArray⟩ := by
  apply WideShapes.bytes_inj
  simp [tl]
theorem app_mk2 (a b c : ByteArray) : a ++ b ++ c = ⟨(tl a ++ tl b ++ tl c).toArray⟩ := by
  rw [app_mk (a ++ b) c, app_mk a b, tl_mk]
theorem textDays_size (d : Int) : (textOf Days d).size ≤ 3 := by
  unfold textOf
  split
  · simp only [ByteArray.size_extract]; omega
  · exact Nat.zero_le _
theorem dec_size (n : Int) : (⟨(Dy.dec n).toArray⟩ : ByteArray).size ≤ 2 := by
  rw [size_mk]; unfold Dy.dec; split <;> simp
theorem ret_str2 {a b : ByteArray} {v : Value} (h : a = b) : Ending.returned (.tuple #[.string a, v]) = .returned (.tuple #[.string b, v]) := by rw [h]

set_option maxHeartbeats 1000000 in
theorem dayText_ok (k n d : Int) (w : World) (h : Dy.Ok k n d) :
    Calls Tryd.prog 66 #[.agg #[.int .u8 k, .int .i64 n, .int .i64 d]] w fun e w' => e = .returned (.tuple #[.string ⟨(Dy.text k n d).toArray⟩, .int .i64 0]) ∧ Below w.heap.size w w' := by
  have HC := Lib.hid fun W => dayCheck_ok k n d W h
  rcases h with ⟨rfl, h1, h2, rfl⟩ | ⟨rfl, rfl, h1, h2⟩ | ⟨hk, h1, h2, h3, h4⟩
  · go_enter Tryd.func66, Tryd.ntmps66
    go_wp2_with fail
    refine (HC.out _).mono ?_
    rintro e w1 ⟨rfl, hb1⟩
    have hb' : Below (w.heap.size + 1) (w.alloc (.cells #[.int .u8 0, .int .i64 n, .int .i64 0] 29)) w1 := hb1.mono (by simp)
    obtain ⟨c0, c1, c2, _, _, _⟩ := new3 hb'
    have HB := Lib.hid (below_new hb')
    clear hb1 hb'
    go_wp2_with (go_at_call 65; refine (itoa_small n _ (by omega) (by omega)).mono ?_; rintro e w2 ⟨rfl, rfl⟩)
    go_ret2
    exact ⟨rfl, HB.out⟩
  · go_enter Tryd.func66, Tryd.ntmps66
    go_wp2_with fail
    refine (HC.out _).mono ?_
    rintro e w1 ⟨rfl, hb1⟩
    have hb' : Below (w.heap.size + 1) (w.alloc (.cells #[.int .u8 1, .int .i64 0, .int .i64 d] 29)) w1 := hb1.mono (by simp)
    obtain ⟨c0, c1, c2, _, _, _⟩ := new3 hb'
    have HB := Lib.hid (below_new hb')
    clear hb1 hb'
    have AW := fun W => weekdayText_any d W
    have hE : Dy.text 1 0 d = Dy.lastL ++ tl (textOf Days d) := rfl
    have hs3 := textDays_size d
    obtain ⟨T, hT⟩ : ∃ T, textOf Days d = T := ⟨_, rfl⟩
    rw [hT] at hE hs3
    simp only [hT] at AW
    have HAW := Lib.hid AW
    have HE := Lib.hid hE
    clear AW hE hT
    go_wp2_with (go_at_call 101; refine (HAW.out _).mono ?_; rintro e w2 ⟨rfl, hb2⟩)
    go_ret2
    exact ⟨ret_str2 (by rw [HE.out, app_mk]; rfl), below_then HB.out hb2⟩
  · have hs3 := textDays_size d
    have hs2 := dec_size n
    have AW := fun W => weekdayText_any d W
    have AI := fun W => itoa_small n W (by omega) (by omega)
    obtain ⟨D, hD⟩ : ∃ D, (⟨(Dy.dec n).toArray⟩ : ByteArray) = D := ⟨_, rfl⟩
    have hDn : Dy.dec n = tl D := by rw [← hD, tl_mk]
    obtain ⟨T, hT⟩ : ∃ T, textOf Days d = T := ⟨_, rfl⟩
    have hE2 : Dy.text 2 n d = tl T ++ Dy.fromL ++ tl D := by rw [← hT, ← hDn]; rfl
    have hE3 : Dy.text 3 n d = tl T ++ Dy.uptoL ++ tl D := by rw [← hT, ← hDn]; rfl
    rw [hT] at hs3
    rw [hD] at hs2
    simp only [hT] at AW
    simp only [hD] at AI
    have HAW := Lib.hid AW
    have HAI := Lib.hid AI
    have HE2 := Lib.hid hE2
    have HE3 := Lib.hid hE3
    clear AW AI hE2 hE3 hT hD hDn
    rcases hk with rfl | rfl
    · have s1 : ∀ W, (Op.stringOp .add T ⟨#[62, 61]⟩).run Tryd.prog W = .ok (.string (T ++ ⟨#[62, 61]⟩)) W := fun W => run_string_add_sum W _ _ (by have : (⟨#[62, 61]⟩ : ByteArray).size = 2 := rfl; omega)
      have s2 : ∀ W, (Op.stringOp .add (T ++ ⟨#[62, 61]⟩) D).run Tryd.prog W = .ok (.string (T ++ ⟨#[62, 61]⟩ ++ D)) W := fun W => run_string_add_sum W _ _ (by rw [ByteArray.size_append]; have : (⟨#[62, 61]⟩ : ByteArray).size = 2 := rfl; omega)
      go_enter Tryd.func66, Tryd.ntmps66
      go_wp2_with fail
      refine (HC.out _).mono ?_
      rintro e w1 ⟨rfl, hb1⟩
      have hb' : Below (w.heap.size + 1) (w.alloc (.cells #[.int .u8 2, .int .i64 n, .int .i64 d] 29)) w1 := hb1.mono (by simp)
      obtain ⟨c0, c1, c2, _, _, _⟩ := new3 hb'
      have HB := Lib.hid (below_new hb')
      have hz : w.heap.size + 1 ≤ w1.heap.size := by have := hb'.size; simpa using this
      clear hb1 hb'
      go_wp2_with fail
      go_region_held3 (fun w' => w'.cell? ⟨w.heap.size, 1, none⟩ = some (.int .i64 n) ∧ w'.cell? ⟨w.heap.size, 2, none⟩ = some (.int .i64 d)) (first | exact ⟨c1, c2⟩ | exact ⟨by assumption, by assumption⟩)
        (first
          | (go_at_call 65; refine (HAI.out _).mono ?_; rintro e w' ⟨rfl, rfl⟩)
          | (go_at_call 101; refine (HAW.out _).mono ?_; rintro e w' ⟨rfl, hb2⟩; have c1' := (hb2.cell (p := ⟨w.heap.size, 1, none⟩) (by simp; omega)); have c2' := (hb2.cell (p := ⟨w.heap.size, 2, none⟩) (by simp; omega)); simp only [*] at c1' c2'))
      all_goals go_wp2
      all_goals go_ret2
      all_goals exact ⟨ret_str2 (by rw [HE2.out, app_mk2]; rfl), below_then HB.out ((Below.refl w1.heap.size w1).drew.trans hb2)⟩
    · have s1 : ∀ W, (Op.stringOp .add T ⟨#[60, 61]⟩).run Tryd.prog W = .ok (.string (T ++ ⟨#[60, 61]⟩)) W := fun W => run_string_add_sum W _ _ (by have : (⟨#[60, 61]⟩ : ByteArray).size = 2 := rfl; omega)
      have s2 : ∀ W, (Op.stringOp .add (T ++ ⟨#[60, 61]⟩) D).run Tryd.prog W = .ok (.string (T ++ ⟨#[60, 61]⟩ ++ D)) W := fun W => run_string_add_sum W _ _ (by rw [ByteArray.size_append]; have : (⟨#[60, 61]⟩ : ByteArray).size = 2 := rfl; omega)
      go_enter Tryd.func66, Tryd.ntmps66
      go_wp2_with fail
      refine (HC.out _).mono ?_
      rintro e w1 ⟨rfl, hb1⟩
      have hb' : Below (w.heap.size + 1) (w.alloc (.cells #[.int .u8 3, .int .i64 n, .int .i64 d] 29)) w1 := hb1.mono (by simp)
      obtain ⟨c0, c1, c2, _, _, _⟩ := new3 hb'
      have HB := Lib.hid (below_new hb')
      have hz : w.heap.size + 1 ≤ w1.heap.size := by have := hb'.size; simpa using this
      clear hb1 hb'
      go_wp2_with fail
      go_region_held3 (fun w' => w'.cell? ⟨w.heap.size, 1, none⟩ = some (.int .i64 n) ∧ w'.cell? ⟨w.heap.size, 2, none⟩ = some (.int .i64 d)) (first | exact ⟨c1, c2⟩ | exact ⟨by assumption, by assumption⟩)
        (first
          | (go_at_call 65; refine (HAI.out _).mono ?_; rintro e w' ⟨rfl, rfl⟩)
          | (go_at_call 101; refine (HAW.out _).mono ?_; rintro e w' ⟨rfl, hb2⟩; have c1' := (hb2.cell (p := ⟨w.heap.size, 1, none⟩) (by simp; omega)); have c2' := (hb2.cell (p := ⟨w.heap.size, 2, none⟩) (by simp; omega)); simp only [*] at c1' c2'))
      all_goals go_wp2
      all_goals go_ret2
      all_goals exact ⟨ret_str2 (by rw [HE3.out, app_mk2]; rfl), below_then HB.out ((Below.refl w1.heap.size w1).drew.trans hb2)⟩
end Go.Proofs.YtmobejhfajnbhaaDoor
