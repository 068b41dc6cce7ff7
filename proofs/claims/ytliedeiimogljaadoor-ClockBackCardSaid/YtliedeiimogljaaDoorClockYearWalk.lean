/- The statements' own 'lives' of package clock, and the walk of the law ClockYear. -/
import Derived.Test.YtliedeiimogljaaDoorClockText
namespace Go.Proofs.YtliedeiimogljaaDoor
open Go.RowKit

namespace Ck
def dec3 (n : Int) : List UInt8 := if n < 10 then [UInt8.ofNat (48 + n.toNat)] else if n < 100 then [UInt8.ofNat (48 + n.toNat / 10), UInt8.ofNat (48 + n.toNat % 10)] else [UInt8.ofNat (48 + n.toNat / 10 / 10), UInt8.ofNat (48 + n.toNat / 10 % 10), UInt8.ofNat (48 + n.toNat % 10)]
def body' (a : Int) : List UInt8 := dec3 (a / 3600) ++ two (a % 3600 / 60) ++ (if 0 < a % 3600 % 60 then two (a % 3600 % 60) else [])
def text' (s : Int) : List UInt8 := if IsTime s then sign s ++ body' (if s < 0 then -s else s) else []
end Ck
theorem itoa_dec3 (n : Int) (h0 : 0 ≤ n) (h1 : n < 1000) : Lib.itoa n = Ck.dec3 n := by
  unfold Lib.itoa Ck.dec3
  rw [if_neg (by omega)]
  unfold Lib.decDigits
  by_cases a : n < 10
  · rw [dif_pos (by omega), if_pos a]
  · rw [dif_neg (by omega), if_neg a]
    unfold Lib.decDigits
    by_cases b : n < 100
    · rw [dif_pos (by omega), if_pos b]; rfl
    · rw [dif_neg (by omega), if_neg b]
      unfold Lib.decDigits
      rw [dif_pos (by omega)]; rfl
theorem text_eq (s : Int) : Ck.text s = Ck.text' s := by
  unfold Ck.text Ck.text'
  by_cases h : IsTime s
  · rw [if_pos h, if_pos h]
    have hb : 0 ≤ (if s < 0 then -s else s) ∧ (if s < 0 then -s else s) ≤ 604800 := by obtain ⟨a, b⟩ := h; split <;> omega
    unfold Ck.body Ck.body'
    rw [itoa_dec3 _ (by omega) (by omega)]
  · rw [if_neg h, if_neg h]

theorem clockParse_is (s : ByteArray) (w : World) (hW : Wc w) (hs : s.size ≤ 1000000) (hF : ∀ f ∈ Ck.fields (Ck.rest s), f.size ≤ 1000000) (a b : Int) (h : Ck.parse s = (a, b)) :
    Calls Tryd.prog 26 #[.string s] w fun e w' => e = .returned (.tuple #[.int .i64 a, .int .i64 b]) ∧ Below w.heap.size w w' := calls_val (clockParse_any s w hW hs hF) (by rw [h])
theorem clockText_any (s : Int) (w : World) (hW : Wc w) :
    Calls Tryd.prog 28 #[.int .i64 s] w fun e w' => e = .returned (.string ⟨(Ck.text s).toArray⟩) ∧ Below w.heap.size w w' := by
  by_cases h : IsTime s
  · exact clockText_ok s w hW h
  · exact clockText_bad s w h
theorem clockText_is (s : Int) (w : World) (hW : Wc w) (l : List UInt8) (h : Ck.text' s = l) :
    Calls Tryd.prog 28 #[.int .i64 s] w fun e w' => e = .returned (.string ⟨l.toArray⟩) ∧ Below w.heap.size w w' := calls_str (clockText_any s w hW) (by rw [text_eq, h])
theorem add_is (a b : Int) (w : World) (x y : Int) (h : (if InT a ∧ InT b ∧ InT (a + b) then a + b else 0) = x) (h' : (if InT a ∧ InT b ∧ InT (a + b) then (0 : Int) else 1) = y) :
    Calls Tryd.prog 24 #[.int .i64 a, .int .i64 b] w fun e w' => e = .returned (.tuple #[.int .i64 x, .int .i64 y]) ∧ w = w' := calls_val (add_any a b w) (by rw [h, h'])

set_option maxHeartbeats 2000000 in
set_option maxRecDepth 100000 in
theorem lives02 (w : World) (hW : Wc w) : Calls Tryd.prog 17 #[] w fun e w' => e = .returned (.bool true) ∧ Below w.heap.size w w' := by
  have HW := Lib.hid hW
  have HB := Lib.hid (Below.refl w.heap.size w)
  clear hW
  go_enter Tryd.func17, Tryd.ntmps17
  go_wp2_with fail
  refine (calls_val (at_ok 1 (-30) _ (by decide) (by decide) (by decide)) (show _ = Value.tuple #[.int .i64 86370, .int .i64 0] from rfl)).mono ?_
  rintro e w1 ⟨rfl, hb⟩
  replace HB := Lib.hid (below_then HB.out hb)
  clear hb
  go_wp2_with fail
  refine (calls_val (split_any (-1) _ (by decide) (by decide)) (show _ = Value.tuple #[.int .i64 (-1), .int .i64 86399] from rfl)).mono ?_
  rintro e w2 ⟨rfl, rfl⟩
  go_wp2_with fail
  refine (calls_val (year_ok (-1) _ (by decide) (by decide)) (show _ = Value.tuple #[.int .i64 1969, .int .i64 0] by rw [show Cv.yearOf (-1 / 86400) = 1969 by decide +kernel])).mono ?_
  rintro e w3 ⟨rfl, hb⟩
  replace HB := Lib.hid (below_then HB.out hb)
  clear hb
  go_wp2_with fail
  refine (add_is 1099511627776 1 _ 0 1 (by decide) (by decide)).mono ?_
  rintro e w4 ⟨rfl, rfl⟩
  go_wp2_with fail
  refine (clockParse_is ⟨#[45, 50, 58, 51, 48, 58, 48, 53]⟩ _ (HW.out.below HB.out) (by decide) (by decide +kernel) (-9005) 0 (by decide +kernel)).mono ?_
  rintro e w5 ⟨rfl, hb⟩
  replace HB := Lib.hid (below_then HB.out hb)
  clear hb
  go_wp2_with fail
  refine (clockParse_is ⟨#[50, 58, 54, 48]⟩ _ (HW.out.below HB.out) (by decide) (by decide +kernel) (0) 4 (by decide +kernel)).mono ?_
  rintro e w6 ⟨rfl, hb⟩
  replace HB := Lib.hid (below_then HB.out hb)
  clear hb
  go_wp2_with fail
  refine (clockParse_is ⟨#[49, 54, 56, 58, 48, 48, 58, 48, 49]⟩ _ (HW.out.below HB.out) (by decide) (by decide +kernel) (0) 1 (by decide +kernel)).mono ?_
  rintro e w7 ⟨rfl, hb⟩
  replace HB := Lib.hid (below_then HB.out hb)
  clear hb
  go_wp2_with fail
  refine (clockParse_is ⟨#[50, 52]⟩ _ (HW.out.below HB.out) (by decide) (by decide +kernel) (86400) 0 (by decide +kernel)).mono ?_
  rintro e w8 ⟨rfl, hb⟩
  replace HB := Lib.hid (below_then HB.out hb)
  clear hb
  go_wp2_with fail
  refine (at_bad 2932897 0 _ (by decide)).mono ?_
  rintro e w9 ⟨rfl, hb⟩
  replace HB := Lib.hid (below_then HB.out hb)
  clear hb
  go_wp2_with fail
  refine (clockText_is (-9005) _ (HW.out.below HB.out) [45, 50, 58, 51, 48, 58, 48, 53] (by decide +kernel)).mono ?_
  rintro e w10 ⟨rfl, hb⟩
  replace HB := Lib.hid (below_then HB.out hb)
  clear hb
  go_wp2_with fail
  refine (clockText_is (7200) _ (HW.out.below HB.out) [50, 58, 48, 48] (by decide +kernel)).mono ?_
  rintro e w11 ⟨rfl, hb⟩
  replace HB := Lib.hid (below_then HB.out hb)
  clear hb
  go_wp2_with fail
  refine (clockText_is (1099511627776) _ (HW.out.below HB.out) [] (by decide +kernel)).mono ?_
  rintro e w12 ⟨rfl, hb⟩
  replace HB := Lib.hid (below_then HB.out hb)
  clear hb
  go_wp2
  go_ret
  exact ⟨rfl, HB.out⟩

theorem int64_bd {t : Int} (h : (Lit.int .i64 t).wf = true) : -9223372036854775808 ≤ t ∧ t ≤ 9223372036854775807 := by
  simpa [Lit.wf, IntKind.min, IntKind.max, IntKind.signed, IntKind.bits] using h
theorem year_bounds (t : Int) (h1 : -719162 ≤ t / 86400) (h2 : t / 86400 < 2932897) : 1 ≤ Cv.yearOf (t / 86400) ∧ Cv.yearOf (t / 86400) ≤ 9999 ∧ Cv.num (Cv.yearOf (t / 86400)) 1 1 * 86400 ≤ t ∧ t < Cv.num (Cv.yearOf (t / 86400) + 1) 1 1 * 86400 := by
  obtain ⟨hv, hn⟩ := Cv.num_of (t / 86400) h1 h2
  have h := Cv.first_le _ _ _ hv
  rw [hn] at h
  obtain ⟨a, b⟩ := h
  refine ⟨hv.1, hv.2.1, ?_, ?_⟩ <;> omega

set_option maxHeartbeats 2000000 in
set_option maxRecDepth 100000 in
theorem clockYear_any (t u : Int) (w : World) (hW : Wc w) (ht : (Lit.int .i64 t).wf = true) (_hu : (Lit.int .i64 u).wf = true) :
    Calls Tryd.prog 7 #[.int .i64 t, .int .i64 u] w fun e w' => e = .returned (.bool true) ∧ Below w.heap.size w w' := by
  have hL := lives02 w hW
  have HL := Lib.hid hL
  obtain ⟨t1, t2⟩ := int64_bd ht
  clear hL ht hW
  by_cases hy : -719162 ≤ t / 86400 ∧ t / 86400 < 2932897
  · obtain ⟨y1, y2, y3, y4⟩ := year_bounds t hy.1 hy.2
    have hY := fun W => year_ok t W hy.1 hy.2
    obtain ⟨Y, hYY⟩ : ∃ Y, Cv.yearOf (t / 86400) = Y := ⟨_, rfl⟩
    rw [hYY] at y1 y2 y3 y4
    simp only [hYY] at hY
    have hF1 := fun W => first_ok Y W y1 (by omega)
    have hF2 := fun W => first_ok (Y + 1) W (by omega) (by omega)
    have n1 : -719162 ≤ Cv.num Y 1 1 ∧ Cv.num Y 1 1 ≤ 2932897 := by
      have a := Cv.first_mono 1 Y y1
      have b := Cv.first_mono Y 10000 (by omega)
      rw [num_min] at a
      rw [num_max] at b
      exact ⟨a, b⟩
    have n2 : -719162 ≤ Cv.num (Y + 1) 1 1 ∧ Cv.num (Y + 1) 1 1 ≤ 2932897 := by
      have a := Cv.first_mono 1 (Y + 1) (by omega)
      have b := Cv.first_mono (Y + 1) 10000 (by omega)
      rw [num_min] at a
      rw [num_max] at b
      exact ⟨a, b⟩
    obtain ⟨A, hA⟩ : ∃ A, Cv.num Y 1 1 = A := ⟨_, rfl⟩
    obtain ⟨B, hB⟩ : ∃ B, Cv.num (Y + 1) 1 1 = B := ⟨_, rfl⟩
    rw [hA] at y3 n1
    rw [hB] at y4 n2
    simp only [hA] at hF1
    simp only [hB] at hF2
    obtain ⟨n11, n12⟩ := n1
    obtain ⟨n21, n22⟩ := n2
    have HY := Lib.hid hY
    have HF1 := Lib.hid hF1
    have HF2 := Lib.hid hF2
    clear hY hF1 hF2 hYY hA hB hy
    by_cases ha : InT t ∧ InT u ∧ InT (t + u)
    · have HA1 := Lib.hid fun W => add_is t u W (t + u) 0 (if_pos ha) (if_pos ha)
      have ha2 : InT (t + u) ∧ InT (-u) ∧ InT (t + u + -u) := by unfold InT at *; omega
      have HA2 := Lib.hid fun W => add_is (t + u) (-u) W t 0 (by rw [if_pos ha2]; omega) (if_pos ha2)
      obtain ⟨⟨a1, a2⟩, ⟨a3, a4⟩, ⟨a5, a6⟩⟩ := ha
      clear ha2
      go_enter Tryd.func7, Tryd.ntmps7
      go_wp2_with fail
      refine HL.out.mono ?_
      rintro e w1 ⟨rfl, hb1⟩
      go_wp2_with fail
      refine (HA1.out _).mono ?_
      rintro e w5 ⟨rfl, rfl⟩
      go_wp2_with fail
      refine (HA2.out _).mono ?_
      rintro e w6 ⟨rfl, rfl⟩
      go_wp2_with fail
      refine (HY.out _).mono ?_
      rintro e w2 ⟨rfl, hb2⟩
      go_wp2_with fail
      refine (HF1.out _).mono ?_
      rintro e w3 ⟨rfl, rfl⟩
      go_wp2_with fail
      refine (HF2.out _).mono ?_
      rintro e w4 ⟨rfl, rfl⟩
      go_wp2
      go_ret
      exact ⟨rfl, below_then hb1 hb2⟩
    · have HA1 := Lib.hid fun W => add_is t u W 0 1 (if_neg ha) (if_neg ha)
      clear ha
      go_enter Tryd.func7, Tryd.ntmps7
      go_wp2_with fail
      refine HL.out.mono ?_
      rintro e w1 ⟨rfl, hb1⟩
      go_wp2_with fail
      refine (HA1.out _).mono ?_
      rintro e w5 ⟨rfl, rfl⟩
      go_wp2_with fail
      refine (HY.out _).mono ?_
      rintro e w2 ⟨rfl, hb2⟩
      go_wp2_with fail
      refine (HF1.out _).mono ?_
      rintro e w3 ⟨rfl, rfl⟩
      go_wp2_with fail
      refine (HF2.out _).mono ?_
      rintro e w4 ⟨rfl, rfl⟩
      go_wp2
      go_ret
      exact ⟨rfl, below_then hb1 hb2⟩
  · have HY := Lib.hid fun W => year_bad t W t1 t2 hy
    have hr : t < -62135596800 ∨ 253402300800 ≤ t := by omega
    by_cases ha : InT t ∧ InT u ∧ InT (t + u)
    · have HA1 := Lib.hid fun W => add_is t u W (t + u) 0 (if_pos ha) (if_pos ha)
      have ha2 : InT (t + u) ∧ InT (-u) ∧ InT (t + u + -u) := by unfold InT at *; omega
      have HA2 := Lib.hid fun W => add_is (t + u) (-u) W t 0 (by rw [if_pos ha2]; omega) (if_pos ha2)
      obtain ⟨⟨a1, a2⟩, ⟨a3, a4⟩, ⟨a5, a6⟩⟩ := ha
      clear ha2 hy
      rcases hr with hr | hr
      all_goals
        go_enter Tryd.func7, Tryd.ntmps7
        go_wp2_with fail
        refine HL.out.mono ?_
        rintro e w1 ⟨rfl, hb1⟩
        go_wp2_with fail
        refine (HA1.out _).mono ?_
        rintro e w5 ⟨rfl, rfl⟩
        go_wp2_with fail
        refine (HA2.out _).mono ?_
        rintro e w6 ⟨rfl, rfl⟩
        go_wp2_with fail
        refine (HY.out _).mono ?_
        rintro e w2 ⟨rfl, hb2⟩
        go_wp2
        go_ret
        exact ⟨rfl, below_then hb1 hb2⟩
    · have HA1 := Lib.hid fun W => add_is t u W 0 1 (if_neg ha) (if_neg ha)
      clear ha hy
      rcases hr with hr | hr
      all_goals
        go_enter Tryd.func7, Tryd.ntmps7
        go_wp2_with fail
        refine HL.out.mono ?_
        rintro e w1 ⟨rfl, hb1⟩
        go_wp2_with fail
        refine (HA1.out _).mono ?_
        rintro e w5 ⟨rfl, rfl⟩
        go_wp2_with fail
        refine (HY.out _).mono ?_
        rintro e w2 ⟨rfl, hb2⟩
        go_wp2
        go_ret
        exact ⟨rfl, below_then hb1 hb2⟩
end Go.Proofs.YtliedeiimogljaaDoor
