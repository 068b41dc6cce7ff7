/- The statements' own 'lives' of package clock. -/
import Derived.Test.YtkpbkgfmdjhbpaaDoorClockMore
namespace Go.Proofs.YtkpbkgfmdjhbpaaDoor
open Go.RowKit

set_option maxHeartbeats 2000000 in
set_option maxRecDepth 100000 in
theorem lives02 (w : World) (hW : Wc w) : Calls Tryd.prog 8 #[] w fun e w' => e = .returned (.bool true) ∧ Below w.heap.size w w' := by
  have HW := Lib.hid hW
  have HB := Lib.hid (Below.refl w.heap.size w)
  clear hW
  go_enter Tryd.func8, Tryd.ntmps8
  go_wp2_with fail
  refine (calls_val (at_ok 1 (-30) _ (by decide) (by decide) (by decide)) (show _ = Value.tuple #[.int .i64 86370, .int .i64 0] from rfl)).mono ?_
  rintro e w1 ⟨rfl, hb⟩
  replace HB := Lib.hid (below_then HB.out hb)
  clear hb
  go_wp2_with fail
  refine (calls_val (split_any (-1) _ (by decide) (by decide)) (show _ = Value.tuple #[.int .i64 (-1), .int .i64 86399] from rfl)).mono ?_
  rintro e w2 ⟨rfl, rfl⟩
  go_wp2_with fail
  refine (calls_val (year_ok (-1) _ (by decide) (by decide)) (show _ = Value.tuple #[.int .i64 1969, .int .i64 0] by rw [show Cv.yearOf (-1 / 86400) = 1969 by decide +kernel])).mono ?_
  rintro e w3 ⟨rfl, hb⟩
  replace HB := Lib.hid (below_then HB.out hb)
  clear hb
  go_wp2_with fail
  refine (add_is 1099511627776 1 _ 0 1 (by decide) (by decide)).mono ?_
  rintro e w4 ⟨rfl, rfl⟩
  go_wp2_with fail
  refine (clockParse_is ⟨#[45, 50, 58, 51, 48, 58, 48, 53]⟩ _ (HW.out.below HB.out) (by decide) (by decide +kernel) (-9005) 0 (by decide +kernel)).mono ?_
  rintro e w5 ⟨rfl, hb⟩
  replace HB := Lib.hid (below_then HB.out hb)
  clear hb
  go_wp2_with fail
  refine (clockParse_is ⟨#[50, 58, 54, 48]⟩ _ (HW.out.below HB.out) (by decide) (by decide +kernel) (0) 4 (by decide +kernel)).mono ?_
  rintro e w6 ⟨rfl, hb⟩
  replace HB := Lib.hid (below_then HB.out hb)
  clear hb
  go_wp2_with fail
  refine (clockParse_is ⟨#[49, 54, 56, 58, 48, 48, 58, 48, 49]⟩ _ (HW.out.below HB.out) (by decide) (by decide +kernel) (0) 1 (by decide +kernel)).mono ?_
  rintro e w7 ⟨rfl, hb⟩
  replace HB := Lib.hid (below_then HB.out hb)
  clear hb
  go_wp2_with fail
  refine (clockParse_is ⟨#[50, 52]⟩ _ (HW.out.below HB.out) (by decide) (by decide +kernel) (86400) 0 (by decide +kernel)).mono ?_
  rintro e w8 ⟨rfl, hb⟩
  replace HB := Lib.hid (below_then HB.out hb)
  clear hb
  go_wp2_with fail
  refine (at_bad 2932897 0 _ (by decide)).mono ?_
  rintro e w9 ⟨rfl, hb⟩
  replace HB := Lib.hid (below_then HB.out hb)
  clear hb
  go_wp2_with fail
  refine (clockText_is (-9005) _ (HW.out.below HB.out) [45, 50, 58, 51, 48, 58, 48, 53] (by decide +kernel)).mono ?_
  rintro e w10 ⟨rfl, hb⟩
  replace HB := Lib.hid (below_then HB.out hb)
  clear hb
  go_wp2_with fail
  refine (clockText_is (7200) _ (HW.out.below HB.out) [50, 58, 48, 48] (by decide +kernel)).mono ?_
  rintro e w11 ⟨rfl, hb⟩
  replace HB := Lib.hid (below_then HB.out hb)
  clear hb
  go_wp2_with fail
  refine (clockText_is (1099511627776) _ (HW.out.below HB.out) [] (by decide +kernel)).mono ?_
  rintro e w12 ⟨rfl, hb⟩
  replace HB := Lib.hid (below_then HB.out hb)
  clear hb
  go_wp2
  go_ret
  exact ⟨rfl, HB.out⟩
end Go.Proofs.YtkpbkgfmdjhbpaaDoor
