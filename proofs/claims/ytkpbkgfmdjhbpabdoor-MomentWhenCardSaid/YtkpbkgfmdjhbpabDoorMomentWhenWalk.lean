/- The walk of the law MomentWhen. -/
import Derived.Test.YtkpbkgfmdjhbpabDoorLives07
import Derived.Test.YtkpbkgfmdjhbpabDoorRefMom
namespace Go.Proofs.YtkpbkgfmdjhbpabDoor
open Go.RowKit

set_option maxHeartbeats 2000000 in
set_option maxRecDepth 100000 in
theorem momentWhen_any (y m k n d s c t std save : Int) (w : World) (hW : Wm w) (hk : 0 ≤ k) (hc : 0 ≤ c) :
    Calls Tryd.prog 8 #[.int .i64 y, .int .i64 m, .agg #[.int .u8 k, .int .i64 n, .int .i64 d], .agg #[.int .i64 s, .int .u8 c], .int .i64 t, .int .i64 std, .int .i64 save] w fun e w' => e = .returned (.bool true) ∧ Below w.heap.size w w' := by
  have HW := Lib.hid hW
  have hN := fun W hw => nominal_any y m k n d s c W hw
  have hR := fun W => refNominal_any y m k n d s c W hk
  have hI := fun W => instant_any t c std save W hc
  have hJ := fun W => refInstant_any t c std save W hc
  obtain ⟨P, hP⟩ : ∃ P, Mo.nom k n d y m s c = P := ⟨_, rfl⟩
  obtain ⟨Q, hQ⟩ : ∃ Q, Mo.ins t c std save = Q := ⟨_, rfl⟩
  simp only [hP] at hN hR
  simp only [hQ] at hI hJ
  obtain ⟨P1, P2⟩ := P
  obtain ⟨Q1, Q2⟩ := Q
  have HN := Lib.hid hN
  have HR := Lib.hid hR
  have HI := Lib.hid hI
  have HJ := Lib.hid hJ
  have HL := Lib.hid fun W hw => lives07 W hw
  have HB := Lib.hid (((Below.refl w.heap.size w).alloc (Nat.le_refl _) (.cells #[.int .u8 k, .int .i64 n, .int .i64 d] 83)).alloc (by simp) (.cells #[.int .i64 s, .int .u8 c] 86))
  have hA : At ((w.alloc (.cells #[.int .u8 k, .int .i64 n, .int .i64 d] 83)).alloc (.cells #[.int .i64 s, .int .u8 c] 86)) w.heap.size [.int .u8 k, .int .i64 n, .int .i64 d] := (At.new w _ _).alloc _ _
  have hM : At ((w.alloc (.cells #[.int .u8 k, .int .i64 n, .int .i64 d] 83)).alloc (.cells #[.int .i64 s, .int .u8 c] 86)) (w.heap.size + 1) [.int .i64 s, .int .u8 c] := by
    have := At.new (w.alloc (.cells #[.int .u8 k, .int .i64 n, .int .i64 d] 83)) #[.int .i64 s, .int .u8 c] 86
    simpa using this
  have HA := Lib.hid hA
  have HM := Lib.hid hM
  clear hN hR hI hJ hP hQ hW hk hc hA hM
  go_enter Tryd.func8, Tryd.ntmps8
  go_wp2_with fail
  refine (HN.out _ (HW.out.below HB.out).o).mono ?_
  rintro e w1 ⟨rfl, hb⟩
  have HA1 := Lib.hid (HA.out.call hb)
  have HM1 := Lib.hid (HM.out.call hb)
  replace HB := Lib.hid (below_then HB.out hb)
  clear hb
  have z1 := HM1.out.lt
  obtain ⟨a0, a1, a2, _, _, _⟩ := HA1.out.three
  obtain ⟨m0, m1, _, _⟩ := HM1.out.two
  go_wp2_with fail
  refine (HR.out _).mono ?_
  rintro e w2 ⟨rfl, hb⟩
  have HM2 := Lib.hid (HM1.out.call hb)
  replace HB := Lib.hid (below_then HB.out hb)
  clear hb a0 a1 a2 m0 m1
  have z2 := HM2.out.lt
  obtain ⟨m0, m1, _, _⟩ := HM2.out.two
  go_wp2_with fail
  refine (HI.out _).mono ?_
  rintro e w3 ⟨rfl, rfl⟩
  go_wp2_with fail
  refine (HJ.out _).mono ?_
  rintro e w3 ⟨rfl, rfl⟩
  go_wp2_with fail
  refine (HL.out _ (HW.out.below HB.out)).mono ?_
  rintro e w4 ⟨rfl, hb⟩
  replace HB := Lib.hid (below_then HB.out hb)
  clear hb
  go_wp2
  go_ret
  exact ⟨rfl, HB.out⟩
end Go.Proofs.YtkpbkgfmdjhbpabDoor
