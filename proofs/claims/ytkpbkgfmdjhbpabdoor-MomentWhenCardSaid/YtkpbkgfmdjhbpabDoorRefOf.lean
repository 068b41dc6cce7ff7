/- The contract of the reference's Of (layer 1). -/
import Derived.Test.YtkpbkgfmdjhbpabDoorRefCal
namespace Go.Proofs.YtkpbkgfmdjhbpabDoor
open Go.RowKit

set_option maxHeartbeats 2000000 in
set_option maxRecDepth 100000 in
theorem refOf_ok (n : Int) (w : World) (h1 : -719162 ≤ n) (h2 : n < 2932897) :
    Calls Tryd.prog 150 #[.int .i64 n] w fun e w' => e = .returned (.tuple #[.agg #[.int .i64 (Cv.yearOf n), .int .i64 (Cv.monthOf n), .int .i64 (Cv.dayOf n)], .int .i64 0]) ∧ Below w.heap.size w w' := by
  have A1 := Lib.hid fun W => calls_val (refFirst_ok 1 W (by omega) (by omega)) (show _ = Value.tuple #[.int .i64 (-719162), .int .i64 0] by rw [num_min])
  have A2 := Lib.hid fun W => calls_val (refFirst_ok 10000 W (by omega) (by omega)) (show _ = Value.tuple #[.int .i64 2932897, .int .i64 0] by rw [num_max])
  have yi := fun y => year_iff n y h1 h2
  have mh := fun m => month_hit n m h1 h2
  have mm := fun m => month_more n m h1 h2
  obtain ⟨y1, y2⟩ := year_in n h1 h2
  obtain ⟨Y, hY⟩ : ∃ Y, Cv.yearOf n = Y := ⟨_, rfl⟩
  rw [hY] at y1 y2 ⊢
  simp only [hY] at yi mh mm
  have YI := Lib.hid yi
  have MH := Lib.hid mh
  have MM := Lib.hid mm
  clear yi mh mm hY
  go_enter Tryd.func150, Tryd.ntmps150
  go_wp2_with fail
  refine (A1.out _).mono ?_
  rintro e w1 ⟨rfl, rfl⟩
  go_wp2_with fail
  refine (A2.out _).mono ?_
  rintro e w1 ⟨rfl, rfl⟩
  go_wp2_with fail
  go_loop [8, 9] (fun a b => ∃ x z : Int, a = .int .i64 x ∧ b = .int .i64 z ∧ 1 ≤ x ∧ x ≤ Y ∧ Y ≤ z ∧ z ≤ 9999) (fun a b => (intOf b - intOf a).toNat)
  case atStart => exact ⟨1, 9999, rfl, rfl, by omega, y1, y2, by omega⟩
  case round =>
    obtain ⟨x, z, rfl, rfl, x1, x2, z1, z2⟩ := hrel
    by_cases hxz : x < z
    · have q1 : 0 ≤ x + z + 1 := by omega
      obtain ⟨M, hM⟩ : ∃ M, (x + z + 1) / 2 = M := ⟨_, rfl⟩
      have m1 : x < M ∧ M ≤ z := by omega
      obtain ⟨m11, m12⟩ := m1
      have HM := Lib.hid hM
      have hF := fun W => refFirst_ok M W (by omega) (by omega)
      have hy := YI.out M
      have hnb : -719162 ≤ Cv.num M 1 1 ∧ Cv.num M 1 1 ≤ 2932897 := by
        have a := Cv.first_mono 1 M (by omega)
        have b := Cv.first_mono M 10000 (by omega)
        rw [num_min] at a
        rw [num_max] at b
        exact ⟨a, b⟩
      obtain ⟨A, hA⟩ : ∃ A, Cv.num M 1 1 = A := ⟨_, rfl⟩
      rw [hA] at hy hnb
      simp only [hA] at hF
      have HF := Lib.hid hF
      obtain ⟨n1, n2⟩ := hnb
      by_cases hc : A ≤ n
      · have hMY := hy.1 hc
        clear hF hA hy hM
        go_upto_region 8 with fail
        rw [HM.out]
        go_wp2_with fail
        refine (HF.out _).mono ?_
        rintro e w5 ⟨rfl, rfl⟩
        go_wp2
        go_round
        case rel => exact ⟨M, z, rfl, rfl, by omega, hMY, z1, z2⟩
        case measure => simp [intOf]; omega
      · have hMY : ¬ M ≤ Y := fun h => hc (hy.2 h)
        clear hF hA hy hM
        go_upto_region 8 with fail
        rw [HM.out]
        go_wp2_with fail
        refine (HF.out _).mono ?_
        rintro e w5 ⟨rfl, rfl⟩
        go_wp2
        go_round
        case rel => exact ⟨x, M - 1, rfl, rfl, x1, x2, by omega, by omega⟩
        case measure => simp [intOf]; omega
    · obtain rfl : x = Y := by omega
      have hF := fun W => refFirst_ok x W (by omega) (by omega)
      have hy := (YI.out x).2 (by omega)
      have hnb : -719162 ≤ Cv.num x 1 1 ∧ Cv.num x 1 1 ≤ 2932897 := by
        have a := Cv.first_mono 1 x (by omega)
        have b := Cv.first_mono x 10000 (by omega)
        rw [num_min] at a
        rw [num_max] at b
        exact ⟨a, b⟩
      obtain ⟨A, hA⟩ : ∃ A, Cv.num x 1 1 = A := ⟨_, rfl⟩
      rw [hA] at hy hnb
      simp only [hA] at hF
      obtain ⟨n1, n2⟩ := hnb
      have HF := Lib.hid hF
      have HA := Lib.hid hA
      clear hF hA
      go_wp2_with fail
      refine (HF.out _).mono ?_
      rintro e w5 ⟨rfl, rfl⟩
      go_wp2
      have hs : n - A ≥ 0 := by omega
      have hbig : n - A < 4000000 := by omega
      clear hy n1 n2
      go_loop [15, 16] (fun a b => ∃ m : Int, a = .int .i64 (n - Cv.num x m 1) ∧ b = .int .i64 m ∧ 1 ≤ m ∧ m ≤ 12 ∧ 0 ≤ n - Cv.num x m 1 ∧ n - Cv.num x m 1 < 4000000) (fun a b => (12 - intOf b).toNat)
      case atStart => exact ⟨1, by rw [HA.out], rfl, by omega, by omega, by rw [HA.out]; omega, by rw [HA.out]; omega⟩
      case round =>
        obtain ⟨m, rfl, rfl, m1, m2, l1, l2⟩ := hrel
        have hL := fun W => refLength_ok x m W ⟨by omega, by omega, m1, m2⟩
        have mh := MH.out m ⟨m1, m2⟩
        have mm := MM.out m ⟨m1, m2⟩
        have lb : 28 ≤ Cv.len x m ∧ Cv.len x m ≤ 31 := by rw [Cv.len_month x m m1 m2]; repeat (first | omega | split)
        obtain ⟨L, hLd⟩ : ∃ L, Cv.len x m = L := ⟨_, rfl⟩
        obtain ⟨B, hB⟩ : ∃ B, Cv.num x m 1 = B := ⟨_, rfl⟩
        rw [hLd] at mh mm lb
        rw [hB] at mh mm l1 l2
        simp only [hLd] at hL
        rw [hB]
        have HL := Lib.hid hL
        clear hL hLd hB
        rcases Int.lt_or_le (n - B) L with hlt | hle
        · obtain ⟨e1, e2⟩ := mh l1 hlt
          have HE := Lib.hid (And.intro e1 e2)
          clear mh mm e1 e2
          go_wp2_with fail
          refine (HL.out _).mono ?_
          rintro e w5 ⟨rfl, rfl⟩
          go_wp2
          refine bodyPost_ret (v := .tuple #[.agg #[.int .i64 x, .int .i64 m, .int .i64 (n - B + 1)], .int .i64 0]) (by simp [results, Tryd.results150, go_sem]) rfl ⟨?_, ?_⟩
          · obtain ⟨e1, e2⟩ := HE.out
            rw [e1, e2]
          · exact (Below.refl _ _).alloc (Nat.le_refl _) _
        · obtain ⟨e1, e2⟩ := mm (by omega)
          have HE := Lib.hid e2
          clear mh mm e2
          go_wp2_with fail
          refine (HL.out _).mono ?_
          rintro e w5 ⟨rfl, rfl⟩
          go_wp2
          go_round
          case rel => exact ⟨m + 1, by rw [HE.out]; congr 1; omega, rfl, by omega, by omega, by rw [HE.out]; omega, by rw [HE.out]; omega⟩
          case measure => simp [intOf]; omega
end Go.Proofs.YtkpbkgfmdjhbpabDoor
