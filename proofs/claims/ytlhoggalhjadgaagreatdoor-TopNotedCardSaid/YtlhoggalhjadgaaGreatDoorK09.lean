/- The contracts of package rule: rising, Name. -/
import Derived.Test.YtlhoggalhjadgaaGreatDoorK08
import Derived.Deep.QuietTactic
import Derived.BigQuiet
import Derived.Test.YtlhoggalhjadgaaGreatDoorK01

namespace Go.Proofs.YtlhoggalhjadgaaGreatDoor
open Go.RowKit

namespace Ru
def letr (c : Int) : Bool := decide ((97 ≤ c ∧ c ≤ 122) ∨ (65 ≤ c ∧ c ≤ 90) ∨ c = 95)
def rest (c : Int) : Bool := decide ((48 ≤ c ∧ c ≤ 57) ∨ c = 43 ∨ c = 45 ∨ c = 47)
def nameAll : List UInt8 → Bool → Bool
  | [], _ => true
  | c :: r, f => (letr (c.toNat : Int) || (!f && rest (c.toNat : Int))) && nameAll r false
def name (l : List UInt8) : Bool := decide (1 ≤ l.length ∧ l.length ≤ 64) && nameAll l true
def up (a b c : Int) : Bool := decide (a ≤ b) && decide (b ≤ c)
theorem cases_ (c : Int) (h0 : 0 ≤ c) (h1 : c ≤ 255) : (0 ≤ c ∧ c ≤ 42) ∨ (43 ≤ c ∧ c ≤ 43) ∨ (44 ≤ c ∧ c ≤ 44) ∨ (45 ≤ c ∧ c ≤ 45) ∨ (46 ≤ c ∧ c ≤ 46) ∨ (47 ≤ c ∧ c ≤ 47) ∨ (48 ≤ c ∧ c ≤ 57) ∨ (58 ≤ c ∧ c ≤ 64) ∨ (65 ≤ c ∧ c ≤ 90) ∨ (91 ≤ c ∧ c ≤ 94) ∨ (95 ≤ c ∧ c ≤ 95) ∨ (96 ≤ c ∧ c ≤ 96) ∨ (97 ≤ c ∧ c ≤ 122) ∨ (123 ≤ c ∧ c ≤ 255) := by omega
theorem name_step (l : List UInt8) (k : Nat) (c : UInt8) (X : Bool) (h : X = nameAll (l.drop k) (decide (k = 0))) (hc : l[k]? = some c) : X = ((letr (c.toNat : Int) || (!decide (k = 0) && rest (c.toNat : Int))) && nameAll (l.drop (k + 1)) false) := by
  rw [h, drop_of hc]
  rfl
end Ru
/-- Three numbers that rise. -/
theorem ints_new (w : World) (l : List Int) (t : TypeId) (ii : Nat) (z : Int) (h : l[ii]? = some z) : (w.alloc (.cells (l.map (Value.int .i64)).toArray t)).cell? ⟨w.heap.size, ii, none⟩ = some (.int .i64 z) := by
  rw [cell_of_row _ w.heap.size ii _ _ _ (heap_alloc_new w _)]
  simp [h]
set_option maxHeartbeats 1000000 in
theorem rising2_any (a b : Int) (w : World) :
    Calls Tryz.prog 41 #[.slice (some ⟨w.heap.size, 0, none⟩) 2 2] (w.alloc (.cells #[.int .i64 a, .int .i64 b] 3)) fun e w' => e = .returned (.bool (decide (a ≤ b))) ∧ Below w.heap.size w w' := by
  have hA := At.new w #[.int .i64 a, .int .i64 b] 3
  obtain ⟨W, hW⟩ : ∃ W, w.alloc (.cells #[.int .i64 a, .int .i64 b] 3) = W := ⟨_, rfl⟩
  have hB : Below w.heap.size w W := by rw [← hW]; exact (Below.refl _ _).alloc (Nat.le_refl _) _
  rw [hW] at hA ⊢
  have HA := Lib.hid hA
  have HB := Lib.hid hB
  clear hA hB hW
  obtain ⟨g, hg⟩ : ∃ g, w.heap.size = g := ⟨_, rfl⟩
  rw [hg] at HA HB ⊢
  clear hg
  go_enter Tryz.func41, Tryz.ntmps41
  go_wp2
  go_loopw [3] (fun i wr => ∃ j : Nat, 1 ≤ j ∧ j ≤ 2 ∧ i = .int .i64 j ∧ Hid (Drew W wr) ∧ Hid (2 ≤ j → a ≤ b)) (fun i _ => 2 - (intOf i).toNat)
  case atStart => exact ⟨1, by omega, by omega, rfl, Drew.refl _, fun h => absurd h (by omega)⟩
  case round =>
    obtain ⟨j, j1, j2, rfl, HD, P2⟩ := hrel
    have hAt := HA.out.drew HD.out
    have c0 := hAt.cell 0 _ rfl
    have c1 := hAt.cell 1 _ rfl
    have hj : j = 1 ∨ j = 2 := by omega
    rcases hj with rfl | rfl
    · by_cases h : a ≤ b
      · go_wp2
        go_quiet (fail)
        go_wp2
        go_roundw
        case rel => exact ⟨2, by omega, by omega, rfl, by first | exact HD.out | exact HD.out.drewN _, fun _ => h⟩
        case measure => simp [intOf]
      · have HX : Hid ((decide (a ≤ b)) = false) := by show (decide (a ≤ b)) = false; simp [h]
        have h' : b < a := by omega
        go_wp2
        go_quiet (fail)
        go_wp2
        go_ret
        exact ⟨ret_bool (by rw [HX.out]), by first | exact HB.out.trans (HD.out.below _) | exact HB.out.trans ((HD.out.drewN _).below _)⟩
    · have HX : Hid ((decide (a ≤ b)) = true) := by
        have := P2.out (by omega)
        show (decide (a ≤ b)) = true
        simp [*]
      go_wp2
      go_ret
      exact ⟨ret_bool (by rw [HX.out]), HB.out.trans (HD.out.below _)⟩
set_option maxHeartbeats 1000000 in
theorem rising3_any (a b c : Int) (w : World) :
    Calls Tryz.prog 41 #[.slice (some ⟨w.heap.size, 0, none⟩) 3 3] (w.alloc (.cells #[.int .i64 a, .int .i64 b, .int .i64 c] 3)) fun e w' => e = .returned (.bool (decide (a ≤ b) && decide (b ≤ c))) ∧ Below w.heap.size w w' := by
  have hA := At.new w #[.int .i64 a, .int .i64 b, .int .i64 c] 3
  obtain ⟨W, hW⟩ : ∃ W, w.alloc (.cells #[.int .i64 a, .int .i64 b, .int .i64 c] 3) = W := ⟨_, rfl⟩
  have hB : Below w.heap.size w W := by rw [← hW]; exact (Below.refl _ _).alloc (Nat.le_refl _) _
  rw [hW] at hA ⊢
  have HA := Lib.hid hA
  have HB := Lib.hid hB
  clear hA hB hW
  obtain ⟨g, hg⟩ : ∃ g, w.heap.size = g := ⟨_, rfl⟩
  rw [hg] at HA HB ⊢
  clear hg
  go_enter Tryz.func41, Tryz.ntmps41
  go_wp2
  go_loopw [3] (fun i wr => ∃ j : Nat, 1 ≤ j ∧ j ≤ 3 ∧ i = .int .i64 j ∧ Hid (Drew W wr) ∧ Hid (2 ≤ j → a ≤ b) ∧ Hid (3 ≤ j → b ≤ c)) (fun i _ => 3 - (intOf i).toNat)
  case atStart => exact ⟨1, by omega, by omega, rfl, Drew.refl _, fun h => absurd h (by omega), fun h => absurd h (by omega)⟩
  case round =>
    obtain ⟨j, j1, j2, rfl, HD, P2, P3⟩ := hrel
    have hAt := HA.out.drew HD.out
    have c0 := hAt.cell 0 _ rfl
    have c1 := hAt.cell 1 _ rfl
    have c2 := hAt.cell 2 _ rfl
    have hj : j = 1 ∨ j = 2 ∨ j = 3 := by omega
    rcases hj with rfl | rfl | rfl
    · by_cases h : a ≤ b
      · go_wp2
        go_quiet (fail)
        go_wp2
        go_roundw
        case rel => exact ⟨2, by omega, by omega, rfl, by first | exact HD.out | exact HD.out.drewN _, fun _ => h, fun h => absurd h (by omega)⟩
        case measure => simp [intOf]
      · have HX : Hid ((decide (a ≤ b) && decide (b ≤ c)) = false) := by show (decide (a ≤ b) && decide (b ≤ c)) = false; simp [h]
        have h' : b < a := by omega
        go_wp2
        go_quiet (fail)
        go_wp2
        go_ret
        exact ⟨ret_bool (by rw [HX.out]), by first | exact HB.out.trans (HD.out.below _) | exact HB.out.trans ((HD.out.drewN _).below _)⟩
    · by_cases h : b ≤ c
      · go_wp2
        go_quiet (fail)
        go_wp2
        go_roundw
        case rel => exact ⟨3, by omega, by omega, rfl, by first | exact HD.out | exact HD.out.drewN _, fun _ => P2.out (by omega), fun _ => h⟩
        case measure => simp [intOf]
      · have HX : Hid ((decide (a ≤ b) && decide (b ≤ c)) = false) := by show (decide (a ≤ b) && decide (b ≤ c)) = false; simp [h]
        have h' : c < b := by omega
        go_wp2
        go_quiet (fail)
        go_wp2
        go_ret
        exact ⟨ret_bool (by rw [HX.out]), by first | exact HB.out.trans (HD.out.below _) | exact HB.out.trans ((HD.out.drewN _).below _)⟩
    · have HX : Hid ((decide (a ≤ b) && decide (b ≤ c)) = true) := by
        have := P2.out (by omega)
        have := P3.out (by omega)
        show (decide (a ≤ b) && decide (b ≤ c)) = true
        simp [*]
      go_wp2
      go_ret
      exact ⟨ret_bool (by rw [HX.out]), HB.out.trans (HD.out.below _)⟩
set_option maxHeartbeats 1000000 in
theorem rising4_any (a b c d : Int) (w : World) :
    Calls Tryz.prog 41 #[.slice (some ⟨w.heap.size, 0, none⟩) 4 4] (w.alloc (.cells #[.int .i64 a, .int .i64 b, .int .i64 c, .int .i64 d] 3)) fun e w' => e = .returned (.bool (decide (a ≤ b) && decide (b ≤ c) && decide (c ≤ d))) ∧ Below w.heap.size w w' := by
  have hA := At.new w #[.int .i64 a, .int .i64 b, .int .i64 c, .int .i64 d] 3
  obtain ⟨W, hW⟩ : ∃ W, w.alloc (.cells #[.int .i64 a, .int .i64 b, .int .i64 c, .int .i64 d] 3) = W := ⟨_, rfl⟩
  have hB : Below w.heap.size w W := by rw [← hW]; exact (Below.refl _ _).alloc (Nat.le_refl _) _
  rw [hW] at hA ⊢
  have HA := Lib.hid hA
  have HB := Lib.hid hB
  clear hA hB hW
  obtain ⟨g, hg⟩ : ∃ g, w.heap.size = g := ⟨_, rfl⟩
  rw [hg] at HA HB ⊢
  clear hg
  go_enter Tryz.func41, Tryz.ntmps41
  go_wp2
  go_loopw [3] (fun i wr => ∃ j : Nat, 1 ≤ j ∧ j ≤ 4 ∧ i = .int .i64 j ∧ Hid (Drew W wr) ∧ Hid (2 ≤ j → a ≤ b) ∧ Hid (3 ≤ j → b ≤ c) ∧ Hid (4 ≤ j → c ≤ d)) (fun i _ => 4 - (intOf i).toNat)
  case atStart => exact ⟨1, by omega, by omega, rfl, Drew.refl _, fun h => absurd h (by omega), fun h => absurd h (by omega), fun h => absurd h (by omega)⟩
  case round =>
    obtain ⟨j, j1, j2, rfl, HD, P2, P3, P4⟩ := hrel
    have hAt := HA.out.drew HD.out
    have c0 := hAt.cell 0 _ rfl
    have c1 := hAt.cell 1 _ rfl
    have c2 := hAt.cell 2 _ rfl
    have c3 := hAt.cell 3 _ rfl
    have hj : j = 1 ∨ j = 2 ∨ j = 3 ∨ j = 4 := by omega
    rcases hj with rfl | rfl | rfl | rfl
    · by_cases h : a ≤ b
      · go_wp2
        go_quiet (fail)
        go_wp2
        go_roundw
        case rel => exact ⟨2, by omega, by omega, rfl, by first | exact HD.out | exact HD.out.drewN _, fun _ => h, fun h => absurd h (by omega), fun h => absurd h (by omega)⟩
        case measure => simp [intOf]
      · have HX : Hid ((decide (a ≤ b) && decide (b ≤ c) && decide (c ≤ d)) = false) := by show (decide (a ≤ b) && decide (b ≤ c) && decide (c ≤ d)) = false; simp [h]
        have h' : b < a := by omega
        go_wp2
        go_quiet (fail)
        go_wp2
        go_ret
        exact ⟨ret_bool (by rw [HX.out]), by first | exact HB.out.trans (HD.out.below _) | exact HB.out.trans ((HD.out.drewN _).below _)⟩
    · by_cases h : b ≤ c
      · go_wp2
        go_quiet (fail)
        go_wp2
        go_roundw
        case rel => exact ⟨3, by omega, by omega, rfl, by first | exact HD.out | exact HD.out.drewN _, fun _ => P2.out (by omega), fun _ => h, fun h => absurd h (by omega)⟩
        case measure => simp [intOf]
      · have HX : Hid ((decide (a ≤ b) && decide (b ≤ c) && decide (c ≤ d)) = false) := by show (decide (a ≤ b) && decide (b ≤ c) && decide (c ≤ d)) = false; simp [h]
        have h' : c < b := by omega
        go_wp2
        go_quiet (fail)
        go_wp2
        go_ret
        exact ⟨ret_bool (by rw [HX.out]), by first | exact HB.out.trans (HD.out.below _) | exact HB.out.trans ((HD.out.drewN _).below _)⟩
    · by_cases h : c ≤ d
      · go_wp2
        go_quiet (fail)
        go_wp2
        go_roundw
        case rel => exact ⟨4, by omega, by omega, rfl, by first | exact HD.out | exact HD.out.drewN _, fun _ => P2.out (by omega), fun _ => P3.out (by omega), fun _ => h⟩
        case measure => simp [intOf]
      · have HX : Hid ((decide (a ≤ b) && decide (b ≤ c) && decide (c ≤ d)) = false) := by show (decide (a ≤ b) && decide (b ≤ c) && decide (c ≤ d)) = false; simp [h]
        have h' : d < c := by omega
        go_wp2
        go_quiet (fail)
        go_wp2
        go_ret
        exact ⟨ret_bool (by rw [HX.out]), by first | exact HB.out.trans (HD.out.below _) | exact HB.out.trans ((HD.out.drewN _).below _)⟩
    · have HX : Hid ((decide (a ≤ b) && decide (b ≤ c) && decide (c ≤ d)) = true) := by
        have := P2.out (by omega)
        have := P3.out (by omega)
        have := P4.out (by omega)
        show (decide (a ≤ b) && decide (b ≤ c) && decide (c ≤ d)) = true
        simp [*]
      go_wp2
      go_ret
      exact ⟨ret_bool (by rw [HX.out]), HB.out.trans (HD.out.below _)⟩
set_option maxHeartbeats 2000000 in
set_option maxRecDepth 100000 in
theorem name_any (s : ByteArray) (w : World) (hs : s.size ≤ 1000000) :
    Calls Tryz.prog 25 #[.string s] w fun e w' => e = .returned (.bool (Ru.name (tl s))) ∧ Below w.heap.size w w' := by
  by_cases hl : 1 ≤ s.size ∧ s.size ≤ 64
  · obtain ⟨h1, h2⟩ := hl
    have HRs := Lib.hid fun W => calls_bool (rising3_any 1 (s.size : Int) 64 W) (show _ = true by simp; omega)
    obtain ⟨X, hX⟩ : ∃ X, Ru.name (tl s) = X := ⟨_, rfl⟩
    have h0 : X = Ru.nameAll ((tl s).drop 0) (decide (0 = 0)) := by rw [← hX]; unfold Ru.name; rw [tl_length, decide_eq_true ⟨h1, h2⟩]; rfl
    rw [hX]
    have H0 := Lib.hid h0
    clear hX h0
    go_enter Tryz.func25, Tryz.ntmps25
    go_wp2_with fail
    refine (HRs.out _).mono ?_
    rintro e w1 ⟨rfl, hb⟩
    have HB := Lib.hid hb
    clear hb
    go_wp2
    go_loop [12] (fun i => ∃ k : Nat, k ≤ s.size ∧ i = .int .i64 k ∧ Hid (X = Ru.nameAll ((tl s).drop k) (decide (k = 0)))) (fun i => s.size - (intOf i).toNat)
    case atStart => exact ⟨0, Nat.zero_le _, rfl, H0.out⟩
    case round =>
      obtain ⟨k, hk, rfl, HK⟩ := hrel
      by_cases hlt : k < s.size
      · have p1 : (0 : Int) ≤ (k : Int) := by omega
        have p2 : (k : Int) < (s.size : Int) := by omega
        obtain ⟨b1, b2⟩ := u8_bd s[k]
        have hst := Ru.name_step (tl s) k s[k] X HK.out (Dy.tl_get s k hlt)
        have hcs := Ru.cases_ (s[k].toNat : Int) b1 b2
        have HSt := Lib.hid hst
        clear hst
        rcases hcs with hc | hc | hc | hc | hc | hc | hc | hc | hc | hc | hc | hc | hc | hc
        · obtain ⟨i1, i2⟩ := hc
          have f97 : ¬ 97 ≤ (s[k].toNat : Int) := by omega
          have f65 : ¬ 65 ≤ (s[k].toNat : Int) := by omega
          have f48 : ¬ 48 ≤ (s[k].toNat : Int) := by omega
          have e95 : ((s[k].toNat : Int) == 95) = false := by rw [beq_eq_false_iff_ne]; omega
          have e43 : ((s[k].toNat : Int) == 43) = false := by rw [beq_eq_false_iff_ne]; omega
          have e45 : ((s[k].toNat : Int) == 45) = false := by rw [beq_eq_false_iff_ne]; omega
          have e47 : ((s[k].toNat : Int) == 47) = false := by rw [beq_eq_false_iff_ne]; omega
          have hr : Ru.rest (s[k].toNat : Int) = false := by unfold Ru.rest; rw [decide_eq_false_iff_not]; omega
          have hl : Ru.letr (s[k].toNat : Int) = false := by unfold Ru.letr; rw [decide_eq_false_iff_not]; omega
          have HG : Hid (X = false) := by
            show X = false
            rw [HSt.out, hr, hl]
            simp
          clear hr hl
          go_wp2
          go_ret
          exact ⟨ret_bool (by rw [HG.out]), HB.out⟩
        · obtain ⟨i1, i2⟩ := hc
          have f97 : ¬ 97 ≤ (s[k].toNat : Int) := by omega
          have f65 : ¬ 65 ≤ (s[k].toNat : Int) := by omega
          have f48 : ¬ 48 ≤ (s[k].toNat : Int) := by omega
          have e95 : ((s[k].toNat : Int) == 95) = false := by rw [beq_eq_false_iff_ne]; omega
          have e43 : ((s[k].toNat : Int) == 43) = true := by rw [beq_iff_eq]; omega
          have e45 : ((s[k].toNat : Int) == 45) = false := by rw [beq_eq_false_iff_ne]; omega
          have e47 : ((s[k].toNat : Int) == 47) = false := by rw [beq_eq_false_iff_ne]; omega
          have hr : Ru.rest (s[k].toNat : Int) = true := by unfold Ru.rest; rw [decide_eq_true_eq]; omega
          have hl : Ru.letr (s[k].toNat : Int) = false := by unfold Ru.letr; rw [decide_eq_false_iff_not]; omega
          have hst := HSt.out
          rw [hr, hl] at hst
          have Hst := Lib.hid hst
          clear hr hl hst
          by_cases hk0 : k = 0
          · have HG : Hid (X = false) := by
              show X = false
              rw [Hst.out, hk0]
              rfl
            have e0 : ((k : Int) == 0) = true := by rw [beq_iff_eq]; omega
            clear hk0
            go_wp2
            go_ret
            exact ⟨ret_bool (by rw [HG.out]), HB.out⟩
          · have HG : Hid (X = Ru.nameAll ((tl s).drop (k + 1)) (decide (k + 1 = 0))) := by
              show X = _
              rw [Hst.out, decide_eq_false hk0]
              rfl
            have e0 : ((k : Int) == 0) = false := by rw [beq_eq_false_iff_ne]; omega
            clear hk0
            go_wp2
            go_round
            case rel => exact ⟨k + 1, by omega, by go_num, HG⟩
            case measure => simp [intOf]; omega
        · obtain ⟨i1, i2⟩ := hc
          have f97 : ¬ 97 ≤ (s[k].toNat : Int) := by omega
          have f65 : ¬ 65 ≤ (s[k].toNat : Int) := by omega
          have f48 : ¬ 48 ≤ (s[k].toNat : Int) := by omega
          have e95 : ((s[k].toNat : Int) == 95) = false := by rw [beq_eq_false_iff_ne]; omega
          have e43 : ((s[k].toNat : Int) == 43) = false := by rw [beq_eq_false_iff_ne]; omega
          have e45 : ((s[k].toNat : Int) == 45) = false := by rw [beq_eq_false_iff_ne]; omega
          have e47 : ((s[k].toNat : Int) == 47) = false := by rw [beq_eq_false_iff_ne]; omega
          have hr : Ru.rest (s[k].toNat : Int) = false := by unfold Ru.rest; rw [decide_eq_false_iff_not]; omega
          have hl : Ru.letr (s[k].toNat : Int) = false := by unfold Ru.letr; rw [decide_eq_false_iff_not]; omega
          have HG : Hid (X = false) := by
            show X = false
            rw [HSt.out, hr, hl]
            simp
          clear hr hl
          go_wp2
          go_ret
          exact ⟨ret_bool (by rw [HG.out]), HB.out⟩
        · obtain ⟨i1, i2⟩ := hc
          have f97 : ¬ 97 ≤ (s[k].toNat : Int) := by omega
          have f65 : ¬ 65 ≤ (s[k].toNat : Int) := by omega
          have f48 : ¬ 48 ≤ (s[k].toNat : Int) := by omega
          have e95 : ((s[k].toNat : Int) == 95) = false := by rw [beq_eq_false_iff_ne]; omega
          have e43 : ((s[k].toNat : Int) == 43) = false := by rw [beq_eq_false_iff_ne]; omega
          have e45 : ((s[k].toNat : Int) == 45) = true := by rw [beq_iff_eq]; omega
          have e47 : ((s[k].toNat : Int) == 47) = false := by rw [beq_eq_false_iff_ne]; omega
          have hr : Ru.rest (s[k].toNat : Int) = true := by unfold Ru.rest; rw [decide_eq_true_eq]; omega
          have hl : Ru.letr (s[k].toNat : Int) = false := by unfold Ru.letr; rw [decide_eq_false_iff_not]; omega
          have hst := HSt.out
          rw [hr, hl] at hst
          have Hst := Lib.hid hst
          clear hr hl hst
          by_cases hk0 : k = 0
          · have HG : Hid (X = false) := by
              show X = false
              rw [Hst.out, hk0]
              rfl
            have e0 : ((k : Int) == 0) = true := by rw [beq_iff_eq]; omega
            clear hk0
            go_wp2
            go_ret
            exact ⟨ret_bool (by rw [HG.out]), HB.out⟩
          · have HG : Hid (X = Ru.nameAll ((tl s).drop (k + 1)) (decide (k + 1 = 0))) := by
              show X = _
              rw [Hst.out, decide_eq_false hk0]
              rfl
            have e0 : ((k : Int) == 0) = false := by rw [beq_eq_false_iff_ne]; omega
            clear hk0
            go_wp2
            go_round
            case rel => exact ⟨k + 1, by omega, by go_num, HG⟩
            case measure => simp [intOf]; omega
        · obtain ⟨i1, i2⟩ := hc
          have f97 : ¬ 97 ≤ (s[k].toNat : Int) := by omega
          have f65 : ¬ 65 ≤ (s[k].toNat : Int) := by omega
          have f48 : ¬ 48 ≤ (s[k].toNat : Int) := by omega
          have e95 : ((s[k].toNat : Int) == 95) = false := by rw [beq_eq_false_iff_ne]; omega
          have e43 : ((s[k].toNat : Int) == 43) = false := by rw [beq_eq_false_iff_ne]; omega
          have e45 : ((s[k].toNat : Int) == 45) = false := by rw [beq_eq_false_iff_ne]; omega
          have e47 : ((s[k].toNat : Int) == 47) = false := by rw [beq_eq_false_iff_ne]; omega
          have hr : Ru.rest (s[k].toNat : Int) = false := by unfold Ru.rest; rw [decide_eq_false_iff_not]; omega
          have hl : Ru.letr (s[k].toNat : Int) = false := by unfold Ru.letr; rw [decide_eq_false_iff_not]; omega
          have HG : Hid (X = false) := by
            show X = false
            rw [HSt.out, hr, hl]
            simp
          clear hr hl
          go_wp2
          go_ret
          exact ⟨ret_bool (by rw [HG.out]), HB.out⟩
        · obtain ⟨i1, i2⟩ := hc
          have f97 : ¬ 97 ≤ (s[k].toNat : Int) := by omega
          have f65 : ¬ 65 ≤ (s[k].toNat : Int) := by omega
          have f48 : ¬ 48 ≤ (s[k].toNat : Int) := by omega
          have e95 : ((s[k].toNat : Int) == 95) = false := by rw [beq_eq_false_iff_ne]; omega
          have e43 : ((s[k].toNat : Int) == 43) = false := by rw [beq_eq_false_iff_ne]; omega
          have e45 : ((s[k].toNat : Int) == 45) = false := by rw [beq_eq_false_iff_ne]; omega
          have e47 : ((s[k].toNat : Int) == 47) = true := by rw [beq_iff_eq]; omega
          have hr : Ru.rest (s[k].toNat : Int) = true := by unfold Ru.rest; rw [decide_eq_true_eq]; omega
          have hl : Ru.letr (s[k].toNat : Int) = false := by unfold Ru.letr; rw [decide_eq_false_iff_not]; omega
          have hst := HSt.out
          rw [hr, hl] at hst
          have Hst := Lib.hid hst
          clear hr hl hst
          by_cases hk0 : k = 0
          · have HG : Hid (X = false) := by
              show X = false
              rw [Hst.out, hk0]
              rfl
            have e0 : ((k : Int) == 0) = true := by rw [beq_iff_eq]; omega
            clear hk0
            go_wp2
            go_ret
            exact ⟨ret_bool (by rw [HG.out]), HB.out⟩
          · have HG : Hid (X = Ru.nameAll ((tl s).drop (k + 1)) (decide (k + 1 = 0))) := by
              show X = _
              rw [Hst.out, decide_eq_false hk0]
              rfl
            have e0 : ((k : Int) == 0) = false := by rw [beq_eq_false_iff_ne]; omega
            clear hk0
            go_wp2
            go_round
            case rel => exact ⟨k + 1, by omega, by go_num, HG⟩
            case measure => simp [intOf]; omega
        · obtain ⟨i1, i2⟩ := hc
          have f97 : ¬ 97 ≤ (s[k].toNat : Int) := by omega
          have f65 : ¬ 65 ≤ (s[k].toNat : Int) := by omega
          have f48 : 48 ≤ (s[k].toNat : Int) := by omega
          have f57 : (s[k].toNat : Int) ≤ 57 := by omega
          have e95 : ((s[k].toNat : Int) == 95) = false := by rw [beq_eq_false_iff_ne]; omega
          have e43 : ((s[k].toNat : Int) == 43) = false := by rw [beq_eq_false_iff_ne]; omega
          have e45 : ((s[k].toNat : Int) == 45) = false := by rw [beq_eq_false_iff_ne]; omega
          have e47 : ((s[k].toNat : Int) == 47) = false := by rw [beq_eq_false_iff_ne]; omega
          have hr : Ru.rest (s[k].toNat : Int) = true := by unfold Ru.rest; rw [decide_eq_true_eq]; omega
          have hl : Ru.letr (s[k].toNat : Int) = false := by unfold Ru.letr; rw [decide_eq_false_iff_not]; omega
          have hst := HSt.out
          rw [hr, hl] at hst
          have Hst := Lib.hid hst
          clear hr hl hst
          by_cases hk0 : k = 0
          · have HG : Hid (X = false) := by
              show X = false
              rw [Hst.out, hk0]
              rfl
            have e0 : ((k : Int) == 0) = true := by rw [beq_iff_eq]; omega
            clear hk0
            go_wp2
            go_ret
            exact ⟨ret_bool (by rw [HG.out]), HB.out⟩
          · have HG : Hid (X = Ru.nameAll ((tl s).drop (k + 1)) (decide (k + 1 = 0))) := by
              show X = _
              rw [Hst.out, decide_eq_false hk0]
              rfl
            have e0 : ((k : Int) == 0) = false := by rw [beq_eq_false_iff_ne]; omega
            clear hk0
            go_wp2
            go_round
            case rel => exact ⟨k + 1, by omega, by go_num, HG⟩
            case measure => simp [intOf]; omega
        · obtain ⟨i1, i2⟩ := hc
          have f97 : ¬ 97 ≤ (s[k].toNat : Int) := by omega
          have f65 : ¬ 65 ≤ (s[k].toNat : Int) := by omega
          have f48 : 48 ≤ (s[k].toNat : Int) := by omega
          have f57 : ¬ (s[k].toNat : Int) ≤ 57 := by omega
          have e95 : ((s[k].toNat : Int) == 95) = false := by rw [beq_eq_false_iff_ne]; omega
          have e43 : ((s[k].toNat : Int) == 43) = false := by rw [beq_eq_false_iff_ne]; omega
          have e45 : ((s[k].toNat : Int) == 45) = false := by rw [beq_eq_false_iff_ne]; omega
          have e47 : ((s[k].toNat : Int) == 47) = false := by rw [beq_eq_false_iff_ne]; omega
          have hr : Ru.rest (s[k].toNat : Int) = false := by unfold Ru.rest; rw [decide_eq_false_iff_not]; omega
          have hl : Ru.letr (s[k].toNat : Int) = false := by unfold Ru.letr; rw [decide_eq_false_iff_not]; omega
          have HG : Hid (X = false) := by
            show X = false
            rw [HSt.out, hr, hl]
            simp
          clear hr hl
          go_wp2
          go_ret
          exact ⟨ret_bool (by rw [HG.out]), HB.out⟩
        · obtain ⟨i1, i2⟩ := hc
          have f97 : ¬ 97 ≤ (s[k].toNat : Int) := by omega
          have f65 : 65 ≤ (s[k].toNat : Int) := by omega
          have f90 : (s[k].toNat : Int) ≤ 90 := by omega
          have f48 : 48 ≤ (s[k].toNat : Int) := by omega
          have f57 : ¬ (s[k].toNat : Int) ≤ 57 := by omega
          have e95 : ((s[k].toNat : Int) == 95) = false := by rw [beq_eq_false_iff_ne]; omega
          have e43 : ((s[k].toNat : Int) == 43) = false := by rw [beq_eq_false_iff_ne]; omega
          have e45 : ((s[k].toNat : Int) == 45) = false := by rw [beq_eq_false_iff_ne]; omega
          have e47 : ((s[k].toNat : Int) == 47) = false := by rw [beq_eq_false_iff_ne]; omega
          have HG : Hid (X = Ru.nameAll ((tl s).drop (k + 1)) (decide (k + 1 = 0))) := by
            show X = _
            rw [HSt.out]
            have : Ru.letr (s[k].toNat : Int) = true := by unfold Ru.letr; rw [decide_eq_true_eq]; omega
            rw [this, Bool.true_or, Bool.true_and]
            rfl
          go_wp2
          go_round
          case rel => exact ⟨k + 1, by omega, by go_num, HG⟩
          case measure => simp [intOf]; omega
        · obtain ⟨i1, i2⟩ := hc
          have f97 : ¬ 97 ≤ (s[k].toNat : Int) := by omega
          have f65 : 65 ≤ (s[k].toNat : Int) := by omega
          have f90 : ¬ (s[k].toNat : Int) ≤ 90 := by omega
          have f48 : 48 ≤ (s[k].toNat : Int) := by omega
          have f57 : ¬ (s[k].toNat : Int) ≤ 57 := by omega
          have e95 : ((s[k].toNat : Int) == 95) = false := by rw [beq_eq_false_iff_ne]; omega
          have e43 : ((s[k].toNat : Int) == 43) = false := by rw [beq_eq_false_iff_ne]; omega
          have e45 : ((s[k].toNat : Int) == 45) = false := by rw [beq_eq_false_iff_ne]; omega
          have e47 : ((s[k].toNat : Int) == 47) = false := by rw [beq_eq_false_iff_ne]; omega
          have hr : Ru.rest (s[k].toNat : Int) = false := by unfold Ru.rest; rw [decide_eq_false_iff_not]; omega
          have hl : Ru.letr (s[k].toNat : Int) = false := by unfold Ru.letr; rw [decide_eq_false_iff_not]; omega
          have HG : Hid (X = false) := by
            show X = false
            rw [HSt.out, hr, hl]
            simp
          clear hr hl
          go_wp2
          go_ret
          exact ⟨ret_bool (by rw [HG.out]), HB.out⟩
        · obtain ⟨i1, i2⟩ := hc
          have f97 : ¬ 97 ≤ (s[k].toNat : Int) := by omega
          have f65 : 65 ≤ (s[k].toNat : Int) := by omega
          have f90 : ¬ (s[k].toNat : Int) ≤ 90 := by omega
          have f48 : 48 ≤ (s[k].toNat : Int) := by omega
          have f57 : ¬ (s[k].toNat : Int) ≤ 57 := by omega
          have e95 : ((s[k].toNat : Int) == 95) = true := by rw [beq_iff_eq]; omega
          have e43 : ((s[k].toNat : Int) == 43) = false := by rw [beq_eq_false_iff_ne]; omega
          have e45 : ((s[k].toNat : Int) == 45) = false := by rw [beq_eq_false_iff_ne]; omega
          have e47 : ((s[k].toNat : Int) == 47) = false := by rw [beq_eq_false_iff_ne]; omega
          have HG : Hid (X = Ru.nameAll ((tl s).drop (k + 1)) (decide (k + 1 = 0))) := by
            show X = _
            rw [HSt.out]
            have : Ru.letr (s[k].toNat : Int) = true := by unfold Ru.letr; rw [decide_eq_true_eq]; omega
            rw [this, Bool.true_or, Bool.true_and]
            rfl
          go_wp2
          go_round
          case rel => exact ⟨k + 1, by omega, by go_num, HG⟩
          case measure => simp [intOf]; omega
        · obtain ⟨i1, i2⟩ := hc
          have f97 : ¬ 97 ≤ (s[k].toNat : Int) := by omega
          have f65 : 65 ≤ (s[k].toNat : Int) := by omega
          have f90 : ¬ (s[k].toNat : Int) ≤ 90 := by omega
          have f48 : 48 ≤ (s[k].toNat : Int) := by omega
          have f57 : ¬ (s[k].toNat : Int) ≤ 57 := by omega
          have e95 : ((s[k].toNat : Int) == 95) = false := by rw [beq_eq_false_iff_ne]; omega
          have e43 : ((s[k].toNat : Int) == 43) = false := by rw [beq_eq_false_iff_ne]; omega
          have e45 : ((s[k].toNat : Int) == 45) = false := by rw [beq_eq_false_iff_ne]; omega
          have e47 : ((s[k].toNat : Int) == 47) = false := by rw [beq_eq_false_iff_ne]; omega
          have hr : Ru.rest (s[k].toNat : Int) = false := by unfold Ru.rest; rw [decide_eq_false_iff_not]; omega
          have hl : Ru.letr (s[k].toNat : Int) = false := by unfold Ru.letr; rw [decide_eq_false_iff_not]; omega
          have HG : Hid (X = false) := by
            show X = false
            rw [HSt.out, hr, hl]
            simp
          clear hr hl
          go_wp2
          go_ret
          exact ⟨ret_bool (by rw [HG.out]), HB.out⟩
        · obtain ⟨i1, i2⟩ := hc
          have f97 : 97 ≤ (s[k].toNat : Int) := by omega
          have f122 : (s[k].toNat : Int) ≤ 122 := by omega
          have f65 : 65 ≤ (s[k].toNat : Int) := by omega
          have f90 : ¬ (s[k].toNat : Int) ≤ 90 := by omega
          have f48 : 48 ≤ (s[k].toNat : Int) := by omega
          have f57 : ¬ (s[k].toNat : Int) ≤ 57 := by omega
          have e95 : ((s[k].toNat : Int) == 95) = false := by rw [beq_eq_false_iff_ne]; omega
          have e43 : ((s[k].toNat : Int) == 43) = false := by rw [beq_eq_false_iff_ne]; omega
          have e45 : ((s[k].toNat : Int) == 45) = false := by rw [beq_eq_false_iff_ne]; omega
          have e47 : ((s[k].toNat : Int) == 47) = false := by rw [beq_eq_false_iff_ne]; omega
          have HG : Hid (X = Ru.nameAll ((tl s).drop (k + 1)) (decide (k + 1 = 0))) := by
            show X = _
            rw [HSt.out]
            have : Ru.letr (s[k].toNat : Int) = true := by unfold Ru.letr; rw [decide_eq_true_eq]; omega
            rw [this, Bool.true_or, Bool.true_and]
            rfl
          go_wp2
          go_round
          case rel => exact ⟨k + 1, by omega, by go_num, HG⟩
          case measure => simp [intOf]; omega
        · obtain ⟨i1, i2⟩ := hc
          have f97 : 97 ≤ (s[k].toNat : Int) := by omega
          have f122 : ¬ (s[k].toNat : Int) ≤ 122 := by omega
          have f65 : 65 ≤ (s[k].toNat : Int) := by omega
          have f90 : ¬ (s[k].toNat : Int) ≤ 90 := by omega
          have f48 : 48 ≤ (s[k].toNat : Int) := by omega
          have f57 : ¬ (s[k].toNat : Int) ≤ 57 := by omega
          have e95 : ((s[k].toNat : Int) == 95) = false := by rw [beq_eq_false_iff_ne]; omega
          have e43 : ((s[k].toNat : Int) == 43) = false := by rw [beq_eq_false_iff_ne]; omega
          have e45 : ((s[k].toNat : Int) == 45) = false := by rw [beq_eq_false_iff_ne]; omega
          have e47 : ((s[k].toNat : Int) == 47) = false := by rw [beq_eq_false_iff_ne]; omega
          have hr : Ru.rest (s[k].toNat : Int) = false := by unfold Ru.rest; rw [decide_eq_false_iff_not]; omega
          have hl : Ru.letr (s[k].toNat : Int) = false := by unfold Ru.letr; rw [decide_eq_false_iff_not]; omega
          have HG : Hid (X = false) := by
            show X = false
            rw [HSt.out, hr, hl]
            simp
          clear hr hl
          go_wp2
          go_ret
          exact ⟨ret_bool (by rw [HG.out]), HB.out⟩
      · obtain rfl : k = s.size := by omega
        have HX3 : Hid (X = true) := by
          show X = true
          rw [HK.out, List.drop_eq_nil_of_le (by rw [tl_length]; exact Nat.le_refl _)]
          rfl
        go_wp2
        go_ret
        exact ⟨ret_bool (by rw [HX3.out]), HB.out⟩
  · have HRs := Lib.hid fun W => calls_bool (rising3_any 1 (s.size : Int) 64 W) (show _ = false by simp; omega)
    have HX : Hid (Ru.name (tl s) = false) := by show Ru.name (tl s) = false; unfold Ru.name; rw [tl_length, decide_eq_false hl]; rfl
    clear hl
    go_enter Tryz.func25, Tryz.ntmps25
    go_wp2_with fail
    refine (HRs.out _).mono ?_
    rintro e w1 ⟨rfl, hb⟩
    go_wp2
    go_ret
    exact ⟨ret_bool (by rw [HX.out]), hb⟩
end Go.Proofs.YtlhoggalhjadgaaGreatDoor

/- The contracts of package moment: Text, year, CheckUntil. -/
namespace Go.Proofs.YtlhoggalhjadgaaGreatDoor
open Go.RowKit

/-- A text of its bytes. -/
theorem add_txt (a b : List UInt8) (h : a.length + b.length ≤ 1000000) (W : World) : (Op.stringOp .add ⟨a.toArray⟩ ⟨b.toArray⟩).run Tryz.prog W = .ok (.string ⟨(a ++ b).toArray⟩) W := by
  have e : (⟨a.toArray⟩ : ByteArray) ++ ⟨b.toArray⟩ = ⟨(a ++ b).toArray⟩ := by
    apply ByteArray.ext
    simp [ByteArray.data_append]
  rw [← e]
  exact run_string_add_sum W _ _ (by simp only [size_mk]; omega)
namespace Mo
def tail (c : Int) : List UInt8 := if c = 1 then [115] else if c = 2 then [117] else []
def text (s c : Int) : List UInt8 := Ck.text s ++ tail c
/-- What one to four digits tell; -1: they are none. -/
def yearN (l : List UInt8) : Int := if l.length < 1 ∨ 4 < l.length then -1 else Dy.numLoop l 0
def yearV (N : Int) : Int := if N = -1 then 0 else N
def yearB (N : Int) : Bool := decide (1 ≤ N ∧ N ≤ 9999)
end Mo
theorem momText_bad (s c : Int) (w : World) (h : ¬ Mo.Ok s c) :
    Calls Tryz.prog 58 #[.agg #[.int .i64 s, .int .u8 c]] w fun e w' => e = .returned (.tuple #[.string ⟨#[]⟩, .int .i64 2]) ∧ Below w.heap.size w w' := by
  have HC := Lib.hid fun W => momCheck_bad s c W h
  clear h
  go_enter Tryz.func58, Tryz.ntmps58
  go_wp2_with fail
  refine (HC.out _).mono ?_
  rintro e w1 ⟨rfl, hb1⟩
  have HB := Lib.hid (below_new (hb1.mono (by simp) : Below (w.heap.size + 1) (w.alloc (.cells #[.int .i64 s, .int .u8 c] 45)) w1))
  clear hb1
  go_wp2
  go_ret2
  exact ⟨rfl, HB.out⟩
set_option maxHeartbeats 1000000 in
theorem momText_ok (s c : Int) (w : World) (hW : Wc w) (h : Mo.Ok s c) (h0 : 0 ≤ c) :
    Calls Tryz.prog 58 #[.agg #[.int .i64 s, .int .u8 c]] w fun e w' => e = .returned (.tuple #[.string ⟨(Mo.text s c).toArray⟩, .int .i64 0]) ∧ Below w.heap.size w w' := by
  have HC := Lib.hid fun W => momCheck_ok s c W h
  have hT := fun W hw => clockText_any s W hw
  have hl := Ck.text_size s
  rw [size_mk] at hl
  have HW := Lib.hid hW
  have hX : Mo.text s c = Ck.text s ++ Mo.tail c := rfl
  obtain ⟨X, hXX⟩ : ∃ X, Ck.text s = X := ⟨_, rfl⟩
  simp only [hXX] at hT hl hX
  have HT := Lib.hid hT
  have hc : c = 0 ∨ c = 1 ∨ c = 2 := by have := h.2; omega
  have s1 := add_txt X [115] (by simp; omega)
  have s2 := add_txt X [117] (by simp; omega)
  obtain ⟨X1, hX1⟩ : ∃ Y : ByteArray, ⟨(X ++ [115]).toArray⟩ = Y := ⟨_, rfl⟩
  obtain ⟨X2, hX2⟩ : ∃ Y : ByteArray, ⟨(X ++ [117]).toArray⟩ = Y := ⟨_, rfl⟩
  obtain ⟨X0, hX0⟩ : ∃ Y : ByteArray, ⟨X.toArray⟩ = Y := ⟨_, rfl⟩
  rw [hX1] at s1
  rw [hX2] at s2
  rw [hX0] at s1 s2 HT
  have HX := Lib.hid hX
  have HX0 := Lib.hid hX0
  have HX1 := Lib.hid hX1
  have HX2 := Lib.hid hX2
  clear hX hT hXX h h0 hW hl hX0 hX1 hX2
  rcases hc with rfl | rfl | rfl
  all_goals
    go_enter Tryz.func58, Tryz.ntmps58
    go_wp2_with fail
    refine (HC.out _).mono ?_
    rintro e w1 ⟨rfl, hb1⟩
    obtain ⟨c1, f1⟩ := bcell hb1
    have z1 : w.heap.size < w1.heap.size := by have := hb1.size; simp at this; omega
    have HB := Lib.hid (below_new (hb1.mono (by simp) : Below (w.heap.size + 1) (w.alloc (.cells #[.int .i64 s, .int .u8 _] 45)) w1))
    clear hb1
    go_wp2_with fail
    refine (HT.out _ (HW.out.below HB.out)).mono ?_
    rintro e w2 ⟨rfl, hb2⟩
    obtain ⟨c2, f2⟩ := bcell hb2
    replace HB := Lib.hid (below_then HB.out hb2)
    clear hb2
    go_wp2
    go_ret2
    refine ⟨ret_str2 ?_, HB.out⟩
    rw [HX.out]
    first | (rw [← HX0.out]; simp [Mo.tail]; done) | (rw [← HX1.out]; simp [Mo.tail]; done) | (rw [← HX2.out]; simp [Mo.tail]; done)

theorem numLoop4_bd : ∀ (l : List UInt8) (a : Int), 0 ≤ a → -1 ≤ Dy.numLoop l a := numLoop3_bd
set_option maxHeartbeats 1000000 in
theorem momYear_any (s : ByteArray) (w : World) (hs : s.size ≤ 1000000) :
    Calls Tryz.prog 101 #[.string s] w fun e w' => e = .returned (.tuple #[.int .i64 (Mo.yearV (Mo.yearN (tl s))), .bool (Mo.yearB (Mo.yearN (tl s)))]) ∧ w = w' := by
  by_cases h1 : s.size < 1
  · have hE : Mo.yearN (tl s) = -1 := by unfold Mo.yearN; rw [tl_length, if_pos (.inl h1)]
    rw [hE]
    have q : (s.size : Int) < 1 := by omega
    clear hE h1
    go_enter Tryz.func101, Tryz.ntmps101
    go_wp2
    go_ret2
    exact ⟨rfl, rfl⟩
  by_cases h2 : 4 < s.size
  · have hE : Mo.yearN (tl s) = -1 := by unfold Mo.yearN; rw [tl_length, if_pos (.inr h2)]
    rw [hE]
    have q : ¬ (s.size : Int) < 1 := by omega
    have q2 : (4 : Int) < (s.size : Int) := by omega
    clear hE h1 h2
    go_enter Tryz.func101, Tryz.ntmps101
    go_wp2
    go_ret2
    exact ⟨rfl, rfl⟩
  have hE : Mo.yearN (tl s) = Dy.numLoop ((tl s).drop 0) 0 := by unfold Mo.yearN; rw [tl_length, if_neg (by omega)]; rfl
  obtain ⟨N, hN⟩ : ∃ N, Mo.yearN (tl s) = N := ⟨_, rfl⟩
  rw [hN] at hE ⊢
  have HE := Lib.hid hE
  have q : ¬ (s.size : Int) < 1 := by omega
  have q2 : ¬ (4 : Int) < (s.size : Int) := by omega
  have q3 : s.size ≤ 4 := by omega
  clear hN hE h1 h2
  go_enter Tryz.func101, Tryz.ntmps101
  go_wp2
  go_loop [4, 16] (fun t i => ∃ (k : Nat) (a : Int), k ≤ s.size ∧ i = .int .i64 k ∧ t = .int .i64 a ∧ 0 ≤ a ∧ a ≤ 9999 ∧ Hid (k ≤ 3 → a ≤ 999) ∧ Hid (k ≤ 2 → a ≤ 99) ∧ Hid (k ≤ 1 → a ≤ 9) ∧ Hid (k = 0 → a = 0) ∧ Hid (N = Dy.numLoop ((tl s).drop k) a)) (fun _ i => s.size - (intOf i).toNat)
  case atStart => exact ⟨0, 0, by omega, rfl, rfl, by omega, by omega, fun _ => by omega, fun _ => by omega, fun _ => by omega, fun _ => rfl, HE.out⟩
  case round =>
    obtain ⟨k, a, hk, rfl, rfl, a0, a1, HA3, HA2, HA1, HA0, HN⟩ := hrel
    by_cases hlt : k < s.size
    · have p1 : (0 : Int) ≤ (k : Int) := by omega
      have p2 : (k : Int) < (s.size : Int) := by omega
      have b1 := u8_bd s[k]
      have a2 : a ≤ 999 := HA3.out (by omega)
      by_cases hc : (s[k].toNat : Int) < 48 ∨ 57 < (s[k].toNat : Int)
      · have HB := Lib.hid (Dy.numLoop_bad (tl s) k s[k] a N HN.out (Dy.tl_get s k hlt) hc)
        by_cases hc1 : (s[k].toNat : Int) < 48
        · clear hc
          go_wp2
          go_ret2
          exact ⟨ret_nb (by rw [HB.out]; rfl) (by rw [HB.out]; rfl), rfl⟩
        · have hc2 : 57 < (s[k].toNat : Int) := by omega
          clear hc
          go_wp2
          go_ret2
          exact ⟨ret_nb (by rw [HB.out]; rfl) (by rw [HB.out]; rfl), rfl⟩
      · have HB := Lib.hid (Dy.numLoop_next (tl s) k s[k] a N HN.out (Dy.tl_get s k hlt) hc)
        have c1 : 48 ≤ (s[k].toNat : Int) := by omega
        have c2 : (s[k].toNat : Int) ≤ 57 := by omega
        have HA0' := HA0.out
        have HA1' := HA1.out
        have HA2' := HA2.out
        have HZ : Hid (k + 1 ≤ 1 → a * 10 + ((s[k].toNat : Int) - 48) ≤ 9) := by intro h; have := HA0' (by omega); omega
        have HZ2 : Hid (k + 1 ≤ 2 → a * 10 + ((s[k].toNat : Int) - 48) ≤ 99) := by intro h; have := HA1' (by omega); omega
        have HZ3 : Hid (k + 1 ≤ 3 → a * 10 + ((s[k].toNat : Int) - 48) ≤ 999) := by intro h; have := HA2' (by omega); omega
        clear hc HA0' HA1' HA2'
        go_wp2
        go_round
        case rel => exact ⟨k + 1, a * 10 + ((s[k].toNat : Int) - 48), by omega, by go_num, rfl, by omega, by omega, HZ3, HZ2, HZ, fun h => absurd h (by omega), HB⟩
        case measure => simp [intOf]; omega
    · obtain rfl : k = s.size := by omega
      have HB := Lib.hid (Dy.numLoop_end (tl s) s.size a N HN.out (tl_length s))
      have hne : ¬ N = -1 := by have := HB.out; omega
      by_cases hz : 1 ≤ a
      · go_wp2
        go_ret2
        exact ⟨ret_nb (by unfold Mo.yearV; rw [if_neg hne, HB.out]) (by unfold Mo.yearB; rw [HB.out, decide_eq_true (show 1 ≤ a ∧ a ≤ 9999 by omega)]), rfl⟩
      · go_wp2
        go_ret2
        exact ⟨ret_nb (by unfold Mo.yearV; rw [if_neg hne, HB.out]) (by unfold Mo.yearB; rw [HB.out, decide_eq_false (show ¬ (1 ≤ a ∧ a ≤ 9999) by omega)]), rfl⟩
end Go.Proofs.YtlhoggalhjadgaaGreatDoor
