/- The contracts of package clock: instants. -/
import Derived.Test.YtkpbkgfmdjhbpaaDoorNumMath
namespace Go.Proofs.YtkpbkgfmdjhbpaaDoor
open Go.RowKit

def IsTime (s : Int) : Prop := -604800 ≤ s ∧ s ≤ 604800
instance (s : Int) : Decidable (IsTime s) := by unfold IsTime; exact inferInstance
def InT (s : Int) : Prop := -1099511627776 ≤ s ∧ s ≤ 1099511627776
instance (s : Int) : Decidable (InT s) := by unfold InT; exact inferInstance

theorem isTime_any (s : Int) (w : World) :
    Calls Tryd.prog 44 #[.int .i64 s] w fun e w' => e = .returned (.bool (decide (IsTime s))) ∧ w = w' := by
  by_cases h : IsTime s
  · have HD := Lib.hid (decide_eq_true h)
    obtain ⟨h1, h2⟩ := h
    go_enter Tryd.func44, Tryd.ntmps44
    go_wp2
    go_ret
    exact ⟨ret_bool (by rw [HD.out]), rfl⟩
  · have HD := Lib.hid (decide_eq_false h)
    have h' : s < -604800 ∨ 604800 < s := by unfold IsTime at h; omega
    clear h
    by_cases h1 : s < -604800
    · clear h'
      go_enter Tryd.func44, Tryd.ntmps44
      go_wp2
      go_ret
      exact ⟨ret_bool (by rw [HD.out]), rfl⟩
    · have h2 : 604800 < s := by omega
      clear h'
      go_enter Tryd.func44, Tryd.ntmps44
      go_wp2
      go_ret
      exact ⟨ret_bool (by rw [HD.out]; first | (simp; done) | (simp; omega)), rfl⟩

theorem at_ok (d s : Int) (w : World) (h1 : -719162 ≤ d) (h2 : d < 2932897) (h3 : IsTime s) :
    Calls Tryd.prog 9 #[.int .i64 d, .int .i64 s] w fun e w' => e = .returned (.tuple #[.int .i64 (d * 86400 + s), .int .i64 0]) ∧ Below w.heap.size w w' := by
  have HO := Lib.hid fun W => of_ok d W h1 h2
  have HT := Lib.hid fun W => calls_bool (isTime_any s W) (decide_eq_true h3)
  obtain ⟨s1, s2⟩ := h3
  go_enter Tryd.func9, Tryd.ntmps9
  go_wp2_with fail
  refine (HO.out _).mono ?_
  rintro e w1 ⟨rfl, hb⟩
  go_wp2_with fail
  refine (HT.out _).mono ?_
  rintro e w2 ⟨rfl, rfl⟩
  go_wp2
  go_ret2
  exact ⟨rfl, hb.alloc hb.size _⟩
theorem at_bad (d s : Int) (w : World) (h : ¬ ((-719162 ≤ d ∧ d < 2932897) ∧ IsTime s)) :
    Calls Tryd.prog 9 #[.int .i64 d, .int .i64 s] w fun e w' => e = .returned (.tuple #[.int .i64 0, .int .i64 1]) ∧ Below w.heap.size w w' := by
  by_cases hd : -719162 ≤ d ∧ d < 2932897
  · have h3 : ¬ IsTime s := fun x => h ⟨hd, x⟩
    have HO := Lib.hid fun W => of_ok d W hd.1 hd.2
    have HT := Lib.hid fun W => calls_bool (isTime_any s W) (decide_eq_false h3)
    clear h hd h3
    go_enter Tryd.func9, Tryd.ntmps9
    go_wp2_with fail
    refine (HO.out _).mono ?_
    rintro e w1 ⟨rfl, hb⟩
    go_wp2_with fail
    refine (HT.out _).mono ?_
    rintro e w2 ⟨rfl, rfl⟩
    go_wp2
    go_ret2
    exact ⟨rfl, hb.alloc hb.size _⟩
  · have HO := Lib.hid fun W => of_bad d W (by omega)
    clear h hd
    go_enter Tryd.func9, Tryd.ntmps9
    go_wp2_with fail
    refine (HO.out _).mono ?_
    rintro e w1 ⟨rfl, hb⟩
    go_wp2
    go_ret2
    exact ⟨rfl, hb.alloc hb.size _⟩

theorem ret_int22 {k : IntKind} {a b c d : Int} (h : a = b) (h' : c = d) : Ending.returned (.tuple #[.int k a, .int k c]) = .returned (.tuple #[.int k b, .int k d]) := by rw [h, h']
theorem split_any (t : Int) (w : World) (h0 : -9223372036854775808 ≤ t) (h1 : t ≤ 9223372036854775807) :
    Calls Tryd.prog 11 #[.int .i64 t] w fun e w' => e = .returned (.tuple #[.int .i64 (t / 86400), .int .i64 (t % 86400)]) ∧ w = w' := by
  by_cases hp : 0 ≤ t
  · go_enter Tryd.func11, Tryd.ntmps11
    go_wp2
    go_ret2
    exact ⟨rfl, rfl⟩
  · obtain ⟨u, rfl⟩ : ∃ u, t = -u := ⟨-t, by omega⟩
    have e1 : (-u).tdiv 86400 = -(u / 86400) := by rw [Int.neg_tdiv, Int.tdiv_eq_ediv_of_nonneg (by omega)]
    have e2 : (-u).tmod 86400 = -(u % 86400) := by rw [Int.neg_tmod, Int.tmod_eq_emod_of_nonneg (by omega)]
    by_cases hz : u % 86400 = 0
    · have hneg : ¬ (-(u % 86400) < 0) := by omega
      have b1 : 0 < u := by omega
      have b2 : u ≤ 9223372036854775808 := by omega
      have HZ := Lib.hid hz
      clear hz h0 h1 hp
      go_enter Tryd.func11, Tryd.ntmps11
      go_wp2
      go_ret2
      exact ⟨ret_int22 (by have := HZ.out; omega) (by have := HZ.out; omega), rfl⟩
    · have hneg : -(u % 86400) < 0 := by omega
      have b1 : 0 < u := by omega
      have b2 : u ≤ 9223372036854775808 := by omega
      have HZ := Lib.hid hz
      clear hz h0 h1 hp
      go_enter Tryd.func11, Tryd.ntmps11
      go_wp2
      go_ret2
      exact ⟨ret_int22 (by have := HZ.out; omega) (by have := HZ.out; omega), rfl⟩

theorem year_ok (t : Int) (w : World) (h1 : -719162 ≤ t / 86400) (h2 : t / 86400 < 2932897) :
    Calls Tryd.prog 13 #[.int .i64 t] w fun e w' => e = .returned (.tuple #[.int .i64 (Cv.yearOf (t / 86400)), .int .i64 0]) ∧ Below w.heap.size w w' := by
  have HS := Lib.hid fun W => split_any t W (by omega) (by omega)
  have HO := Lib.hid fun W => of_ok (t / 86400) W h1 h2
  clear h1 h2
  go_enter Tryd.func13, Tryd.ntmps13
  go_wp2_with fail
  refine (HS.out _).mono ?_
  rintro e w1 ⟨rfl, rfl⟩
  go_wp2_with fail
  refine (HO.out _).mono ?_
  rintro e w2 ⟨rfl, hb⟩
  go_wp2
  go_ret2
  exact ⟨rfl, hb.alloc hb.size _⟩
theorem year_bad (t : Int) (w : World) (h0 : -9223372036854775808 ≤ t) (h1 : t ≤ 9223372036854775807) (h : ¬ (-719162 ≤ t / 86400 ∧ t / 86400 < 2932897)) :
    Calls Tryd.prog 13 #[.int .i64 t] w fun e w' => e = .returned (.tuple #[.int .i64 0, .int .i64 1]) ∧ Below w.heap.size w w' := by
  have HS := Lib.hid fun W => split_any t W h0 h1
  have HO := Lib.hid fun W => of_bad (t / 86400) W (by omega)
  clear h0 h1 h
  go_enter Tryd.func13, Tryd.ntmps13
  go_wp2_with fail
  refine (HS.out _).mono ?_
  rintro e w1 ⟨rfl, rfl⟩
  go_wp2_with fail
  refine (HO.out _).mono ?_
  rintro e w2 ⟨rfl, hb⟩
  go_wp2
  go_ret2
  exact ⟨rfl, hb.alloc hb.size _⟩

theorem add_any (a b : Int) (w : World) :
    Calls Tryd.prog 15 #[.int .i64 a, .int .i64 b] w fun e w' => e = .returned (.tuple #[.int .i64 (if InT a ∧ InT b ∧ InT (a + b) then a + b else 0), .int .i64 (if InT a ∧ InT b ∧ InT (a + b) then 0 else 1)]) ∧ w = w' := by
  have i0 : ∀ w, (Instr.index 98 (.agg #[.int .i64 a, .int .i64 b]) (.int .i64 0)).run Tryd.prog w = .ok (.int .i64 a) w := fun _ => by kernel_rfl
  have i1 : ∀ w, (Instr.index 98 (.agg #[.int .i64 a, .int .i64 b]) (.int .i64 1)).run Tryd.prog w = .ok (.int .i64 b) w := fun _ => by kernel_rfl
  by_cases h : InT a ∧ InT b ∧ InT (a + b)
  · rw [if_pos h, if_pos h]
    obtain ⟨⟨a1, a2⟩, ⟨b1, b2⟩, ⟨c1, c2⟩⟩ := h
    go_enter Tryd.func15, Tryd.ntmps15
    go_wp2
    go_loop [12] (fun i => ∃ k : Nat, k ≤ 2 ∧ i = .int .i64 k) (fun i => 2 - (intOf i).toNat)
    case atStart => exact ⟨0, by omega, rfl⟩
    case round =>
      obtain ⟨k, hk, rfl⟩ := hrel
      have : k = 0 ∨ k = 1 ∨ k = 2 := by omega
      rcases this with rfl | rfl | rfl
      · go_wp2
        go_round
        case rel => exact ⟨1, by omega, rfl⟩
        case measure => simp [intOf]
      · go_wp2
        go_round
        case rel => exact ⟨2, by omega, rfl⟩
        case measure => simp [intOf]
      · go_wp2
        go_ret2
        exact ⟨rfl, rfl⟩
  · rw [if_neg h, if_neg h]
    have h' : a < -1099511627776 ∨ 1099511627776 < a ∨ (InT a ∧ (b < -1099511627776 ∨ 1099511627776 < b)) ∨ (InT a ∧ InT b ∧ (a + b < -1099511627776 ∨ 1099511627776 < a + b)) := by
      unfold InT at *; omega
    clear h
    rcases h' with h1 | h1 | ⟨⟨a1, a2⟩, h1⟩ | ⟨⟨a1, a2⟩, ⟨b1, b2⟩, h1⟩
    · go_enter Tryd.func15, Tryd.ntmps15
      go_wp2
      go_loop [12] (fun i => i = .int .i64 0) (fun i => 2 - (intOf i).toNat)
      case atStart => exact rfl
      case round =>
        obtain rfl := hrel
        go_wp2
        go_ret2
        exact ⟨rfl, rfl⟩
    · have h2 : ¬ a < -1099511627776 := by omega
      go_enter Tryd.func15, Tryd.ntmps15
      go_wp2
      go_loop [12] (fun i => i = .int .i64 0) (fun i => 2 - (intOf i).toNat)
      case atStart => exact rfl
      case round =>
        obtain rfl := hrel
        go_wp2
        go_ret2
        exact ⟨rfl, rfl⟩
    · rcases h1 with h1 | h1
      all_goals
        go_enter Tryd.func15, Tryd.ntmps15
        go_wp2
        go_loop [12] (fun i => ∃ k : Nat, k ≤ 1 ∧ i = .int .i64 k) (fun i => 2 - (intOf i).toNat)
        case atStart => exact ⟨0, by omega, rfl⟩
        case round =>
          obtain ⟨k, hk, rfl⟩ := hrel
          have : k = 0 ∨ k = 1 := by omega
          rcases this with rfl | rfl
          · go_wp2
            go_round
            case rel => exact ⟨1, by omega, rfl⟩
            case measure => simp [intOf]
          · go_wp2
            go_ret2
            exact ⟨rfl, rfl⟩
    · rcases h1 with h1 | h1
      all_goals
        go_enter Tryd.func15, Tryd.ntmps15
        go_wp2
        go_loop [12] (fun i => ∃ k : Nat, k ≤ 2 ∧ i = .int .i64 k) (fun i => 2 - (intOf i).toNat)
        case atStart => exact ⟨0, by omega, rfl⟩
        case round =>
          obtain ⟨k, hk, rfl⟩ := hrel
          have : k = 0 ∨ k = 1 ∨ k = 2 := by omega
          rcases this with rfl | rfl | rfl
          · go_wp2
            go_round
            case rel => exact ⟨1, by omega, rfl⟩
            case measure => simp [intOf]
          · go_wp2
            go_round
            case rel => exact ⟨2, by omega, rfl⟩
            case measure => simp [intOf]
          · go_wp2
            go_ret2
            exact ⟨rfl, rfl⟩
end Go.Proofs.YtkpbkgfmdjhbpaaDoor
