/- The contracts of package moment: Check, Nominal, Instant. -/
import Derived.Test.YtokimlfbfbfenaaDoorDayLives
import Derived.Test.YtokimlfbfbfenaaDoorClockAll
namespace Go.Proofs.YtokimlfbfbfenaaDoor
open Go.RowKit

/-- What stood ahead of a call reads as it did. -/
theorem bcell {B : Nat} {W w1 : World} (hb : Below B W w1) : (∀ b o, b < B → w1.cell? ⟨b, o, none⟩ = W.cell? ⟨b, o, none⟩) ∧ (∀ b o, b < B → w1.frozen? ⟨b, o, none⟩ = W.frozen? ⟨b, o, none⟩) :=
  ⟨fun b o h => hb.cell (p := ⟨b, o, none⟩) h, fun b o h => hb.frozen (p := ⟨b, o, none⟩) h⟩
namespace Mo
def Ok (s c : Int) : Prop := IsTime s ∧ c < 3
instance (s c : Int) : Decidable (Ok s c) := by unfold Ok; exact inferInstance
def nom (k n d y m s c : Int) : Int × Int := if Ok s c then (if (Dy.inS k n d y m).2 = 0 then ((Dy.inS k n d y m).1 * 86400 + s, 0) else (0, (Dy.inS k n d y m).2)) else (0, 2)
def ins (n c std save : Int) : Int × Int :=
  if 3 ≤ c then (0, 2) else if InT n ∧ InT std ∧ InT save then (if c = 0 then n - save - std else if c = 1 then n - std else n, 0) else (0, 1)
end Mo
theorem momCheck_ok (s c : Int) (w : World) (h : Mo.Ok s c) :
    Calls Tryd.prog 47 #[.agg #[.int .i64 s, .int .u8 c]] w fun e w' => e = .returned (.int .i64 0) ∧ Below w.heap.size w w' := by
  obtain ⟨⟨h1, h2⟩, h3⟩ := h
  go_enter Tryd.func47, Tryd.ntmps47
  go_wp2
  go_ret
  exact ⟨rfl, (Below.refl _ _).alloc (Nat.le_refl _) _⟩
theorem momCheck_bad (s c : Int) (w : World) (h : ¬ Mo.Ok s c) :
    Calls Tryd.prog 47 #[.agg #[.int .i64 s, .int .u8 c]] w fun e w' => e = .returned (.int .i64 2) ∧ Below w.heap.size w w' := by
  have h' : s < -604800 ∨ 604800 < s ∨ 3 ≤ c := by unfold Mo.Ok IsTime at h; omega
  clear h
  by_cases h1 : s < -604800
  · clear h'
    go_enter Tryd.func47, Tryd.ntmps47
    go_wp2
    go_ret
    exact ⟨rfl, (Below.refl _ _).alloc (Nat.le_refl _) _⟩
  · by_cases h2 : 604800 < s
    · clear h'
      go_enter Tryd.func47, Tryd.ntmps47
      go_wp2
      go_ret
      exact ⟨rfl, (Below.refl _ _).alloc (Nat.le_refl _) _⟩
    · have h3 : 3 ≤ c := by omega
      clear h'
      go_enter Tryd.func47, Tryd.ntmps47
      go_wp2
      go_ret
      exact ⟨rfl, (Below.refl _ _).alloc (Nat.le_refl _) _⟩

theorem inS_range (k n d y m a : Int) (h : Dy.inS k n d y m = (a, 0)) : -719162 ≤ a ∧ a < 2932897 := by
  unfold Dy.inS at h
  split at h
  · simp at h
  · split at h
    · simp at h
    · split at h
      · simp at h
      · split at h
        · rename_i hr
          simp at h
          subst h
          exact hr
        · simp at h

set_option maxRecDepth 100000 in
set_option maxHeartbeats 1000000 in
theorem nominal_any (y m k n d s c : Int) (w : World) (hW : Wo w) :
    Calls Tryd.prog 27 #[.int .i64 y, .int .i64 m, .agg #[.int .u8 k, .int .i64 n, .int .i64 d], .agg #[.int .i64 s, .int .u8 c]] w fun e w' => e = .returned (.tuple #[.int .i64 (Mo.nom k n d y m s c).1, .int .i64 (Mo.nom k n d y m s c).2]) ∧ Below w.heap.size w w' := by
  by_cases hok : Mo.Ok s c
  · obtain ⟨a, b, hin⟩ : ∃ a b, Dy.inS k n d y m = (a, b) := ⟨_, _, rfl⟩
    have HC := Lib.hid fun W => momCheck_ok s c W hok
    have HI := Lib.hid fun W hw => in_is k n d y m W hw a b hin
    have HW := Lib.hid hW
    by_cases hb0 : b = 0
    · subst hb0
      obtain ⟨r1, r2⟩ := inS_range k n d y m a hin
      have HX : Hid (Mo.nom k n d y m s c = (a * 86400 + s, 0)) := by show Mo.nom k n d y m s c = _; unfold Mo.nom; rw [if_pos hok, hin]; rfl
      have HA := Lib.hid fun W => at_ok a s W r1 r2 hok.1
      clear hin hok hW r1 r2
      go_enter Tryd.func27, Tryd.ntmps27
      go_wp2_with fail
      refine (HC.out _).mono ?_
      rintro e w1 ⟨rfl, hb1⟩
      obtain ⟨c1, f1⟩ := bcell hb1
      have HB := Lib.hid ((((Below.refl w.heap.size w).alloc (Nat.le_refl _) (.cells #[.int .u8 k, .int .i64 n, .int .i64 d] 29)).alloc (by simp) (.cells #[.int .i64 s, .int .u8 c] 32)).trans (hb1.mono (by simp; omega)))
      have z1 : w.heap.size + 1 < w1.heap.size := by have := hb1.size; simp at this; omega
      clear hb1
      go_wp2_with fail
      refine (HI.out _ (HW.out.below HB.out)).mono ?_
      rintro e w2 ⟨rfl, hb2⟩
      obtain ⟨c2, f2⟩ := bcell hb2
      replace HB := Lib.hid (below_then HB.out hb2)
      clear hb2
      go_wp2_with fail
      refine (HA.out _).mono ?_
      rintro e w3 ⟨rfl, hb3⟩
      replace HB := Lib.hid (below_then HB.out hb3)
      clear hb3
      go_wp2
      go_ret2
      exact ⟨ret_int22 (by rw [HX.out]) (by rw [HX.out]), HB.out⟩
    · have HX : Hid (Mo.nom k n d y m s c = (0, b)) := by show Mo.nom k n d y m s c = _; unfold Mo.nom; rw [if_pos hok, hin]; exact if_neg hb0
      have q : (b != 0) = true := by simpa using hb0
      have q' : (b == 0) = false := by simpa using hb0
      clear hin hok hW
      go_enter Tryd.func27, Tryd.ntmps27
      go_wp2_with fail
      refine (HC.out _).mono ?_
      rintro e w1 ⟨rfl, hb1⟩
      obtain ⟨c1, f1⟩ := bcell hb1
      have HB := Lib.hid ((((Below.refl w.heap.size w).alloc (Nat.le_refl _) (.cells #[.int .u8 k, .int .i64 n, .int .i64 d] 29)).alloc (by simp) (.cells #[.int .i64 s, .int .u8 c] 32)).trans (hb1.mono (by simp; omega)))
      have z1 : w.heap.size + 1 < w1.heap.size := by have := hb1.size; simp at this; omega
      clear hb1
      go_wp2_with fail
      refine (HI.out _ (HW.out.below HB.out)).mono ?_
      rintro e w2 ⟨rfl, hb2⟩
      replace HB := Lib.hid (below_then HB.out hb2)
      clear hb2
      go_wp2
      go_ret2
      exact ⟨ret_int22 (by rw [HX.out]) (by rw [HX.out]), HB.out⟩
  · have HX : Hid (Mo.nom k n d y m s c = (0, 2)) := by show Mo.nom k n d y m s c = _; unfold Mo.nom; rw [if_neg hok]
    have HC := Lib.hid fun W => momCheck_bad s c W hok
    clear hok hW
    go_enter Tryd.func27, Tryd.ntmps27
    go_wp2_with fail
    refine (HC.out _).mono ?_
    rintro e w1 ⟨rfl, hb1⟩
    have HB := Lib.hid ((((Below.refl w.heap.size w).alloc (Nat.le_refl _) (.cells #[.int .u8 k, .int .i64 n, .int .i64 d] 29)).alloc (by simp) (.cells #[.int .i64 s, .int .u8 c] 32)).trans (hb1.mono (by simp; omega)))
    clear hb1
    go_wp2
    go_ret2
    exact ⟨ret_int22 (by rw [HX.out]) (by rw [HX.out]), HB.out⟩

theorem inT_bd (n : Int) (h : ¬ InT n) : n < -1099511627776 ∨ 1099511627776 < n := by unfold InT at h; omega
set_option maxHeartbeats 1000000 in
theorem instant_any (n c std save : Int) (w : World) (hc : 0 ≤ c) :
    Calls Tryd.prog 55 #[.int .i64 n, .int .u8 c, .int .i64 std, .int .i64 save] w fun e w' => e = .returned (.tuple #[.int .i64 (Mo.ins n c std save).1, .int .i64 (Mo.ins n c std save).2]) ∧ w = w' := by
  have i0 : ∀ w, (Instr.index 162 (.agg #[.int .i64 n, .int .i64 std, .int .i64 save]) (.int .i64 0)).run Tryd.prog w = .ok (.int .i64 n) w := fun _ => by kernel_rfl
  have i1 : ∀ w, (Instr.index 162 (.agg #[.int .i64 n, .int .i64 std, .int .i64 save]) (.int .i64 1)).run Tryd.prog w = .ok (.int .i64 std) w := fun _ => by kernel_rfl
  have i2 : ∀ w, (Instr.index 162 (.agg #[.int .i64 n, .int .i64 std, .int .i64 save]) (.int .i64 2)).run Tryd.prog w = .ok (.int .i64 save) w := fun _ => by kernel_rfl
  by_cases h3 : 3 ≤ c
  · have HX : Hid (Mo.ins n c std save = (0, 2)) := by show Mo.ins n c std save = _; unfold Mo.ins; rw [if_pos h3]
    go_enter Tryd.func55, Tryd.ntmps55
    go_wp2
    go_ret2
    exact ⟨ret_int22 (by rw [HX.out]) (by rw [HX.out]), rfl⟩
  by_cases h : InT n ∧ InT std ∧ InT save
  · have hX : Mo.ins n c std save = (if c = 0 then n - save - std else if c = 1 then n - std else n, 0) := by unfold Mo.ins; rw [if_neg h3, if_pos h]
    obtain ⟨⟨a1, a2⟩, ⟨b1, b2⟩, ⟨c1, c2⟩⟩ := h
    have hcc : c = 0 ∨ c = 1 ∨ c = 2 := by omega
    rcases hcc with rfl | rfl | rfl
    all_goals
      have HX := Lib.hid hX
      clear hX h3 hc
      go_enter Tryd.func55, Tryd.ntmps55
      go_wp2
      go_loop [18] (fun i => ∃ k : Nat, k ≤ 3 ∧ i = .int .i64 k) (fun i => 3 - (intOf i).toNat)
      case atStart => exact ⟨0, by omega, rfl⟩
      case round =>
        obtain ⟨k, hk, rfl⟩ := hrel
        have : k = 0 ∨ k = 1 ∨ k = 2 ∨ k = 3 := by omega
        rcases this with rfl | rfl | rfl | rfl
        · go_wp2
          go_round
          case rel => exact ⟨1, by omega, rfl⟩
          case measure => simp [intOf]
        · go_wp2
          go_round
          case rel => exact ⟨2, by omega, rfl⟩
          case measure => simp [intOf]
        · go_wp2
          go_round
          case rel => exact ⟨3, by omega, rfl⟩
          case measure => simp [intOf]
        · go_wp2
          go_ret2
          exact ⟨ret_int22 (by rw [HX.out]; rfl) (by rw [HX.out]), rfl⟩
  · have HX : Hid (Mo.ins n c std save = (0, 1)) := by show Mo.ins n c std save = _; unfold Mo.ins; rw [if_neg h3, if_neg h]
    by_cases ha : InT n
    · by_cases hb : InT std
      · have hs : ¬ InT save := fun x => h ⟨ha, hb, x⟩
        obtain ⟨a1, a2⟩ := ha
        obtain ⟨b1, b2⟩ := hb
        rcases inT_bd _ hs with h1 | h1
        all_goals
          clear h hs
          go_enter Tryd.func55, Tryd.ntmps55
          go_wp2
          go_loop [18] (fun i => ∃ k : Nat, k ≤ 2 ∧ i = .int .i64 k) (fun i => 3 - (intOf i).toNat)
          case atStart => exact ⟨0, by omega, rfl⟩
          case round =>
            obtain ⟨k, hk, rfl⟩ := hrel
            have : k = 0 ∨ k = 1 ∨ k = 2 := by omega
            rcases this with rfl | rfl | rfl
            · go_wp2
              go_round
              case rel => exact ⟨1, by omega, rfl⟩
              case measure => simp [intOf]
            · go_wp2
              go_round
              case rel => exact ⟨2, by omega, rfl⟩
              case measure => simp [intOf]
            · go_wp2
              go_ret2
              exact ⟨ret_int22 (by rw [HX.out]) (by rw [HX.out]), rfl⟩
      · obtain ⟨a1, a2⟩ := ha
        rcases inT_bd _ hb with h1 | h1
        all_goals
          clear h hb
          go_enter Tryd.func55, Tryd.ntmps55
          go_wp2
          go_loop [18] (fun i => ∃ k : Nat, k ≤ 1 ∧ i = .int .i64 k) (fun i => 3 - (intOf i).toNat)
          case atStart => exact ⟨0, by omega, rfl⟩
          case round =>
            obtain ⟨k, hk, rfl⟩ := hrel
            have : k = 0 ∨ k = 1 := by omega
            rcases this with rfl | rfl
            · go_wp2
              go_round
              case rel => exact ⟨1, by omega, rfl⟩
              case measure => simp [intOf]
            · go_wp2
              go_ret2
              exact ⟨ret_int22 (by rw [HX.out]) (by rw [HX.out]), rfl⟩
    · rcases inT_bd _ ha with h1 | h1
      all_goals
        clear h ha
        go_enter Tryd.func55, Tryd.ntmps55
        go_wp2
        go_loop [18] (fun i => i = .int .i64 0) (fun i => 3 - (intOf i).toNat)
        case atStart => exact rfl
        case round =>
          obtain rfl := hrel
          go_wp2
          go_ret2
          exact ⟨ret_int22 (by rw [HX.out]) (by rw [HX.out]), rfl⟩
end Go.Proofs.YtokimlfbfbfenaaDoor
