/- solsticeref35.Quote and eight, solsticeref03.Hex: a quoted text, a number's digits, bytes. -/
import Derived.Test.YteacncdpjbcinaaDoorR5Math
import Derived.Test.YteacncdpjbcinaaDoorEmQuote
import Derived.Deep.QuietTactic
import Derived.BigQuiet
namespace Go.Proofs.YteacncdpjbcinaaDoor
open Go.RowKit

set_option maxHeartbeats 4000000 in
set_option maxRecDepth 100000 in
theorem quote5_any (s : ByteArray) (hs : s.size ≤ 1000000) (w : World) : Calls Tryd.prog 12 #[.string s] w fun e w' => e = .returned (.string (Em.bts (Em.quote (tl s)))) ∧ Below w.heap.size w w' := by
  obtain ⟨X, hX⟩ : ∃ X, Em.bts (Em.quote (tl s)) = X := ⟨_, rfl⟩
  rw [hX]
  have HX := Lib.hid hX
  clear hX
  go_enter Tryd.func12, Tryd.ntmps12
  go_wp2_with fail
  go_loop [3, 4] (fun v i => ∃ (k : Nat) (O : ByteArray), k ≤ s.size ∧ i = .int .i64 (k : Int) ∧ v = .string O ∧ Hid (O = Em.bts (34 :: Em.esc ((tl s).take k)))) (fun _ i => s.size - (intOf i).toNat)
  case atStart => exact ⟨0, _, Nat.zero_le _, rfl, rfl, rfl⟩
  case round =>
    obtain ⟨k, O, hk, rfl, rfl, HO⟩ := hrel
    by_cases hlt : k < s.size
    · have q1 : (0 : Int) ≤ (k : Int) := by omega
      have q2 : (k : Int) < (s.size : Int) := by omega
      have q3 : (k : Int) + 1 ≤ (s.size : Int) := by omega
      have q4 : ((k : Int) + 1).toNat = k + 1 := by omega
      have q5 : (k : Int) ≤ (k : Int) + 1 := by omega
      obtain ⟨b, hb⟩ : ∃ b, s[k]'hlt = b := ⟨_, rfl⟩
      obtain ⟨B, hB⟩ : ∃ B, s.extract k (k + 1) = B := ⟨_, rfl⟩
      have HB : Hid (B = Em.bts [b]) := by show _ = _; rw [← hB, R5.byte_cut s k hlt, hb]
      have HN := Lib.hid (Em.q_next s k hlt b hb)
      have HL := Lib.hid (Em.q_len (s := s) k (by omega))
      rcases Em.esc_cases b with ⟨hE, p1⟩ | ⟨hE, p1, p2⟩ | ⟨hE, p1, p2⟩
      · have HE := Lib.hid hE
        clear hE
        obtain ⟨O1, hO1⟩ : ∃ O1, Em.bts ((34 :: Em.esc ((tl s).take k)) ++ [92]) = O1 := ⟨_, rfl⟩
        have s1 : ∀ W, (Op.stringOp .add O ⟨#[92]⟩).run Tryd.prog W = .ok (.string O1) W := fun W => by rw [HO.out, ← hO1]; exact R5.add_bts _ [92] (by have := HL.out; simp only [List.length_cons, List.length_nil] at *; omega) W
        obtain ⟨O2, hO2⟩ : ∃ O2, Em.bts ((34 :: Em.esc ((tl s).take k)) ++ [92] ++ [b]) = O2 := ⟨_, rfl⟩
        have s2 : ∀ W, (Op.stringOp .add O1 B).run Tryd.prog W = .ok (.string O2) W := fun W => by rw [HB.out, ← hO1, ← hO2]; exact R5.add_bts _ [b] (by have := HL.out; simp only [List.length_cons, List.length_nil, List.length_append] at *; omega) W
        have HN2 : Hid (O2 = Em.bts (34 :: Em.esc ((tl s).take (k + 1)))) := by show _ = _; rw [HN.out, HE.out, ← hO2, List.append_assoc]
        clear hO1 hO2
        go_wp2
        go_round
        case rel => exact ⟨k + 1, O2, by omega, by go_num, rfl, HN2.out⟩
        case measure => simp [intOf]; omega
      · have HE := Lib.hid hE
        clear hE
        obtain ⟨O1, hO1⟩ : ∃ O1, Em.bts ((34 :: Em.esc ((tl s).take k)) ++ [92]) = O1 := ⟨_, rfl⟩
        have s1 : ∀ W, (Op.stringOp .add O ⟨#[92]⟩).run Tryd.prog W = .ok (.string O1) W := fun W => by rw [HO.out, ← hO1]; exact R5.add_bts _ [92] (by have := HL.out; simp only [List.length_cons, List.length_nil] at *; omega) W
        obtain ⟨O2, hO2⟩ : ∃ O2, Em.bts ((34 :: Em.esc ((tl s).take k)) ++ [92] ++ [b]) = O2 := ⟨_, rfl⟩
        have s2 : ∀ W, (Op.stringOp .add O1 B).run Tryd.prog W = .ok (.string O2) W := fun W => by rw [HB.out, ← hO1, ← hO2]; exact R5.add_bts _ [b] (by have := HL.out; simp only [List.length_cons, List.length_nil, List.length_append] at *; omega) W
        have HN2 : Hid (O2 = Em.bts (34 :: Em.esc ((tl s).take (k + 1)))) := by show _ = _; rw [HN.out, HE.out, ← hO2, List.append_assoc]
        clear hO1 hO2
        go_wp2
        go_round
        case rel => exact ⟨k + 1, O2, by omega, by go_num, rfl, HN2.out⟩
        case measure => simp [intOf]; omega
      · have HE := Lib.hid hE
        clear hE
        obtain ⟨O2, hO2⟩ : ∃ O2, Em.bts ((34 :: Em.esc ((tl s).take k)) ++ [b]) = O2 := ⟨_, rfl⟩
        have s2 : ∀ W, (Op.stringOp .add O B).run Tryd.prog W = .ok (.string O2) W := fun W => by rw [HB.out, HO.out, ← hO2]; exact R5.add_bts _ [b] (by have := HL.out; simp only [List.length_cons, List.length_nil] at *; omega) W
        have HN2 : Hid (O2 = Em.bts (34 :: Em.esc ((tl s).take (k + 1)))) := by show _ = _; rw [HN.out, HE.out, ← hO2]
        clear hO2
        go_wp2
        go_round
        case rel => exact ⟨k + 1, O2, by omega, by go_num, rfl, HN2.out⟩
        case measure => simp [intOf]; omega
    · have q2 : ¬ (k : Int) < (s.size : Int) := by omega
      have s1 : ∀ W, (Op.stringOp .add O ⟨#[34]⟩).run Tryd.prog W = .ok (.string X) W := fun W => by
        have hO := HO.out
        rw [List.take_of_length_le (by rw [tl_length]; omega)] at hO
        rw [hO, ← HX.out]
        have hl := Em.esc_len (tl s)
        rw [tl_length] at hl
        exact R5.add_bts (34 :: Em.esc (tl s)) [34] (by simp only [List.length_cons, List.length_nil]; omega) W
      go_wp2
      go_ret
      exact ⟨rfl, Below.refl _ _⟩
set_option maxHeartbeats 8000000 in
set_option maxRecDepth 100000 in
theorem eight_any (n : Nat) (hn : n < 4294967296) (w : World) : Calls Tryd.prog 21 #[.int .u32 (n : Int)] w fun e w' => e = .returned (.string (Em.bts (Em.num n))) ∧ Below w.heap.size w w' := by
  obtain ⟨X, hX⟩ : ∃ X, Em.bts (Em.num n) = X := ⟨_, rfl⟩
  rw [hX]
  rw [R5.num_ds n hn] at hX
  have HX := Lib.hid hX
  clear hX
  go_enter Tryd.func21, Tryd.ntmps21
  go_wp2_with fail
  go_loop [3, 4] (fun v i => ∃ (j : Nat) (O : ByteArray), j ≤ 8 ∧ i = .int .i64 (28 - 4 * (j : Int)) ∧ v = .string O ∧ Hid (O = Em.bts (R5.ds j (n / 16 ^ (8 - j))))) (fun _ i => (intOf i + 4).toNat)
  case atStart => exact ⟨0, _, Nat.zero_le _, rfl, rfl, rfl⟩
  case round =>
    obtain ⟨j, O, hj, rfl, rfl, HO⟩ := hrel
    by_cases hlt : j < 8
    · have HN := Lib.hid (R5.ds_next n j hlt)
      have HL := Lib.hid (R5.ds_len j (n / 16 ^ (8 - j)))
      obtain ⟨q, hq⟩ : ∃ q, n / 16 ^ (7 - j) = q := ⟨_, rfl⟩
      obtain ⟨d, hd⟩ : ∃ d, q % 16 = d := ⟨_, rfl⟩
      rw [hq, hd] at HN
      obtain ⟨D, hD⟩ : ∃ D, R5.ds j (n / 16 ^ (8 - j)) = D := ⟨_, rfl⟩
      rw [hD] at HO HN HL
      have HQ2 := Lib.hid hq
      obtain ⟨P, hP⟩ : ∃ P, ({ data := #[48, 49, 50, 51, 52, 53, 54, 55, 56, 57, 97, 98, 99, 100, 101, 102] } : ByteArray).extract d (d + 1) = P := ⟨_, rfl⟩
      have HPe : Hid (P = Em.bts [Em.hexd d]) := by show _ = _; rw [← hP]; exact R5.dig_cut d (by omega)
      obtain ⟨O2, hO2⟩ : ∃ O2, Em.bts (D ++ [Em.hexd d]) = O2 := ⟨_, rfl⟩
      have s1 : ∀ W, (Op.stringOp .add O P).run Tryd.prog W = .ok (.string O2) W := fun W => by rw [HO.out, HPe.out, ← hO2]; exact R5.add_bts D [Em.hexd d] (by rw [HL.out]; simp only [List.length_cons, List.length_nil]; omega) W
      have HN2 : Hid (O2 = Em.bts (R5.ds (j + 1) (n / 16 ^ (8 - (j + 1))))) := by
        show _ = _
        rw [show 8 - (j + 1) = 7 - j by omega, HQ2.out, HN.out, hO2]
      have d0 : (0 : Int) ≤ (d : Int) := by omega
      have d1 : (d : Int) + 1 ≤ 16 := by omega
      have d3 : (d : Int) ≤ (d : Int) + 1 := by omega
      have d2 : ((d : Int) + 1).toNat = d + 1 := by omega
      have e2 : (q : Int) % 16 = (d : Int) := by omega
      have hqn : (q : Int) ≤ 4294967295 := by rw [← hq]; have := Nat.div_le_self n (16 ^ (7 - j)); omega
      have e1 := R5.sh n j q hlt HQ2.out
      clear hq hd hD hO2
      rcases (by omega : j = 0 ∨ j = 1 ∨ j = 2 ∨ j = 3 ∨ j = 4 ∨ j = 5 ∨ j = 6 ∨ j = 7) with rfl | rfl | rfl | rfl | rfl | rfl | rfl | rfl
      all_goals
        simp only [R5.pw] at e1
        go_wp2
        go_round
        case rel => exact ⟨_, O2, by omega, by first | rfl | (simp; done) | (simp; omega), rfl, HN2.out⟩
        case measure => simp [intOf]
    · have hj8 : j = 8 := by omega
      subst hj8
      have hOX : O = X := by
        have hO := HO.out
        rw [Nat.sub_self, Nat.pow_zero, Nat.div_one] at hO
        rw [hO]
        exact HX.out
      subst hOX
      go_wp2
      go_ret
      exact ⟨rfl, Below.refl _ _⟩
set_option maxHeartbeats 4000000 in
set_option maxRecDepth 100000 in
theorem hex3_any (s : ByteArray) (hs : s.size ≤ 1000000) (w : World) : Calls Tryd.prog 22 #[.string s] w fun e w' => e = .returned (.string (Em.bts (Em.hexs (tl s)))) ∧ Below w.heap.size w w' := by
  obtain ⟨X, hX⟩ : ∃ X, Em.bts (Em.hexs (tl s)) = X := ⟨_, rfl⟩
  rw [hX]
  have HX := Lib.hid hX
  clear hX
  go_enter Tryd.func22, Tryd.ntmps22
  go_wp2_with fail
  go_loopw [3, 4] (fun v i wr => ∃ (k : Nat) (O : ByteArray), k ≤ s.size ∧ i = .int .i64 (k : Int) ∧ v = .string O ∧ Hid (O = Em.bts (Em.hexs ((tl s).take k))) ∧ Hid (Below w.heap.size w wr)) (fun _ i _ => s.size - (intOf i).toNat)
  case atStart => exact ⟨0, _, Nat.zero_le _, rfl, rfl, rfl, Below.refl _ _⟩
  case round =>
    obtain ⟨k, O, hk, rfl, rfl, HO, HB⟩ := hrel
    by_cases hlt : k < s.size
    · have q1 : (0 : Int) ≤ (k : Int) := by omega
      have q2 : (k : Int) < (s.size : Int) := by omega
      obtain ⟨b, hb⟩ : ∃ b, s[k]'hlt = b := ⟨_, rfl⟩
      have HN := Lib.hid (Em.hexs_take (tl s) k b (Em.byte_at s k hlt b hb))
      have hl := Em.hexs_len ((tl s).take k)
      rw [List.length_take, tl_length] at hl
      have hbt := b.toNat_lt
      obtain ⟨x, hx⟩ : ∃ x, b.toNat / 16 = x := ⟨_, rfl⟩
      obtain ⟨y, hy⟩ : ∃ y, b.toNat % 16 = y := ⟨_, rfl⟩
      have e1 : (b.toNat : Int) / 16 = (x : Int) := by omega
      have e2 : (b.toNat : Int) % 16 = (y : Int) := by omega
      have x0 : (0 : Int) ≤ (x : Int) := by omega
      have x1 : (x : Int) + 1 ≤ 16 := by omega
      have x3 : (x : Int) ≤ (x : Int) + 1 := by omega
      have y3 : (y : Int) ≤ (y : Int) + 1 := by omega
      have x2 : ((x : Int) + 1).toNat = x + 1 := by omega
      have y0 : (0 : Int) ≤ (y : Int) := by omega
      have y1 : (y : Int) + 1 ≤ 16 := by omega
      have y2 : ((y : Int) + 1).toNat = y + 1 := by omega
      obtain ⟨P, hP⟩ : ∃ P, ({ data := #[48, 49, 50, 51, 52, 53, 54, 55, 56, 57, 97, 98, 99, 100, 101, 102] } : ByteArray).extract x (x + 1) = P := ⟨_, rfl⟩
      have HPe : Hid (P = Em.bts [Em.hexd x]) := by show _ = _; rw [← hP]; exact R5.dig_cut x (by omega)
      obtain ⟨R, hR⟩ : ∃ P, ({ data := #[48, 49, 50, 51, 52, 53, 54, 55, 56, 57, 97, 98, 99, 100, 101, 102] } : ByteArray).extract y (y + 1) = P := ⟨_, rfl⟩
      have HRe : Hid (R = Em.bts [Em.hexd y]) := by show _ = _; rw [← hR]; exact R5.dig_cut y (by omega)
      obtain ⟨Z, hZ⟩ : ∃ Z, Em.bts ([Em.hexd x] ++ [Em.hexd y]) = Z := ⟨_, rfl⟩
      have s2 : ∀ W, (Op.stringOp .add P R).run Tryd.prog W = .ok (.string Z) W := fun W => by rw [HPe.out, HRe.out, ← hZ]; exact R5.add_bts [Em.hexd x] [Em.hexd y] (by simp) W
      obtain ⟨O1, hO1⟩ : ∃ O1, Em.bts (Em.hexs ((tl s).take k) ++ Em.sep k) = O1 := ⟨_, rfl⟩
      obtain ⟨O2, hO2⟩ : ∃ O2, Em.bts (Em.hexs ((tl s).take k) ++ Em.sep k ++ ([Em.hexd x] ++ [Em.hexd y])) = O2 := ⟨_, rfl⟩
      have hsl : (Em.sep k).length ≤ 1 := by unfold Em.sep; split <;> simp
      have s3 : ∀ W, (Op.stringOp .add O1 Z).run Tryd.prog W = .ok (.string O2) W := fun W => by rw [← hO1, ← hZ, ← hO2]; exact R5.add_bts _ _ (by rw [List.length_append]; simp only [List.length_cons, List.length_nil, List.length_append]; omega) W
      have HN2 : Hid (O2 = Em.bts (Em.hexs ((tl s).take (k + 1)))) := by
        show _ = _
        rw [HN.out, ← hO2, Em.hexb, hx, hy]
        rfl
      have HOl := Lib.hid hl
      have HO1 := Lib.hid hO1
      clear hx hy hl hsl hZ hO1 hO2 hbt
      by_cases h0 : k = 0
      · subst h0
        have hOO : O = O1 := by rw [HO.out, ← HO1.out]; rfl
        subst hOO
        go_wp2
        go_quiet (fail)
        go_wp2
        go_quiet (fail)
        go_wp2
        go_roundw
        case rel => exact ⟨1, O2, by omega, rfl, rfl, HN2.out, HB.out.trans (Drew.below (show Drew wr _ from ⟨_, rfl⟩) _)⟩
        case measure => simp [intOf]; omega
      · have q3 : (0 : Int) < (k : Int) := by omega
        have s1 : ∀ W, (Op.stringOp .add O ⟨#[44]⟩).run Tryd.prog W = .ok (.string O1) W := fun W => by
          have e : Em.sep k = [44] := by unfold Em.sep; rw [if_neg h0]
          rw [HO.out, ← HO1.out, e]
          exact R5.add_bts _ [44] (by have := HOl.out; simp only [List.length_cons, List.length_nil]; omega) W
        clear h0
        go_wp2
        go_quiet (fail)
        go_wp2
        go_quiet (fail)
        go_wp2
        go_roundw
        case rel => exact ⟨k + 1, O2, by omega, by go_num, rfl, HN2.out, HB.out.trans (Drew.below (show Drew wr _ from ⟨_, rfl⟩) _)⟩
        case measure => simp [intOf]; omega
    · have q2 : ¬ (k : Int) < (s.size : Int) := by omega
      have hOX : O = X := by
        rw [HO.out, List.take_of_length_le (by rw [tl_length]; omega)]
        exact HX.out
      subst hOX
      go_wp2
      go_ret
      exact ⟨rfl, HB.out⟩
end Go.Proofs.YteacncdpjbcinaaDoor
