/- The contract of the reference's Text of a time. -/
import Derived.Test.YtkpbkgfmdjhbpabDoorRefNum
namespace Go.Proofs.YtkpbkgfmdjhbpabDoor
open Go.RowKit

theorem add_mk (a b : List UInt8) (h : a.length + b.length ≤ 1000000) (W : World) : (Op.stringOp .add (mk a) (mk b)).run Tryd.prog W = .ok (.string (mk (a ++ b))) W := by
  rw [← mk_app]
  exact run_string_add_sum W _ _ (by rw [mk_size, mk_size]; omega)
theorem itoa_sz (n : Int) (h0 : 0 ≤ n) (h1 : n < 100000) : (Lib.itoa n).length ≤ 21 := Lib.itoa_length_le n (by omega) (by omega)
set_option maxRecDepth 100000 in
theorem refText_pos (a : Int) (w : World) (h0 : 0 ≤ a) (h1 : a ≤ 604800) :
    Calls Tryd.prog 145 #[.int .i64 a] w fun e w' => e = .returned (.string (mk (Ck.body a))) ∧ Below w.heap.size w w' := by
  have HT := Lib.hid fun W => calls_bool (refTime_any a W) (decide_eq_true (show IsTime a from ⟨by omega, h1⟩))
  have hN := fun W => num_any _ (a / 3600) W rfl (by omega) (by omega)
  have hD := fun W => refTwo_any (a / 60 % 60) W (by omega) (by omega)
  have hE := fun W => refTwo_any (a % 60) W (by omega) (by omega)
  have hl := itoa_sz (a / 3600) (by omega) (by omega)
  have hbody : Ck.body a = Lib.itoa (a / 3600) ++ [58] ++ Ck.dig2 (a / 60 % 60) ++ (if 0 < a % 60 then [58] ++ Ck.dig2 (a % 60) else []) := by
    unfold Ck.body
    rw [Ck.two_dig, Ck.two_dig, show a % 3600 / 60 = a / 60 % 60 by omega, show a % 3600 % 60 = a % 60 by omega]
    simp
  obtain ⟨N, hN'⟩ : ∃ N, Lib.itoa (a / 3600) = N := ⟨_, rfl⟩
  obtain ⟨D, hD'⟩ : ∃ D, Ck.dig2 (a / 60 % 60) = D := ⟨_, rfl⟩
  obtain ⟨E, hE'⟩ : ∃ E, Ck.dig2 (a % 60) = E := ⟨_, rfl⟩
  have lD : D.length = 2 := by rw [← hD']; rfl
  have lE : E.length = 2 := by rw [← hE']; rfl
  rw [hN'] at hl
  rw [hN', hD', hE'] at hbody
  simp only [hN'] at hN
  simp only [hD'] at hD
  simp only [hE'] at hE
  have HN := Lib.hid hN
  have HD := Lib.hid hD
  have HE := Lib.hid hE
  have HB := Lib.hid hbody
  have s1 : ∀ W, (Op.stringOp .add (mk N) { data := #[58] }).run Tryd.prog W = .ok (.string (mk (N ++ [58]))) W := fun W => add_mk N [58] (by simp; omega) W
  have s2 : ∀ W, (Op.stringOp .add (mk (N ++ [58])) (mk D)).run Tryd.prog W = .ok (.string (mk (N ++ [58] ++ D))) W := fun W => add_mk (N ++ [58]) D (by simp; omega) W
  have s3 : ∀ W, (Op.stringOp .add { data := #[58] } (mk E)).run Tryd.prog W = .ok (.string (mk ([58] ++ E))) W := fun W => add_mk [58] E (by simp; omega) W
  have s4 : ∀ W, (Op.stringOp .add (mk (N ++ [58] ++ D)) (mk ([58] ++ E))).run Tryd.prog W = .ok (.string (mk (N ++ [58] ++ D ++ ([58] ++ E)))) W := fun W => add_mk _ _ (by simp; omega) W
  obtain ⟨X1, hX1⟩ : ∃ X, mk (N ++ [58]) = X := ⟨_, rfl⟩
  obtain ⟨X2, hX2⟩ : ∃ X, mk (N ++ [58] ++ D) = X := ⟨_, rfl⟩
  obtain ⟨X3, hX3⟩ : ∃ X, mk ([58] ++ E) = X := ⟨_, rfl⟩
  obtain ⟨X4, hX4⟩ : ∃ X, mk (N ++ [58] ++ D ++ ([58] ++ E)) = X := ⟨_, rfl⟩
  rw [hX1] at s1 s2
  rw [hX2] at s2 s4
  rw [hX3] at s3 s4
  rw [hX4] at s4
  have H2 := Lib.hid hX2
  have H4 := Lib.hid hX4
  clear hN hD hE hbody hN' hD' hE' lD lE hX1 hX2 hX3 hX4
  by_cases hs : 0 < a % 60
  · have HX : Hid (mk (Ck.body a) = X4) := by show mk (Ck.body a) = _; rw [HB.out, if_pos hs, H4.out]
    go_enter Tryd.func145, Tryd.ntmps145
    go_wp2_with fail
    refine (HT.out _).mono ?_
    rintro e w1 ⟨rfl, rfl⟩
    go_wp2_with fail
    refine (HN.out _).mono ?_
    rintro e w2 ⟨rfl, hb2⟩
    go_wp2_with fail
    refine (HD.out _).mono ?_
    rintro e w3 ⟨rfl, hb3⟩
    go_wp2_with fail
    refine (HE.out _).mono ?_
    rintro e w4 ⟨rfl, hb4⟩
    go_wp2
    go_ret
    exact ⟨ret_str (by rw [HX.out]), below_then (below_then hb2 hb3) hb4⟩
  · have HX : Hid (mk (Ck.body a) = X2) := by show mk (Ck.body a) = _; rw [HB.out, if_neg hs, List.append_nil, H2.out]
    go_enter Tryd.func145, Tryd.ntmps145
    go_wp2_with fail
    refine (HT.out _).mono ?_
    rintro e w1 ⟨rfl, rfl⟩
    go_wp2_with fail
    refine (HN.out _).mono ?_
    rintro e w2 ⟨rfl, hb2⟩
    go_wp2_with fail
    refine (HD.out _).mono ?_
    rintro e w3 ⟨rfl, hb3⟩
    go_wp2
    go_ret
    exact ⟨ret_str (by rw [HX.out]), below_then hb2 hb3⟩
set_option maxRecDepth 100000 in
theorem refText_any (s : Int) (w : World) :
    Calls Tryd.prog 145 #[.int .i64 s] w fun e w' => e = .returned (.string (mk (Ck.text s))) ∧ Below w.heap.size w w' := by
  by_cases h : IsTime s
  · by_cases hn : s < 0
    · have HT := Lib.hid fun W => calls_bool (refTime_any s W) (decide_eq_true h)
      have HE : Hid (Ck.text s = [45] ++ Ck.body (-s)) := by show Ck.text s = _; unfold Ck.text Ck.sign; rw [if_pos h, if_pos hn, if_pos hn]
      obtain ⟨h1, h2⟩ := h
      have HP := Lib.hid fun W => refText_pos (-s) W (by omega) (by omega)
      have hl : (Ck.body (-s)).length ≤ 1000 := by
        have := itoa_sz (-s / 3600) (by omega) (by omega)
        unfold Ck.body
        split <;> simp [Ck.two] <;> omega
      obtain ⟨B, hB⟩ : ∃ B, Ck.body (-s) = B := ⟨_, rfl⟩
      rw [hB] at HE hl HP
      have s1 : ∀ W, (Op.stringOp .add { data := #[45] } (mk B)).run Tryd.prog W = .ok (.string (mk ([45] ++ B))) W := fun W => add_mk [45] B (by simp; omega) W
      obtain ⟨X1, hX1⟩ : ∃ X, mk ([45] ++ B) = X := ⟨_, rfl⟩
      rw [hX1] at s1
      have H1 := Lib.hid hX1
      clear hB hl hX1
      go_enter Tryd.func145, Tryd.ntmps145
      go_wp2_with fail
      refine (HT.out _).mono ?_
      rintro e w1 ⟨rfl, rfl⟩
      go_wp2_with fail
      refine (HP.out _).mono ?_
      rintro e w2 ⟨rfl, hb2⟩
      go_wp2
      go_ret
      exact ⟨ret_str (by rw [HE.out, H1.out]), hb2⟩
    · have hE : Ck.text s = Ck.body s := by unfold Ck.text Ck.sign; rw [if_pos h, if_neg hn, if_neg hn]; rfl
      rw [hE]
      exact refText_pos s w (by omega) h.2
  · have HT := Lib.hid fun W => calls_bool (refTime_any s W) (decide_eq_false h)
    have HE : Hid (Ck.text s = []) := by show Ck.text s = []; unfold Ck.text; rw [if_neg h]
    clear h
    go_enter Tryd.func145, Tryd.ntmps145
    go_wp2_with fail
    refine (HT.out _).mono ?_
    rintro e w1 ⟨rfl, rfl⟩
    go_wp2
    go_ret
    exact ⟨ret_str (by rw [HE.out]; rfl), Below.refl _ _⟩
end Go.Proofs.YtkpbkgfmdjhbpabDoor
