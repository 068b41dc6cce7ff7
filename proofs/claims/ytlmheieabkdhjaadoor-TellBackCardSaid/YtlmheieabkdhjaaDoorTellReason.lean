/- tell.reason: the reason whose word a text is. -/
import Derived.Test.YtlmheieabkdhjaaDoorTellLine
namespace Go.Proofs.YtlmheieabkdhjaaDoor
open Go.RowKit

theorem bytes_eq {a b : ByteArray} (h : tl a = tl b) : a = b := by
  obtain ⟨⟨x⟩⟩ := a
  obtain ⟨⟨y⟩⟩ := b
  have : x = y := h
  rw [this]
theorem reason_hit (s : Te.Txt) (k : Nat) (h1 : 1 ≤ k) (h2 : k < 6) (he : s = Te.word k) : Te.reason s = k := by
  rw [he]
  exact Te.reason_word k h1 h2
theorem reason_none (s : Te.Txt) (hb : ∀ j, 1 ≤ j → j < 6 → s ≠ Te.word j) : Te.reason s = 0 := by
  unfold Te.reason
  rw [if_neg (show ¬ s = Te.words.getD 1 [] from hb 1 (by omega) (by omega)), if_neg (show ¬ s = Te.words.getD 2 [] from hb 2 (by omega) (by omega)), if_neg (show ¬ s = Te.words.getD 3 [] from hb 3 (by omega) (by omega)), if_neg (show ¬ s = Te.words.getD 4 [] from hb 4 (by omega) (by omega)), if_neg (show ¬ s = Te.words.getD 5 [] from hb 5 (by omega) (by omega))]
set_option maxHeartbeats 2000000 in
set_option maxRecDepth 100000 in
theorem tellReason_any (s : ByteArray) (w : World) (hW : Wt w) :
    Calls Tryd.prog 25 #[.string s] w fun e w' => e = .returned (.int .u8 (Te.reason (tl s))) ∧ w = w' := by
  obtain ⟨v, hv⟩ : ∃ v, Te.reason (tl s) = v := ⟨_, rfl⟩
  rw [hv]
  have HV := Lib.hid hv
  have HW := Lib.hid hW
  clear hv hW
  go_enter Tryd.func25, Tryd.ntmps25
  go_wp2
  go_loopw [3] (fun i wr => ∃ k : Nat, 1 ≤ k ∧ k ≤ 6 ∧ i = .int .u8 k ∧ Hid (w = wr) ∧ Hid (∀ j, 1 ≤ j → j < k → tl s ≠ Te.word j)) (fun i _ => 6 - (intOf i).toNat)
  case atStart => exact ⟨1, by omega, by omega, rfl, rfl, fun j h1 h2 => by omega⟩
  case round =>
    obtain ⟨k, hk1, hk2, rfl, HWW, HN⟩ := hrel
    have hww := HWW.out
    subst hww
    clear HWW
    by_cases hk : k < 6
    · have cw := HW.out.wd k hk
      obtain ⟨T, hT⟩ : ∃ T, Te.bts (Te.word k) = T := ⟨_, rfl⟩
      rw [hT] at cw
      have hTl : tl T = Te.word k := by rw [← hT]; simp [tl, Te.bts]
      clear hT
      by_cases he : tl s = Te.word k
      · have hsT : T = s := bytes_eq (by rw [hTl, he])
        have HE : Hid (v = k) := by
          show v = k
          rw [← HV.out]
          exact reason_hit _ k hk1 hk he
        clear hTl he HN HV
        subst hsT
        rcases (by omega : k = 1 ∨ k = 2 ∨ k = 3 ∨ k = 4 ∨ k = 5) with rfl | rfl | rfl | rfl | rfl
        all_goals
          clear hk hk1 hk2
          go_wp2
          go_ret
          exact ⟨by rw [HE.out]; rfl, rfl⟩
      · have qe : (T.toList == s.toList) = false := by
          rw [beq_eq_false_iff_ne]
          intro e
          rw [ByteArray.toList_eq, ByteArray.toList_eq] at e
          apply he
          rw [← hTl]
          exact e.symm
        have qe' : ¬ T.toList = s.toList := by simpa using qe
        have HN2 : Hid (∀ j, 1 ≤ j → j < k + 1 → tl s ≠ Te.word j) := fun j h1 h2 => by
          by_cases hj : j = k
          · rw [hj]; exact he
          · exact HN.out j h1 (by omega)
        clear HN hTl he
        rcases (by omega : k = 1 ∨ k = 2 ∨ k = 3 ∨ k = 4 ∨ k = 5) with rfl | rfl | rfl | rfl | rfl
        all_goals
          clear hk hk1 hk2
          go_wp2
          go_roundw
          case rel => first | exact ⟨2, by omega, by omega, rfl, (by first | exact True.intro | exact rfl), HN2⟩ | exact ⟨3, by omega, by omega, rfl, (by first | exact True.intro | exact rfl), HN2⟩ | exact ⟨4, by omega, by omega, rfl, (by first | exact True.intro | exact rfl), HN2⟩ | exact ⟨5, by omega, by omega, rfl, (by first | exact True.intro | exact rfl), HN2⟩ | exact ⟨6, by omega, by omega, rfl, (by first | exact True.intro | exact rfl), HN2⟩
          case measure => decide
    · obtain rfl : k = 6 := by omega
      have HE : Hid (v = 0) := by
        show v = 0
        rw [← HV.out]
        exact reason_none _ HN.out
      clear hk hk1 hk2 HN HV
      go_wp2
      go_ret
      exact ⟨by rw [HE.out]; rfl, rfl⟩
end Go.Proofs.YtlmheieabkdhjaaDoor
