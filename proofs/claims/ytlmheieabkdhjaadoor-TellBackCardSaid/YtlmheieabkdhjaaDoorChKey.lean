/- chart.Key: whether a text is a key. -/
import Derived.Test.YtlmheieabkdhjaaDoorAnySign
namespace Go.Proofs.YtlmheieabkdhjaaDoor
open Go.RowKit

set_option maxHeartbeats 2000000 in
set_option maxRecDepth 100000 in
theorem chartKey_any (s : ByteArray) (hs : s.size ≤ maxLen) (w : World) :
    Calls Tryd.prog 21 #[.string s] w fun e w' => e = .returned (.bool (Te.key s)) ∧ Below w.heap.size w w' := by
  have HP := Lib.hid (fun W => utfPlain_any s hs W)
  unfold maxLen at hs
  obtain ⟨v, hv⟩ : ∃ v, Te.key s = v := ⟨_, rfl⟩
  rw [hv]
  unfold Te.key at hv
  by_cases h1 : s.size < 1
  · have q1 : (s.size : Int) < 1 := by omega
    rw [decide_eq_false (show ¬ 1 ≤ s.size by omega)] at hv
    have HV : Hid (v = false) := hv.symm
    clear hv h1
    go_enter Tryd.func21, Tryd.ntmps21
    go_wp2
    go_ret
    exact ⟨by rw [HV.out]; rfl, Below.refl _ _⟩
  · have q1 : ¬ (s.size : Int) < 1 := by omega
    rw [decide_eq_true (show 1 ≤ s.size by omega)] at hv
    by_cases h2 : 64 < s.size
    · have q2 : (64 : Int) < (s.size : Int) := by omega
      rw [decide_eq_false (show ¬ s.size ≤ 64 by omega)] at hv
      have HV : Hid (v = false) := hv.symm
      clear hv h1 h2
      go_enter Tryd.func21, Tryd.ntmps21
      go_wp2
      go_ret
      exact ⟨by rw [HV.out]; rfl, Below.refl _ _⟩
    · have q2 : ¬ (64 : Int) < (s.size : Int) := by omega
      rw [decide_eq_true (show s.size ≤ 64 by omega)] at hv
      cases hp : Te.plain s with
      | false =>
        rw [hp] at hv HP
        have HV : Hid (v = false) := hv.symm
        clear hv h1 h2 hp
        go_enter Tryd.func21, Tryd.ntmps21
        go_wp2_with (refine (HP.out _).mono ?_; rintro e w1 ⟨rfl, hb⟩)
        go_ret
        exact ⟨by rw [HV.out]; rfl, hb⟩
      | true =>
        rw [hp] at hv HP
        have HC : Hid (∀ W, Calls Tryd.prog 28 #[.string s, .string ⟨#[92, 91, 93, 34]⟩] W fun e w' => e = .returned (.bool (Lib.containsAny (tl s) Te.signs)) ∧ Below W.heap.size W w') := fun W => containsAny_all s (by omega) W
        cases hc : Lib.containsAny (tl s) Te.signs with
        | true =>
          rw [hc] at hv HC
          have HV : Hid (v = false) := hv.symm
          clear hv h1 h2 hp hc
          go_enter Tryd.func21, Tryd.ntmps21
          go_wp2_with (first | (go_at_call 27; refine (HP.out _).mono ?_; rintro e w1 ⟨rfl, hb⟩) | (go_at_call 28; refine (HC.out _).mono ?_; rintro e w2 ⟨rfl, hb2⟩))
          go_ret
          exact ⟨by rw [HV.out]; rfl, below_then hb hb2⟩
        | false =>
          rw [hc] at hv HC
          have hs0 : 0 < s.size := by omega
          have hsl : s.size - 1 < s.size := by omega
          have e1 : (tl s).head? = some (s[0]'hs0) := by
            rw [List.head?_eq_getElem?, Te.get_tl s 0 hs0]
            congr 1
            have := get_at s 0 hs0
            simpa using this
          have e2 : (tl s).getLast? = some (s[s.size - 1]'hsl) := by
            rw [List.getLast?_eq_getElem?, tl_length, Te.get_tl s (s.size - 1) hsl]
            congr 1
            have := get_at s (s.size - 1) hsl
            simpa using this
          rw [e1, e2] at hv
          obtain ⟨n, hn⟩ : ∃ n, s.size - 1 = n := ⟨_, rfl⟩
          have w1 : IntKind.i64.wrap ((s.size : Int) - 1) = n := by rw [IntKind.wrap_i64]; omega
          have w2 : wrap64 ((s.size : Int) - 1) = n := by unfold wrap64; omega
          simp only [hn] at hv
          have hsn : n < s.size := by omega
          obtain ⟨a, ha⟩ : ∃ a, s[0]'hs0 = a := ⟨_, rfl⟩
          obtain ⟨b, hb⟩ : ∃ b, s[n]'hsn = b := ⟨_, rfl⟩
          have HV : Hid (v = (decide (a.toNat ≠ 32) && decide (b.toNat ≠ 32))) := by
            show v = _
            rw [← hv, ha, hb]
            have f : ∀ c : UInt8, (some c != some (32 : UInt8)) = decide (c.toNat ≠ 32) := by
              intro c
              rw [Bool.eq_iff_iff]
              simp only [bne_iff_ne, ne_eq, Option.some.injEq, decide_eq_true_eq]
              exact ⟨fun h e => h (UInt8.toNat_inj.1 e), fun h e => h (by rw [e]; rfl)⟩
            rw [f, f]
            simp
          clear hv h1 h2 hp hc e1 e2 hn hsl
          have p0 : (0 : Int) < (s.size : Int) := by omega
          have p1 : (n : Int) < (s.size : Int) := by omega
          by_cases ha32 : a.toNat = 32
          · have HX : Hid (v = false) := by
              show v = false
              rw [HV.out, ha32]; rfl
            have qa : ((a.toNat : Int) != 32) = false := by rw [ha32]; rfl
            have qa' : (a.toNat : Int) = 32 := by omega
            clear HV
            go_enter Tryd.func21, Tryd.ntmps21
            go_wp2_with (first | (go_at_call 27; refine (HP.out _).mono ?_; rintro e w1 ⟨rfl, hb1⟩) | (go_at_call 28; refine (HC.out _).mono ?_; rintro e w2 ⟨rfl, hb2⟩))
            go_wp2
            go_ret
            exact ⟨by rw [HX.out]; rfl, below_then hb1 hb2⟩
          · have qa : ((a.toNat : Int) != 32) = true := by simp; omega
            have qa' : ¬ (a.toNat : Int) = 32 := by omega
            have HX : Hid (v = decide (b.toNat ≠ 32)) := by
              show v = _
              rw [HV.out, decide_eq_true ha32]; rfl
            clear HV
            go_enter Tryd.func21, Tryd.ntmps21
            go_wp2_with (first | (go_at_call 27; refine (HP.out _).mono ?_; rintro e w1 ⟨rfl, hb1⟩) | (go_at_call 28; refine (HC.out _).mono ?_; rintro e w2 ⟨rfl, hb2⟩))
            go_wp2
            go_ret
            refine ⟨?_, below_then hb1 hb2⟩
            have hbb : decide (b.toNat ≠ 32) = ((b.toNat : Int) != 32) := by
              rw [Bool.eq_iff_iff]
              simp only [decide_eq_true_eq, bne_iff_ne, ne_eq]
              omega
            rw [HX.out, hbb]
            rfl
end Go.Proofs.YtlmheieabkdhjaaDoor
