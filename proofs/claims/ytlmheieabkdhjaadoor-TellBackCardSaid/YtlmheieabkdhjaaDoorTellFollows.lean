/- tell.follows: whether a year goes on with a run. -/
import Derived.Test.YtlmheieabkdhjaaDoorTellReason
namespace Go.Proofs.YtlmheieabkdhjaaDoor
open Go.RowKit

namespace Te
def follows (a b : M) : Bool := decide (a.k = b.k) && decide (a.r = b.r) && decide (a.y < b.y) && decide (b.y - 1 = a.y)
end Te
set_option maxHeartbeats 2000000 in
set_option maxRecDepth 100000 in
theorem tellFollows_any (a b : Te.M) (w : World) (ha : -9223372036854775808 ≤ a.y) (hb : b.y ≤ 9223372036854775807) :
    Calls Tryd.prog 19 #[Te.mv a, Te.mv b] w fun e w' => e = .returned (.bool (Te.follows a b)) ∧ Below w.heap.size w w' := by
  obtain ⟨v, hv⟩ : ∃ v, Te.follows a b = v := ⟨_, rfl⟩
  rw [hv]
  unfold Te.follows at hv
  obtain ⟨k, y, r⟩ := a
  obtain ⟨k', y', r'⟩ := b
  unfold Te.mv
  simp only at hv ha hb ⊢
  have HB := Lib.hid (((Below.refl w.heap.size w).alloc (Nat.le_refl _) (.cells #[.string k, .int .i64 y, .int .u8 r] 37)).alloc (by simp) (.cells #[.string k', .int .i64 y', .int .u8 r'] 37))
  by_cases hk : k = k'
  · subst hk
    rw [decide_eq_true rfl] at hv
    by_cases hr : r = r'
    · subst hr
      rw [decide_eq_true rfl] at hv
      by_cases hy : y < y'
      · rw [decide_eq_true hy] at hv
        have w1 : IntKind.i64.wrap (y' - 1) = y' - 1 := by rw [IntKind.wrap_i64]; omega
        have w2 : wrap64 (y' - 1) = y' - 1 := by unfold wrap64; omega
        by_cases h1 : y' - 1 = y
        · rw [decide_eq_true h1] at hv
          have HV : Hid (v = true) := hv.symm
          have w3 : wrap64 y = y := by unfold wrap64; omega
          have W3 := Lib.hid w3
          clear w3
          clear hv ha hb
          go_enter Tryd.func19, Tryd.ntmps19
          go_wp2
          go_ret
          refine ⟨?_, HB.out⟩
          rw [HV.out]
          show Ending.returned (.bool (wrap64 y == y)) = _
          rw [W3.out, beq_self_eq_true]
        · rw [decide_eq_false h1] at hv
          have HV : Hid (v = false) := hv.symm
          have q1 : ((y' - 1) == y) = false := by rw [beq_eq_false_iff_ne]; exact h1
          clear hv ha hb
          go_enter Tryd.func19, Tryd.ntmps19
          go_wp2
          go_ret
          exact ⟨by rw [HV.out]; rfl, HB.out⟩
      · rw [decide_eq_false hy] at hv
        have HV : Hid (v = false) := by
          show v = false
          rw [← hv]; rfl
        clear hv ha hb
        go_enter Tryd.func19, Tryd.ntmps19
        go_wp2
        go_ret
        exact ⟨by rw [HV.out]; rfl, HB.out⟩
    · rw [decide_eq_false hr] at hv
      have HV : Hid (v = false) := by
        show v = false
        rw [← hv]; rfl
      have q1 : ((r : Int) == (r' : Int)) = false := by rw [beq_eq_false_iff_ne]; omega
      have q2 : ¬ (r : Int) = (r' : Int) := by omega
      clear hv ha hb
      go_enter Tryd.func19, Tryd.ntmps19
      go_wp2
      go_ret
      exact ⟨by rw [HV.out]; rfl, HB.out⟩
  · rw [decide_eq_false hk] at hv
    have HV : Hid (v = false) := by
      show v = false
      rw [← hv]; rfl
    have qe : (k.toList == k'.toList) = false := by
      rw [beq_eq_false_iff_ne]
      intro e
      rw [ByteArray.toList_eq, ByteArray.toList_eq] at e
      exact hk (bytes_eq e)
    have qe' : ¬ k.toList = k'.toList := by simpa using qe
    clear hv ha hb hk
    go_enter Tryd.func19, Tryd.ntmps19
    go_wp2
    go_ret
    exact ⟨by rw [HV.out]; rfl, HB.out⟩
end Go.Proofs.YtlmheieabkdhjaaDoor
