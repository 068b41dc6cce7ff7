/- The walk of the law WordBack. -/
import Derived.Test.YtliedeiimogljaaWordThree
import Derived.Deep.DeepCutAuto
namespace Go.Proofs.Ytliedeiimogljaa
open Go.RowKit

/-- The law's own bound on the names. -/
def smallB (ss : List ByteArray) : Bool := decide (ss.length ≤ 40) && ss.all fun s => decide (s.size ≤ 1000)

theorem smallB_no (ss : List ByteArray) (k : Nat) (nm : ByteArray) (h : ss[k]? = some nm) (hb : k = 40 ∨ 1000 < nm.size) : smallB ss = false := by
  obtain ⟨hk, e⟩ := List.getElem?_eq_some_iff.1 h
  unfold smallB
  rcases hb with h1 | h1
  · have : ¬ ss.length ≤ 40 := by omega
    simp [this]
  · rw [Bool.and_eq_false_iff]
    right
    rw [List.all_eq_false]
    exact ⟨nm, List.mem_iff_getElem?.2 ⟨k, h⟩, by simp; omega⟩
theorem smallB_yes (ss : List ByteArray) (h : ∀ k nm, ss[k]? = some nm → k ≠ 40 ∧ nm.size ≤ 1000) : smallB ss = true := by
  unfold smallB
  rw [Bool.and_eq_true]
  refine ⟨?_, ?_⟩
  · rw [decide_eq_true_eq]
    rcases Nat.lt_or_ge 40 ss.length with h1 | h1
    · exact absurd rfl (h 40 ss[40] (List.getElem?_eq_getElem h1)).1
    · exact h1
  · rw [List.all_eq_true]
    intro nm hm
    obtain ⟨k, hk⟩ := List.mem_iff_getElem?.1 hm
    simpa using (h k nm hk).2

theorem small_step (ss : List ByteArray) (k : Nat) (nm : ByteArray) (h : ∀ j nm, j < k → ss[j]? = some nm → j ≠ 40 ∧ nm.size ≤ 1000) (hn : ss[k]? = some nm) (h40 : ¬ k = 40) (hs : nm.size ≤ 1000) :
    ∀ j nm, j < k + 1 → ss[j]? = some nm → j ≠ 40 ∧ nm.size ≤ 1000 := by
  intro j m hj hm
  by_cases e : j = k
  · subst e
    rw [hn] at hm
    obtain rfl : nm = m := by simpa using hm
    exact ⟨h40, hs⟩
  · exact h j m (by omega) hm

set_option maxHeartbeats 400000 in
theorem smallLaw_any (A : Option Addr) (n c : Nat) (ss : List ByteArray) (w : World) (hn : n ≤ maxLen) (hr : Reads w w.heap.size 1 A n (ss.map Value.string)) :
    Calls Try.prog 5 #[.slice A n c] w fun e w' => e = .returned (.bool (smallB ss)) ∧ Drew w w' := by
  unfold maxLen at hn
  have HR := Lib.hid hr
  clear hr
  go_enter Try.func5, Try.ntmps5
  go_wp2
  go_loopw [7] (fun i wr => ∃ k : Nat, k ≤ n ∧ i = .int .i64 k ∧ Hid (∀ j nm, j < k → ss[j]? = some nm → j ≠ 40 ∧ nm.size ≤ 1000) ∧ Hid (Drew w wr)) (fun i _ => n - (intOf i).toNat)
  case atStart => exact ⟨0, Nat.zero_le _, rfl, fun j _ hj => absurd hj (by omega), Drew.refl w⟩
  case round =>
    obtain ⟨k, hk, rfl, HA, HD⟩ := hrel
    by_cases hlt : k < n
    · obtain ⟨ad, nm, rfl, hnm, hcell⟩ := reads_str (HR.out.of_drew HD.out) hlt
      have q1 : (0 : Int) ≤ (k : Int) := by omega
      have q2 : (k : Int) < (n : Int) := by omega
      by_cases h40 : k = 40
      · have HS := Lib.hid (smallB_no ss k nm hnm.out (.inl h40))
        have t1 : ((k : Int) == 40) = true := by simp [h40]
        clear h40
        go_wp2
        go_ret
        exact ⟨ret_bool HS.out.symm, HD.out⟩
      · have t1 : ((k : Int) == 40) = false := by simp; omega
        have H40 := Lib.hid h40
        clear h40
        by_cases hsz : 1000 < nm.size
        · have HS := Lib.hid (smallB_no ss k nm hnm.out (.inr hsz))
          go_wp2
          go_ret
          exact ⟨ret_bool HS.out.symm, HD.out⟩
        · go_wp2
          go_roundw
          case rel => exact ⟨k + 1, by omega, by go_num, small_step ss k nm HA.out hnm.out H40.out (by omega), HD⟩
          case measure => simp [intOf]; omega
    · obtain rfl : k = n := by omega
      have HS := Lib.hid (smallB_yes ss fun j nm hj => HA.out j nm (by have := (List.getElem?_eq_some_iff.1 hj).1; have h2 := HR.out.1; simp at h2; omega) hj)
      go_wp2
      go_ret
      exact ⟨ret_bool HS.out.symm, HD.out⟩
end Go.Proofs.Ytliedeiimogljaa
