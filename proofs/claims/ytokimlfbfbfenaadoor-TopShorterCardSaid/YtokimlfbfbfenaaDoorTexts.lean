/- The contract of the reference's Texts: whether two lists of texts are one. -/
import Derived.Test.YtokimlfbfbfenaaDoorUntilText
import Derived.Deep.QuietTactic
import Derived.BigQuiet
namespace Go.Proofs.YtokimlfbfbfenaaDoor
open Go.RowKit

theorem list_next {α : Type} {l m : List α} {k : Nat} {a : α} (h : l.take k = m.take k) (h1 : l[k]? = some a) (h2 : m[k]? = some a) : l.take (k + 1) = m.take (k + 1) := by
  rw [List.take_add_one, List.take_add_one, h, h1, h2]
set_option maxHeartbeats 1000000 in
theorem refTexts_any (A A' : Option Addr) (n n' c c' : Nat) (ss ts : List ByteArray) (w : World) (hn : n ≤ maxLen) (hn' : n' ≤ maxLen) (hr : Reads w w.heap.size 1 A n (ss.map Value.string)) (hr' : Reads w w.heap.size 1 A' n' (ts.map Value.string)) :
    Calls Tryd.prog 49 #[.slice A n c, .slice A' n' c'] w fun e w' => e = .returned (.bool (decide (ss = ts))) ∧ Drew w w' := by
  unfold maxLen at hn hn'
  have h1 : ss.length = n := by have := hr.1; simpa using this
  have h2 : ts.length = n' := by have := hr'.1; simpa using this
  by_cases he : n = n'
  · subst he
    have q0 : ((n : Int) != (n : Int)) = false := by simp
    have H1 := Lib.hid h1
    have H2 := Lib.hid h2
    have HR := Lib.hid hr
    have HR' := Lib.hid hr'
    clear h1 h2 hr hr'
    go_enter Tryd.func49, Tryd.ntmps49
    go_wp2
    go_loopw [13] (fun i wr => ∃ k : Nat, k ≤ n ∧ i = .int .i64 k ∧ Hid (Drew w wr) ∧ Hid (ss.take k = ts.take k)) (fun i _ => n - (intOf i).toNat)
    case atStart => exact ⟨0, Nat.zero_le _, rfl, Drew.refl w, rfl⟩
    case round =>
      obtain ⟨k, hk, rfl, HD, HE⟩ := hrel
      by_cases hlt : k < n
      · obtain ⟨ad, x, rfl, hx, hcell⟩ : ∃ ad nm, A = some ad ∧ Hid (ss[k]? = some nm) ∧ wr.cell? (ad.add k) = some (.string nm) := reads_str (HR.out.of_drew HD.out) hlt
        obtain ⟨ad', y, rfl, hy, hcell'⟩ : ∃ ad nm, A' = some ad ∧ Hid (ts[k]? = some nm) ∧ wr.cell? (ad.add k) = some (.string nm) := reads_str (HR'.out.of_drew HD.out) hlt
        have q1 : (0 : Int) ≤ (k : Int) := by omega
        have q2 : (k : Int) < (n : Int) := by omega
        by_cases hxy : x = y
        · subst hxy
          have HN := Lib.hid (list_next HE.out hx.out hy.out)
          go_wp2
          go_quiet (fail)
          go_wp2
          go_roundw
          case rel => exact ⟨k + 1, by omega, by go_num, by first | exact HD.out | exact HD.out.drewN _, HN⟩
          case measure => simp [intOf]; omega
        · have qe : (x.toList == y.toList) = false := by
            rw [beq_eq_false_iff_ne]
            intro e
            apply hxy
            rw [ByteArray.toList_eq, ByteArray.toList_eq] at e
            apply ByteArray.ext
            exact Array.ext' e
          have qe' : ¬ x.toList = y.toList := by simpa using qe
          have HN : Hid (decide (ss = ts) = false) := by
            show decide (ss = ts) = false
            apply decide_eq_false
            intro e
            apply hxy
            have a := hx.out
            rw [e, hy.out] at a
            exact (Option.some.inj a).symm
          clear hxy
          go_wp2
          go_quiet (fail)
          go_wp2
          go_ret
          exact ⟨ret_bool (by rw [HN.out]), by first | exact HD.out | exact HD.out.drewN _⟩
      · obtain rfl : k = n := by omega
        have HN : Hid (decide (ss = ts) = true) := by
          show decide (ss = ts) = true
          apply decide_eq_true
          have e := HE.out
          rw [List.take_of_length_le (by have := H1.out; omega), List.take_of_length_le (by have := H2.out; omega)] at e
          exact e
        go_wp2
        go_ret
        exact ⟨ret_bool (by rw [HN.out]), HD.out⟩
  · have q0 : ((n : Int) != (n' : Int)) = true := by simp; omega
    have HN : Hid (decide (ss = ts) = false) := by
      show decide (ss = ts) = false
      apply decide_eq_false
      intro e
      apply he
      rw [← h1, ← h2, e]
    clear h1 h2 hr hr' he
    go_enter Tryd.func49, Tryd.ntmps49
    go_wp2
    go_ret
    exact ⟨ret_bool (by rw [HN.out]), Drew.refl w⟩
end Go.Proofs.YtokimlfbfbfenaaDoor
