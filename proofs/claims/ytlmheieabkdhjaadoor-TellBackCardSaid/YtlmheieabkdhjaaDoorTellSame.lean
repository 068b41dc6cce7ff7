/- solsticeref28.Same: whether two lists of missed years are one. -/
import Derived.Test.YtlmheieabkdhjaaDoorTellRow
import Derived.Deep.QuietTactic
import Derived.BigQuiet
namespace Go.Proofs.YtlmheieabkdhjaaDoor
open Go.RowKit

theorem take_one_more {α : Type} {l m : List α} {k : Nat} {a : α} (h : l.take k = m.take k) (h1 : l[k]? = some a) (h2 : m[k]? = some a) : l.take (k + 1) = m.take (k + 1) := by
  rw [List.take_add_one, List.take_add_one, h, h1, h2]
namespace Te
def same (a b : M) : Bool := decide (a.k = b.k) && (decide (a.y = b.y) && decide ((a.r : Int) = (b.r : Int)))
theorem same_iff (a b : M) : same a b = true ↔ a = b := by
  obtain ⟨k, y, r⟩ := a
  obtain ⟨k', y', r'⟩ := b
  simp only [same, Bool.and_eq_true, decide_eq_true_eq, M.mk.injEq]
  constructor
  · rintro ⟨rfl, rfl, h⟩
    exact ⟨rfl, rfl, by omega⟩
  · rintro ⟨rfl, rfl, rfl⟩
    exact ⟨rfl, rfl, rfl⟩
theorem tl_iff (a b : ByteArray) : a.toList = b.toList ↔ a = b := by
  rw [ByteArray.toList_eq, ByteArray.toList_eq]
  exact ⟨fun h => ByteArray.ext (Array.ext' h), fun h => by rw [h]⟩
theorem and_if {p : Prop} [Decidable p] {q : Bool} {w : World} {R : Result Bool} (h : R = .ok q w) : (if p then R else .ok false w) = .ok (decide p && q) w := by
  by_cases hp : p
  · rw [if_pos hp, h, decide_eq_true hp, Bool.true_and]
  · rw [if_neg hp, decide_eq_false hp, Bool.false_and]
theorem last_if (p : Prop) [Decidable p] (w : World) : (if p then (.ok true w : Result Bool) else .ok false w) = .ok (decide p) w := by
  by_cases hp : p
  · rw [if_pos hp, decide_eq_true hp]
  · rw [if_neg hp, decide_eq_false hp]
end Te
set_option maxHeartbeats 800000 in
theorem rec_same (a b : Te.M) (w : World) : (Op.equalIn 10000 37 (.agg #[.string a.k, .int .i64 a.y, .int .u8 a.r]) (.agg #[.string b.k, .int .i64 b.y, .int .u8 b.r])).run Tryd.prog w = .ok (Te.same a b) w := by
  obtain ⟨k, y, r⟩ := a
  obtain ⟨k', y', r'⟩ := b
  unfold Te.same
  simp only
  go_simp
  simp only [Te.tl_iff]
  iterate 2 refine Te.and_if ?_
  exact Te.last_if _ _
set_option maxHeartbeats 2000000 in
set_option maxRecDepth 100000 in
theorem tellSame_any (A A' : Option Addr) (n n' c c' : Nat) (l l' : List Te.M) (w : World) (hn : n ≤ maxLen) (hn' : n' ≤ maxLen) (h1 : l.length = n) (h2 : l'.length = n') (hr : Reads w w.heap.size 3 A n (Te.rows l)) (hr' : Reads w w.heap.size 3 A' n' (Te.rows l')) :
    Calls Tryd.prog 8 #[.slice A n c, .slice A' n' c'] w fun e w' => e = .returned (.bool (decide (l = l'))) ∧ Drew w w' := by
  unfold maxLen at hn hn'
  by_cases he : n = n'
  · subst he
    have q0 : ((n : Int) != (n : Int)) = false := by simp
    have H1 := Lib.hid h1
    have H2 := Lib.hid h2
    have HR := Lib.hid hr
    have HR' := Lib.hid hr'
    clear h1 h2 hr hr'
    go_enter Tryd.func8, Tryd.ntmps8
    go_wp2
    go_loopw [13] (fun i wr => ∃ k : Nat, k ≤ n ∧ i = .int .i64 k ∧ Hid (Drew w wr) ∧ Hid (l.take k = l'.take k)) (fun i _ => n - (intOf i).toNat)
    case atStart => exact ⟨0, Nat.zero_le _, rfl, Drew.refl w, rfl⟩
    case round =>
      obtain ⟨k, hk, rfl, HD, HE⟩ := hrel
      by_cases hlt : k < n
      · obtain ⟨x, hx⟩ : ∃ m, l[k]? = some m := ⟨_, List.getElem?_eq_getElem (by rw [H1.out]; exact hlt)⟩
        obtain ⟨y, hy⟩ : ∃ m, l'[k]? = some m := ⟨_, List.getElem?_eq_getElem (by rw [H2.out]; exact hlt)⟩
        obtain ⟨ad, rfl, _, c0, c1, c2⟩ := Te.row_cells (HR.out.of_drew HD.out) hx hlt
        obtain ⟨ad', rfl, _, d0, d1, d2⟩ := Te.row_cells (HR'.out.of_drew HD.out) hy hlt
        have q1 : (0 : Int) ≤ (k : Int) := by omega
        have q2 : (k : Int) < (n : Int) := by omega
        have hq := rec_same x y
        by_cases hxy : x = y
        · subst hxy
          have HN := Lib.hid (take_one_more HE.out hx hy)
          rw [(Te.same_iff x x).2 rfl] at hq
          clear hx hy
          go_wp2
          go_quiet (fail)
          go_wp2
          go_roundw
          case rel => exact ⟨k + 1, by omega, by go_num, by first | exact HD.out | exact HD.out.drewN _, HN⟩
          case measure => simp [intOf]; omega
        · have hs : Te.same x y = false := by
            cases h : Te.same x y with
            | false => rfl
            | true => exact absurd ((Te.same_iff x y).1 h) hxy
          have HN : Hid (decide (l = l') = false) := by
            show decide (l = l') = false
            apply decide_eq_false
            intro e
            apply hxy
            rw [e, hy] at hx
            exact (Option.some.inj hx).symm
          rw [hs] at hq
          clear hx hy hxy hs
          go_wp2
          go_quiet (fail)
          go_wp2
          go_ret
          exact ⟨by rw [HN.out]; rfl, by first | exact HD.out | exact HD.out.drewN _⟩
      · have q2 : ¬ (k : Int) < (n : Int) := by omega
        have hkn : k = n := by omega
        have HN : Hid (decide (l = l') = true) := by
          show decide (l = l') = true
          apply decide_eq_true
          have := HE.out
          rwa [List.take_of_length_le (by rw [H1.out]; omega), List.take_of_length_le (by rw [H2.out]; omega)] at this
        go_wp2
        go_ret
        exact ⟨by rw [HN.out]; rfl, HD.out⟩
  · have q0 : ((n : Int) != (n' : Int)) = true := by simp; omega
    have q0' : ¬ (n : Int) = (n' : Int) := by omega
    have HN : Hid (decide (l = l') = false) := by
      show decide (l = l') = false
      apply decide_eq_false
      intro e
      apply he
      rw [← h1, ← h2, e]
    clear h1 h2 hr hr' he
    go_enter Tryd.func8, Tryd.ntmps8
    go_wp2
    go_ret
    exact ⟨by rw [HN.out]; rfl, Drew.refl w⟩
end Go.Proofs.YtlmheieabkdhjaaDoor
