/- solsticeref39.SameRuns: whether two lists of runs are one. -/
import Derived.Test.YtlmheieabkdhjaaDoorTellSame
import Derived.Test.YtlmheieabkdhjaaDoorTeRuns
namespace Go.Proofs.YtlmheieabkdhjaaDoor
open Go.RowKit

namespace Te
def rc (p : Run) : List Value := [.string p.1.k, .int .i64 p.1.y, .int .u8 p.1.r, .string p.2.k, .int .i64 p.2.y, .int .u8 p.2.r]
def rrows (l : List Run) : List Value := l.flatMap rc
theorem rrows_get : ∀ (l : List Run) (k j : Nat) (p : Run), l[k]? = some p → j < 6 → (rrows l)[k * 6 + j]? = (rc p)[j]?
  | [], k, j, m, h, _ => by simp at h
  | x :: l, 0, j, m, h, hj => by
    have e : x = m := by simpa using h
    subst e
    have hx : rrows (x :: l) = rc x ++ rrows l := by unfold rrows; simp
    rw [hx, Nat.zero_mul, Nat.zero_add, List.getElem?_append_left (by unfold rc; simpa using hj)]
  | x :: l, k + 1, j, m, h, hj => by
    have hx : rrows (x :: l) = rc x ++ rrows l := by unfold rrows; simp
    have hl : (rc x).length = 6 := rfl
    rw [hx, List.getElem?_append_right (by rw [hl]; omega), hl, show (k + 1) * 6 + j - 6 = k * 6 + j from by omega]
    exact rrows_get l k j m (by simpa using h) hj
/-- The six cells of the run in place k. -/
theorem run_cells {w : World} {B n k : Nat} {A : Option Addr} {l : List Run} {m : Run} (h : Reads w B 6 A n (rrows l)) (hm : l[k]? = some m) (hk : k < n) :
    ∃ ad, A = some ad ∧ ad.block < B ∧ w.cell? (ad.add (k * 6)) = some (.string m.1.k) ∧
      w.cell? ⟨(ad.add (k * 6)).block, (ad.add (k * 6)).off + 1, none⟩ = some (.int .i64 m.1.y) ∧ w.cell? ⟨(ad.add (k * 6)).block, (ad.add (k * 6)).off + 2, none⟩ = some (.int .u8 m.1.r) ∧
      w.cell? ⟨(ad.add (k * 6)).block, (ad.add (k * 6)).off + 3, none⟩ = some (.string m.2.k) ∧ w.cell? ⟨(ad.add (k * 6)).block, (ad.add (k * 6)).off + 4, none⟩ = some (.int .i64 m.2.y) ∧
      w.cell? ⟨(ad.add (k * 6)).block, (ad.add (k * 6)).off + 5, none⟩ = some (.int .u8 m.2.r) := by
  obtain ⟨ad, e, hb, hc⟩ := h.2 (by omega)
  refine ⟨ad, e, hb, ?_, ?_, ?_, ?_, ?_, ?_⟩
  · exact hc (k * 6) _ (by have := rrows_get l k 0 m hm (by omega); rw [Nat.add_zero] at this; rw [this]; rfl)
  · have h1 := hc (k * 6 + 1) _ (by rw [rrows_get l k 1 m hm (by omega)]; rfl)
    rw [← add_of_add] at h1
    exact h1
  · have h1 := hc (k * 6 + 2) _ (by rw [rrows_get l k 2 m hm (by omega)]; rfl)
    rw [← add_of_add] at h1
    exact h1
  · have h1 := hc (k * 6 + 3) _ (by rw [rrows_get l k 3 m hm (by omega)]; rfl)
    rw [← add_of_add] at h1
    exact h1
  · have h1 := hc (k * 6 + 4) _ (by rw [rrows_get l k 4 m hm (by omega)]; rfl)
    rw [← add_of_add] at h1
    exact h1
  · have h1 := hc (k * 6 + 5) _ (by rw [rrows_get l k 5 m hm (by omega)]; rfl)
    rw [← add_of_add] at h1
    exact h1
def rsame (a b : Run) : Bool := decide (a.1.k = b.1.k) && (decide (a.1.y = b.1.y) && (decide ((a.1.r : Int) = (b.1.r : Int)) && (decide (a.2.k = b.2.k) && (decide (a.2.y = b.2.y) && decide ((a.2.r : Int) = (b.2.r : Int))))))
theorem rsame_iff (a b : Run) : rsame a b = true ↔ a = b := by
  obtain ⟨⟨k, y, r⟩, ⟨k2, y2, r2⟩⟩ := a
  obtain ⟨⟨k', y', r'⟩, ⟨k2', y2', r2'⟩⟩ := b
  simp only [rsame, Bool.and_eq_true, decide_eq_true_eq, M.mk.injEq, Prod.mk.injEq]
  constructor
  · rintro ⟨rfl, rfl, h, rfl, rfl, h'⟩
    exact ⟨⟨rfl, rfl, by omega⟩, ⟨rfl, rfl, by omega⟩⟩
  · rintro ⟨⟨rfl, rfl, rfl⟩, ⟨rfl, rfl, rfl⟩⟩
    exact ⟨rfl, rfl, rfl, rfl, rfl, rfl⟩
end Te
set_option maxHeartbeats 800000 in
theorem rec_same9 (a b : Te.M) (w : World) : (Op.equalIn 9999 37 (.agg #[.string a.k, .int .i64 a.y, .int .u8 a.r]) (.agg #[.string b.k, .int .i64 b.y, .int .u8 b.r])).run Tryd.prog w = .ok (Te.same a b) w := by
  obtain ⟨k, y, r⟩ := a
  obtain ⟨k', y', r'⟩ := b
  unfold Te.same
  simp only
  go_simp
  simp only [Te.tl_iff]
  iterate 2 refine Te.and_if ?_
  exact Te.last_if _ _
set_option maxHeartbeats 800000 in
theorem runs_same (a b : Te.Run) (w : World) : (Op.equalIn 10000 38 (.agg #[.string a.1.k, .int .i64 a.1.y, .int .u8 a.1.r, .string a.2.k, .int .i64 a.2.y, .int .u8 a.2.r]) (.agg #[.string b.1.k, .int .i64 b.1.y, .int .u8 b.1.r, .string b.2.k, .int .i64 b.2.y, .int .u8 b.2.r])).run Tryd.prog w = .ok (Te.rsame a b) w := by
  have h1 := rec_same9 a.1 b.1 w
  have h2 := rec_same9 a.2 b.2 w
  have hz : ∀ W, (sizeOf 37).run Tryd.prog W = .ok 3 W := fun W => Tryd.sizeOf37 W
  have hp1 : ∀ (x y z u v t : Value) W, (part 37 #[x, y, z, u, v, t] 0).run Tryd.prog W = .ok (.agg #[x, y, z]) W := by
    intro x y z u v t W
    simp [part, Sem.run_bind, Tryd.isAgg37, Tryd.sizeOf37, Result.andThen_ok]
  have hp2 : ∀ (x y z u v t : Value) W, (part 37 #[x, y, z, u, v, t] 3).run Tryd.prog W = .ok (.agg #[u, v, t]) W := by
    intro x y z u v t W
    simp [part, Sem.run_bind, Tryd.isAgg37, Tryd.sizeOf37, Result.andThen_ok]
  show (Op.equalIn (9999 + 1) _ _ _).run _ w = _
  rw [Op.equalIn]
  simp only [Sem.run_bind, run_underlying Tryd.underlying38, Result.andThen_ok, hz]
  simp
  have hl : List.range' 0 2 = [0, 1] := rfl
  have hs : Te.rsame a b = (Te.same a.1 b.1 && Te.same a.2 b.2) := by simp [Te.rsame, Te.same, Bool.and_assoc]
  rw [hl, hs]
  simp only [List.forIn_cons, List.forIn_nil, Sem.run_bind, Nat.zero_mul, Nat.one_mul, hp1, h1, Result.andThen_ok]
  cases q1 : Te.same a.1 b.1 <;> cases q2 : Te.same a.2 b.2 <;> simp [hp2, h2, q2, Sem.run_bind, Result.andThen_ok]
set_option maxHeartbeats 2000000 in
set_option maxRecDepth 100000 in
theorem runsSame_any (A A' : Option Addr) (n n' c c' : Nat) (l l' : List Te.Run) (w : World) (hn : n ≤ maxLen) (hn' : n' ≤ maxLen) (h1 : l.length = n) (h2 : l'.length = n') (hr : Reads w w.heap.size 6 A n (Te.rrows l)) (hr' : Reads w w.heap.size 6 A' n' (Te.rrows l')) :
    Calls Tryd.prog 12 #[.slice A n c, .slice A' n' c'] w fun e w' => e = .returned (.bool (decide (l = l'))) ∧ Drew w w' := by
  unfold maxLen at hn hn'
  by_cases he : n = n'
  · subst he
    have q0 : ((n : Int) != (n : Int)) = false := by simp
    have H1 := Lib.hid h1
    have H2 := Lib.hid h2
    have HR := Lib.hid hr
    have HR' := Lib.hid hr'
    clear h1 h2 hr hr'
    go_enter Tryd.func12, Tryd.ntmps12
    go_wp2
    go_loopw [13] (fun i wr => ∃ k : Nat, k ≤ n ∧ i = .int .i64 k ∧ Hid (Drew w wr) ∧ Hid (l.take k = l'.take k)) (fun i _ => n - (intOf i).toNat)
    case atStart => exact ⟨0, Nat.zero_le _, rfl, Drew.refl w, rfl⟩
    case round =>
      obtain ⟨k, hk, rfl, HD, HE⟩ := hrel
      by_cases hlt : k < n
      · obtain ⟨x, hx⟩ : ∃ m, l[k]? = some m := ⟨_, List.getElem?_eq_getElem (by rw [H1.out]; exact hlt)⟩
        obtain ⟨y, hy⟩ : ∃ m, l'[k]? = some m := ⟨_, List.getElem?_eq_getElem (by rw [H2.out]; exact hlt)⟩
        obtain ⟨ad, rfl, _, c0, c1, c2, c3, c4, c5⟩ := Te.run_cells (HR.out.of_drew HD.out) hx hlt
        obtain ⟨ad', rfl, _, d0, d1, d2, d3, d4, d5⟩ := Te.run_cells (HR'.out.of_drew HD.out) hy hlt
        have q1 : (0 : Int) ≤ (k : Int) := by omega
        have q2 : (k : Int) < (n : Int) := by omega
        have hq := runs_same x y
        by_cases hxy : x = y
        · subst hxy
          have HN := Lib.hid (take_one_more HE.out hx hy)
          rw [(Te.rsame_iff x x).2 rfl] at hq
          clear hx hy
          go_wp2
          go_quiet (fail)
          go_wp2
          go_roundw
          case rel => exact ⟨k + 1, by omega, by go_num, by first | exact HD.out | exact HD.out.drewN _, HN⟩
          case measure => simp [intOf]; omega
        · have hs : Te.rsame x y = false := by
            cases h : Te.rsame x y with
            | false => rfl
            | true => exact absurd ((Te.rsame_iff x y).1 h) hxy
          have HN : Hid (decide (l = l') = false) := by
            show decide (l = l') = false
            apply decide_eq_false
            intro e
            apply hxy
            rw [e, hy] at hx
            exact (Option.some.inj hx).symm
          rw [hs] at hq
          clear hx hy hxy hs
          go_wp2
          go_quiet (fail)
          go_wp2
          go_ret
          exact ⟨by rw [HN.out]; rfl, by first | exact HD.out | exact HD.out.drewN _⟩
      · have q2 : ¬ (k : Int) < (n : Int) := by omega
        have hkn : k = n := by omega
        have HN : Hid (decide (l = l') = true) := by
          show decide (l = l') = true
          apply decide_eq_true
          have := HE.out
          rwa [List.take_of_length_le (by rw [H1.out]; omega), List.take_of_length_le (by rw [H2.out]; omega)] at this
        go_wp2
        go_ret
        exact ⟨by rw [HN.out]; rfl, HD.out⟩
  · have q0 : ((n : Int) != (n' : Int)) = true := by simp; omega
    have q0' : ¬ (n : Int) = (n' : Int) := by omega
    have HN : Hid (decide (l = l') = false) := by
      show decide (l = l') = false
      apply decide_eq_false
      intro e
      apply he
      rw [← h1, ← h2, e]
    clear h1 h2 hr hr' he
    go_enter Tryd.func12, Tryd.ntmps12
    go_wp2
    go_ret
    exact ⟨by rw [HN.out]; rfl, Drew.refl w⟩
end Go.Proofs.YtlmheieabkdhjaaDoor
