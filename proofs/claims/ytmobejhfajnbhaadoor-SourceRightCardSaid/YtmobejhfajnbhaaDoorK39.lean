/- Comparing records cell by cell; slices.Equal at them. -/
import Derived.Test.YtmobejhfajnbhaaDoorK36
namespace Go.Proofs.YtmobejhfajnbhaaDoor
open Go.RowKit

theorem toList_eq_iff (a b : ByteArray) : a.toList = b.toList ↔ a = b := by
  rw [ByteArray.toList_eq, ByteArray.toList_eq]
  constructor
  · intro h
    exact ByteArray.ext (Array.ext' h)
  · intro h
    rw [h]
theorem if_and {p : Prop} [Decidable p] {q : Bool} {w : World} {R : Result Bool} (h : R = .ok q w) : (if p then R else .ok false w) = .ok (decide p && q) w := by
  by_cases hp : p
  · rw [if_pos hp, h, decide_eq_true hp, Bool.true_and]
  · rw [if_neg hp, decide_eq_false hp, Bool.false_and]
theorem if_last (p : Prop) [Decidable p] (w : World) : (if p then (.ok true w : Result Bool) else .ok false w) = .ok (decide p) w := by
  by_cases hp : p
  · rw [if_pos hp, decide_eq_true hp]
  · rw [if_neg hp, decide_eq_false hp]
namespace Ix
/-- Two lists agree, one by one. -/
def same {α : Type} (f : α → α → Bool) : List α → List α → Bool
  | [], [] => true
  | x :: l, y :: k => f x y && same f l k
  | _, _ => false
theorem same_len {α : Type} {f : α → α → Bool} : ∀ {xs ys : List α}, xs.length ≠ ys.length → same f xs ys = false
  | [], [], h => absurd rfl h
  | [], y :: k, _ => rfl
  | x :: l, [], _ => rfl
  | x :: l, y :: k, h => by
    unfold same
    rw [same_len (by simpa using h)]
    simp
theorem same_next {α : Type} {f : α → α → Bool} {xs ys : List α} {k : Nat} {x y : α} {X : Bool} (h : X = same f (xs.drop k) (ys.drop k)) (hx : xs[k]? = some x) (hy : ys[k]? = some y) : X = (f x y && same f (xs.drop (k + 1)) (ys.drop (k + 1))) := by
  rw [List.drop_eq_getElem_cons (List.getElem?_eq_some_iff.1 hx).1, List.drop_eq_getElem_cons (List.getElem?_eq_some_iff.1 hy).1] at h
  rw [h, same, (List.getElem?_eq_some_iff.1 hx).2, (List.getElem?_eq_some_iff.1 hy).2]
theorem same_end {α : Type} {f : α → α → Bool} {xs ys : List α} {k : Nat} {X : Bool} (h : X = same f (xs.drop k) (ys.drop k)) (hx : xs.length ≤ k) (hy : ys.length ≤ k) : X = true := by
  rw [h, List.drop_eq_nil_of_le hx, List.drop_eq_nil_of_le hy]
  rfl
theorem same_iff {α : Type} {f : α → α → Bool} (hf : ∀ a b, f a b = true ↔ a = b) : ∀ (xs ys : List α), same f xs ys = true ↔ xs = ys
  | [], [] => by simp [same]
  | [], y :: k => by simp [same]
  | x :: l, [] => by simp [same]
  | x :: l, y :: k => by simp [same, hf, same_iff hf l k]
end Ix
def Ru.R.same (r s : Ru.R) : Bool := decide (r.nm = s.nm) && (decide (r.fr = s.fr) && (decide (r.tt = s.tt) && (decide (r.mo = s.mo) && (decide (r.k = s.k) && (decide (r.n = s.n) && (decide (r.d = s.d) && (decide (r.s = s.s) && (decide (r.c = s.c) && (decide (r.sv = s.sv) && (decide (r.lt = s.lt)))))))))))
theorem Ru.R.same_iff (r s : Ru.R) : r.same s = true ↔ r = s := by
  obtain ⟨a0, a1, a2, a3, a4, a5, a6, a7, a8, a9, a10⟩ := r
  obtain ⟨b0, b1, b2, b3, b4, b5, b6, b7, b8, b9, b10⟩ := s
  simp [Ru.R.same]
set_option maxHeartbeats 800000 in
theorem eq_rule (r s : Ru.R) (w : World) : (Op.equalIn 10000 34 r.v s.v).run Tryd.prog w = .ok (r.same s) w := by
  obtain ⟨a0, a1, a2, a3, a4, a5, a6, a7, a8, a9, a10⟩ := r
  obtain ⟨b0, b1, b2, b3, b4, b5, b6, b7, b8, b9, b10⟩ := s
  unfold Ru.R.v Ru.R.same
  simp only
  go_simp
  simp only [toList_eq_iff]
  iterate 10 refine if_and ?_
  exact if_last _ w
set_option maxHeartbeats 2000000 in
set_option maxRecDepth 100000 in
theorem eqs_rule (A A' : Option Addr) (n c n' c' : Nat) (xs ys : List Ru.R) (w : World) (hn : n ≤ maxLen) (hn' : n' ≤ maxLen) (hl : xs.length = n) (hl' : ys.length = n')
    (hr : Reads w w.heap.size 11 A n (xs.flatMap Ru.R.cells)) (hr' : Reads w w.heap.size 11 A' n' (ys.flatMap Ru.R.cells)) :
    Calls Tryd.prog 55 #[.slice A n c, .slice A' n' c'] w fun e w' => e = .returned (.bool (Ix.same Ru.R.same xs ys)) ∧ Drew w w' := by
  unfold maxLen at hn hn'
  obtain ⟨X, hX⟩ : ∃ X, Ix.same Ru.R.same xs ys = X := ⟨_, rfl⟩
  rw [hX]
  by_cases hne : n = n'
  · subst hne
    have HX := Lib.hid hX
    have HR := Lib.hid hr
    have HR' := Lib.hid hr'
    have HL := Lib.hid hl
    have HL' := Lib.hid hl'
    clear hX hr hr' hl hl'
    go_enter Tryd.func55, Tryd.ntmps55
    go_wp2
    go_loopw [5, 13] (fun _ i wr => ∃ k : Nat, k ≤ n ∧ i = .int .i64 k ∧ Hid (X = Ix.same Ru.R.same (xs.drop k) (ys.drop k)) ∧ Hid (Drew w wr)) (fun _ i _ => n - (intOf i).toNat)
    case atStart => exact ⟨0, Nat.zero_le _, rfl, HX.out.symm, Drew.refl _⟩
    case round =>
      obtain ⟨k, hk, rfl, HK, HD⟩ := hrel
      by_cases hlt : k < n
      · have q2 : (k : Int) < (n : Int) := by omega
        have q1 : (0 : Int) ≤ (k : Int) := by omega
        obtain ⟨ad, x, rfl, hab, Hx, HL0⟩ := Ix.reads_cells (enc := Ru.R.cells) (m := 11) (fun _ => rfl) HL.out (HR.out.of_drew HD.out) hlt
        obtain ⟨ad', y, rfl, hab', Hy, HL0'⟩ := Ix.reads_cells (enc := Ru.R.cells) (m := 11) (fun _ => rfl) HL'.out (HR'.out.of_drew HD.out) hlt
        have hx0 : wr.cell? (ad.add (k * 11)) = some (.string x.nm) := HL0.out 0 _ rfl
        have hx1 : wr.cell? ⟨(ad.add (k * 11)).block, (ad.add (k * 11)).off + 1, none⟩ = some (.int .i64 x.fr) := HL0.out 1 _ rfl
        have hx2 : wr.cell? ⟨(ad.add (k * 11)).block, (ad.add (k * 11)).off + 2, none⟩ = some (.int .i64 x.tt) := HL0.out 2 _ rfl
        have hx3 : wr.cell? ⟨(ad.add (k * 11)).block, (ad.add (k * 11)).off + 3, none⟩ = some (.int .i64 x.mo) := HL0.out 3 _ rfl
        have hx4 : wr.cell? ⟨(ad.add (k * 11)).block, (ad.add (k * 11)).off + 4, none⟩ = some (.int .u8 x.k) := HL0.out 4 _ rfl
        have hx5 : wr.cell? ⟨(ad.add (k * 11)).block, (ad.add (k * 11)).off + 5, none⟩ = some (.int .i64 x.n) := HL0.out 5 _ rfl
        have hx6 : wr.cell? ⟨(ad.add (k * 11)).block, (ad.add (k * 11)).off + 6, none⟩ = some (.int .i64 x.d) := HL0.out 6 _ rfl
        have hx7 : wr.cell? ⟨(ad.add (k * 11)).block, (ad.add (k * 11)).off + 7, none⟩ = some (.int .i64 x.s) := HL0.out 7 _ rfl
        have hx8 : wr.cell? ⟨(ad.add (k * 11)).block, (ad.add (k * 11)).off + 8, none⟩ = some (.int .u8 x.c) := HL0.out 8 _ rfl
        have hx9 : wr.cell? ⟨(ad.add (k * 11)).block, (ad.add (k * 11)).off + 9, none⟩ = some (.int .i64 x.sv) := HL0.out 9 _ rfl
        have hx10 : wr.cell? ⟨(ad.add (k * 11)).block, (ad.add (k * 11)).off + 10, none⟩ = some (.string x.lt) := HL0.out 10 _ rfl
        have hy0 : wr.cell? (ad'.add (k * 11)) = some (.string y.nm) := HL0'.out 0 _ rfl
        have hy1 : wr.cell? ⟨(ad'.add (k * 11)).block, (ad'.add (k * 11)).off + 1, none⟩ = some (.int .i64 y.fr) := HL0'.out 1 _ rfl
        have hy2 : wr.cell? ⟨(ad'.add (k * 11)).block, (ad'.add (k * 11)).off + 2, none⟩ = some (.int .i64 y.tt) := HL0'.out 2 _ rfl
        have hy3 : wr.cell? ⟨(ad'.add (k * 11)).block, (ad'.add (k * 11)).off + 3, none⟩ = some (.int .i64 y.mo) := HL0'.out 3 _ rfl
        have hy4 : wr.cell? ⟨(ad'.add (k * 11)).block, (ad'.add (k * 11)).off + 4, none⟩ = some (.int .u8 y.k) := HL0'.out 4 _ rfl
        have hy5 : wr.cell? ⟨(ad'.add (k * 11)).block, (ad'.add (k * 11)).off + 5, none⟩ = some (.int .i64 y.n) := HL0'.out 5 _ rfl
        have hy6 : wr.cell? ⟨(ad'.add (k * 11)).block, (ad'.add (k * 11)).off + 6, none⟩ = some (.int .i64 y.d) := HL0'.out 6 _ rfl
        have hy7 : wr.cell? ⟨(ad'.add (k * 11)).block, (ad'.add (k * 11)).off + 7, none⟩ = some (.int .i64 y.s) := HL0'.out 7 _ rfl
        have hy8 : wr.cell? ⟨(ad'.add (k * 11)).block, (ad'.add (k * 11)).off + 8, none⟩ = some (.int .u8 y.c) := HL0'.out 8 _ rfl
        have hy9 : wr.cell? ⟨(ad'.add (k * 11)).block, (ad'.add (k * 11)).off + 9, none⟩ = some (.int .i64 y.sv) := HL0'.out 9 _ rfl
        have hy10 : wr.cell? ⟨(ad'.add (k * 11)).block, (ad'.add (k * 11)).off + 10, none⟩ = some (.string y.lt) := HL0'.out 10 _ rfl
        have HN := Ix.same_next HK.out Hx.out Hy.out
        cases hq : x.same y with
        | true =>
          rw [hq] at HN
          replace HN := Lib.hid HN
          have hE : ∀ W, (Op.equalIn 10000 34 x.v y.v).run Tryd.prog W = .ok true W := fun W => by rw [eq_rule, hq]
          unfold Ru.R.v at hE
          clear hq
          go_wp2_with fail
          go_quiet (fail)
          go_wp2
          go_roundw
          case rel => exact ⟨k + 1, by omega, by go_num, HN.out, HD.out.drewN _⟩
          case measure => simp [intOf]; omega
        | false =>
          rw [hq] at HN
          replace HN := Lib.hid HN
          have hE : ∀ W, (Op.equalIn 10000 34 x.v y.v).run Tryd.prog W = .ok false W := fun W => by rw [eq_rule, hq]
          unfold Ru.R.v at hE
          clear hq
          go_wp2_with fail
          go_quiet (fail)
          go_wp2
          go_ret
          exact ⟨ret_bool HN.out.symm, HD.out.drewN _⟩
      · have q2 : ¬ (k : Int) < (n : Int) := by omega
        have HE := Lib.hid (Ix.same_end HK.out (by rw [HL.out]; omega) (by rw [HL'.out]; omega))
        go_wp2
        go_ret
        exact ⟨ret_bool HE.out.symm, HD.out⟩
  · have q1 : ((n : Int) == (n' : Int)) = false := by rw [beq_eq_false_iff_ne]; omega
    have HE := Lib.hid (Ix.same_len (f := Ru.R.same) (xs := xs) (ys := ys) (by omega))
    rw [← hX]
    clear hX hr hr' hl hl'
    go_enter Tryd.func55, Tryd.ntmps55
    go_wp2
    go_ret
    exact ⟨ret_bool HE.out.symm, Drew.refl w⟩
def Er.E.same (r s : Er.E) : Bool := decide (r.std = s.std) && (decide (r.k = s.k) && (decide (r.sv = s.sv) && (decide (r.ru = s.ru) && (decide (r.fm = s.fm) && (decide (r.en = s.en) && (decide (r.u.y = s.u.y) && (decide (r.u.m = s.u.m) && (decide (r.u.k = s.u.k) && (decide (r.u.n = s.u.n) && (decide (r.u.d = s.u.d) && (decide (r.u.s = s.u.s) && (decide (r.u.c = s.u.c)))))))))))))
theorem Er.E.same_iff (r s : Er.E) : r.same s = true ↔ r = s := by
  obtain ⟨a0, a1, a2, a3, a4, a5, ⟨a6, a7, a8, a9, a10, a11, a12⟩⟩ := r
  obtain ⟨b0, b1, b2, b3, b4, b5, ⟨b6, b7, b8, b9, b10, b11, b12⟩⟩ := s
  simp [Er.E.same]
set_option maxHeartbeats 800000 in
theorem eq_era (r s : Er.E) (w : World) : (Op.equalIn 10000 50 r.v s.v).run Tryd.prog w = .ok (r.same s) w := by
  obtain ⟨a0, a1, a2, a3, a4, a5, ⟨a6, a7, a8, a9, a10, a11, a12⟩⟩ := r
  obtain ⟨b0, b1, b2, b3, b4, b5, ⟨b6, b7, b8, b9, b10, b11, b12⟩⟩ := s
  unfold Er.E.v Er.E.same
  simp only
  go_simp
  simp only [toList_eq_iff]
  iterate 12 refine if_and ?_
  exact if_last _ w
set_option maxHeartbeats 2000000 in
set_option maxRecDepth 100000 in
theorem eqs_era (A A' : Option Addr) (n c n' c' : Nat) (xs ys : List Er.E) (w : World) (hn : n ≤ maxLen) (hn' : n' ≤ maxLen) (hl : xs.length = n) (hl' : ys.length = n')
    (hr : Reads w w.heap.size 13 A n (xs.flatMap Er.E.cells)) (hr' : Reads w w.heap.size 13 A' n' (ys.flatMap Er.E.cells)) :
    Calls Tryd.prog 54 #[.slice A n c, .slice A' n' c'] w fun e w' => e = .returned (.bool (Ix.same Er.E.same xs ys)) ∧ Drew w w' := by
  unfold maxLen at hn hn'
  obtain ⟨X, hX⟩ : ∃ X, Ix.same Er.E.same xs ys = X := ⟨_, rfl⟩
  rw [hX]
  by_cases hne : n = n'
  · subst hne
    have HX := Lib.hid hX
    have HR := Lib.hid hr
    have HR' := Lib.hid hr'
    have HL := Lib.hid hl
    have HL' := Lib.hid hl'
    clear hX hr hr' hl hl'
    go_enter Tryd.func54, Tryd.ntmps54
    go_wp2
    go_loopw [5, 13] (fun _ i wr => ∃ k : Nat, k ≤ n ∧ i = .int .i64 k ∧ Hid (X = Ix.same Er.E.same (xs.drop k) (ys.drop k)) ∧ Hid (Drew w wr)) (fun _ i _ => n - (intOf i).toNat)
    case atStart => exact ⟨0, Nat.zero_le _, rfl, HX.out.symm, Drew.refl _⟩
    case round =>
      obtain ⟨k, hk, rfl, HK, HD⟩ := hrel
      by_cases hlt : k < n
      · have q2 : (k : Int) < (n : Int) := by omega
        have q1 : (0 : Int) ≤ (k : Int) := by omega
        obtain ⟨ad, x, rfl, hab, Hx, HL0⟩ := Ix.reads_cells (enc := Er.E.cells) (m := 13) (fun _ => rfl) HL.out (HR.out.of_drew HD.out) hlt
        obtain ⟨ad', y, rfl, hab', Hy, HL0'⟩ := Ix.reads_cells (enc := Er.E.cells) (m := 13) (fun _ => rfl) HL'.out (HR'.out.of_drew HD.out) hlt
        have hx0 : wr.cell? (ad.add (k * 13)) = some (.int .i64 x.std) := HL0.out 0 _ rfl
        have hx1 : wr.cell? ⟨(ad.add (k * 13)).block, (ad.add (k * 13)).off + 1, none⟩ = some (.int .u8 x.k) := HL0.out 1 _ rfl
        have hx2 : wr.cell? ⟨(ad.add (k * 13)).block, (ad.add (k * 13)).off + 2, none⟩ = some (.int .i64 x.sv) := HL0.out 2 _ rfl
        have hx3 : wr.cell? ⟨(ad.add (k * 13)).block, (ad.add (k * 13)).off + 3, none⟩ = some (.string x.ru) := HL0.out 3 _ rfl
        have hx4 : wr.cell? ⟨(ad.add (k * 13)).block, (ad.add (k * 13)).off + 4, none⟩ = some (.string x.fm) := HL0.out 4 _ rfl
        have hx5 : wr.cell? ⟨(ad.add (k * 13)).block, (ad.add (k * 13)).off + 5, none⟩ = some (.bool x.en) := HL0.out 5 _ rfl
        have hx6 : wr.cell? ⟨(ad.add (k * 13)).block, (ad.add (k * 13)).off + 6, none⟩ = some (.int .i64 x.u.y) := HL0.out 6 _ rfl
        have hx7 : wr.cell? ⟨(ad.add (k * 13)).block, (ad.add (k * 13)).off + 7, none⟩ = some (.int .i64 x.u.m) := HL0.out 7 _ rfl
        have hx8 : wr.cell? ⟨(ad.add (k * 13)).block, (ad.add (k * 13)).off + 8, none⟩ = some (.int .u8 x.u.k) := HL0.out 8 _ rfl
        have hx9 : wr.cell? ⟨(ad.add (k * 13)).block, (ad.add (k * 13)).off + 9, none⟩ = some (.int .i64 x.u.n) := HL0.out 9 _ rfl
        have hx10 : wr.cell? ⟨(ad.add (k * 13)).block, (ad.add (k * 13)).off + 10, none⟩ = some (.int .i64 x.u.d) := HL0.out 10 _ rfl
        have hx11 : wr.cell? ⟨(ad.add (k * 13)).block, (ad.add (k * 13)).off + 11, none⟩ = some (.int .i64 x.u.s) := HL0.out 11 _ rfl
        have hx12 : wr.cell? ⟨(ad.add (k * 13)).block, (ad.add (k * 13)).off + 12, none⟩ = some (.int .u8 x.u.c) := HL0.out 12 _ rfl
        have hy0 : wr.cell? (ad'.add (k * 13)) = some (.int .i64 y.std) := HL0'.out 0 _ rfl
        have hy1 : wr.cell? ⟨(ad'.add (k * 13)).block, (ad'.add (k * 13)).off + 1, none⟩ = some (.int .u8 y.k) := HL0'.out 1 _ rfl
        have hy2 : wr.cell? ⟨(ad'.add (k * 13)).block, (ad'.add (k * 13)).off + 2, none⟩ = some (.int .i64 y.sv) := HL0'.out 2 _ rfl
        have hy3 : wr.cell? ⟨(ad'.add (k * 13)).block, (ad'.add (k * 13)).off + 3, none⟩ = some (.string y.ru) := HL0'.out 3 _ rfl
        have hy4 : wr.cell? ⟨(ad'.add (k * 13)).block, (ad'.add (k * 13)).off + 4, none⟩ = some (.string y.fm) := HL0'.out 4 _ rfl
        have hy5 : wr.cell? ⟨(ad'.add (k * 13)).block, (ad'.add (k * 13)).off + 5, none⟩ = some (.bool y.en) := HL0'.out 5 _ rfl
        have hy6 : wr.cell? ⟨(ad'.add (k * 13)).block, (ad'.add (k * 13)).off + 6, none⟩ = some (.int .i64 y.u.y) := HL0'.out 6 _ rfl
        have hy7 : wr.cell? ⟨(ad'.add (k * 13)).block, (ad'.add (k * 13)).off + 7, none⟩ = some (.int .i64 y.u.m) := HL0'.out 7 _ rfl
        have hy8 : wr.cell? ⟨(ad'.add (k * 13)).block, (ad'.add (k * 13)).off + 8, none⟩ = some (.int .u8 y.u.k) := HL0'.out 8 _ rfl
        have hy9 : wr.cell? ⟨(ad'.add (k * 13)).block, (ad'.add (k * 13)).off + 9, none⟩ = some (.int .i64 y.u.n) := HL0'.out 9 _ rfl
        have hy10 : wr.cell? ⟨(ad'.add (k * 13)).block, (ad'.add (k * 13)).off + 10, none⟩ = some (.int .i64 y.u.d) := HL0'.out 10 _ rfl
        have hy11 : wr.cell? ⟨(ad'.add (k * 13)).block, (ad'.add (k * 13)).off + 11, none⟩ = some (.int .i64 y.u.s) := HL0'.out 11 _ rfl
        have hy12 : wr.cell? ⟨(ad'.add (k * 13)).block, (ad'.add (k * 13)).off + 12, none⟩ = some (.int .u8 y.u.c) := HL0'.out 12 _ rfl
        have HN := Ix.same_next HK.out Hx.out Hy.out
        cases hq : x.same y with
        | true =>
          rw [hq] at HN
          replace HN := Lib.hid HN
          have hE : ∀ W, (Op.equalIn 10000 50 x.v y.v).run Tryd.prog W = .ok true W := fun W => by rw [eq_era, hq]
          unfold Er.E.v at hE
          clear hq
          go_wp2_with fail
          go_quiet (fail)
          go_wp2
          go_roundw
          case rel => exact ⟨k + 1, by omega, by go_num, HN.out, HD.out.drewN _⟩
          case measure => simp [intOf]; omega
        | false =>
          rw [hq] at HN
          replace HN := Lib.hid HN
          have hE : ∀ W, (Op.equalIn 10000 50 x.v y.v).run Tryd.prog W = .ok false W := fun W => by rw [eq_era, hq]
          unfold Er.E.v at hE
          clear hq
          go_wp2_with fail
          go_quiet (fail)
          go_wp2
          go_ret
          exact ⟨ret_bool HN.out.symm, HD.out.drewN _⟩
      · have q2 : ¬ (k : Int) < (n : Int) := by omega
        have HE := Lib.hid (Ix.same_end HK.out (by rw [HL.out]; omega) (by rw [HL'.out]; omega))
        go_wp2
        go_ret
        exact ⟨ret_bool HE.out.symm, HD.out⟩
  · have q1 : ((n : Int) == (n' : Int)) = false := by rw [beq_eq_false_iff_ne]; omega
    have HE := Lib.hid (Ix.same_len (f := Er.E.same) (xs := xs) (ys := ys) (by omega))
    rw [← hX]
    clear hX hr hr' hl hl'
    go_enter Tryd.func54, Tryd.ntmps54
    go_wp2
    go_ret
    exact ⟨ret_bool HE.out.symm, Drew.refl w⟩
/-- Two links agree. -/
def Src.lsame (r s : Src.Txt × Src.Txt) : Bool := decide (r.1 = s.1) && decide (r.2 = s.2)
theorem Src.lsame_iff (r s : Src.Txt × Src.Txt) : Src.lsame r s = true ↔ r = s := by
  obtain ⟨a0, a1⟩ := r
  obtain ⟨b0, b1⟩ := s
  simp [Src.lsame]
theorem Src.bts_iff (a b : Src.Txt) : Src.bts a = Src.bts b ↔ a = b := by
  constructor
  · intro h
    have h1 := congrArg ByteArray.data h
    have h2 := congrArg Array.toList h1
    simpa [Src.bts] using h2
  · intro h
    rw [h]
set_option maxHeartbeats 800000 in
theorem eq_link (r s : Src.Txt × Src.Txt) (w : World) : (Op.equalIn 10000 89 (Src.lv r) (Src.lv s)).run Tryd.prog w = .ok (Src.lsame r s) w := by
  obtain ⟨a0, a1⟩ := r
  obtain ⟨b0, b1⟩ := s
  unfold Src.lv Src.lsame
  simp only
  go_simp
  simp only [toList_eq_iff, Src.bts_iff]
  refine if_and ?_
  exact if_last _ w
set_option maxHeartbeats 2000000 in
set_option maxRecDepth 100000 in
theorem eqs_link (A A' : Option Addr) (n c n' c' : Nat) (xs ys : List (Src.Txt × Src.Txt)) (w : World) (hn : n ≤ maxLen) (hn' : n' ≤ maxLen) (hl : xs.length = n) (hl' : ys.length = n')
    (hr : Reads w w.heap.size 2 A n (xs.flatMap Src.lc)) (hr' : Reads w w.heap.size 2 A' n' (ys.flatMap Src.lc)) :
    Calls Tryd.prog 57 #[.slice A n c, .slice A' n' c'] w fun e w' => e = .returned (.bool (Ix.same Src.lsame xs ys)) ∧ Drew w w' := by
  unfold maxLen at hn hn'
  obtain ⟨X, hX⟩ : ∃ X, Ix.same Src.lsame xs ys = X := ⟨_, rfl⟩
  rw [hX]
  by_cases hne : n = n'
  · subst hne
    have HX := Lib.hid hX
    have HR := Lib.hid hr
    have HR' := Lib.hid hr'
    have HL := Lib.hid hl
    have HL' := Lib.hid hl'
    clear hX hr hr' hl hl'
    go_enter Tryd.func57, Tryd.ntmps57
    go_wp2
    go_loopw [5, 13] (fun _ i wr => ∃ k : Nat, k ≤ n ∧ i = .int .i64 k ∧ Hid (X = Ix.same Src.lsame (xs.drop k) (ys.drop k)) ∧ Hid (Drew w wr)) (fun _ i _ => n - (intOf i).toNat)
    case atStart => exact ⟨0, Nat.zero_le _, rfl, HX.out.symm, Drew.refl _⟩
    case round =>
      obtain ⟨k, hk, rfl, HK, HD⟩ := hrel
      by_cases hlt : k < n
      · have q2 : (k : Int) < (n : Int) := by omega
        have q1 : (0 : Int) ≤ (k : Int) := by omega
        obtain ⟨ad, x, rfl, hab, Hx, HL0⟩ := Ix.reads_cells (enc := Src.lc) (m := 2) (fun _ => rfl) HL.out (HR.out.of_drew HD.out) hlt
        obtain ⟨ad', y, rfl, hab', Hy, HL0'⟩ := Ix.reads_cells (enc := Src.lc) (m := 2) (fun _ => rfl) HL'.out (HR'.out.of_drew HD.out) hlt
        have hx0 : wr.cell? (ad.add (k * 2)) = some (.string (Src.bts x.1)) := HL0.out 0 _ rfl
        have hx1 : wr.cell? ⟨(ad.add (k * 2)).block, (ad.add (k * 2)).off + 1, none⟩ = some (.string (Src.bts x.2)) := HL0.out 1 _ rfl
        have hy0 : wr.cell? (ad'.add (k * 2)) = some (.string (Src.bts y.1)) := HL0'.out 0 _ rfl
        have hy1 : wr.cell? ⟨(ad'.add (k * 2)).block, (ad'.add (k * 2)).off + 1, none⟩ = some (.string (Src.bts y.2)) := HL0'.out 1 _ rfl
        have HN := Ix.same_next HK.out Hx.out Hy.out
        cases hq : Src.lsame x y with
        | true =>
          rw [hq] at HN
          replace HN := Lib.hid HN
          have hE : ∀ W, (Op.equalIn 10000 89 (Src.lv x) (Src.lv y)).run Tryd.prog W = .ok true W := fun W => by rw [eq_link, hq]
          unfold Src.lv at hE
          clear hq
          go_wp2_with fail
          go_quiet (fail)
          go_wp2
          go_roundw
          case rel => exact ⟨k + 1, by omega, by go_num, HN.out, HD.out.drewN _⟩
          case measure => simp [intOf]; omega
        | false =>
          rw [hq] at HN
          replace HN := Lib.hid HN
          have hE : ∀ W, (Op.equalIn 10000 89 (Src.lv x) (Src.lv y)).run Tryd.prog W = .ok false W := fun W => by rw [eq_link, hq]
          unfold Src.lv at hE
          clear hq
          go_wp2_with fail
          go_quiet (fail)
          go_wp2
          go_ret
          exact ⟨ret_bool HN.out.symm, HD.out.drewN _⟩
      · have q2 : ¬ (k : Int) < (n : Int) := by omega
        have HE := Lib.hid (Ix.same_end HK.out (by rw [HL.out]; omega) (by rw [HL'.out]; omega))
        go_wp2
        go_ret
        exact ⟨ret_bool HE.out.symm, HD.out⟩
  · have q1 : ((n : Int) == (n' : Int)) = false := by rw [beq_eq_false_iff_ne]; omega
    have HE := Lib.hid (Ix.same_len (f := Src.lsame) (xs := xs) (ys := ys) (by omega))
    rw [← hX]
    clear hX hr hr' hl hl'
    go_enter Tryd.func57, Tryd.ntmps57
    go_wp2
    go_ret
    exact ⟨ret_bool HE.out.symm, Drew.refl w⟩
end Go.Proofs.YtmobejhfajnbhaaDoor
