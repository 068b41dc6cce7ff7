/- Three chains of appends in one region that draws its order: the invariant. -/
import Derived.Test.YtmobejhfajnbhaaDoorK45
namespace Go.Proofs.YtmobejhfajnbhaaDoor
open Go.RowKit

namespace Al
open Od
/-- A chain: what its elements are; the two slices that are put behind one another. -/
structure Ch where
  e : TypeId
  size : Nat
  X : Value
  Y : Value
  nx : Nat
  ny : Nat
  xs : List Value
  ys : List Value
def cur (c : Ch) (i : Nat) (b : Nat → Bool) (u : Nat → Value) : Row :=
  if b (i + 6) = true then ⟨c.e, c.size, u (109 + i), c.nx + c.ny, c.xs ++ c.ys⟩ else if b (i + 3) = true then ⟨c.e, c.size, u (106 + i), c.nx, c.xs⟩ else if b i = true then ⟨c.e, c.size, u (103 + i), 0, []⟩ else ⟨c.e, c.size, .slice none 0 0, 0, []⟩
/-- What is known of a chain's loads. -/
structure Ld (c : Ch) (i f b5 b7 : Nat) (b : Nat → Bool) (u : Nat → Value) : Prop where
  p : b (i + 1) = true → u (104 + i) = .pointer (some ⟨b5, f, none⟩)
  x : b (i + 2) = true → u (105 + i) = c.X
  q : b (i + 4) = true → u (107 + i) = .pointer (some ⟨b7, f, none⟩)
  y : b (i + 5) = true → u (108 + i) = c.Y
  d6 : b (i + 6) = true → b (i + 3) = true
  d3 : b (i + 3) = true → b i = true
structure J (w0 : World) (u0 : Nat → Value) (b5 b7 : Nat) (c0 c1 c2 : Ch) (b : Nat → Bool) (u : Nat → Value) (w : World) : Prop where
  below : Below w0.heap.size w0 w
  old : ∀ k, k < 103 → k ≠ 13 → u k = u0 k
  l0 : Ld c0 0 0 b5 b7 b u
  l1 : Ld c1 7 1 b5 b7 b u
  l2 : Ld c2 14 2 b5 b7 b u
  many : Many w0.heap.size w [cur c0 0 b u, cur c1 7 b u, cur c2 14 b u]
  bd : b 21 = true → (b 6 = true ∧ b 13 = true ∧ b 20 = true) ∧ u 124 = .agg #[u 109, u 116, u 123]
  st : b 23 = true → b 21 = true ∧ b 22 = true
  al : b 22 = true → ∃ g, u 13 = .pointer (some ⟨g, 0, none⟩) ∧ w0.heap.size ≤ g ∧ At w g (if b 23 = true then [u 109, u 116, u 123] else [.slice none 0 0, .slice none 0 0, .slice none 0 0]) ∧ ∀ r ∈ [cur c0 0 b u, cur c1 7 b u, cur c2 14 b u], r.v.ownBlock ≠ some g
section
variable {w0 w w' : World} {u0 u : Nat → Value} {b5 b7 : Nat} {c0 c1 c2 : Ch} {b : Nat → Bool}
--STEPS
theorem J.p0 (h : J w0 u0 b5 b7 c0 c1 c2 b u w) : J w0 u0 b5 b7 c0 c1 c2 (upd b 1 true) (upd u 104 (.pointer (some ⟨b5, 0, none⟩))) w :=
  ⟨h.below, fun k h1 h2 => by unfold upd; rw [if_neg (by omega)]; exact h.old k h1 h2, ⟨fun _ => rfl, h.l0.x, h.l0.q, h.l0.y, h.l0.d6, h.l0.d3⟩, ⟨h.l1.p, h.l1.x, h.l1.q, h.l1.y, h.l1.d6, h.l1.d3⟩, ⟨h.l2.p, h.l2.x, h.l2.q, h.l2.y, h.l2.d6, h.l2.d3⟩, h.many, h.bd, h.st, h.al⟩
theorem J.x0 (h : J w0 u0 b5 b7 c0 c1 c2 b u w) : J w0 u0 b5 b7 c0 c1 c2 (upd b 2 true) (upd u 105 (c0.X)) w :=
  ⟨h.below, fun k h1 h2 => by unfold upd; rw [if_neg (by omega)]; exact h.old k h1 h2, ⟨h.l0.p, fun _ => rfl, h.l0.q, h.l0.y, h.l0.d6, h.l0.d3⟩, ⟨h.l1.p, h.l1.x, h.l1.q, h.l1.y, h.l1.d6, h.l1.d3⟩, ⟨h.l2.p, h.l2.x, h.l2.q, h.l2.y, h.l2.d6, h.l2.d3⟩, h.many, h.bd, h.st, h.al⟩
theorem J.q0 (h : J w0 u0 b5 b7 c0 c1 c2 b u w) : J w0 u0 b5 b7 c0 c1 c2 (upd b 4 true) (upd u 107 (.pointer (some ⟨b7, 0, none⟩))) w :=
  ⟨h.below, fun k h1 h2 => by unfold upd; rw [if_neg (by omega)]; exact h.old k h1 h2, ⟨h.l0.p, h.l0.x, fun _ => rfl, h.l0.y, h.l0.d6, h.l0.d3⟩, ⟨h.l1.p, h.l1.x, h.l1.q, h.l1.y, h.l1.d6, h.l1.d3⟩, ⟨h.l2.p, h.l2.x, h.l2.q, h.l2.y, h.l2.d6, h.l2.d3⟩, h.many, h.bd, h.st, h.al⟩
theorem J.y0 (h : J w0 u0 b5 b7 c0 c1 c2 b u w) : J w0 u0 b5 b7 c0 c1 c2 (upd b 5 true) (upd u 108 (c0.Y)) w :=
  ⟨h.below, fun k h1 h2 => by unfold upd; rw [if_neg (by omega)]; exact h.old k h1 h2, ⟨h.l0.p, h.l0.x, h.l0.q, fun _ => rfl, h.l0.d6, h.l0.d3⟩, ⟨h.l1.p, h.l1.x, h.l1.q, h.l1.y, h.l1.d6, h.l1.d3⟩, ⟨h.l2.p, h.l2.x, h.l2.q, h.l2.y, h.l2.d6, h.l2.d3⟩, h.many, h.bd, h.st, h.al⟩
theorem J.p1 (h : J w0 u0 b5 b7 c0 c1 c2 b u w) : J w0 u0 b5 b7 c0 c1 c2 (upd b 8 true) (upd u 111 (.pointer (some ⟨b5, 1, none⟩))) w :=
  ⟨h.below, fun k h1 h2 => by unfold upd; rw [if_neg (by omega)]; exact h.old k h1 h2, ⟨h.l0.p, h.l0.x, h.l0.q, h.l0.y, h.l0.d6, h.l0.d3⟩, ⟨fun _ => rfl, h.l1.x, h.l1.q, h.l1.y, h.l1.d6, h.l1.d3⟩, ⟨h.l2.p, h.l2.x, h.l2.q, h.l2.y, h.l2.d6, h.l2.d3⟩, h.many, h.bd, h.st, h.al⟩
theorem J.x1 (h : J w0 u0 b5 b7 c0 c1 c2 b u w) : J w0 u0 b5 b7 c0 c1 c2 (upd b 9 true) (upd u 112 (c1.X)) w :=
  ⟨h.below, fun k h1 h2 => by unfold upd; rw [if_neg (by omega)]; exact h.old k h1 h2, ⟨h.l0.p, h.l0.x, h.l0.q, h.l0.y, h.l0.d6, h.l0.d3⟩, ⟨h.l1.p, fun _ => rfl, h.l1.q, h.l1.y, h.l1.d6, h.l1.d3⟩, ⟨h.l2.p, h.l2.x, h.l2.q, h.l2.y, h.l2.d6, h.l2.d3⟩, h.many, h.bd, h.st, h.al⟩
theorem J.q1 (h : J w0 u0 b5 b7 c0 c1 c2 b u w) : J w0 u0 b5 b7 c0 c1 c2 (upd b 11 true) (upd u 114 (.pointer (some ⟨b7, 1, none⟩))) w :=
  ⟨h.below, fun k h1 h2 => by unfold upd; rw [if_neg (by omega)]; exact h.old k h1 h2, ⟨h.l0.p, h.l0.x, h.l0.q, h.l0.y, h.l0.d6, h.l0.d3⟩, ⟨h.l1.p, h.l1.x, fun _ => rfl, h.l1.y, h.l1.d6, h.l1.d3⟩, ⟨h.l2.p, h.l2.x, h.l2.q, h.l2.y, h.l2.d6, h.l2.d3⟩, h.many, h.bd, h.st, h.al⟩
theorem J.y1 (h : J w0 u0 b5 b7 c0 c1 c2 b u w) : J w0 u0 b5 b7 c0 c1 c2 (upd b 12 true) (upd u 115 (c1.Y)) w :=
  ⟨h.below, fun k h1 h2 => by unfold upd; rw [if_neg (by omega)]; exact h.old k h1 h2, ⟨h.l0.p, h.l0.x, h.l0.q, h.l0.y, h.l0.d6, h.l0.d3⟩, ⟨h.l1.p, h.l1.x, h.l1.q, fun _ => rfl, h.l1.d6, h.l1.d3⟩, ⟨h.l2.p, h.l2.x, h.l2.q, h.l2.y, h.l2.d6, h.l2.d3⟩, h.many, h.bd, h.st, h.al⟩
theorem J.p2 (h : J w0 u0 b5 b7 c0 c1 c2 b u w) : J w0 u0 b5 b7 c0 c1 c2 (upd b 15 true) (upd u 118 (.pointer (some ⟨b5, 2, none⟩))) w :=
  ⟨h.below, fun k h1 h2 => by unfold upd; rw [if_neg (by omega)]; exact h.old k h1 h2, ⟨h.l0.p, h.l0.x, h.l0.q, h.l0.y, h.l0.d6, h.l0.d3⟩, ⟨h.l1.p, h.l1.x, h.l1.q, h.l1.y, h.l1.d6, h.l1.d3⟩, ⟨fun _ => rfl, h.l2.x, h.l2.q, h.l2.y, h.l2.d6, h.l2.d3⟩, h.many, h.bd, h.st, h.al⟩
theorem J.x2 (h : J w0 u0 b5 b7 c0 c1 c2 b u w) : J w0 u0 b5 b7 c0 c1 c2 (upd b 16 true) (upd u 119 (c2.X)) w :=
  ⟨h.below, fun k h1 h2 => by unfold upd; rw [if_neg (by omega)]; exact h.old k h1 h2, ⟨h.l0.p, h.l0.x, h.l0.q, h.l0.y, h.l0.d6, h.l0.d3⟩, ⟨h.l1.p, h.l1.x, h.l1.q, h.l1.y, h.l1.d6, h.l1.d3⟩, ⟨h.l2.p, fun _ => rfl, h.l2.q, h.l2.y, h.l2.d6, h.l2.d3⟩, h.many, h.bd, h.st, h.al⟩
theorem J.q2 (h : J w0 u0 b5 b7 c0 c1 c2 b u w) : J w0 u0 b5 b7 c0 c1 c2 (upd b 18 true) (upd u 121 (.pointer (some ⟨b7, 2, none⟩))) w :=
  ⟨h.below, fun k h1 h2 => by unfold upd; rw [if_neg (by omega)]; exact h.old k h1 h2, ⟨h.l0.p, h.l0.x, h.l0.q, h.l0.y, h.l0.d6, h.l0.d3⟩, ⟨h.l1.p, h.l1.x, h.l1.q, h.l1.y, h.l1.d6, h.l1.d3⟩, ⟨h.l2.p, h.l2.x, fun _ => rfl, h.l2.y, h.l2.d6, h.l2.d3⟩, h.many, h.bd, h.st, h.al⟩
theorem J.y2 (h : J w0 u0 b5 b7 c0 c1 c2 b u w) : J w0 u0 b5 b7 c0 c1 c2 (upd b 19 true) (upd u 122 (c2.Y)) w :=
  ⟨h.below, fun k h1 h2 => by unfold upd; rw [if_neg (by omega)]; exact h.old k h1 h2, ⟨h.l0.p, h.l0.x, h.l0.q, h.l0.y, h.l0.d6, h.l0.d3⟩, ⟨h.l1.p, h.l1.x, h.l1.q, h.l1.y, h.l1.d6, h.l1.d3⟩, ⟨h.l2.p, h.l2.x, h.l2.q, fun _ => rfl, h.l2.d6, h.l2.d3⟩, h.many, h.bd, h.st, h.al⟩
theorem Many.at1 {B : Nat} {w : World} {r0 r1 r2 : Row} (h : Many B w [r0, r1, r2]) : Many B w [r1, r0, r2] := h.perm (List.Perm.swap _ _ _)
theorem Many.at2 {B : Nat} {w : World} {r0 r1 r2 : Row} (h : Many B w [r0, r1, r2]) : Many B w [r2, r0, r1] := h.perm ((List.Perm.cons _ (List.Perm.swap _ _ _)).trans (List.Perm.swap _ _ _))
theorem Many.of1 {B : Nat} {w : World} {r0 r1 r2 : Row} (h : Many B w [r1, r0, r2]) : Many B w [r0, r1, r2] := h.perm (List.Perm.swap _ _ _)
theorem Many.of2 {B : Nat} {w : World} {r0 r1 r2 : Row} (h : Many B w [r2, r0, r1]) : Many B w [r0, r1, r2] := h.perm ((List.Perm.swap _ _ _).trans (List.Perm.cons _ (List.Perm.swap _ _ _)))
theorem no_true {x : Bool} (h : x = false) (h' : x = true) : False := by rw [h] at h'; cases h'
theorem J.bs0 (h : J w0 u0 b5 b7 c0 c1 c2 b u w) (hb : b 0 = false) : J w0 u0 b5 b7 c0 c1 c2 (upd b 0 true) (upd u 103 (.slice (some ⟨w.heap.size, 0, none⟩) 0 0)) (w.alloc (.cells #[] c0.e)) := by
  have hb3 : b 3 = false := by
    cases e : b 3 with
    | false => rfl
    | true => exact (no_true hb (h.l0.d3 e)).elim
  have hb6 : b 6 = false := by
    cases e : b 6 with
    | false => rfl
    | true => exact (no_true hb3 (h.l0.d6 e)).elim
  have hn21 : b 21 = false := by
    cases e : b 21 with
    | false => rfl
    | true => exact (no_true hb (h.l0.d3 (h.l0.d6 (h.bd e).1.1))).elim
  have hn23 : b 23 = false := by
    cases e : b 23 with
    | false => rfl
    | true => exact (no_true hn21 (h.st e).1).elim
  have e1 : cur c0 0 b u = ⟨c0.e, c0.size, .slice none 0 0, 0, []⟩ := by unfold cur; simp [hb, hb3, hb6]
  have e2 : cur c0 0 (upd b 0 true) (upd u 103 (.slice (some ⟨w.heap.size, 0, none⟩) 0 0)) = ⟨c0.e, c0.size, .slice (some ⟨w.heap.size, 0, none⟩) 0 0, 0, []⟩ := by
    unfold cur
    simp [upd, hb3, hb6]
  have hm := h.many
  rw [e1] at hm
  have hown0 := hm.own _ List.mem_cons_self
  have hm' := hm.grow1 (v' := .slice (some ⟨w.heap.size, 0, none⟩) 0 0) (n' := 0) (xs' := []) (World.ownsRow_made w #[] 0 h.below.size (Nat.zero_le _) (by simp)) (World.grownBy_alloc w _ none) (.inr rfl)
  refine ⟨(h.below.alloc h.below.size _), fun k h1 h2 => by unfold upd; rw [if_neg (by omega)]; exact h.old k h1 h2, ⟨h.l0.p, h.l0.x, h.l0.q, h.l0.y, h.l0.d6, fun _ => rfl⟩, ⟨h.l1.p, h.l1.x, h.l1.q, h.l1.y, h.l1.d6, h.l1.d3⟩, ⟨h.l2.p, h.l2.x, h.l2.q, h.l2.y, h.l2.d6, h.l2.d3⟩, ?_, fun e => (no_true hn21 e).elim, h.st, ?_⟩
  · show Many _ _ [cur c0 0 _ _, cur c1 7 _ _, cur c2 14 _ _]
    rw [e2]
    exact hm'
  · intro hb22
    obtain ⟨g, hg1, hg2, hg3, hg4⟩ := h.al hb22
    rw [hn23, if_neg (by decide)] at hg3
    have hgl := hg3.lt
    have h4 := hg4 (cur c0 0 b u) (by simp)
    rw [e1] at h4
    refine ⟨g, hg1, hg2, ?_, ?_⟩
    · show At _ g (if b 23 = true then _ else _)
      rw [hn23, if_neg (by decide)]
      exact hg3.allocO _
    · intro r hr
      have hr' : r = cur c0 0 (upd b 0 true) (upd u 103 (.slice (some ⟨w.heap.size, 0, none⟩) 0 0)) ∨ r = cur c1 7 (upd b 0 true) (upd u 103 (.slice (some ⟨w.heap.size, 0, none⟩) 0 0)) ∨ r = cur c2 14 (upd b 0 true) (upd u 103 (.slice (some ⟨w.heap.size, 0, none⟩) 0 0)) := by simpa using hr
      rcases hr' with rfl | rfl | rfl
      · rw [e2]
        intro e
        have e : some w.heap.size = some g := e
        injection e with e
        omega
      · exact hg4 (cur c1 7 b u) (by simp)
      · exact hg4 (cur c2 14 b u) (by simp)
theorem J.ap0 (h : J w0 u0 b5 b7 c0 c1 c2 b u w) (hb : b 3 = false) {v' : Value} (hd : b 0 = true) (hown : w'.ownsRow w0.heap.size c0.e c0.size v' (c0.nx) (c0.xs)) (hg : w.grownBy w' (u 103).ownBlock) (hat : v'.ownBlock = (u 103).ownBlock ∨ v'.ownBlock = some w.heap.size) : J w0 u0 b5 b7 c0 c1 c2 (upd b 3 true) (upd u 106 v') w' := by
  have hb6 : b 6 = false := by
    cases e : b 6 with
    | false => rfl
    | true => exact (no_true hb (h.l0.d6 e)).elim
  have hn21 : b 21 = false := by
    cases e : b 21 with
    | false => rfl
    | true => exact (no_true hb (h.l0.d6 (h.bd e).1.1)).elim
  have hn23 : b 23 = false := by
    cases e : b 23 with
    | false => rfl
    | true => exact (no_true hn21 (h.st e).1).elim
  have e1 : cur c0 0 b u = ⟨c0.e, c0.size, u 103, 0, []⟩ := by unfold cur; simp [hb, hb6, hd]
  have e2 : cur c0 0 (upd b 3 true) (upd u 106 v') = ⟨c0.e, c0.size, v', c0.nx, c0.xs⟩ := by
    unfold cur
    simp [upd, hb6]
  have hm := h.many
  rw [e1] at hm
  have hown0 := hm.own _ List.mem_cons_self
  have hm' := hm.grow1 (r := ⟨c0.e, c0.size, u 103, 0, []⟩) hown hg hat
  refine ⟨(h.below.grown hg h.below.size (fun kk hkk => (hown0.lt kk hkk).1)), fun k h1 h2 => by unfold upd; rw [if_neg (by omega)]; exact h.old k h1 h2, ⟨h.l0.p, h.l0.x, h.l0.q, h.l0.y, fun _ => rfl, fun _ => hd⟩, ⟨h.l1.p, h.l1.x, h.l1.q, h.l1.y, h.l1.d6, h.l1.d3⟩, ⟨h.l2.p, h.l2.x, h.l2.q, h.l2.y, h.l2.d6, h.l2.d3⟩, ?_, fun e => (no_true hn21 e).elim, h.st, ?_⟩
  · show Many _ _ [cur c0 0 _ _, cur c1 7 _ _, cur c2 14 _ _]
    rw [e2]
    exact hm'
  · intro hb22
    obtain ⟨g, hg1, hg2, hg3, hg4⟩ := h.al hb22
    rw [hn23, if_neg (by decide)] at hg3
    have hgl := hg3.lt
    have h4 := hg4 (cur c0 0 b u) (by simp)
    rw [e1] at h4
    refine ⟨g, hg1, hg2, ?_, ?_⟩
    · show At _ g (if b 23 = true then _ else _)
      rw [hn23, if_neg (by decide)]
      exact (Sc.At.grownO hg3 hg (fun kk hkk e => h4 (by rw [e]; exact hkk)))
    · intro r hr
      have hr' : r = cur c0 0 (upd b 3 true) (upd u 106 v') ∨ r = cur c1 7 (upd b 3 true) (upd u 106 v') ∨ r = cur c2 14 (upd b 3 true) (upd u 106 v') := by simpa using hr
      rcases hr' with rfl | rfl | rfl
      · rw [e2]
        rcases hat with e | e
        · intro e'
          exact h4 (e.symm.trans e')
        · intro e'
          have e'' : some w.heap.size = some g := e.symm.trans e'
          injection e'' with e''
          omega
      · exact hg4 (cur c1 7 b u) (by simp)
      · exact hg4 (cur c2 14 b u) (by simp)
theorem J.own_ap0 (h : J w0 u0 b5 b7 c0 c1 c2 b u w) (hb : b 3 = false) (hd : b 0 = true) : w.ownsRow w0.heap.size c0.e c0.size (u 103) (0) ([]) := by
  have hb6 : b 6 = false := by
    cases e : b 6 with
    | false => rfl
    | true => exact (no_true hb (h.l0.d6 e)).elim
  have e1 : cur c0 0 b u = ⟨c0.e, c0.size, u 103, 0, []⟩ := by unfold cur; simp [hb, hb6, hd]
  have hm := h.many.own (cur c0 0 b u) (by simp)
  rw [e1] at hm
  exact hm
theorem J.aq0 (h : J w0 u0 b5 b7 c0 c1 c2 b u w) (hb : b 6 = false) {v' : Value} (hd : b 3 = true) (hown : w'.ownsRow w0.heap.size c0.e c0.size v' (c0.nx + c0.ny) (c0.xs ++ c0.ys)) (hg : w.grownBy w' (u 106).ownBlock) (hat : v'.ownBlock = (u 106).ownBlock ∨ v'.ownBlock = some w.heap.size) : J w0 u0 b5 b7 c0 c1 c2 (upd b 6 true) (upd u 109 v') w' := by
  have hn21 : b 21 = false := by
    cases e : b 21 with
    | false => rfl
    | true => exact (no_true hb ((h.bd e).1.1)).elim
  have hn23 : b 23 = false := by
    cases e : b 23 with
    | false => rfl
    | true => exact (no_true hn21 (h.st e).1).elim
  have e1 : cur c0 0 b u = ⟨c0.e, c0.size, u 106, c0.nx, c0.xs⟩ := by unfold cur; simp [hb, hd]
  have e2 : cur c0 0 (upd b 6 true) (upd u 109 v') = ⟨c0.e, c0.size, v', c0.nx + c0.ny, c0.xs ++ c0.ys⟩ := by
    unfold cur
    simp [upd, ]
  have hm := h.many
  rw [e1] at hm
  have hown0 := hm.own _ List.mem_cons_self
  have hm' := hm.grow1 (r := ⟨c0.e, c0.size, u 106, c0.nx, c0.xs⟩) hown hg hat
  refine ⟨(h.below.grown hg h.below.size (fun kk hkk => (hown0.lt kk hkk).1)), fun k h1 h2 => by unfold upd; rw [if_neg (by omega)]; exact h.old k h1 h2, ⟨h.l0.p, h.l0.x, h.l0.q, h.l0.y, fun _ => hd, h.l0.d3⟩, ⟨h.l1.p, h.l1.x, h.l1.q, h.l1.y, h.l1.d6, h.l1.d3⟩, ⟨h.l2.p, h.l2.x, h.l2.q, h.l2.y, h.l2.d6, h.l2.d3⟩, ?_, fun e => (no_true hn21 e).elim, h.st, ?_⟩
  · show Many _ _ [cur c0 0 _ _, cur c1 7 _ _, cur c2 14 _ _]
    rw [e2]
    exact hm'
  · intro hb22
    obtain ⟨g, hg1, hg2, hg3, hg4⟩ := h.al hb22
    rw [hn23, if_neg (by decide)] at hg3
    have hgl := hg3.lt
    have h4 := hg4 (cur c0 0 b u) (by simp)
    rw [e1] at h4
    refine ⟨g, hg1, hg2, ?_, ?_⟩
    · show At _ g (if b 23 = true then _ else _)
      rw [hn23, if_neg (by decide)]
      exact (Sc.At.grownO hg3 hg (fun kk hkk e => h4 (by rw [e]; exact hkk)))
    · intro r hr
      have hr' : r = cur c0 0 (upd b 6 true) (upd u 109 v') ∨ r = cur c1 7 (upd b 6 true) (upd u 109 v') ∨ r = cur c2 14 (upd b 6 true) (upd u 109 v') := by simpa using hr
      rcases hr' with rfl | rfl | rfl
      · rw [e2]
        rcases hat with e | e
        · intro e'
          exact h4 (e.symm.trans e')
        · intro e'
          have e'' : some w.heap.size = some g := e.symm.trans e'
          injection e'' with e''
          omega
      · exact hg4 (cur c1 7 b u) (by simp)
      · exact hg4 (cur c2 14 b u) (by simp)
theorem J.own_aq0 (h : J w0 u0 b5 b7 c0 c1 c2 b u w) (hb : b 6 = false) (hd : b 3 = true) : w.ownsRow w0.heap.size c0.e c0.size (u 106) (c0.nx) (c0.xs) := by
  have e1 : cur c0 0 b u = ⟨c0.e, c0.size, u 106, c0.nx, c0.xs⟩ := by unfold cur; simp [hb, hd]
  have hm := h.many.own (cur c0 0 b u) (by simp)
  rw [e1] at hm
  exact hm
theorem J.bs1 (h : J w0 u0 b5 b7 c0 c1 c2 b u w) (hb : b 7 = false) : J w0 u0 b5 b7 c0 c1 c2 (upd b 7 true) (upd u 110 (.slice (some ⟨w.heap.size, 0, none⟩) 0 0)) (w.alloc (.cells #[] c1.e)) := by
  have hb3 : b 10 = false := by
    cases e : b 10 with
    | false => rfl
    | true => exact (no_true hb (h.l1.d3 e)).elim
  have hb6 : b 13 = false := by
    cases e : b 13 with
    | false => rfl
    | true => exact (no_true hb3 (h.l1.d6 e)).elim
  have hn21 : b 21 = false := by
    cases e : b 21 with
    | false => rfl
    | true => exact (no_true hb (h.l1.d3 (h.l1.d6 (h.bd e).1.2.1))).elim
  have hn23 : b 23 = false := by
    cases e : b 23 with
    | false => rfl
    | true => exact (no_true hn21 (h.st e).1).elim
  have e1 : cur c1 7 b u = ⟨c1.e, c1.size, .slice none 0 0, 0, []⟩ := by unfold cur; simp [hb, hb3, hb6]
  have e2 : cur c1 7 (upd b 7 true) (upd u 110 (.slice (some ⟨w.heap.size, 0, none⟩) 0 0)) = ⟨c1.e, c1.size, .slice (some ⟨w.heap.size, 0, none⟩) 0 0, 0, []⟩ := by
    unfold cur
    simp [upd, hb3, hb6]
  have hm := Many.at1 h.many
  rw [e1] at hm
  have hown0 := hm.own _ List.mem_cons_self
  have hm' := hm.grow1 (v' := .slice (some ⟨w.heap.size, 0, none⟩) 0 0) (n' := 0) (xs' := []) (World.ownsRow_made w #[] 0 h.below.size (Nat.zero_le _) (by simp)) (World.grownBy_alloc w _ none) (.inr rfl)
  refine ⟨(h.below.alloc h.below.size _), fun k h1 h2 => by unfold upd; rw [if_neg (by omega)]; exact h.old k h1 h2, ⟨h.l0.p, h.l0.x, h.l0.q, h.l0.y, h.l0.d6, h.l0.d3⟩, ⟨h.l1.p, h.l1.x, h.l1.q, h.l1.y, h.l1.d6, fun _ => rfl⟩, ⟨h.l2.p, h.l2.x, h.l2.q, h.l2.y, h.l2.d6, h.l2.d3⟩, ?_, fun e => (no_true hn21 e).elim, h.st, ?_⟩
  · show Many _ _ [cur c0 0 _ _, cur c1 7 _ _, cur c2 14 _ _]
    rw [e2]
    exact Many.of1 hm'
  · intro hb22
    obtain ⟨g, hg1, hg2, hg3, hg4⟩ := h.al hb22
    rw [hn23, if_neg (by decide)] at hg3
    have hgl := hg3.lt
    have h4 := hg4 (cur c1 7 b u) (by simp)
    rw [e1] at h4
    refine ⟨g, hg1, hg2, ?_, ?_⟩
    · show At _ g (if b 23 = true then _ else _)
      rw [hn23, if_neg (by decide)]
      exact hg3.allocO _
    · intro r hr
      have hr' : r = cur c0 0 (upd b 7 true) (upd u 110 (.slice (some ⟨w.heap.size, 0, none⟩) 0 0)) ∨ r = cur c1 7 (upd b 7 true) (upd u 110 (.slice (some ⟨w.heap.size, 0, none⟩) 0 0)) ∨ r = cur c2 14 (upd b 7 true) (upd u 110 (.slice (some ⟨w.heap.size, 0, none⟩) 0 0)) := by simpa using hr
      rcases hr' with rfl | rfl | rfl
      · exact hg4 (cur c0 0 b u) (by simp)
      · rw [e2]
        intro e
        have e : some w.heap.size = some g := e
        injection e with e
        omega
      · exact hg4 (cur c2 14 b u) (by simp)
theorem J.ap1 (h : J w0 u0 b5 b7 c0 c1 c2 b u w) (hb : b 10 = false) {v' : Value} (hd : b 7 = true) (hown : w'.ownsRow w0.heap.size c1.e c1.size v' (c1.nx) (c1.xs)) (hg : w.grownBy w' (u 110).ownBlock) (hat : v'.ownBlock = (u 110).ownBlock ∨ v'.ownBlock = some w.heap.size) : J w0 u0 b5 b7 c0 c1 c2 (upd b 10 true) (upd u 113 v') w' := by
  have hb6 : b 13 = false := by
    cases e : b 13 with
    | false => rfl
    | true => exact (no_true hb (h.l1.d6 e)).elim
  have hn21 : b 21 = false := by
    cases e : b 21 with
    | false => rfl
    | true => exact (no_true hb (h.l1.d6 (h.bd e).1.2.1)).elim
  have hn23 : b 23 = false := by
    cases e : b 23 with
    | false => rfl
    | true => exact (no_true hn21 (h.st e).1).elim
  have e1 : cur c1 7 b u = ⟨c1.e, c1.size, u 110, 0, []⟩ := by unfold cur; simp [hb, hb6, hd]
  have e2 : cur c1 7 (upd b 10 true) (upd u 113 v') = ⟨c1.e, c1.size, v', c1.nx, c1.xs⟩ := by
    unfold cur
    simp [upd, hb6]
  have hm := Many.at1 h.many
  rw [e1] at hm
  have hown0 := hm.own _ List.mem_cons_self
  have hm' := hm.grow1 (r := ⟨c1.e, c1.size, u 110, 0, []⟩) hown hg hat
  refine ⟨(h.below.grown hg h.below.size (fun kk hkk => (hown0.lt kk hkk).1)), fun k h1 h2 => by unfold upd; rw [if_neg (by omega)]; exact h.old k h1 h2, ⟨h.l0.p, h.l0.x, h.l0.q, h.l0.y, h.l0.d6, h.l0.d3⟩, ⟨h.l1.p, h.l1.x, h.l1.q, h.l1.y, fun _ => rfl, fun _ => hd⟩, ⟨h.l2.p, h.l2.x, h.l2.q, h.l2.y, h.l2.d6, h.l2.d3⟩, ?_, fun e => (no_true hn21 e).elim, h.st, ?_⟩
  · show Many _ _ [cur c0 0 _ _, cur c1 7 _ _, cur c2 14 _ _]
    rw [e2]
    exact Many.of1 hm'
  · intro hb22
    obtain ⟨g, hg1, hg2, hg3, hg4⟩ := h.al hb22
    rw [hn23, if_neg (by decide)] at hg3
    have hgl := hg3.lt
    have h4 := hg4 (cur c1 7 b u) (by simp)
    rw [e1] at h4
    refine ⟨g, hg1, hg2, ?_, ?_⟩
    · show At _ g (if b 23 = true then _ else _)
      rw [hn23, if_neg (by decide)]
      exact (Sc.At.grownO hg3 hg (fun kk hkk e => h4 (by rw [e]; exact hkk)))
    · intro r hr
      have hr' : r = cur c0 0 (upd b 10 true) (upd u 113 v') ∨ r = cur c1 7 (upd b 10 true) (upd u 113 v') ∨ r = cur c2 14 (upd b 10 true) (upd u 113 v') := by simpa using hr
      rcases hr' with rfl | rfl | rfl
      · exact hg4 (cur c0 0 b u) (by simp)
      · rw [e2]
        rcases hat with e | e
        · intro e'
          exact h4 (e.symm.trans e')
        · intro e'
          have e'' : some w.heap.size = some g := e.symm.trans e'
          injection e'' with e''
          omega
      · exact hg4 (cur c2 14 b u) (by simp)
theorem J.own_ap1 (h : J w0 u0 b5 b7 c0 c1 c2 b u w) (hb : b 10 = false) (hd : b 7 = true) : w.ownsRow w0.heap.size c1.e c1.size (u 110) (0) ([]) := by
  have hb6 : b 13 = false := by
    cases e : b 13 with
    | false => rfl
    | true => exact (no_true hb (h.l1.d6 e)).elim
  have e1 : cur c1 7 b u = ⟨c1.e, c1.size, u 110, 0, []⟩ := by unfold cur; simp [hb, hb6, hd]
  have hm := h.many.own (cur c1 7 b u) (by simp)
  rw [e1] at hm
  exact hm
theorem J.aq1 (h : J w0 u0 b5 b7 c0 c1 c2 b u w) (hb : b 13 = false) {v' : Value} (hd : b 10 = true) (hown : w'.ownsRow w0.heap.size c1.e c1.size v' (c1.nx + c1.ny) (c1.xs ++ c1.ys)) (hg : w.grownBy w' (u 113).ownBlock) (hat : v'.ownBlock = (u 113).ownBlock ∨ v'.ownBlock = some w.heap.size) : J w0 u0 b5 b7 c0 c1 c2 (upd b 13 true) (upd u 116 v') w' := by
  have hn21 : b 21 = false := by
    cases e : b 21 with
    | false => rfl
    | true => exact (no_true hb ((h.bd e).1.2.1)).elim
  have hn23 : b 23 = false := by
    cases e : b 23 with
    | false => rfl
    | true => exact (no_true hn21 (h.st e).1).elim
  have e1 : cur c1 7 b u = ⟨c1.e, c1.size, u 113, c1.nx, c1.xs⟩ := by unfold cur; simp [hb, hd]
  have e2 : cur c1 7 (upd b 13 true) (upd u 116 v') = ⟨c1.e, c1.size, v', c1.nx + c1.ny, c1.xs ++ c1.ys⟩ := by
    unfold cur
    simp [upd, ]
  have hm := Many.at1 h.many
  rw [e1] at hm
  have hown0 := hm.own _ List.mem_cons_self
  have hm' := hm.grow1 (r := ⟨c1.e, c1.size, u 113, c1.nx, c1.xs⟩) hown hg hat
  refine ⟨(h.below.grown hg h.below.size (fun kk hkk => (hown0.lt kk hkk).1)), fun k h1 h2 => by unfold upd; rw [if_neg (by omega)]; exact h.old k h1 h2, ⟨h.l0.p, h.l0.x, h.l0.q, h.l0.y, h.l0.d6, h.l0.d3⟩, ⟨h.l1.p, h.l1.x, h.l1.q, h.l1.y, fun _ => hd, h.l1.d3⟩, ⟨h.l2.p, h.l2.x, h.l2.q, h.l2.y, h.l2.d6, h.l2.d3⟩, ?_, fun e => (no_true hn21 e).elim, h.st, ?_⟩
  · show Many _ _ [cur c0 0 _ _, cur c1 7 _ _, cur c2 14 _ _]
    rw [e2]
    exact Many.of1 hm'
  · intro hb22
    obtain ⟨g, hg1, hg2, hg3, hg4⟩ := h.al hb22
    rw [hn23, if_neg (by decide)] at hg3
    have hgl := hg3.lt
    have h4 := hg4 (cur c1 7 b u) (by simp)
    rw [e1] at h4
    refine ⟨g, hg1, hg2, ?_, ?_⟩
    · show At _ g (if b 23 = true then _ else _)
      rw [hn23, if_neg (by decide)]
      exact (Sc.At.grownO hg3 hg (fun kk hkk e => h4 (by rw [e]; exact hkk)))
    · intro r hr
      have hr' : r = cur c0 0 (upd b 13 true) (upd u 116 v') ∨ r = cur c1 7 (upd b 13 true) (upd u 116 v') ∨ r = cur c2 14 (upd b 13 true) (upd u 116 v') := by simpa using hr
      rcases hr' with rfl | rfl | rfl
      · exact hg4 (cur c0 0 b u) (by simp)
      · rw [e2]
        rcases hat with e | e
        · intro e'
          exact h4 (e.symm.trans e')
        · intro e'
          have e'' : some w.heap.size = some g := e.symm.trans e'
          injection e'' with e''
          omega
      · exact hg4 (cur c2 14 b u) (by simp)
theorem J.own_aq1 (h : J w0 u0 b5 b7 c0 c1 c2 b u w) (hb : b 13 = false) (hd : b 10 = true) : w.ownsRow w0.heap.size c1.e c1.size (u 113) (c1.nx) (c1.xs) := by
  have e1 : cur c1 7 b u = ⟨c1.e, c1.size, u 113, c1.nx, c1.xs⟩ := by unfold cur; simp [hb, hd]
  have hm := h.many.own (cur c1 7 b u) (by simp)
  rw [e1] at hm
  exact hm
theorem J.bs2 (h : J w0 u0 b5 b7 c0 c1 c2 b u w) (hb : b 14 = false) : J w0 u0 b5 b7 c0 c1 c2 (upd b 14 true) (upd u 117 (.slice (some ⟨w.heap.size, 0, none⟩) 0 0)) (w.alloc (.cells #[] c2.e)) := by
  have hb3 : b 17 = false := by
    cases e : b 17 with
    | false => rfl
    | true => exact (no_true hb (h.l2.d3 e)).elim
  have hb6 : b 20 = false := by
    cases e : b 20 with
    | false => rfl
    | true => exact (no_true hb3 (h.l2.d6 e)).elim
  have hn21 : b 21 = false := by
    cases e : b 21 with
    | false => rfl
    | true => exact (no_true hb (h.l2.d3 (h.l2.d6 (h.bd e).1.2.2))).elim
  have hn23 : b 23 = false := by
    cases e : b 23 with
    | false => rfl
    | true => exact (no_true hn21 (h.st e).1).elim
  have e1 : cur c2 14 b u = ⟨c2.e, c2.size, .slice none 0 0, 0, []⟩ := by unfold cur; simp [hb, hb3, hb6]
  have e2 : cur c2 14 (upd b 14 true) (upd u 117 (.slice (some ⟨w.heap.size, 0, none⟩) 0 0)) = ⟨c2.e, c2.size, .slice (some ⟨w.heap.size, 0, none⟩) 0 0, 0, []⟩ := by
    unfold cur
    simp [upd, hb3, hb6]
  have hm := Many.at2 h.many
  rw [e1] at hm
  have hown0 := hm.own _ List.mem_cons_self
  have hm' := hm.grow1 (v' := .slice (some ⟨w.heap.size, 0, none⟩) 0 0) (n' := 0) (xs' := []) (World.ownsRow_made w #[] 0 h.below.size (Nat.zero_le _) (by simp)) (World.grownBy_alloc w _ none) (.inr rfl)
  refine ⟨(h.below.alloc h.below.size _), fun k h1 h2 => by unfold upd; rw [if_neg (by omega)]; exact h.old k h1 h2, ⟨h.l0.p, h.l0.x, h.l0.q, h.l0.y, h.l0.d6, h.l0.d3⟩, ⟨h.l1.p, h.l1.x, h.l1.q, h.l1.y, h.l1.d6, h.l1.d3⟩, ⟨h.l2.p, h.l2.x, h.l2.q, h.l2.y, h.l2.d6, fun _ => rfl⟩, ?_, fun e => (no_true hn21 e).elim, h.st, ?_⟩
  · show Many _ _ [cur c0 0 _ _, cur c1 7 _ _, cur c2 14 _ _]
    rw [e2]
    exact Many.of2 hm'
  · intro hb22
    obtain ⟨g, hg1, hg2, hg3, hg4⟩ := h.al hb22
    rw [hn23, if_neg (by decide)] at hg3
    have hgl := hg3.lt
    have h4 := hg4 (cur c2 14 b u) (by simp)
    rw [e1] at h4
    refine ⟨g, hg1, hg2, ?_, ?_⟩
    · show At _ g (if b 23 = true then _ else _)
      rw [hn23, if_neg (by decide)]
      exact hg3.allocO _
    · intro r hr
      have hr' : r = cur c0 0 (upd b 14 true) (upd u 117 (.slice (some ⟨w.heap.size, 0, none⟩) 0 0)) ∨ r = cur c1 7 (upd b 14 true) (upd u 117 (.slice (some ⟨w.heap.size, 0, none⟩) 0 0)) ∨ r = cur c2 14 (upd b 14 true) (upd u 117 (.slice (some ⟨w.heap.size, 0, none⟩) 0 0)) := by simpa using hr
      rcases hr' with rfl | rfl | rfl
      · exact hg4 (cur c0 0 b u) (by simp)
      · exact hg4 (cur c1 7 b u) (by simp)
      · rw [e2]
        intro e
        have e : some w.heap.size = some g := e
        injection e with e
        omega
theorem J.ap2 (h : J w0 u0 b5 b7 c0 c1 c2 b u w) (hb : b 17 = false) {v' : Value} (hd : b 14 = true) (hown : w'.ownsRow w0.heap.size c2.e c2.size v' (c2.nx) (c2.xs)) (hg : w.grownBy w' (u 117).ownBlock) (hat : v'.ownBlock = (u 117).ownBlock ∨ v'.ownBlock = some w.heap.size) : J w0 u0 b5 b7 c0 c1 c2 (upd b 17 true) (upd u 120 v') w' := by
  have hb6 : b 20 = false := by
    cases e : b 20 with
    | false => rfl
    | true => exact (no_true hb (h.l2.d6 e)).elim
  have hn21 : b 21 = false := by
    cases e : b 21 with
    | false => rfl
    | true => exact (no_true hb (h.l2.d6 (h.bd e).1.2.2)).elim
  have hn23 : b 23 = false := by
    cases e : b 23 with
    | false => rfl
    | true => exact (no_true hn21 (h.st e).1).elim
  have e1 : cur c2 14 b u = ⟨c2.e, c2.size, u 117, 0, []⟩ := by unfold cur; simp [hb, hb6, hd]
  have e2 : cur c2 14 (upd b 17 true) (upd u 120 v') = ⟨c2.e, c2.size, v', c2.nx, c2.xs⟩ := by
    unfold cur
    simp [upd, hb6]
  have hm := Many.at2 h.many
  rw [e1] at hm
  have hown0 := hm.own _ List.mem_cons_self
  have hm' := hm.grow1 (r := ⟨c2.e, c2.size, u 117, 0, []⟩) hown hg hat
  refine ⟨(h.below.grown hg h.below.size (fun kk hkk => (hown0.lt kk hkk).1)), fun k h1 h2 => by unfold upd; rw [if_neg (by omega)]; exact h.old k h1 h2, ⟨h.l0.p, h.l0.x, h.l0.q, h.l0.y, h.l0.d6, h.l0.d3⟩, ⟨h.l1.p, h.l1.x, h.l1.q, h.l1.y, h.l1.d6, h.l1.d3⟩, ⟨h.l2.p, h.l2.x, h.l2.q, h.l2.y, fun _ => rfl, fun _ => hd⟩, ?_, fun e => (no_true hn21 e).elim, h.st, ?_⟩
  · show Many _ _ [cur c0 0 _ _, cur c1 7 _ _, cur c2 14 _ _]
    rw [e2]
    exact Many.of2 hm'
  · intro hb22
    obtain ⟨g, hg1, hg2, hg3, hg4⟩ := h.al hb22
    rw [hn23, if_neg (by decide)] at hg3
    have hgl := hg3.lt
    have h4 := hg4 (cur c2 14 b u) (by simp)
    rw [e1] at h4
    refine ⟨g, hg1, hg2, ?_, ?_⟩
    · show At _ g (if b 23 = true then _ else _)
      rw [hn23, if_neg (by decide)]
      exact (Sc.At.grownO hg3 hg (fun kk hkk e => h4 (by rw [e]; exact hkk)))
    · intro r hr
      have hr' : r = cur c0 0 (upd b 17 true) (upd u 120 v') ∨ r = cur c1 7 (upd b 17 true) (upd u 120 v') ∨ r = cur c2 14 (upd b 17 true) (upd u 120 v') := by simpa using hr
      rcases hr' with rfl | rfl | rfl
      · exact hg4 (cur c0 0 b u) (by simp)
      · exact hg4 (cur c1 7 b u) (by simp)
      · rw [e2]
        rcases hat with e | e
        · intro e'
          exact h4 (e.symm.trans e')
        · intro e'
          have e'' : some w.heap.size = some g := e.symm.trans e'
          injection e'' with e''
          omega
theorem J.own_ap2 (h : J w0 u0 b5 b7 c0 c1 c2 b u w) (hb : b 17 = false) (hd : b 14 = true) : w.ownsRow w0.heap.size c2.e c2.size (u 117) (0) ([]) := by
  have hb6 : b 20 = false := by
    cases e : b 20 with
    | false => rfl
    | true => exact (no_true hb (h.l2.d6 e)).elim
  have e1 : cur c2 14 b u = ⟨c2.e, c2.size, u 117, 0, []⟩ := by unfold cur; simp [hb, hb6, hd]
  have hm := h.many.own (cur c2 14 b u) (by simp)
  rw [e1] at hm
  exact hm
theorem J.aq2 (h : J w0 u0 b5 b7 c0 c1 c2 b u w) (hb : b 20 = false) {v' : Value} (hd : b 17 = true) (hown : w'.ownsRow w0.heap.size c2.e c2.size v' (c2.nx + c2.ny) (c2.xs ++ c2.ys)) (hg : w.grownBy w' (u 120).ownBlock) (hat : v'.ownBlock = (u 120).ownBlock ∨ v'.ownBlock = some w.heap.size) : J w0 u0 b5 b7 c0 c1 c2 (upd b 20 true) (upd u 123 v') w' := by
  have hn21 : b 21 = false := by
    cases e : b 21 with
    | false => rfl
    | true => exact (no_true hb ((h.bd e).1.2.2)).elim
  have hn23 : b 23 = false := by
    cases e : b 23 with
    | false => rfl
    | true => exact (no_true hn21 (h.st e).1).elim
  have e1 : cur c2 14 b u = ⟨c2.e, c2.size, u 120, c2.nx, c2.xs⟩ := by unfold cur; simp [hb, hd]
  have e2 : cur c2 14 (upd b 20 true) (upd u 123 v') = ⟨c2.e, c2.size, v', c2.nx + c2.ny, c2.xs ++ c2.ys⟩ := by
    unfold cur
    simp [upd, ]
  have hm := Many.at2 h.many
  rw [e1] at hm
  have hown0 := hm.own _ List.mem_cons_self
  have hm' := hm.grow1 (r := ⟨c2.e, c2.size, u 120, c2.nx, c2.xs⟩) hown hg hat
  refine ⟨(h.below.grown hg h.below.size (fun kk hkk => (hown0.lt kk hkk).1)), fun k h1 h2 => by unfold upd; rw [if_neg (by omega)]; exact h.old k h1 h2, ⟨h.l0.p, h.l0.x, h.l0.q, h.l0.y, h.l0.d6, h.l0.d3⟩, ⟨h.l1.p, h.l1.x, h.l1.q, h.l1.y, h.l1.d6, h.l1.d3⟩, ⟨h.l2.p, h.l2.x, h.l2.q, h.l2.y, fun _ => hd, h.l2.d3⟩, ?_, fun e => (no_true hn21 e).elim, h.st, ?_⟩
  · show Many _ _ [cur c0 0 _ _, cur c1 7 _ _, cur c2 14 _ _]
    rw [e2]
    exact Many.of2 hm'
  · intro hb22
    obtain ⟨g, hg1, hg2, hg3, hg4⟩ := h.al hb22
    rw [hn23, if_neg (by decide)] at hg3
    have hgl := hg3.lt
    have h4 := hg4 (cur c2 14 b u) (by simp)
    rw [e1] at h4
    refine ⟨g, hg1, hg2, ?_, ?_⟩
    · show At _ g (if b 23 = true then _ else _)
      rw [hn23, if_neg (by decide)]
      exact (Sc.At.grownO hg3 hg (fun kk hkk e => h4 (by rw [e]; exact hkk)))
    · intro r hr
      have hr' : r = cur c0 0 (upd b 20 true) (upd u 123 v') ∨ r = cur c1 7 (upd b 20 true) (upd u 123 v') ∨ r = cur c2 14 (upd b 20 true) (upd u 123 v') := by simpa using hr
      rcases hr' with rfl | rfl | rfl
      · exact hg4 (cur c0 0 b u) (by simp)
      · exact hg4 (cur c1 7 b u) (by simp)
      · rw [e2]
        rcases hat with e | e
        · intro e'
          exact h4 (e.symm.trans e')
        · intro e'
          have e'' : some w.heap.size = some g := e.symm.trans e'
          injection e'' with e''
          omega
theorem J.own_aq2 (h : J w0 u0 b5 b7 c0 c1 c2 b u w) (hb : b 20 = false) (hd : b 17 = true) : w.ownsRow w0.heap.size c2.e c2.size (u 120) (c2.nx) (c2.xs) := by
  have e1 : cur c2 14 b u = ⟨c2.e, c2.size, u 120, c2.nx, c2.xs⟩ := by unfold cur; simp [hb, hd]
  have hm := h.many.own (cur c2 14 b u) (by simp)
  rw [e1] at hm
  exact hm
theorem J.build (h : J w0 u0 b5 b7 c0 c1 c2 b u w) (h6 : b 6 = true) (h13 : b 13 = true) (h20 : b 20 = true) : J w0 u0 b5 b7 c0 c1 c2 (upd b 21 true) (upd u 124 (.agg #[u 109, u 116, u 123])) w :=
  ⟨h.below, fun k h1 h2 => by unfold upd; rw [if_neg (by omega)]; exact h.old k h1 h2, ⟨h.l0.p, h.l0.x, h.l0.q, h.l0.y, h.l0.d6, h.l0.d3⟩, ⟨h.l1.p, h.l1.x, h.l1.q, h.l1.y, h.l1.d6, h.l1.d3⟩, ⟨h.l2.p, h.l2.x, h.l2.q, h.l2.y, h.l2.d6, h.l2.d3⟩, h.many, fun _ => ⟨⟨h6, h13, h20⟩, rfl⟩, fun e => ⟨rfl, (h.st e).2⟩, h.al⟩
theorem J.alloc_ (h : J w0 u0 b5 b7 c0 c1 c2 b u w) (hb : b 22 = false) : J w0 u0 b5 b7 c0 c1 c2 (upd b 22 true) (upd u 13 (.pointer (some ⟨w.heap.size, 0, none⟩))) (w.alloc (.cells #[.slice none 0 0, .slice none 0 0, .slice none 0 0] 26)) := by
  have hn23 : b 23 = false := by
    cases e : b 23 with
    | false => rfl
    | true => exact (no_true hb (h.st e).2).elim
  refine ⟨h.below.alloc h.below.size _, fun k h1 h2 => by unfold upd; rw [if_neg h2]; exact h.old k h1 h2, ⟨h.l0.p, h.l0.x, h.l0.q, h.l0.y, h.l0.d6, h.l0.d3⟩, ⟨h.l1.p, h.l1.x, h.l1.q, h.l1.y, h.l1.d6, h.l1.d3⟩, ⟨h.l2.p, h.l2.x, h.l2.q, h.l2.y, h.l2.d6, h.l2.d3⟩, h.many.alloc _, h.bd, fun e => ⟨(h.st e).1, rfl⟩, fun _ => ⟨w.heap.size, rfl, h.below.size, ?_, ?_⟩⟩
  · show At _ _ (if b 23 = true then _ else _)
    rw [hn23, if_neg (by decide)]
    exact At.new w _ _
  · intro r hr e
    have := ((h.many.own r hr).lt _ e).2
    omega
theorem J.store_ (h : J w0 u0 b5 b7 c0 c1 c2 b u w) (h21 : b 21 = true) (hb : b 23 = false) {g : Nat} (hg : u 13 = .pointer (some ⟨g, 0, none⟩)) (h22 : b 22 = true) :
    J w0 u0 b5 b7 c0 c1 c2 (upd b 23 true) u (((w.setCell ⟨g, 0, none⟩ (u 109)).setCell ⟨g, 1, none⟩ (u 116)).setCell ⟨g, 2, none⟩ (u 123)) := by
  obtain ⟨g', hg1, hg2, hg3, hg4⟩ := h.al h22
  rw [hg] at hg1
  injection hg1 with hg1
  injection hg1 with hg1
  injection hg1 with hg1
  subst hg1
  rw [hb, if_neg (by decide)] at hg3
  have hm : Many w0.heap.size (((w.setCell ⟨g, 0, none⟩ (u 109)).setCell ⟨g, 1, none⟩ (u 116)).setCell ⟨g, 2, none⟩ (u 123)) [cur c0 0 b u, cur c1 7 b u, cur c2 14 b u] :=
    ⟨fun r hr => ownsRow_setCell_other (ownsRow_setCell_other (ownsRow_setCell_other (h.many.own r hr) (hg4 r hr) _) (hg4 r hr) _) (hg4 r hr) _, h.many.apart⟩
  refine ⟨((h.below.setCell (p := ⟨g, 0, none⟩) hg2 _).setCell (p := ⟨g, 1, none⟩) hg2 _).setCell (p := ⟨g, 2, none⟩) hg2 _, h.old, ⟨h.l0.p, h.l0.x, h.l0.q, h.l0.y, h.l0.d6, h.l0.d3⟩, ⟨h.l1.p, h.l1.x, h.l1.q, h.l1.y, h.l1.d6, h.l1.d3⟩, ⟨h.l2.p, h.l2.x, h.l2.q, h.l2.y, h.l2.d6, h.l2.d3⟩, hm, h.bd, fun _ => ⟨h21, h22⟩, fun _ => ⟨g, hg, hg2, ?_, hg4⟩⟩
  show At _ g (if true = true then _ else _)
  rw [if_pos rfl]
  exact ((hg3.set 0 (u 109)).set 1 (u 116)).set 2 (u 123)
theorem J.full0 (h : J w0 u0 b5 b7 c0 c1 c2 b u w) (hb : b 6 = true) : w.ownsRow w0.heap.size c0.e c0.size (u 109) (c0.nx + c0.ny) (c0.xs ++ c0.ys) := by
  have e1 : cur c0 0 b u = ⟨c0.e, c0.size, u 109, c0.nx + c0.ny, c0.xs ++ c0.ys⟩ := by unfold cur; simp [hb]
  have hm := h.many.own (cur c0 0 b u) (by simp)
  rw [e1] at hm
  exact hm
theorem J.full1 (h : J w0 u0 b5 b7 c0 c1 c2 b u w) (hb : b 13 = true) : w.ownsRow w0.heap.size c1.e c1.size (u 116) (c1.nx + c1.ny) (c1.xs ++ c1.ys) := by
  have e1 : cur c1 7 b u = ⟨c1.e, c1.size, u 116, c1.nx + c1.ny, c1.xs ++ c1.ys⟩ := by unfold cur; simp [hb]
  have hm := h.many.own (cur c1 7 b u) (by simp)
  rw [e1] at hm
  exact hm
theorem J.full2 (h : J w0 u0 b5 b7 c0 c1 c2 b u w) (hb : b 20 = true) : w.ownsRow w0.heap.size c2.e c2.size (u 123) (c2.nx + c2.ny) (c2.xs ++ c2.ys) := by
  have e1 : cur c2 14 b u = ⟨c2.e, c2.size, u 123, c2.nx + c2.ny, c2.xs ++ c2.ys⟩ := by unfold cur; simp [hb]
  have hm := h.many.own (cur c2 14 b u) (by simp)
  rw [e1] at hm
  exact hm
/-- The beginning. -/
theorem J.start (w0 : World) (u0 : Nat → Value) (b5 b7 : Nat) (c0 c1 c2 : Ch) : J w0 u0 b5 b7 c0 c1 c2 (fun _ => false) u0 w0 := by
  refine ⟨Below.refl _ _, fun _ _ _ => rfl, ⟨fun e => (by cases e), fun e => (by cases e), fun e => (by cases e), fun e => (by cases e), fun e => (by cases e), fun e => (by cases e)⟩, ⟨fun e => (by cases e), fun e => (by cases e), fun e => (by cases e), fun e => (by cases e), fun e => (by cases e), fun e => (by cases e)⟩, ⟨fun e => (by cases e), fun e => (by cases e), fun e => (by cases e), fun e => (by cases e), fun e => (by cases e), fun e => (by cases e)⟩, ?_, fun e => (by cases e), fun e => (by cases e), fun e => (by cases e)⟩
  exact Many.add0 (Many.add0 (Many.add0 Many.nil_ _ _) _ _) _ _
end
end Al
end Go.Proofs.YtmobejhfajnbhaaDoor
