/- Runs of missed years in plain words: one behind the other they have all years, and no two that follow are one. -/
import Derived.Test.YtlmheieabkdhjaaDoorTeText
namespace Go.Proofs.YtlmheieabkdhjaaDoor
open Go.RowKit

namespace Te
def goesOn (a b : M) : Bool := decide (a.k = b.k) && decide (a.r = b.r) && decide (a.y < b.y) && decide (b.y - 1 = a.y)
theorem goesOn_iff (a b : M) : goesOn a b = true ↔ b = ⟨a.k, a.y + 1, a.r⟩ := by
  unfold goesOn
  obtain ⟨k, y, r⟩ := a
  obtain ⟨k', y', r'⟩ := b
  simp only [Bool.and_eq_true, decide_eq_true_eq, M.mk.injEq]
  constructor
  · rintro ⟨⟨⟨rfl, rfl⟩, h1⟩, h2⟩
    exact ⟨rfl, by omega, rfl⟩
  · rintro ⟨rfl, rfl, rfl⟩
    exact ⟨⟨⟨rfl, rfl⟩, by omega⟩, by omega⟩
abbrev Run := M × M
/-- A run's years. -/
def expand (p : Run) : List M := (List.range ((p.2.y - p.1.y).toNat + 1)).map fun (j : Nat) => ⟨p.1.k, p.1.y + (j : Int), p.1.r⟩
structure Good (p : Run) : Prop where
  k : p.2.k = p.1.k
  r : p.2.r = p.1.r
  y : p.1.y ≤ p.2.y
theorem expand_one (m : M) : expand (m, m) = [m] := by
  unfold expand
  simp
theorem expand_len (p : Run) : (expand p).length = (p.2.y - p.1.y).toNat + 1 := by
  unfold expand
  simp
theorem expand_get (p : Run) (j : Nat) (h : j < (expand p).length) : (expand p)[j]? = some ⟨p.1.k, p.1.y + (j : Int), p.1.r⟩ := by
  rw [expand_len] at h
  unfold expand
  rw [List.getElem?_map, List.getElem?_range h]
  rfl
theorem expand_on (a p m : M) (h : Good (a, p)) (hf : goesOn p m = true) : Good (a, m) ∧ expand (a, m) = expand (a, p) ++ [m] := by
  have hm := (goesOn_iff p m).1 hf
  have h1 := h.k
  have h2 := h.r
  have h3 := h.y
  simp only at h1 h2 h3
  subst hm
  refine ⟨⟨h1, h2, by show a.y ≤ p.y + 1; omega⟩, ?_⟩
  unfold expand
  simp only
  rw [show (p.y + 1 - a.y).toNat + 1 = ((p.y - a.y).toNat + 1) + 1 from by omega, List.range_succ, List.map_append]
  congr 1
  simp only [List.map_cons, List.map_nil, List.cons.injEq, and_true, M.mk.injEq]
  exact ⟨h1.symm, by omega, h2.symm⟩
/-- One year more. -/
def addRun (rs : List Run) (prev : Option M) (m : M) : List Run :=
  match prev with
  | none => rs ++ [(m, m)]
  | some p => if goesOn p m then rs.dropLast ++ [((rs.getLast?.getD (m, m)).1, m)] else rs ++ [(m, m)]
/-- The runs of the first years of l. -/
def runsTo (l : List M) : Nat → List Run
  | 0 => []
  | n + 1 => match l[n]? with
    | none => runsTo l n
    | some m => addRun (runsTo l n) (if n = 0 then none else l[n - 1]?) m
def runs (l : List M) : List Run := runsTo l l.length
/-- No two that follow are one. -/
def Apart (rs : List Run) : Prop := ∀ (i : Nat) x y, rs[i]? = some x → rs[i + 1]? = some y → goesOn x.2 y.1 = false
structure Inv (l : List M) (rs : List Run) : Prop where
  all : rs.flatMap expand = l
  good : ∀ p ∈ rs, Good p
  apart : Apart rs
  last : ∀ m, l.getLast? = some m → ∃ rs' a, rs = rs' ++ [(a, m)]
  none_ : l = [] → rs = []
theorem Inv.nil : Inv [] [] := ⟨rfl, fun p h => (by cases h), fun i x y h => (by cases h), fun m h => (by cases h), fun _ => rfl⟩
theorem apart_snoc {rs : List Run} {p : Run} (h : Apart rs) (hl : ∀ x, rs.getLast? = some x → goesOn x.2 p.1 = false) : Apart (rs ++ [p]) := by
  intro i x y hx hy
  have hi : i + 1 < (rs ++ [p]).length := (List.getElem?_eq_some_iff.1 hy).1
  rw [List.length_append, List.length_singleton] at hi
  by_cases h1 : i + 1 < rs.length
  · rw [List.getElem?_append_left (by omega)] at hx
    rw [List.getElem?_append_left h1] at hy
    exact h i x y hx hy
  · have e : i + 1 = rs.length := by omega
    rw [List.getElem?_append_left (by omega)] at hx
    rw [e, List.getElem?_concat_length] at hy
    cases hy
    apply hl
    rw [List.getLast?_eq_getElem?, show rs.length - 1 = i from by omega]
    exact hx
theorem apart_init {rs : List Run} {p : Run} (h : Apart (rs ++ [p])) : Apart rs := by
  intro i x y hx hy
  have h1 := (List.getElem?_eq_some_iff.1 hx).1
  have h2 := (List.getElem?_eq_some_iff.1 hy).1
  exact h i x y (by rw [List.getElem?_append_left h1]; exact hx) (by rw [List.getElem?_append_left h2]; exact hy)
theorem inv_add {l : List M} {rs : List Run} (h : Inv l rs) (m : M) : Inv (l ++ [m]) (addRun rs l.getLast? m) := by
  cases hl : l.getLast? with
  | none =>
    have e : l = [] := by simpa using hl
    subst e
    have e2 := h.none_ rfl
    subst e2
    refine ⟨by simp [addRun, expand_one], fun p hp => ?_, fun i x y _ hy => ?_, fun x hx => ?_, fun he => by simp at he⟩
    · have : p = (m, m) := by simpa [addRun] using hp
      subst this
      exact ⟨rfl, rfl, Int.le_refl _⟩
    · simp [addRun] at hy
    · have : m = x := by simpa using hx
      subst this
      exact ⟨[], m, rfl⟩
  | some p =>
    obtain ⟨rs', a, rfl⟩ := h.last p hl
    have hg := h.good (a, p) (by simp)
    by_cases hf : goesOn p m = true
    · have e : addRun (rs' ++ [(a, p)]) (some p) m = rs' ++ [(a, m)] := by
        unfold addRun
        simp [hf]
      obtain ⟨g2, x2⟩ := expand_on a p m hg hf
      rw [e]
      refine ⟨?_, fun q hq => ?_, ?_, fun x hx => ?_, fun he => by simp at he⟩
      · have := h.all
        rw [List.flatMap_append] at this ⊢
        rw [← this]
        simp [x2]
      · rcases List.mem_append.1 hq with hq | hq
        · exact h.good q (by simp [hq])
        · have : q = (a, m) := by simpa using hq
          rw [this]; exact g2
      · apply apart_snoc (apart_init h.apart)
        intro x hx
        have hlen : 0 < rs'.length := by
          cases rs' with
          | nil => cases hx
          | cons _ _ => simp
        apply h.apart (rs'.length - 1) x (a, p)
        · rw [List.getElem?_append_left (by omega)]
          rwa [List.getLast?_eq_getElem?] at hx
        · rw [show rs'.length - 1 + 1 = rs'.length from by omega, List.getElem?_concat_length]
      · have : m = x := by simpa using hx
        subst this
        exact ⟨rs', a, rfl⟩
    · have e : addRun (rs' ++ [(a, p)]) (some p) m = rs' ++ [(a, p)] ++ [(m, m)] := by
        unfold addRun
        simp [hf]
      rw [e]
      refine ⟨?_, fun q hq => ?_, ?_, fun x hx => ?_, fun he => by simp at he⟩
      · rw [List.flatMap_append, h.all]
        simp [expand_one]
      · rcases List.mem_append.1 hq with hq | hq
        · exact h.good q hq
        · have : q = (m, m) := by simpa using hq
          rw [this]; exact ⟨rfl, rfl, Int.le_refl _⟩
      · apply apart_snoc h.apart
        intro x hx
        have : (a, p) = x := by simpa using hx
        subst this
        simpa using hf
      · have : m = x := by simpa using hx
        subst this
        exact ⟨_, m, rfl⟩
theorem runs_inv (l : List M) : ∀ n, n ≤ l.length → Inv (l.take n) (runsTo l n)
  | 0, _ => by
    rw [List.take_zero]
    exact Inv.nil
  | n + 1, h => by
    have ih := runs_inv l n (by omega)
    have hn : l[n]? = some l[n] := List.getElem?_eq_getElem (by omega)
    have e : (if n = 0 then none else l[n - 1]?) = (l.take n).getLast? := by
      by_cases h0 : n = 0
      · subst h0; simp
      · rw [if_neg h0, List.getLast?_eq_getElem?, List.length_take, Nat.min_eq_left (by omega), List.getElem?_take, if_pos (by omega)]
    rw [List.take_add_one, hn, runsTo, hn]
    simp only
    rw [e]
    exact inv_add ih l[n]
theorem runs_all (l : List M) : Inv l (runs l) := by
  have := runs_inv l l.length (Nat.le_refl _)
  rwa [List.take_length] at this
end Te
end Go.Proofs.YtlmheieabkdhjaaDoor
