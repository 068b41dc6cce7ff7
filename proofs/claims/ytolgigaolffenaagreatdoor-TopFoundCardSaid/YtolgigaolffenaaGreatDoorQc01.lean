/- Looking things up in spans, in plain words. -/
import Derived.Test.YtolgigaolffenaaGreatDoorQ39

namespace Go.Proofs.YtolgigaolffenaaGreatDoor
open Go.RowKit

namespace Lo
open Ln
structure Right (l : List Sp) : Prop where
  ne : l ≠ []
  up : ∀ (k : Nat) (x y : Sp), l[k]? = some x → l[k + 1]? = some y → x.fr < y.fr ∧ alike x y = false
theorem right_cov {f : Int → Int × Bool} {te c : Int} {l : List Sp} (h : Cov f te c l) (hlt : c < te) : Right l :=
  ⟨fun e => by
    rw [e] at h
    have : c = te := h
    omega, fun k x y hx hy => ⟨(Cov.two h k x y hx hy).1, (Cov.two h k x y hx hy).2.1⟩⟩
theorem Right.mono {l : List Sp} (h : Right l) : ∀ (d i : Nat) (x y : Sp), l[i]? = some x → l[i + d]? = some y → x.fr ≤ y.fr
  | 0, i, x, y, hx, hy => by
    rw [Nat.add_zero, hx] at hy
    cases hy
    exact Int.le_refl _
  | d + 1, i, x, y, hx, hy => by
    have hlt := (List.getElem?_eq_some_iff.1 hy).1
    obtain ⟨z, hz⟩ : ∃ z, l[i + d]? = some z := ⟨_, List.getElem?_eq_getElem (by omega)⟩
    have h1 := h.mono d i x z hx hz
    have h2 := (h.up (i + d) z y hz (by rw [show i + d + 1 = i + (d + 1) by omega]; exact hy)).1
    omega
structure Ab (l : List Sp) (t : Int) (r : Nat) : Prop where
  le : r ≤ l.length
  lo : ∀ (i : Nat) (x : Sp), i < r → l[i]? = some x → x.fr ≤ t
  hi : ∀ (i : Nat) (x : Sp), r ≤ i → l[i]? = some x → t < x.fr
theorem Ab.tail {a : Sp} {l : List Sp} {t : Int} {r : Nat} (h : Ab (a :: l) t (r + 1)) : Ab l t r :=
  ⟨by have := h.le; simpa using this, fun i x hi hx => h.lo (i + 1) x (by omega) (by simpa using hx), fun i x hi hx => h.hi (i + 1) x (by omega) (by simpa using hx)⟩
theorem Ab.one {l : List Sp} {t : Int} {r q : Nat} (h : Ab l t r) (k : Ab l t q) : r = q := by
  have key : ∀ {r q : Nat}, Ab l t r → Ab l t q → ¬ r < q := fun {r q} h k hlt => by
    obtain ⟨x, hx⟩ : ∃ x, l[r]? = some x := ⟨_, List.getElem?_eq_getElem (by have := k.le; omega)⟩
    have h1 := h.hi r x (Nat.le_refl _) hx
    have h2 := k.lo r x hlt hx
    omega
  have h1 := key h k
  have h2 := key k h
  omega
theorem cov_from {f : Int → Int × Bool} {te : Int} : ∀ {A : List Sp} {c t : Int} {r : Nat}, Cov f te c A → c ≤ t → t < te → Ab A t r → ∃ (n : Nat) (x : Sp), r = n + 1 ∧ A[n]? = some x ∧ f t = (x.off, x.dst) ∧ Cov f te t (⟨t, x.off, x.dst⟩ :: A.drop r)
  | [], c, t, r, h, h1, h2, _ => by
    have : c = te := h
    omega
  | a :: A, c, t, 0, ⟨h0, _⟩, h1, h2, hA => by
    have := hA.hi 0 a (Nat.le_refl _) rfl
    omega
  | a :: A, c, t, r + 1, ⟨h0, d, k1, k2, k3, k4, k5⟩, h1, h2, hA => by
    by_cases hd : t < d
    · have hr : r = 0 := by
        rcases Nat.eq_zero_or_pos r with q | q
        · exact q
        · cases A with
          | nil =>
            have := hA.le
            simp at this
            exact this
          | cons x A =>
            have := hA.lo 1 x (by omega) rfl
            obtain ⟨e, _⟩ := k4
            omega
      subst hr
      exact ⟨0, a, rfl, rfl, k3 t h1 hd, rfl, d, hd, k2, fun u q1 q2 => k3 u (by omega) q2, k4, k5⟩
    · obtain ⟨n, x, e1, e2, e3, e4⟩ := cov_from k4 (show d ≤ t by omega) h2 hA.tail
      exact ⟨n + 1, x, by omega, e2, e3, e4⟩
end Lo
end Go.Proofs.YtolgigaolffenaaGreatDoor
