/- What a line says at each instant. -/
import Derived.Test.YtolgigaolffenaaGreatDoorQ27
import Derived.Test.YtolgigaolffenaaGreatDoorQ38

namespace Go.Proofs.YtolgigaolffenaaGreatDoor
open Go.RowKit

namespace Ln
def atGo (t : Int) (q : Sp) (l : List Sp) : Sp := l.foldl (fun q x => if x.fr ≤ t then x else q) q
theorem Cov.in_ {f : Int → Int × Bool} {te : Int} : ∀ {A : List Sp} {c : Int}, Cov f te c A → ∀ (k : Nat) (x : Sp), A[k]? = some x → c ≤ x.fr ∧ x.fr < te ∧ f x.fr = (x.off, x.dst)
  | [], _, _, k, x, hx => by cases hx
  | a :: A, c, ⟨h0, d, h1, h2, h3, h4, _⟩, 0, x, hx => by
    obtain rfl : a = x := by simpa using hx
    rw [h0]
    exact ⟨Int.le_refl _, by omega, h3 c (Int.le_refl _) h1⟩
  | a :: A, c, ⟨h0, d, h1, h2, h3, h4, _⟩, k + 1, x, hx => by
    obtain ⟨i1, i2, i3⟩ := Cov.in_ h4 k x (by simpa using hx)
    exact ⟨by omega, i2, i3⟩
theorem Cov.two {f : Int → Int × Bool} {te : Int} : ∀ {A : List Sp} {c : Int}, Cov f te c A → ∀ (k : Nat) (x y : Sp), A[k]? = some x → A[k + 1]? = some y → x.fr < y.fr ∧ alike x y = false ∧ f (y.fr - 1) = (x.off, x.dst)
  | [], _, _, k, x, y, hx, _ => by cases hx
  | a :: A, c, ⟨h0, d, h1, h2, h3, h4, h5⟩, 0, x, y, hx, hy => by
    obtain rfl : a = x := by simpa using hx
    cases A with
    | nil => cases hy
    | cons b A =>
      obtain rfl : b = y := by simpa using hy
      obtain ⟨k0, _⟩ := h4
      exact ⟨by omega, h5 b rfl, h3 _ (by omega) (by omega)⟩
  | a :: A, c, ⟨h0, d, h1, h2, h3, h4, _⟩, k + 1, x, y, hx, hy => Cov.two h4 k x y (by simpa using hx) (by simpa using hy)
theorem atGo_late (t : Int) (q : Sp) : ∀ l : List Sp, (∀ x ∈ l, t < x.fr) → atGo t q l = q
  | [], _ => rfl
  | x :: l, h => by
    unfold atGo
    rw [List.foldl_cons, if_neg (by have := h x (by simp); omega)]
    exact atGo_late t q l fun y hy => h y (by simp [hy])
theorem Cov.at_ {f : Int → Int × Bool} {te : Int} : ∀ {A : List Sp} {c : Int} {q : Sp}, Cov f te c A → ∀ t, c ≤ t → t < te → f t = ((atGo t q A).off, (atGo t q A).dst)
  | [], c, _, h, t, h1, h2 => by
    have : c = te := h
    omega
  | a :: A, c, q, ⟨h0, d, h1, h2, h3, h4, _⟩, t, h6, h7 => by
    unfold atGo
    rw [List.foldl_cons, if_pos (by omega)]
    by_cases hd : t < d
    · have := atGo_late t a A fun x hx => by
        obtain ⟨k, hk⟩ := List.mem_iff_getElem?.1 hx
        have := (Cov.in_ h4 k x hk).1
        omega
      unfold atGo at this
      rw [this]
      exact h3 t h6 hd
    · exact Cov.at_ h4 t (by omega) h7
theorem atGo_next {t : Int} {q : Sp} {L : List Sp} {k : Nat} {x : Sp} (h : L[k]? = some x) : atGo t q (L.take (k + 1)) = if x.fr ≤ t then x else atGo t q (L.take k) := by
  unfold atGo
  rw [List.take_add_one, h, List.foldl_append]
  rfl
theorem stAt_st (rules : List Ru.R) (eras : List Er.E) (t : Int) : ((stAt rules eras t).off, (stAt rules eras t).dst) = st rules eras (Eg.ends rules eras) t := by
  unfold stAt stIn st setAt
  simp only
  rw [savedAt_one]
  congr 1
  rw [Bool.eq_iff_iff]
  simp
theorem inT_of {lo hi t : Int} (h : InY lo hi) (h1 : Oc.D lo * 86400 ≤ t) (h2 : t < Oc.D (hi + 1) * 86400) : InT t := by
  obtain ⟨k1, k2, k3, k4, k5⟩ := years_in h.1 h.2.1 h.2.2.1
  have hd : InDays t := k2.of k3 h1 (by omega)
  have a := yr_le k2 hd h1
  have b := yr_le hd k3 (by omega)
  have := h.1
  have := h.2.1
  exact ⟨hd, by omega, by omega⟩
theorem atT_of {s : Src.S} {z t : Int} {x : Src.Txt × List Er.E} (hw : Vd.well s = true) (hx : Eg.zoneAt s z = some x) (ht : InT t) : atT s z t = (stAt s.rules x.2 t, 0) := by
  unfold atT
  rw [if_neg (by rw [hw]; decide), hx]
  simp only
  rw [if_pos ht]
end Ln
end Go.Proofs.YtolgigaolffenaaGreatDoor
