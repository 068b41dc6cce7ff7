/- What is read of a short text is right, as source.Check asks it. -/
import Derived.Test.YtfobllagmakjdaaDoorK26
import Derived.Test.YtfobllagmakjdaaDoorK16
namespace Go.Proofs.YtfobllagmakjdaaDoor
open Go.RowKit

namespace Src
theorem name_len {t : Txt} (h : Ru.name t = true) : t.length ≤ 64 := by
  unfold Ru.name at h
  simp only [Bool.and_eq_true, decide_eq_true_eq] at h
  exact h.1.2
def GoodE (e : Er.E) : Prop := e.Ok
theorem erasB_done : ∀ (es : List Er.E) (e : Er.E), (∀ x ∈ es, x.Ok ∧ x.en = true) → e.Ok → e.en = false → erasB (es ++ [e]) = true
  | [], e, _, h, he => by
    have : e.good = true := by unfold Er.E.good; rw [Er.chk_ok e h]; rfl
    simp [erasB, this, he]
  | x :: es, e, hx, h, he => by
    have h1 := hx x List.mem_cons_self
    have : x.good = true := by unfold Er.E.good; rw [Er.chk_ok x h1.1]; rfl
    have ih := erasB_done es e (fun y hy => hx y (List.mem_cons_of_mem _ hy)) h he
    have e1 : ((es ++ [e]).isEmpty) = false := by cases es <;> rfl
    rw [List.cons_append, erasB, this, h1.2, e1, ih]
    rfl
theorem zoneB_done {z : Txt × List Er.E} (hb : Base own Er.E.Ok z) (hd : Done own z) : zoneB z = true := by
  obtain ⟨h1, h2, h3⟩ := hb
  obtain ⟨es, e, he, h4, h5⟩ := hd
  have hn : Ru.name z.1 = true := h1
  have h6 := erasB_done es e (fun x hx => ⟨h3 x (by rw [he]; simp [hx]), h4 x hx⟩) (h3 e (by rw [he]; simp)) h5
  unfold zoneB
  rw [hn, decide_eq_true (show 1 ≤ z.2.length by rw [he]; simp), decide_eq_true h2, he, h6]
  rfl
theorem zones_done : ∀ (zs : List (Txt × List Er.E)), ZonesOk own Er.E.Ok false zs → ∀ z ∈ zs, Base own Er.E.Ok z ∧ Done own z
  | [], _, z, hz => by cases hz
  | [x], h, z, hz => by
    rw [List.mem_singleton] at hz
    subst hz
    exact ⟨h.1, by have := h.2; rw [if_neg (by decide)] at this; exact this⟩
  | x :: y :: l, h, z, hz => by
    rcases List.mem_cons.1 hz with rfl | hz
    · exact ⟨h.1, h.2.1⟩
    · exact zones_done (y :: l) h.2.2 z hz
abbrev Rt (s : S) : Prop := Right own Ru.R.Ok Er.E.Ok s
theorem right_of {t : Txt} {x : S} (hs : t.length ≤ 1048576) (h : parse own t = .ok x) : Rt x ∧ x.op = false := by
  refine parse_right own Ru.R.Ok Er.E.Ok ?_ ?_ t x hs h
  · intro l hl
    have hown : own.rule l = Ru.parse (l.map bts) := rfl
    rw [hown] at hl ⊢
    rcases Ru.parse_ok (l.map bts) with h | h
    · exact h.2.2.2.1
    · exact absurd hl h.1
  · intro l hl
    have hown : own.era l = Er.parse (l.map bts) := rfl
    rw [hown] at hl ⊢
    rcases Er.parse_ok (l.map bts) with h | h
    · exact h.2.2.1
    · exact absurd hl h.1
theorem right_srcB {x : S} (h : Rt x) (ho : x.op = false) : srcB x = true := by
  have hz := h.zones.2
  rw [ho] at hz
  have h1 : x.rules.all Ru.R.good = true := List.all_eq_true.2 fun r hr => (Ru.R.good_iff r).2 (h.rules.2 r hr)
  have h2 : x.zones.all zoneB = true := List.all_eq_true.2 fun z hz' => zoneB_done (zones_done x.zones hz z hz').1 (zones_done x.zones hz z hz').2
  have h3 : x.links.all linkB = true := List.all_eq_true.2 fun k hk => by
    have := h.links.2 k hk
    have h1 : Ru.name k.1 = true := this.1
    have h2 : Ru.name k.2 = true := this.2
    unfold linkB
    rw [h1, h2]
    rfl
  unfold srcB
  rw [h1, h2, h3]
  rfl
theorem right_lims {x : S} (h : Rt x) : Lims x := ⟨h.rules.1, h.zones.1, h.links.1⟩
theorem right_sm {x : S} (h : Rt x) (ho : x.op = false) : Sm x := by
  have hz := h.zones.2
  rw [ho] at hz
  refine ⟨fun r hr => ?_, fun z hz' => ?_, fun k hk => ?_⟩
  · have hR := h.rules.2 r hr
    obtain ⟨h1, _, _, _, _, _, h7⟩ := hR
    have := name_len h1
    rw [tl_length] at this
    unfold Ab.letter at h7
    simp only [Bool.and_eq_true, decide_eq_true_eq] at h7
    exact ⟨by omega, by have := h7.1.1; omega⟩
  · have hB := (zones_done x.zones hz z hz').1
    refine ⟨by have := name_len (show Ru.name z.1 = true from hB.1); omega, fun e he => ?_⟩
    obtain ⟨_, hf, hk, _⟩ := hB.2.2 e he
    refine ⟨?_, ?_⟩
    · have := Ab.fmt_size e.fm hf
      unfold maxLen
      omega
    · unfold maxLen
      rcases hk with ⟨_, _, hr⟩ | ⟨_, _, hr⟩ | ⟨_, _, hr⟩
      · rw [hr]; decide
      · rw [hr]; decide
      · have := name_len hr
        rw [tl_length] at this
        omega
  · have := h.links.2 k hk
    have h1 := name_len (show Ru.name k.1 = true from this.1)
    have h2 := name_len (show Ru.name k.2 = true from this.2)
    exact ⟨by omega, by omega⟩
end Src
end Go.Proofs.YtfobllagmakjdaaDoor
