/- The statements' own 'lives' of package source. -/
import Derived.Test.YtajcgoinhpengaaDoorP24
import Derived.Test.YtajcgoinhpengaaDoorP14

namespace Go.Proofs.YtajcgoinhpengaaDoor
open Go.RowKit

namespace Lv
def e1 : Er.E := ⟨3600, 2, 0, ⟨#[69, 85]⟩, ⟨#[67, 69, 37, 115, 84]⟩, true, ⟨2000, 1, 0, 1, 0, 0, 0⟩⟩
def e2 : Er.E := ⟨7200, 0, 0, ⟨#[]⟩, ⟨#[88]⟩, false, ⟨0, 0, 0, 0, 0, 0, 0⟩⟩
def r1 : Ru.R := ⟨⟨#[69, 85]⟩, 1981, 9999, 3, 1, 0, 0, 3600, 2, 3600, ⟨#[83]⟩⟩
def s1 : Src.S := ⟨[r1], [([65, 47, 66], [e1, e2])], [([65, 47, 66], [67])], false⟩
theorem p1 : Src.parse Src.own (tl ⟨([82, 117, 108, 101, 32, 69, 85, 32, 49, 57, 56, 49, 32, 109, 97, 120, 32, 45, 32, 77, 97, 114, 32, 108, 97, 115, 116, 83, 117, 110, 32, 49, 58, 48, 48, 117, 32, 49, 58, 48, 48, 32, 83, 32, 35, 32, 120, 10, 90, 111, 110, 101, 32, 65, 47, 66, 32, 49, 58, 48, 48, 32, 69, 85, 32, 67, 69, 37, 115, 84, 32, 50, 48, 48, 48, 10, 32, 50, 58, 48, 48, 32, 45, 32, 88, 10, 76, 32, 65, 47, 66, 32, 67, 10]).toArray⟩) = .ok s1 := by kernel_rfl
theorem p2 : Src.parse Src.own (tl ⟨([90, 111, 110, 101, 32, 65, 32, 49, 58, 48, 48, 32, 45, 32, 88, 32, 50, 48, 48, 48, 10]).toArray⟩) = .bad 1 1 5 := by kernel_rfl
theorem p3 : Src.parse Src.own (tl ⟨([82, 117, 108, 101, 32, 69, 85, 32, 49, 57, 56, 49, 10, 120]).toArray⟩) = .bad 1 9 5 := by kernel_rfl
theorem p4 : Src.parse Src.own (tl ⟨([10, 32, 76, 105, 110, 107, 32, 65, 32, 57, 98]).toArray⟩) = .bad 2 9 7 := by kernel_rfl
theorem p5 : Src.parse Src.own (tl ⟨([90, 111, 110, 101, 32, 65, 32, 49, 58, 48, 48, 32, 45, 32, 88, 32, 50, 48, 48, 48, 10, 32, 82, 117, 108, 101, 32, 97, 32, 98]).toArray⟩) = .bad 2 2 4 := by kernel_rfl
theorem open_ {w : World} {B : Nat} {rv zv lv : Value} {evs : List Value} (h : Src.SrcR w B s1 rv zv lv evs) : ∃ ra rc za zc la lc ea ec, rv = .slice (some ra) 1 rc ∧ zv = .slice (some za) 1 zc ∧ lv = .slice (some la) 1 lc ∧ evs = [.slice (some ea) 2 ec] ∧
    (ra.block < B ∧ za.block < B ∧ la.block < B ∧ ea.block < B) ∧ w.cell? ra = some (.string ⟨#[69, 85]⟩) ∧ w.cell? ⟨za.block, za.off + 1, none⟩ = some (.slice (some ea) 2 ec) ∧ w.cell? la = some (.string ⟨#[65, 47, 66]⟩) ∧ w.cell? ⟨la.block, la.off + 1, none⟩ = some (.string ⟨#[67]⟩) ∧ w.cell? ⟨ea.block, ea.off + 13, none⟩ = some (.int .i64 7200) := by
  obtain ⟨⟨rA, rc, rfl, hr1, hr2, hr3⟩, ⟨zA, zc, rfl, hz1, hz2, hz3⟩, ⟨lA, lc, rfl, hl1, hl2, hl3⟩, hlen, hers⟩ := h
  have hlen' : evs.length = 1 := hlen
  obtain ⟨ev, rfl⟩ : ∃ ev, evs = [ev] := by
    match evs, hlen' with
    | [ev], _ => exact ⟨ev, rfl⟩
  obtain ⟨eA, ec, he, he1, he2, he3⟩ := hers (([65, 47, 66], [e1, e2]), ev) (List.mem_cons_self)
  have he' : ev = .slice eA 2 ec := he
  subst he'
  obtain ⟨ra, rfl, rb, rcell⟩ := hr3.2 (by decide)
  obtain ⟨za, rfl, zb, zcell⟩ := hz3.2 (by decide)
  obtain ⟨la, rfl, lb, lcell⟩ := hl3.2 (by decide)
  obtain ⟨ea, rfl, eb, ecell⟩ := he3.2 (show 0 < 2 by decide)
  exact ⟨ra, rc, za, zc, la, lc, ea, ec, rfl, rfl, rfl, rfl, ⟨rb, zb, lb, eb⟩, rcell 0 _ rfl, zcell 1 _ rfl, lcell 0 _ rfl, lcell 1 _ rfl, ecell 13 _ rfl⟩
theorem r1_ok : r1.Ok := ⟨by decide +kernel, by decide +kernel, by decide +kernel, by decide +kernel, by decide +kernel, by decide +kernel, by decide +kernel⟩
theorem e1_ok : e1.Ok := ⟨by decide +kernel, by decide +kernel, .inr (.inr ⟨rfl, rfl, by decide +kernel⟩), fun _ => ⟨⟨by decide +kernel, by decide +kernel, by decide +kernel, by decide +kernel⟩, by decide +kernel, by decide +kernel⟩, fun h => (by cases h)⟩
theorem e2_ok : e2.Ok := ⟨by decide +kernel, by decide +kernel, .inl ⟨rfl, rfl, rfl⟩, fun h => (by cases h), fun _ => rfl⟩
theorem s1_ok : Src.srcB s1 = true := by
  have h1 : r1.good = true := (Ru.R.good_iff r1).2 r1_ok
  have h2 : e1.good = true := by unfold Er.E.good; rw [Er.chk_ok e1 e1_ok]; rfl
  have h3 : e2.good = true := by unfold Er.E.good; rw [Er.chk_ok e2 e2_ok]; rfl
  have h4 : Src.zoneB ([65, 47, 66], [e1, e2]) = true := by
    unfold Src.zoneB Src.erasB Src.erasB Src.erasB
    simp only [h2, h3]
    decide +kernel
  have h5 : Src.linkB ([65, 47, 66], [67]) = true := by decide +kernel
  unfold Src.srcB s1
  simp only [List.all_cons, List.all_nil, h1, h4, h5]
  rfl
theorem s1_lims : Src.Lims s1 := ⟨by decide, by decide, by decide⟩
theorem s1_sm : Src.Sm s1 := by
  refine ⟨?_, ?_, ?_⟩
  · intro r hr
    rw [show s1.rules = [r1] from rfl, List.mem_singleton] at hr
    subst hr
    decide
  · intro z hz
    rw [show s1.zones = [([65, 47, 66], [e1, e2])] from rfl, List.mem_singleton] at hz
    subst hz
    refine ⟨by decide, ?_⟩
    intro e he
    simp only [List.mem_cons, List.not_mem_nil, or_false] at he
    rcases he with rfl | rfl
    · exact ⟨by decide, by decide⟩
    · exact ⟨by decide, by decide⟩
  · intro k hk
    rw [show s1.links = [([65, 47, 66], [67])] from rfl, List.mem_singleton] at hk
    subst hk
    decide
def s2 : Src.S := ⟨[], [([65], [])], [], false⟩
theorem s2_bad : Src.srcB s2 = false := by
  have h4 : Src.zoneB ([65], []) = false := by
    unfold Src.zoneB
    simp
  unfold Src.srcB s2
  simp [h4]
theorem s2_lims : Src.Lims s2 := ⟨by decide, by decide, by decide⟩
theorem s2_sm : Src.Sm s2 := by
  refine ⟨fun r hr => (by cases hr), ?_, fun k hk => (by cases hk)⟩
  intro z hz
  rw [show s2.zones = [([65], [])] from rfl, List.mem_singleton] at hz
  subst hz
  exact ⟨by decide, fun e he => (by cases he)⟩
theorem row_nil (w : World) (B size : Nat) : Src.RowR w B size 0 (.slice none 0 0) [] := ⟨none, 0, rfl, Nat.le_refl _, by decide, ⟨by simp, fun h => absurd h (by omega)⟩⟩
theorem src_nil (w : World) (B : Nat) : Src.SrcR w B Src.St.none_ (.slice none 0 0) (.slice none 0 0) (.slice none 0 0) [] :=
  ⟨row_nil w B 11, row_nil w B 2, row_nil w B 2, rfl, fun p hp => (by cases hp)⟩
theorem src_two (w : World) : Src.SrcR (w.alloc (.cells #[.string ⟨#[65]⟩, .slice none 0 0] 54)) (w.alloc (.cells #[.string ⟨#[65]⟩, .slice none 0 0] 54)).heap.size s2 (.slice none 0 0) (.slice (some ⟨w.heap.size, 0, none⟩) 1 1) (.slice none 0 0) [.slice none 0 0] := by
  refine ⟨row_nil _ _ 11, ⟨_, 1, rfl, Nat.le_refl _, by decide, reads_cells_at w w.heap.size #[.string ⟨#[65]⟩, .slice none 0 0] 2 _ rfl rfl⟩, row_nil _ _ 2, rfl, fun p hp => ?_⟩
  have hp' : p = (([65], []), .slice none 0 0) := by simpa [s2] using hp
  subst hp'
  exact row_nil _ _ 13
end Lv
end Go.Proofs.YtajcgoinhpengaaDoor

/- What is read of a short text is right, as source.Check asks it. -/
namespace Go.Proofs.YtajcgoinhpengaaDoor
open Go.RowKit

namespace Src
theorem name_len {t : Txt} (h : Ru.name t = true) : t.length ≤ 64 := by
  unfold Ru.name at h
  simp only [Bool.and_eq_true, decide_eq_true_eq] at h
  exact h.1.2
def GoodE (e : Er.E) : Prop := e.Ok
theorem erasB_done : ∀ (es : List Er.E) (e : Er.E), (∀ x ∈ es, x.Ok ∧ x.en = true) → e.Ok → e.en = false → erasB (es ++ [e]) = true
  | [], e, _, h, he => by
    have : e.good = true := by unfold Er.E.good; rw [Er.chk_ok e h]; rfl
    simp [erasB, this, he]
  | x :: es, e, hx, h, he => by
    have h1 := hx x List.mem_cons_self
    have : x.good = true := by unfold Er.E.good; rw [Er.chk_ok x h1.1]; rfl
    have ih := erasB_done es e (fun y hy => hx y (List.mem_cons_of_mem _ hy)) h he
    have e1 : ((es ++ [e]).isEmpty) = false := by cases es <;> rfl
    rw [List.cons_append, erasB, this, h1.2, e1, ih]
    rfl
theorem zoneB_done {z : Txt × List Er.E} (hb : Base own Er.E.Ok z) (hd : Done own z) : zoneB z = true := by
  obtain ⟨h1, h2, h3⟩ := hb
  obtain ⟨es, e, he, h4, h5⟩ := hd
  have hn : Ru.name z.1 = true := h1
  have h6 := erasB_done es e (fun x hx => ⟨h3 x (by rw [he]; simp [hx]), h4 x hx⟩) (h3 e (by rw [he]; simp)) h5
  unfold zoneB
  rw [hn, decide_eq_true (show 1 ≤ z.2.length by rw [he]; simp), decide_eq_true h2, he, h6]
  rfl
theorem zones_done : ∀ (zs : List (Txt × List Er.E)), ZonesOk own Er.E.Ok false zs → ∀ z ∈ zs, Base own Er.E.Ok z ∧ Done own z
  | [], _, z, hz => by cases hz
  | [x], h, z, hz => by
    rw [List.mem_singleton] at hz
    subst hz
    exact ⟨h.1, by have := h.2; rw [if_neg (by decide)] at this; exact this⟩
  | x :: y :: l, h, z, hz => by
    rcases List.mem_cons.1 hz with rfl | hz
    · exact ⟨h.1, h.2.1⟩
    · exact zones_done (y :: l) h.2.2 z hz
abbrev Rt (s : S) : Prop := Right own Ru.R.Ok Er.E.Ok s
theorem right_of {t : Txt} {x : S} (hs : t.length ≤ 1048576) (h : parse own t = .ok x) : Rt x ∧ x.op = false := by
  refine parse_right own Ru.R.Ok Er.E.Ok ?_ ?_ t x hs h
  · intro l hl
    have hown : own.rule l = Ru.parse (l.map bts) := rfl
    rw [hown] at hl ⊢
    rcases Ru.parse_ok (l.map bts) with h | h
    · exact h.2.2.2.1
    · exact absurd hl h.1
  · intro l hl
    have hown : own.era l = Er.parse (l.map bts) := rfl
    rw [hown] at hl ⊢
    rcases Er.parse_ok (l.map bts) with h | h
    · exact h.2.2.1
    · exact absurd hl h.1
theorem right_srcB {x : S} (h : Rt x) (ho : x.op = false) : srcB x = true := by
  have hz := h.zones.2
  rw [ho] at hz
  have h1 : x.rules.all Ru.R.good = true := List.all_eq_true.2 fun r hr => (Ru.R.good_iff r).2 (h.rules.2 r hr)
  have h2 : x.zones.all zoneB = true := List.all_eq_true.2 fun z hz' => zoneB_done (zones_done x.zones hz z hz').1 (zones_done x.zones hz z hz').2
  have h3 : x.links.all linkB = true := List.all_eq_true.2 fun k hk => by
    have := h.links.2 k hk
    have h1 : Ru.name k.1 = true := this.1
    have h2 : Ru.name k.2 = true := this.2
    unfold linkB
    rw [h1, h2]
    rfl
  unfold srcB
  rw [h1, h2, h3]
  rfl
theorem right_lims {x : S} (h : Rt x) : Lims x := ⟨h.rules.1, h.zones.1, h.links.1⟩
theorem right_sm {x : S} (h : Rt x) (ho : x.op = false) : Sm x := by
  have hz := h.zones.2
  rw [ho] at hz
  refine ⟨fun r hr => ?_, fun z hz' => ?_, fun k hk => ?_⟩
  · have hR := h.rules.2 r hr
    obtain ⟨h1, _, _, _, _, _, h7⟩ := hR
    have := name_len h1
    rw [tl_length] at this
    unfold Ab.letter at h7
    simp only [Bool.and_eq_true, decide_eq_true_eq] at h7
    exact ⟨by omega, by have := h7.1.1; omega⟩
  · have hB := (zones_done x.zones hz z hz').1
    refine ⟨by have := name_len (show Ru.name z.1 = true from hB.1); omega, fun e he => ?_⟩
    obtain ⟨_, hf, hk, _⟩ := hB.2.2 e he
    refine ⟨?_, ?_⟩
    · have := Ab.fmt_size e.fm hf
      unfold maxLen
      omega
    · unfold maxLen
      rcases hk with ⟨_, _, hr⟩ | ⟨_, _, hr⟩ | ⟨_, _, hr⟩
      · rw [hr]; decide
      · rw [hr]; decide
      · have := name_len hr
        rw [tl_length] at this
        omega
  · have := h.links.2 k hk
    have h1 := name_len (show Ru.name k.1 = true from this.1)
    have h2 := name_len (show Ru.name k.2 = true from this.2)
    exact ⟨by omega, by omega⟩
end Src
end Go.Proofs.YtajcgoinhpengaaDoor
