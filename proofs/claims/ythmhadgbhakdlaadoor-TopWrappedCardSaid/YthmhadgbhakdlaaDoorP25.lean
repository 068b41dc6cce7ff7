/- What the lines of a text are bounded by; places are not negative; a source in memory as it is read. -/
import Derived.Test.YthmhadgbhakdlaaDoorP24
import Derived.Test.YthmhadgbhakdlaaDoorP22
import Derived.Laws.MakeOwn
import Derived.Test.YthmhadgbhakdlaaDoorP17
import Derived.Deep.RegionHeld3
import Derived.Deep.CutBlock
import Derived.OneCell
import Derived.Deep.DeepCutAuto

namespace Go.Proofs.YthmhadgbhakdlaaDoor
open Go.RowKit

namespace Src
def cur : Sc.Mode → Nat
  | .b => 0
  | .f _ t => t.length
  | .q _ _ t => t.length
theorem scan_small (N : Nat) : ∀ (l : Txt) (a : Int) (m : Sc.Mode) (acc f : List (Txt × Int)), (∀ x ∈ acc, x.1.length ≤ N) → cur m + l.length ≤ N → Sc.scan l a m acc = .ok f → ∀ x ∈ f, x.1.length ≤ N
  | [], a, .b, acc, f, ha, hc, h => by
    simp only [Sc.scan, Sc.Res.ok.injEq] at h
    subst h
    exact ha
  | [], a, .f b t, acc, f, ha, hc, h => by
    simp only [Sc.scan, Sc.Res.ok.injEq] at h
    subst h
    intro x hx
    rcases List.mem_append.1 hx with hx | hx
    · exact ha x hx
    · rw [List.mem_singleton] at hx
      subst hx
      simp [cur] at hc
      exact hc
  | [], a, .q q b t, acc, f, ha, hc, h => by simp [Sc.scan] at h
  | c :: l, a, .b, acc, f, ha, hc, h => by
    rw [Sc.scan] at h
    simp only [cur, List.length_cons] at hc
    split at h
    · exact scan_small N l _ _ _ f ha (by simp only [cur]; omega) h
    · split at h
      · simp only [Sc.Res.ok.injEq] at h; subst h; exact ha
      · split at h
        · cases h
        · split at h
          · cases h
          · split at h
            · exact scan_small N l _ _ _ f ha (by simp only [cur, List.length_nil]; omega) h
            · exact scan_small N l _ _ _ f ha (by simp only [cur, List.length_cons, List.length_nil]; omega) h
  | c :: l, a, .f b t, acc, f, ha, hc, h => by
    rw [Sc.scan] at h
    simp only [cur, List.length_cons] at hc
    have hb : ∀ x ∈ acc ++ [(t, b)], x.1.length ≤ N := by
      intro x hx
      rcases List.mem_append.1 hx with hx | hx
      · exact ha x hx
      · rw [List.mem_singleton] at hx
        subst hx
        show t.length ≤ N
        omega
    split at h
    · exact scan_small N l _ _ _ f hb (by simp only [cur]; omega) h
    · split at h
      · simp only [Sc.Res.ok.injEq] at h; subst h; exact hb
      · split at h
        · cases h
        · split at h
          · exact scan_small N l _ _ _ f ha (by simp only [cur]; omega) h
          · exact scan_small N l _ _ _ f ha (by simp only [cur, List.length_append, List.length_cons, List.length_nil]; omega) h
  | c :: l, a, .q q b t, acc, f, ha, hc, h => by
    rw [Sc.scan] at h
    simp only [cur, List.length_cons] at hc
    split at h
    · cases h
    · split at h
      · exact scan_small N l _ _ _ f ha (by simp only [cur]; omega) h
      · exact scan_small N l _ _ _ f ha (by simp only [cur, List.length_append, List.length_cons, List.length_nil]; omega) h
def LineFit (l : Ln) : Prop := l.2 ≠ [] ∧ l.2.length ≤ 1025 ∧ ∀ x ∈ l.2, x.1.length ≤ 2048
theorem fields_small (t : Txt) (f : List (Txt × Int)) (h : Sc.fields t = .ok f) : f.length ≤ 1025 ∧ ∀ x ∈ f, x.1.length ≤ 2048 := by
  have h2 := fields_count t f h
  unfold Sc.fields at h
  split at h
  · cases h
  · rename_i hl
    exact ⟨by omega, scan_small 2048 t 0 .b [] f (fun x hx => by cases hx) (by simp only [cur]; omega) h⟩
theorem linesGo_fit : ∀ (A : List Txt) (no : Int) (acc L : List Ln), (∀ l ∈ acc, LineFit l) → Sc.linesGo A no acc = .ok L → ∀ l ∈ L, LineFit l
  | [], no, acc, L, ha, h => by
    simp only [Sc.linesGo, Sc.LRes.ok.injEq] at h
    subst h
    exact ha
  | t :: A, no, acc, L, ha, h => by
    rw [Sc.linesGo] at h
    cases hf : Sc.fields t with
    | bad col why => rw [hf] at h; cases h
    | ok f =>
      rw [hf] at h
      simp only [] at h
      refine linesGo_fit A _ _ L ?_ h
      split
      · exact ha
      · rename_i hne
        intro l hl
        rcases List.mem_append.1 hl with hl | hl
        · exact ha l hl
        · rw [List.mem_singleton] at hl
          subst hl
          exact ⟨hne, fields_small t f hf⟩
theorem lines_fit (s : Txt) (L : List Ln) (h : Sc.lines s = .ok L) : ∀ l ∈ L, LineFit l := by
  unfold Sc.lines at h
  split at h
  · cases h
  · exact linesGo_fit _ _ _ L (fun l hl => by cases hl) h
theorem eraStep_place (s : S) (t : List Txt) (k : Nat) (place why : Int) (h : eraStep own s t k = .bad place why) : 0 ≤ place ∧ place ≤ k + t.length := by
  unfold eraStep at h
  have hown : own.era (t.drop k) = Er.parse ((t.drop k).map bts) := rfl
  rw [hown] at h
  split at h
  · cases h
  · injection h with h1 h2
    rename_i h0
    rcases Er.parse_ok ((t.drop k).map bts) with h | h
    · exact absurd h.1 h0
    · have h4 := h.2.2.2
      simp only [List.length_map, List.length_drop] at h4
      have h3 := h.2.2.1
      omega
theorem step_place (s : S) (t : List Txt) (place why : Int) (h : step own s t = .bad place why) : 0 ≤ place ∧ place ≤ 16 + t.length := by
  unfold step at h
  split at h
  · split at h
    · injection h with h1 h2; omega
    · have := eraStep_place s t 0 place why h; omega
  · split at h
    · unfold ruleStep at h
      split at h
      · injection h with h1 h2; omega
      · split at h
        · cases h
        · rename_i h0
          injection h with h1 h2
          have hown : own.rule (t.drop 1) = Ru.parse ((t.drop 1).map bts) := rfl
          rw [hown] at h0 h1
          rcases Ru.parse_ok ((t.drop 1).map bts) with h | h
          · exact absurd h.1 h0
          · have := h.2.2.1
            have := h.2.2.2.2
            omega
    · split at h
      · unfold zoneStep at h
        split at h
        · injection h with h1 h2; omega
        · split at h
          · injection h with h1 h2; omega
          · split at h
            · injection h with h1 h2; omega
            · have := eraStep_place _ t 2 place why h; omega
      · split at h
        · unfold linkStep at h
          split at h
          · injection h with h1 h2; omega
          · split at h
            · rename_i i hw
              injection h with h1 h2
              have h3 := wrong_ge _ _ _ _ hw
              have h4 := at_wrong ((t.drop 1).take 2) 0
              rw [hw] at h4
              have h5 := Ix.at_bd wrongN (((t.drop 1).take 2).map bts) 0
              have h6 : ((((t.drop 1).take 2).map bts).length : Int) ≤ 2 := by simp; omega
              simp only [Option.getD_some] at h4
              rcases h5 with h5 | h5 <;> omega
            · split at h
              · injection h with h1 h2
                have h6 : (((t.drop 1).take 2).length : Int) ≤ 2 := by simp; omega
                omega
              · split at h
                · injection h with h1 h2; omega
                · cases h
        · injection h with h1 h2; omega
/-- A slice that reads as a list of cells. -/
def RowR (w : World) (B size n : Nat) (v : Value) (xs : List Value) : Prop := ∃ A c, v = .slice A n c ∧ n ≤ c ∧ c ≤ maxLen ∧ Reads w B size A n xs
theorem RowR.below {w w' : World} {B size n : Nat} {v : Value} {xs : List Value} (h : RowR w B size n v xs) (hb : Below B w w') : RowR w' B size n v xs := by
  obtain ⟨A, c, e, h1, h2, h3⟩ := h
  exact ⟨A, c, e, h1, h2, h3.below hb⟩
theorem RowR.more {w : World} {B B' size n : Nat} {v : Value} {xs : List Value} (h : RowR w B size n v xs) (hb : B ≤ B') : RowR w B' size n v xs := by
  obtain ⟨A, c, e, h1, h2, h3⟩ := h
  exact ⟨A, c, e, h1, h2, h3.more hb⟩
theorem RowR.of_own {w : World} {base size n : Nat} {e : TypeId} {v : Value} {xs : List Value} (h : w.ownsRow base e size v n xs) : RowR w w.heap.size size n v xs := by
  obtain ⟨A, c, rfl, h1, h2⟩ := own_slice_cap h
  exact ⟨A, c, rfl, h1, h2, Reads.of_own h⟩
/-- A source as it is read: three slices, and one for each zone's eras. -/
structure SrcR (w : World) (B : Nat) (s : S) (rv zv lv : Value) (evs : List Value) : Prop where
  rules : RowR w B 11 s.rules.length rv (s.rules.flatMap Ru.R.cells)
  zones : RowR w B 2 s.zones.length zv ((s.zones.zip evs).flatMap zc)
  links : RowR w B 2 s.links.length lv (s.links.flatMap lc)
  len : evs.length = s.zones.length
  eras : ∀ p ∈ s.zones.zip evs, RowR w B 13 p.1.2.length p.2 (p.1.2.flatMap Er.E.cells)
theorem SrcR.below {w w' : World} {B : Nat} {s : S} {rv zv lv : Value} {evs : List Value} (h : SrcR w B s rv zv lv evs) (hb : Below B w w') : SrcR w' B s rv zv lv evs :=
  ⟨h.rules.below hb, h.zones.below hb, h.links.below hb, h.len, fun p hp => (h.eras p hp).below hb⟩
theorem SrcR.more {w : World} {B B' : Nat} {s : S} {rv zv lv : Value} {evs : List Value} (h : SrcR w B s rv zv lv evs) (hb : B ≤ B') : SrcR w B' s rv zv lv evs :=
  ⟨h.rules.more hb, h.zones.more hb, h.links.more hb, h.len, fun p hp => (h.eras p hp).more hb⟩
theorem SrcR.call {w w' : World} {s : S} {rv zv lv : Value} {evs : List Value} (h : SrcR w w.heap.size s rv zv lv evs) (hb : Below w.heap.size w w') : SrcR w' w'.heap.size s rv zv lv evs := (h.below hb).more hb.size
theorem zoneCells_zip : ∀ (a : List (Txt × List Er.E)) (vs : List Value), zoneCells a vs = (a.zip vs).flatMap zc
  | [], _ => by simp [zoneCells]
  | z :: a, [] => by simp [zoneCells]
  | z :: a, v :: vs => by simp [zoneCells, zc, zoneCells_zip a vs]
/-- What source.Parse leaves. -/
def PRet (w : World) (X : Par S) (e : Ending) (w' : World) : Prop :=
  Below w.heap.size w w' ∧ match X with
  | .ok s => ∃ rv zv lv evs, e = .returned (.tuple #[.agg #[rv, zv, lv], .agg #[.int .i64 0, .int .i64 0, .int .i64 0]]) ∧ SrcR w' w'.heap.size s rv zv lv evs
  | .bad l c y => e = .returned (.tuple #[.agg #[.slice none 0 0, .slice none 0 0, .slice none 0 0], .agg #[.int .i64 l, .int .i64 c, .int .i64 y]])
end Src
end Go.Proofs.YthmhadgbhakdlaaDoor

/- Comparing records cell by cell; slices.Equal at them. -/
namespace Go.Proofs.YthmhadgbhakdlaaDoor
open Go.RowKit

theorem toList_eq_iff (a b : ByteArray) : a.toList = b.toList ↔ a = b := by
  rw [ByteArray.toList_eq, ByteArray.toList_eq]
  constructor
  · intro h
    exact ByteArray.ext (Array.ext' h)
  · intro h
    rw [h]
theorem if_and {p : Prop} [Decidable p] {q : Bool} {w : World} {R : Result Bool} (h : R = .ok q w) : (if p then R else .ok false w) = .ok (decide p && q) w := by
  by_cases hp : p
  · rw [if_pos hp, h, decide_eq_true hp, Bool.true_and]
  · rw [if_neg hp, decide_eq_false hp, Bool.false_and]
theorem if_last (p : Prop) [Decidable p] (w : World) : (if p then (.ok true w : Result Bool) else .ok false w) = .ok (decide p) w := by
  by_cases hp : p
  · rw [if_pos hp, decide_eq_true hp]
  · rw [if_neg hp, decide_eq_false hp]
namespace Ix
/-- Two lists agree, one by one. -/
def same {α : Type} (f : α → α → Bool) : List α → List α → Bool
  | [], [] => true
  | x :: l, y :: k => f x y && same f l k
  | _, _ => false
theorem same_len {α : Type} {f : α → α → Bool} : ∀ {xs ys : List α}, xs.length ≠ ys.length → same f xs ys = false
  | [], [], h => absurd rfl h
  | [], y :: k, _ => rfl
  | x :: l, [], _ => rfl
  | x :: l, y :: k, h => by
    unfold same
    rw [same_len (by simpa using h)]
    simp
theorem same_next {α : Type} {f : α → α → Bool} {xs ys : List α} {k : Nat} {x y : α} {X : Bool} (h : X = same f (xs.drop k) (ys.drop k)) (hx : xs[k]? = some x) (hy : ys[k]? = some y) : X = (f x y && same f (xs.drop (k + 1)) (ys.drop (k + 1))) := by
  rw [List.drop_eq_getElem_cons (List.getElem?_eq_some_iff.1 hx).1, List.drop_eq_getElem_cons (List.getElem?_eq_some_iff.1 hy).1] at h
  rw [h, same, (List.getElem?_eq_some_iff.1 hx).2, (List.getElem?_eq_some_iff.1 hy).2]
theorem same_end {α : Type} {f : α → α → Bool} {xs ys : List α} {k : Nat} {X : Bool} (h : X = same f (xs.drop k) (ys.drop k)) (hx : xs.length ≤ k) (hy : ys.length ≤ k) : X = true := by
  rw [h, List.drop_eq_nil_of_le hx, List.drop_eq_nil_of_le hy]
  rfl
theorem same_iff {α : Type} {f : α → α → Bool} (hf : ∀ a b, f a b = true ↔ a = b) : ∀ (xs ys : List α), same f xs ys = true ↔ xs = ys
  | [], [] => by simp [same]
  | [], y :: k => by simp [same]
  | x :: l, [] => by simp [same]
  | x :: l, y :: k => by simp [same, hf, same_iff hf l k]
end Ix
def Ru.R.same (r s : Ru.R) : Bool := decide (r.nm = s.nm) && (decide (r.fr = s.fr) && (decide (r.tt = s.tt) && (decide (r.mo = s.mo) && (decide (r.k = s.k) && (decide (r.n = s.n) && (decide (r.d = s.d) && (decide (r.s = s.s) && (decide (r.c = s.c) && (decide (r.sv = s.sv) && (decide (r.lt = s.lt)))))))))))
theorem Ru.R.same_iff (r s : Ru.R) : r.same s = true ↔ r = s := by
  obtain ⟨a0, a1, a2, a3, a4, a5, a6, a7, a8, a9, a10⟩ := r
  obtain ⟨b0, b1, b2, b3, b4, b5, b6, b7, b8, b9, b10⟩ := s
  simp [Ru.R.same]
def Er.E.same (r s : Er.E) : Bool := decide (r.std = s.std) && (decide (r.k = s.k) && (decide (r.sv = s.sv) && (decide (r.ru = s.ru) && (decide (r.fm = s.fm) && (decide (r.en = s.en) && (decide (r.u.y = s.u.y) && (decide (r.u.m = s.u.m) && (decide (r.u.k = s.u.k) && (decide (r.u.n = s.u.n) && (decide (r.u.d = s.u.d) && (decide (r.u.s = s.u.s) && (decide (r.u.c = s.u.c)))))))))))))
theorem Er.E.same_iff (r s : Er.E) : r.same s = true ↔ r = s := by
  obtain ⟨a0, a1, a2, a3, a4, a5, ⟨a6, a7, a8, a9, a10, a11, a12⟩⟩ := r
  obtain ⟨b0, b1, b2, b3, b4, b5, ⟨b6, b7, b8, b9, b10, b11, b12⟩⟩ := s
  simp [Er.E.same]
/-- Two links agree. -/
def Src.lsame (r s : Src.Txt × Src.Txt) : Bool := decide (r.1 = s.1) && decide (r.2 = s.2)
theorem Src.lsame_iff (r s : Src.Txt × Src.Txt) : Src.lsame r s = true ↔ r = s := by
  obtain ⟨a0, a1⟩ := r
  obtain ⟨b0, b1⟩ := s
  simp [Src.lsame]
theorem Src.bts_iff (a b : Src.Txt) : Src.bts a = Src.bts b ↔ a = b := by
  constructor
  · intro h
    have h1 := congrArg ByteArray.data h
    have h2 := congrArg Array.toList h1
    simpa [Src.bts] using h2
  · intro h
    rw [h]
end Go.Proofs.YthmhadgbhakdlaaDoor

/- source.Check. -/
namespace Go.Proofs.YthmhadgbhakdlaaDoor
open Go.RowKit

noncomputable def Ru.R.good (r : Ru.R) : Bool := @decide r.Ok (Classical.propDecidable _)
theorem Ru.R.good_iff (r : Ru.R) : r.good = true ↔ r.Ok := by
  unfold Ru.R.good
  exact @decide_eq_true_iff _ (Classical.propDecidable _)
noncomputable def Er.E.good (e : Er.E) : Bool := decide (Er.chk e = 0)
namespace Src
/-- The eras of a right zone: each is right, and all but the last one end. -/
noncomputable def erasB : List Er.E → Bool
  | [] => true
  | e :: l => e.good && ((e.en == !l.isEmpty) && erasB l)
noncomputable def zoneB (z : Txt × List Er.E) : Bool := Ru.name z.1 && (decide (1 ≤ z.2.length) && (decide (z.2.length ≤ 64) && erasB z.2))
def linkB (k : Txt × Txt) : Bool := Ru.name k.1 && Ru.name k.2
/-- A source is right. -/
noncomputable def srcB (s : S) : Bool := s.rules.all Ru.R.good && (s.zones.all zoneB && s.links.all linkB)
structure Lims (s : S) : Prop where
  rules : s.rules.length ≤ 4096
  zones : s.zones.length ≤ 1024
  links : s.links.length ≤ 4096
/-- No name is too long. -/
structure Sm (s : S) : Prop where
  rules : ∀ r ∈ s.rules, r.nm.size ≤ 1000000 ∧ r.lt.size ≤ 1000000
  zones : ∀ z ∈ s.zones, z.1.length ≤ 1000000 ∧ ∀ e ∈ z.2, e.fm.size ≤ maxLen ∧ e.ru.size ≤ maxLen
  links : ∀ k ∈ s.links, k.1.length ≤ 1000000 ∧ k.2.length ≤ 1000000
end Src
theorem any_not {α : Type} (f : α → Bool) : ∀ l : List α, l.any (fun x => !f x) = !l.all f
  | [] => rfl
  | x :: l => by
    rw [List.any_cons, List.all_cons, any_not f l]
    cases f x <;> rfl
theorem name_bts (t : Src.Txt) (w : World) (h : t.length ≤ 1000000) (b : Bool) (hb : Ru.name t = b) : Calls Tryd.prog 35 #[.string (Src.bts t)] w fun e w' => e = .returned (.bool b) ∧ Below w.heap.size w w' := by
  have := name_any (Src.bts t) w h
  rw [show tl (Src.bts t) = t from tl_mk t, hb] at this
  exact this
theorem erasB_next {es : List Er.E} {i n : Nat} {e : Er.E} {X : Bool} (h : X = Src.erasB (es.drop i)) (hx : es[i]? = some e) (hn : es.length = n) : X = (e.good && ((e.en == decide (((i : Int)) < (n : Int) - 1)) && Src.erasB (es.drop (i + 1)))) := by
  have hi := (List.getElem?_eq_some_iff.1 hx).1
  rw [h, List.drop_eq_getElem_cons hi, (List.getElem?_eq_some_iff.1 hx).2, Src.erasB]
  have : (!(es.drop (i + 1)).isEmpty) = decide ((i : Int) < (n : Int) - 1) := by
    by_cases hl : i + 1 < es.length
    · have e1 : (es.drop (i + 1)).isEmpty = false := by
        rw [List.isEmpty_eq_false_iff]
        intro e
        have := congrArg List.length e
        simp at this
        omega
      rw [e1, decide_eq_true (by omega)]
      rfl
    · rw [List.drop_eq_nil_of_le (by omega), decide_eq_false (by omega)]
      rfl
  rw [this]
theorem erasB_end {es : List Er.E} {i : Nat} {X : Bool} (h : X = Src.erasB (es.drop i)) (hi : es.length ≤ i) : X = true := by
  rw [h, List.drop_eq_nil_of_le hi]
  rfl
end Go.Proofs.YthmhadgbhakdlaaDoor

/- source.Check, source.Same. -/
namespace Go.Proofs.YthmhadgbhakdlaaDoor
open Go.RowKit

theorem any_zip {α β : Type} (f : α → Bool) : ∀ (a : List α) (b : List β), b.length = a.length → ((a.zip b).any fun p => f p.1) = a.any f
  | [], [], _ => rfl
  | x :: a, y :: b, h => by
    rw [List.zip_cons_cons, List.any_cons, List.any_cons, any_zip f a b (by simpa using h)]
theorem mem_zip {α β : Type} {a : List α} {b : List β} {p : α × β} (h : p ∈ a.zip b) : p.1 ∈ a := (List.of_mem_zip h).1
namespace Src
def zsame (a b : Txt × List Er.E) : Bool := decide (a.1 = b.1) && Ix.same Er.E.same a.2 b.2
theorem zsame_iff (a b : Txt × List Er.E) : zsame a b = true ↔ a = b := by
  obtain ⟨a0, a1⟩ := a
  obtain ⟨b0, b1⟩ := b
  simp [zsame, Ix.same_iff Er.E.same_iff]
def sameB (a b : S) : Bool := Ix.same Ru.R.same a.rules b.rules && (Ix.same zsame a.zones b.zones && Ix.same lsame a.links b.links)
theorem sameB_iff (a b : S) : sameB a b = true ↔ a.rules = b.rules ∧ a.zones = b.zones ∧ a.links = b.links := by
  simp [sameB, Ix.same_iff Ru.R.same_iff, Ix.same_iff zsame_iff, Ix.same_iff lsame_iff]
theorem same_zip {α β γ : Type} (f : α → α → Bool) : ∀ (a a' : List α) (b : List β) (b' : List γ), b.length = a.length → b'.length = a'.length → Ix.same (fun (p q : α × Value) => f p.1 q.1) [] [] = true
  | _, _, _, _, _, _ => rfl
theorem same_fst (f : (Txt × List Er.E) → (Txt × List Er.E) → Bool) : ∀ (a a' : List (Txt × List Er.E)) (b b' : List Value), b.length = a.length → b'.length = a'.length → Ix.same (fun p q => f p.1 q.1) (a.zip b) (a'.zip b') = Ix.same f a a'
  | [], [], [], [], _, _ => rfl
  | [], x :: a', [], y :: b', _, _ => rfl
  | x :: a, [], y :: b, [], _, _ => rfl
  | x :: a, x' :: a', y :: b, y' :: b', h, h' => by
    rw [List.zip_cons_cons, List.zip_cons_cons, Ix.same, Ix.same, same_fst f a a' b b' (by simpa using h) (by simpa using h')]
end Src
end Go.Proofs.YthmhadgbhakdlaaDoor

/- source.Parse. -/
namespace Go.Proofs.YthmhadgbhakdlaaDoor
open Go.RowKit

theorem below_six {B h : Nat} {a W : World} (hb : Below B a W) (hh : B ≤ h) (v0 v1 v2 v3 v4 v5 : Value) :
    Below B a ((((((W.setCell ⟨h, 0, none⟩ v0).setCell ⟨h, 1, none⟩ v1).setCell ⟨h, 2, none⟩ v2).setCell ⟨h + 1, 0, none⟩ v3).setCell ⟨h + 1, 1, none⟩ v4).setCell ⟨h + 1, 2, none⟩ v5) :=
  (((((hb.setCell (p := ⟨h, 0, none⟩) hh v0).setCell (p := ⟨h, 1, none⟩) hh v1).setCell (p := ⟨h, 2, none⟩) hh v2).setCell (p := ⟨h + 1, 0, none⟩) (Nat.le_succ_of_le hh) v3).setCell (p := ⟨h + 1, 1, none⟩) (Nat.le_succ_of_le hh) v4).setCell (p := ⟨h + 1, 2, none⟩) (Nat.le_succ_of_le hh) v5
theorem Src.parse_bad {t : Src.Txt} {l c y : Int} (h : Sc.lines t = .bad l c y) : Src.parse Src.own t = .bad l c y := by unfold Src.parse; rw [h]
end Go.Proofs.YthmhadgbhakdlaaDoor

/- source.Parse: the lines are gone through. -/
namespace Go.Proofs.YthmhadgbhakdlaaDoor
open Go.RowKit

namespace Src
def rest (L : List Ln) (k : Nat) (s : S) : Par S := match readGo own (L.drop k) s with
  | .bad l c w => .bad l c w
  | .ok s' => finish L s'
theorem rest_step {L : List Ln} {k : Nat} {s : S} {x : Ln} {X : Par S} (h : X = rest L k s) (hx : L[k]? = some x) :
    X = match step own s (x.2.map (·.1)) with
    | .bad p y => .bad x.1 (colAt x.2 p) y
    | .ok s' => rest L (k + 1) s' := by
  rw [h]
  unfold rest
  rw [List.drop_eq_getElem_cons (List.getElem?_eq_some_iff.1 hx).1, (List.getElem?_eq_some_iff.1 hx).2, readGo_cons]
  cases step own s (x.2.map (·.1)) <;> rfl
theorem rest_end {L : List Ln} {k : Nat} {s : S} {X : Par S} (h : X = rest L k s) (hk : L.length ≤ k) : X = finish L s := by
  rw [h]
  unfold rest
  rw [List.drop_eq_nil_of_le hk]
  rfl
theorem rest_all {L : List Ln} : readAll own L = rest L 0 St.none_ := by
  unfold readAll rest
  rw [List.drop_zero]
  cases readGo own L St.none_ <;> rfl
/-- A line with its fields' slice; its cells; a field's cells. -/
def lnc (p : Ln × Value) : List Value := [.int .i64 p.1.1, p.2]
def flc (x : Txt × Int) : List Value := [.string (bts x.1), .int .i64 x.2]
def IRel (W8 : World) (ts : List Txt) (m : Nat) (v i : Value) (wi : World) : Prop :=
  ∃ j : Nat, j ≤ m ∧ i = .int .i64 j ∧ Hid (wi.ownsRow W8.heap.size 9 1 v j (((ts.take j).map bts).map Value.string)) ∧ Hid (Below W8.heap.size W8 wi)
theorem take_more {ts : List Txt} {j : Nat} {t : Txt} (h : ts[j]? = some t) : ((ts.take (j + 1)).map bts).map Value.string = ((ts.take j).map bts).map Value.string ++ [.string (bts t)] := by
  rw [List.take_add_one, h]
  simp
theorem last_at {L : List Ln} {x d : Ln} (h : L[L.length - 1]? = some x) : L.getLastD d = x := by
  rw [List.getLastD_eq_getLast?, List.getLast?_eq_getElem?, h]
  rfl
end Src
theorem At.same {w w' : World} {g : Nat} {xs : List Value} (h : At w g xs) (hs : g < w'.heap.size) (e : w'.heap[g]? = w.heap[g]?) : At w' g xs :=
  ⟨hs, fun i v hi => ⟨(World.cell?_of_block e).trans (h.2 i v hi).1, (World.frozen?_of_block e).trans (h.2 i v hi).2⟩⟩
end Go.Proofs.YthmhadgbhakdlaaDoor

/- slices.EqualFunc at zones, source.Same, source.Names. -/
namespace Go.Proofs.YthmhadgbhakdlaaDoor
open Go.RowKit

/-- What is asked of a comparison. -/
def Ix.Tells2 {α : Type} (g : FuncId) (lb : Array Value) (enc : α → Value) (f : α → α → Bool) (xs ys : List α) (w : World) : Prop :=
  ∀ W x y, x ∈ xs → y ∈ ys → Below w.heap.size w W → Calls Tryd.prog g (#[enc x, enc y] ++ lb) W fun e w' => e = .returned (.bool (f x y)) ∧ Below w.heap.size w w'
end Go.Proofs.YthmhadgbhakdlaaDoor

/- source.Names. -/
namespace Go.Proofs.YthmhadgbhakdlaaDoor
open Go.RowKit

namespace Src
def zoneNames (s : S) : List ByteArray := s.zones.map fun z => bts z.1
def linkNames (s : S) : List ByteArray := s.links.map fun k => bts k.2
def names (s : S) : List ByteArray := zoneNames s ++ linkNames s
theorem more_one {l : List ByteArray} {k : Nat} {x : ByteArray} (h : l[k]? = some x) : (l.take (k + 1)).map Value.string = (l.take k).map Value.string ++ [Value.string x] := by
  rw [List.take_add_one, h]
  simp
def NRel (W0 : World) (h : Nat) (cs : List Value) (pre l : List ByteArray) (n : Nat) (v i : Value) (wr : World) : Prop :=
  ∃ k : Nat, k ≤ n ∧ i = .int .i64 k ∧ Hid (wr.ownsRow W0.heap.size 9 1 v (pre.length + k) (pre.map Value.string ++ (l.take k).map Value.string)) ∧ Hid (At wr h cs) ∧ Hid (Below W0.heap.size W0 wr)
end Src
end Go.Proofs.YthmhadgbhakdlaaDoor

/- link.of: a finder for a source. -/
namespace Go.Proofs.YthmhadgbhakdlaaDoor
open Go.RowKit

namespace Lk
def zn (s : Src.S) : List ByteArray := s.zones.map fun z => Src.bts z.1
def ln (s : Src.S) : List ByteArray := s.links.map fun k => Src.bts k.2
def tg (s : Src.S) : List ByteArray := s.links.map fun k => Src.bts k.1
end Lk
/-- A finder in block g: its links, the places of zones and of links, and what is known. -/
structure Lk.Fr (s : Src.S) (lv : Value) (w : World) (g bz bl bk n : Nat) (K : Mp.Fn) : Prop where
  at_ : At w g [lv, .map (some bz), .map (some bl), .map (some bk)]
  z : MapF Tryd.prog 9 w bz s.zones.length (Lk.places (Lk.zn s))
  l : MapF Tryd.prog 9 w bl s.links.length (Lk.places (Lk.ln s))
  k : MapF Tryd.prog 9 w bk n K
  ne1 : bk ≠ bz
  ne2 : bk ≠ bl
/-- What link.of hands back. -/
def Lk.OfRet (s : Src.S) (lv : Value) (w : World) (e : Ending) (w' : World) : Prop :=
  ∃ g bz bl bk, e = .returned (.pointer (some ⟨g, 0, none⟩)) ∧ Lk.Fr s lv w' g bz bl bk 0 (fun _ => none) ∧ (w.heap.size ≤ g ∧ w.heap.size ≤ bk) ∧ Below w.heap.size w w'
section
variable {w0 W W' : World} {h : Nat} {a b c : Value}
theorem Lk.sw_alloc (hs : W.cell? ⟨h, 0, none⟩ = some a ∧ W.cell? ⟨h, 1, none⟩ = some b ∧ W.cell? ⟨h, 2, none⟩ = some c ∧ Hid (h < w0.heap.size ∧ Below w0.heap.size w0 W)) (o : Obj) :
    (W.alloc o).cell? ⟨h, 0, none⟩ = some a ∧ (W.alloc o).cell? ⟨h, 1, none⟩ = some b ∧ (W.alloc o).cell? ⟨h, 2, none⟩ = some c ∧ Hid (h < w0.heap.size ∧ Below w0.heap.size w0 (W.alloc o)) := by
  obtain ⟨h0, h1, h2, hl, hb⟩ := hs
  have hlt : h < W.heap.size := Nat.lt_of_lt_of_le hl hb.size
  exact ⟨(World.cell?_alloc_lt W o ⟨h, 0, none⟩ hlt).trans h0, (World.cell?_alloc_lt W o ⟨h, 1, none⟩ hlt).trans h1, (World.cell?_alloc_lt W o ⟨h, 2, none⟩ hlt).trans h2, hl, hb.alloc hb.size o⟩
theorem Lk.sw_below (hs : W.cell? ⟨h, 0, none⟩ = some a ∧ W.cell? ⟨h, 1, none⟩ = some b ∧ W.cell? ⟨h, 2, none⟩ = some c ∧ Hid (h < w0.heap.size ∧ Below w0.heap.size w0 W)) (k : Below W.heap.size W W') :
    W'.cell? ⟨h, 0, none⟩ = some a ∧ W'.cell? ⟨h, 1, none⟩ = some b ∧ W'.cell? ⟨h, 2, none⟩ = some c ∧ Hid (h < w0.heap.size ∧ Below w0.heap.size w0 W') := by
  obtain ⟨h0, h1, h2, hl, hb⟩ := hs
  have hlt : h < W.heap.size := Nat.lt_of_lt_of_le hl hb.size
  exact ⟨(k.cell (p := ⟨h, 0, none⟩) hlt).trans h0, (k.cell (p := ⟨h, 1, none⟩) hlt).trans h1, (k.cell (p := ⟨h, 2, none⟩) hlt).trans h2, hl, hb.trans (k.mono hb.size)⟩
end
end Go.Proofs.YthmhadgbhakdlaaDoor

/- finder.find: where a name leads, and by which names that were not known. -/
namespace Go.Proofs.YthmhadgbhakdlaaDoor
open Go.RowKit

section
variable {a b c : World} {row row' : Option Nat}
theorem gb_then (h : a.grownBy b row) (k : b.grownBy c row') (hr : ∀ j, row' = some j → a.heap.size ≤ j ∨ row = some j) : a.grownBy c row :=
  ⟨k.os.trans h.os, k.tape.trans h.tape, k.output.trans h.output, Nat.le_trans h.size k.size, fun i hi hne => (k.block i (Nat.lt_of_lt_of_le hi h.size) (fun e => by
    rcases hr i e.symm with h1 | h1
    · omega
    · exact hne h1.symm)).trans (h.block i hi hne)⟩
theorem gb_alloc (h : a.grownBy b row) (o : Obj) : a.grownBy (b.alloc o) row := gb_then h (World.grownBy_alloc b o none) (fun j e => by cases e)
theorem gb_drew (h : a.grownBy b row) : a.grownBy b.drew row := ⟨h.os, h.tape, h.output, h.size, h.block⟩
theorem gb_set (h : a.grownBy b row) {p : Addr} (hp : a.heap.size ≤ p.block) (v : Value) : a.grownBy (b.setCell p v) row :=
  ⟨h.os, h.tape, h.output, by rw [heap_set]; exact h.size, fun i hi hne => (Below.heap_setCell b p v i (by omega)).trans (h.block i hi hne)⟩
end
theorem MapF.not_cells {P : Program} {k : TypeId} {w : World} {b n : Nat} {f : Mp.Fn} (h : MapF P k w b n f) : ∃ o : Obj, w.heap[b]? = some o ∧ o.isCells = false := by
  obtain ⟨D, ⟨es, clock, hb, _⟩, _⟩ := h
  exact ⟨_, hb, rfl⟩
theorem MapF.keeps {P : Program} {k : TypeId} {w w' : World} {b n : Nat} {f : Mp.Fn} (h : MapF P k w b n f) (hg : w.grownBy w' (some b)) {p : Addr} {v : Value} (hc : w.cell? p = some v) : w'.cell? p = some v :=
  cell_kept hc hg (fun r e => by cases e; exact h.not_cells)
theorem Reads.beside {P : Program} {k : TypeId} {w w' : World} {b n : Nat} {f : Mp.Fn} {B size m : Nat} {A : Option Addr} {xs : List Value} (hr : Reads w B size A m xs) (h : MapF P k w b n f) (hg : w.grownBy w' (some b)) : Reads w' B size A m xs :=
  ⟨hr.1, fun hn => by
    obtain ⟨ad, e, hb, hc⟩ := hr.2 hn
    exact ⟨ad, e, hb, fun j u hu => h.keeps hg (hc j u hu)⟩⟩
theorem At.ne_map {P : Program} {k : TypeId} {w : World} {b n g : Nat} {f : Mp.Fn} {x : Value} {xs : List Value} (hA : At w g (x :: xs)) (h : MapF P k w b n f) : g ≠ b := by
  intro e
  subst e
  obtain ⟨o, ho, hc⟩ := h.not_cells
  obtain ⟨o', ho', hc'⟩ := cells_of_cell (hA.cell 0 x rfl)
  rw [show (⟨g, 0, none⟩ : Addr).block = g from rfl, ho] at ho'
  cases ho'
  rw [hc] at hc'
  cases hc'
set_option maxRecDepth 100000 in
/-- An append of one text. -/
theorem name_append {ops : Array Oper} {rest : List Oper} {o : Oper} {a : Act} {Q : Exit → Act → World → Prop} (W : World) (B n : Nat) (xs : List Value) (v : Value) (s : ByteArray) (x y : Nat)
    (hO : W.ownsRow B 9 1 v n xs) (hl : n ≤ 2000000) (hB : B ≤ W.heap.size) (hgd : o.guard = none)
    (ho : o.op = .call { callee := .builtin .append, args := #[.tmp x, .tmp y], argTypes := #[47, 47] }) (hs : a.eval (.tmp x) = v) (hx : a.eval (.tmp y) = .slice (some ⟨W.heap.size, 0, none⟩) 1 1)
    (h : ∀ v' w', w'.ownsRow B 9 1 v' (n + 1) (xs ++ [.string s]) → Below B W w' → (∀ g xs, At W g xs → v.ownBlock ≠ some g → At w' g xs ∧ v'.ownBlock ≠ some g) → (W.alloc (.cells #[.string s] 9)).grownBy w' v.ownBlock → wpList Tryd.prog ops Q rest (a.put o.dst v') w') :
    wpList Tryd.prog ops Q (o :: rest) a (W.alloc (.cells #[.string s] 9)) := by
  obtain ⟨i0, hi0, hz0, hz1, hz2⟩ : ∃ i, Tryd.prog.info? 9 = some i ∧ i.zero = some (.string ⟨#[]⟩) ∧ i.size = 1 ∧ i.bytes = 16 := by
    have h : (Tryd.prog.info? 9).map (fun i => (i.zero, i.size, i.bytes)) = some (some (.string ⟨#[]⟩), 1, 16) := by kernel_rfl
    cases hc : Tryd.prog.info? 9 with
    | none => rw [hc] at h; cases h
    | some i =>
      rw [hc] at h
      simp only [Option.map_some, Option.some.injEq, Prod.mk.injEq] at h
      exact ⟨i, rfl, h.1, h.2.1, h.2.2⟩
  have hR : Reads (W.alloc (.cells #[.string s] 9)) (W.heap.size + 1) 1 (some ⟨W.heap.size, 0, none⟩) 1 [.string s] := by
    refine ⟨by simp, fun _ => ⟨_, rfl, Nat.lt_succ_self _, fun j u hu => ?_⟩⟩
    have e : (⟨W.heap.size, 0, none⟩ : Addr).add j = ⟨W.heap.size, j, none⟩ := by
      unfold Addr.add
      split
      · subst_vars; rfl
      · simp
    rw [e]
    exact (At.new W #[.string s] 9).cell j u hu
  refine wpList_append_any (P := Tryd.prog) _ hgd (.tmp x) (.tmp y) 47 ho B 9 i0 _ 1 16 Tryd.underlying47 hi0 hz0 hz1 hz2 rfl (by omega) v n xs hs (hO.alloc _) (W.heap.size + 1) _ 1 1 _ hx hR (by simp [Value.oneCell']) (by unfold maxLen; omega) (by omega) (by rw [World.size_alloc]; omega) ?_
  intro v' w' hown hg hat
  refine h v' w' hown (((Below.refl B W).alloc hB _).grown hg (by rw [World.size_alloc]; omega) (fun g e => (hO.lt g e).1)) ?_ hg
  intro g xs hA hne
  have hA' := hA.allocO (.cells #[.string s] 9)
  refine ⟨⟨Nat.lt_of_lt_of_le hA'.1 hg.size, fun i v hi => ⟨(World.cell?_of_block (a := ⟨g, i, none⟩) (hg.block g hA'.1 (fun e => hne e.symm))).trans (hA'.2 i v hi).1, (World.frozen?_of_block (a := ⟨g, i, none⟩) (hg.block g hA'.1 (fun e => hne e.symm))).trans (hA'.2 i v hi).2⟩⟩, ?_⟩
  rcases hat with e | e
  · rw [e]; exact hne
  · rw [e, World.size_alloc]
    intro e2
    have := hA.lt
    injection e2 with e2
    omega
theorem Lk.at_kept {w w' : World} {g : Nat} {xs : List Value} {row : Option Nat} (h : At w g xs) (hg : w.grownBy w' row) (hne : some g ≠ row) : At w' g xs :=
  ⟨Nat.lt_of_lt_of_le h.1 hg.size, fun i v hi => ⟨(World.cell?_of_block (a := ⟨g, i, none⟩) (hg.block g h.1 hne)).trans (h.2 i v hi).1, (World.frozen?_of_block (a := ⟨g, i, none⟩) (hg.block g h.1 hne)).trans (h.2 i v hi).2⟩⟩
theorem Lk.at_kept2 {P : Program} {k : TypeId} {w w' : World} {g b n : Nat} {x : Value} {xs : List Value} {f : Mp.Fn} (h : At w g (x :: xs)) (hm : MapF P k w b n f) (hg : w.grownBy w' (some b)) : At w' g (x :: xs) :=
  Lk.at_kept h hg (fun e => h.ne_map hm (by injection e))
def nameLen (v : Value) : Nat := match v with | .slice _ n _ => n | _ => 0
/-- Where the search stands at a round's begin. -/
structure Lk.FAt (s : Src.S) (w : World) (h bk n : Nat) (K : Lk.Kn) (x : ByteArray) (y v b : Value) (wr : World) : Prop where
  st : ∃ (name : ByteArray) (done : List ByteArray) (f : Nat), y = .string name ∧ name.size ≤ maxLen ∧ f + 1 + done.length = s.links.length + 1 + 1 ∧ done.Nodup ∧ (∀ d ∈ done, d ∈ Lk.ln s) ∧
    wr.ownsRow w.heap.size 9 1 v done.length (done.map Value.string) ∧
    Lk.find (Lk.zn s) (Lk.ln s) (Lk.tg s) (s.links.length + 1) K x = (done ++ (Lk.find (Lk.zn s) (Lk.ln s) (Lk.tg s) f (Lk.marks K done Lk.loop) name).1, (Lk.find (Lk.zn s) (Lk.ln s) (Lk.tg s) f (Lk.marks K done Lk.loop) name).2) ∧
    b = .bool (Lk.marks K done Lk.loop name).isSome ∧
    At wr (h + 1) [.int .i64 ((Lk.marks K done Lk.loop name).getD (0, 0)).1, .int .i64 ((Lk.marks K done Lk.loop name).getD (0, 0)).2] ∧
    MapF Tryd.prog 9 wr bk (n + done.length) (Lk.kf (Lk.marks K done Lk.loop))
  res : At wr h [.int .i64 0, .int .i64 0]
  own : ∀ g, v.ownBlock = some g → g ≠ h ∧ g ≠ h + 1
  gb : w.grownBy wr (some bk)
/-- Behind the search. -/
structure Lk.FEnd (s : Src.S) (w : World) (h bk n : Nat) (K : Lk.Kn) (r : List ByteArray × Lk.Fd) (v : Value) (wr : World) : Prop where
  row : wr.ownsRow w.heap.size 9 1 v r.1.length (r.1.map Value.string)
  end_ : At wr (h + 1) [.int .i64 r.2.1, .int .i64 r.2.2]
  map : MapF Tryd.prog 9 wr bk (n + r.1.length) (Lk.kf (Lk.marks K r.1 Lk.loop))
  res : At wr h [.int .i64 0, .int .i64 0]
  own : ∀ g, v.ownBlock = some g → g ≠ h ∧ g ≠ h + 1
  gb : w.grownBy wr (some bk)
/-- What finder.find hands back, R being what is found. -/
def Lk.FdR (s : Src.S) (lv : Value) (g bz bl bk n : Nat) (K : Lk.Kn) (R : List ByteArray × Lk.Fd) (w : World) (e : Ending) (w' : World) : Prop :=
  (∃ A c, e = .returned (.tuple #[.slice A R.1.length c, .agg #[.int .i64 R.2.1, .int .i64 R.2.2]]) ∧ Reads w' w'.heap.size 1 A R.1.length (R.1.map Value.string)) ∧
  Lk.Fr s lv w' g bz bl bk (n + R.1.length + R.1.length) (Lk.kf (Lk.marks K R.1 R.2)) ∧ w.grownBy w' (some bk)
/-- Where the chain's names are told: k of them. -/
structure Lk.SAt (s : Src.S) (w : World) (h bk n : Nat) (K : Lk.Kn) (R : List ByteArray × Lk.Fd) (A : Option Addr) (L c : Nat) (i : Value) (wr : World) : Prop where
  st : ∃ k : Nat, k ≤ L ∧ i = .int .i64 k ∧ MapF Tryd.prog 9 wr bk (n + L + k) (Lk.kf (Lk.marks (Lk.marks K R.1 Lk.loop) (R.1.take k) R.2))
  row : wr.ownsRow w.heap.size 9 1 (.slice A L c) L (R.1.map Value.string)
  end_ : At wr (h + 1) [.int .i64 R.2.1, .int .i64 R.2.2]
  res : At wr h [.int .i64 0, .int .i64 0]
  gb : w.grownBy wr (some bk)
theorem Lk.find_len (zn ln tg : List ByteArray) : ∀ (f : Nat) (K : Lk.Kn) (x : ByteArray), (Lk.find zn ln tg f K x).1.length ≤ f
  | 0, _, _ => Nat.le_refl _
  | f + 1, K, x => by
    unfold Lk.find
    split
    · exact Nat.zero_le _
    · split
      · simp
      · split
        · simp
        · have := Lk.find_len zn ln tg f
          simp only [List.length_cons]
          exact Nat.succ_le_succ (this _ _)
theorem Lk.find_size (zn ln tg : List ByteArray) : ∀ (f : Nat) (K : Lk.Kn) (x : ByteArray), x.size ≤ maxLen → (∀ y ∈ tg, y.size ≤ maxLen) → ∀ y ∈ (Lk.find zn ln tg f K x).1, y.size ≤ maxLen
  | 0, _, _, _, _ => fun y hy => by cases hy
  | f + 1, K, x, hx, ht => by
    unfold Lk.find
    split
    · exact fun y hy => by cases hy
    · split
      · intro y hy
        have : y = x := by simpa using hy
        rw [this]; exact hx
      · split
        · intro y hy
          have : y = x := by simpa using hy
          rw [this]; exact hx
        · rename_i j _
          intro y hy
          simp only [List.mem_cons] at hy
          rcases hy with rfl | hy
          · exact hx
          · refine Lk.find_size zn ln tg f _ _ ?_ ht y hy
            rw [List.getD]
            cases hj : tg[j]? with
            | none => exact Nat.zero_le _
            | some z => exact ht z (List.mem_of_getElem? hj)
theorem nameLen_own {w : World} {base : Nat} {e : TypeId} {size n : Nat} {v : Value} {xs : List Value} (h : w.ownsRow base e size v n xs) : nameLen v = n := by
  obtain ⟨A, c, rfl, _⟩ := own_slice h
  rfl
theorem Lk.fend {s : Src.S} {w w10 : World} {h bk n : Nat} {K : Lk.Kn} {R : List ByteArray × Lk.Fd} {done : List ByteArray} {name : ByteArray} {e : Lk.Fd} {v9 : Value} {a b : Value} (hh : w.heap.size = h) (hkl : bk < w.heap.size) (hEq : (done ++ [name], e) = R)
    (hOb : w10.ownsRow w.heap.size 9 1 v9 (done.length + 1) (done.map Value.string ++ [.string name])) (hMb : MapF Tryd.prog 9 w10 bk (n + done.length + 1) (Lk.kf (Lk.mark (Lk.marks K done Lk.loop) name Lk.loop)))
    (hEb : At w10 (h + 1) [a, b]) (hRb : At w10 h [.int .i64 0, .int .i64 0]) (hva : v9.ownBlock ≠ some (h + 1)) (hvb : v9.ownBlock ≠ some h) (gbb : w.grownBy w10 (some bk)) :
    Lk.FEnd s w h bk n K R v9 ((w10.setCell ⟨h + 1, 0, none⟩ (.int .i64 e.1)).setCell ⟨h + 1, 1, none⟩ (.int .i64 e.2)) := by
  subst hEq
  refine ⟨?_, ?_, ?_, ?_, ?_, ?_⟩
  · rw [List.length_append, List.map_append]
    exact ownsRow_setCell_other (ownsRow_setCell_other hOb (a := ⟨h + 1, 0, none⟩) hva _) (a := ⟨h + 1, 1, none⟩) hva _
  · exact (hEb.set 0 _).set 1 _
  · rw [Lk.marks_snoc] at hMb
    rw [List.length_append]
    exact (hMb.setCell (a := ⟨h + 1, 0, none⟩) (by show bk ≠ h + 1; omega) _).setCell (a := ⟨h + 1, 1, none⟩) (by show bk ≠ h + 1; omega) _
  · exact (hRb.set_other ⟨h + 1, 0, none⟩ _ (by show h + 1 ≠ h; omega)).set_other ⟨h + 1, 1, none⟩ _ (by show h + 1 ≠ h; omega)
  · intro g' e'
    exact ⟨fun x => hvb (by rw [e', x]), fun x => hva (by rw [e', x])⟩
  · exact gb_set (gb_set gbb (p := ⟨h + 1, 0, none⟩) (by show w.heap.size ≤ h + 1; omega) _) (p := ⟨h + 1, 1, none⟩) (by show w.heap.size ≤ h + 1; omega) _
end Go.Proofs.YthmhadgbhakdlaaDoor

/- The walk of finder.find. -/
namespace Go.Proofs.YthmhadgbhakdlaaDoor
open Go.RowKit

theorem zero_int (W : World) : (zeroValue 3).run Tryd.prog W = .ok (.int .i64 0) W := by kernel_rfl
theorem look_pl_yes (w : World) {ops : Array Oper} {rest : List Oper} {o : Oper} {a : Act} {Q : Exit → Act → World → Prop} (hg : o.guard = none) (m x : Operand) (b n : Nat) (ns : List ByteArray) (s : ByteArray) (hs : s.size ≤ maxLen) (i : Nat) (hi : Lk.first ns s = some i) (hop : o.op = Op.lookup 89 m x true)
    (hm : a.eval m = .map (some b)) (hx : a.eval x = .string s) (h : MapF Tryd.prog 9 w b n (Lk.places ns))
    (hK : wpList Tryd.prog ops Q rest (a.put o.dst (.tuple #[.int .i64 (i : Int), .bool true])) w) : wpList Tryd.prog ops Q (o :: rest) a w :=
  wpList_look_yes w hg m x 89 9 3 hop Tryd.underlying9 Tryd.underlying89 zero_int b n _ s hs hm hx h (.int .i64 (i : Int)) (by unfold Lk.places; rw [hi]; rfl) hK
theorem look_pl_no (w : World) {ops : Array Oper} {rest : List Oper} {o : Oper} {a : Act} {Q : Exit → Act → World → Prop} (hg : o.guard = none) (m x : Operand) (b n : Nat) (ns : List ByteArray) (s : ByteArray) (hs : s.size ≤ maxLen) (hi : Lk.first ns s = none) (hop : o.op = Op.lookup 89 m x true)
    (hm : a.eval m = .map (some b)) (hx : a.eval x = .string s) (h : MapF Tryd.prog 9 w b n (Lk.places ns))
    (hK : wpList Tryd.prog ops Q rest (a.put o.dst (.tuple #[.int .i64 0, .bool false])) w) : wpList Tryd.prog ops Q (o :: rest) a w :=
  wpList_look_no w hg m x 89 9 3 hop Tryd.underlying9 Tryd.underlying89 zero_int b n _ s hs hm hx h (by unfold Lk.places; rw [hi]; rfl) hK
end Go.Proofs.YthmhadgbhakdlaaDoor
