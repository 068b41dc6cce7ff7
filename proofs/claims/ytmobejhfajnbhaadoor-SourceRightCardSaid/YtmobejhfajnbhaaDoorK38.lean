/- What the lines of a text are bounded by; places are not negative; a source in memory as it is read. -/
import Derived.Test.YtmobejhfajnbhaaDoorK37
namespace Go.Proofs.YtmobejhfajnbhaaDoor
open Go.RowKit

namespace Src
def cur : Sc.Mode → Nat
  | .b => 0
  | .f _ t => t.length
  | .q _ _ t => t.length
theorem scan_small (N : Nat) : ∀ (l : Txt) (a : Int) (m : Sc.Mode) (acc f : List (Txt × Int)), (∀ x ∈ acc, x.1.length ≤ N) → cur m + l.length ≤ N → Sc.scan l a m acc = .ok f → ∀ x ∈ f, x.1.length ≤ N
  | [], a, .b, acc, f, ha, hc, h => by
    simp only [Sc.scan, Sc.Res.ok.injEq] at h
    subst h
    exact ha
  | [], a, .f b t, acc, f, ha, hc, h => by
    simp only [Sc.scan, Sc.Res.ok.injEq] at h
    subst h
    intro x hx
    rcases List.mem_append.1 hx with hx | hx
    · exact ha x hx
    · rw [List.mem_singleton] at hx
      subst hx
      simp [cur] at hc
      exact hc
  | [], a, .q q b t, acc, f, ha, hc, h => by simp [Sc.scan] at h
  | c :: l, a, .b, acc, f, ha, hc, h => by
    rw [Sc.scan] at h
    simp only [cur, List.length_cons] at hc
    split at h
    · exact scan_small N l _ _ _ f ha (by simp only [cur]; omega) h
    · split at h
      · simp only [Sc.Res.ok.injEq] at h; subst h; exact ha
      · split at h
        · cases h
        · split at h
          · cases h
          · split at h
            · exact scan_small N l _ _ _ f ha (by simp only [cur, List.length_nil]; omega) h
            · exact scan_small N l _ _ _ f ha (by simp only [cur, List.length_cons, List.length_nil]; omega) h
  | c :: l, a, .f b t, acc, f, ha, hc, h => by
    rw [Sc.scan] at h
    simp only [cur, List.length_cons] at hc
    have hb : ∀ x ∈ acc ++ [(t, b)], x.1.length ≤ N := by
      intro x hx
      rcases List.mem_append.1 hx with hx | hx
      · exact ha x hx
      · rw [List.mem_singleton] at hx
        subst hx
        show t.length ≤ N
        omega
    split at h
    · exact scan_small N l _ _ _ f hb (by simp only [cur]; omega) h
    · split at h
      · simp only [Sc.Res.ok.injEq] at h; subst h; exact hb
      · split at h
        · cases h
        · split at h
          · exact scan_small N l _ _ _ f ha (by simp only [cur]; omega) h
          · exact scan_small N l _ _ _ f ha (by simp only [cur, List.length_append, List.length_cons, List.length_nil]; omega) h
  | c :: l, a, .q q b t, acc, f, ha, hc, h => by
    rw [Sc.scan] at h
    simp only [cur, List.length_cons] at hc
    split at h
    · cases h
    · split at h
      · exact scan_small N l _ _ _ f ha (by simp only [cur]; omega) h
      · exact scan_small N l _ _ _ f ha (by simp only [cur, List.length_append, List.length_cons, List.length_nil]; omega) h
def LineFit (l : Ln) : Prop := l.2 ≠ [] ∧ l.2.length ≤ 1025 ∧ ∀ x ∈ l.2, x.1.length ≤ 2048
theorem fields_small (t : Txt) (f : List (Txt × Int)) (h : Sc.fields t = .ok f) : f.length ≤ 1025 ∧ ∀ x ∈ f, x.1.length ≤ 2048 := by
  have h2 := fields_count t f h
  unfold Sc.fields at h
  split at h
  · cases h
  · rename_i hl
    exact ⟨by omega, scan_small 2048 t 0 .b [] f (fun x hx => by cases hx) (by simp only [cur]; omega) h⟩
theorem linesGo_fit : ∀ (A : List Txt) (no : Int) (acc L : List Ln), (∀ l ∈ acc, LineFit l) → Sc.linesGo A no acc = .ok L → ∀ l ∈ L, LineFit l
  | [], no, acc, L, ha, h => by
    simp only [Sc.linesGo, Sc.LRes.ok.injEq] at h
    subst h
    exact ha
  | t :: A, no, acc, L, ha, h => by
    rw [Sc.linesGo] at h
    cases hf : Sc.fields t with
    | bad col why => rw [hf] at h; cases h
    | ok f =>
      rw [hf] at h
      simp only [] at h
      refine linesGo_fit A _ _ L ?_ h
      split
      · exact ha
      · rename_i hne
        intro l hl
        rcases List.mem_append.1 hl with hl | hl
        · exact ha l hl
        · rw [List.mem_singleton] at hl
          subst hl
          exact ⟨hne, fields_small t f hf⟩
theorem lines_fit (s : Txt) (L : List Ln) (h : Sc.lines s = .ok L) : ∀ l ∈ L, LineFit l := by
  unfold Sc.lines at h
  split at h
  · cases h
  · exact linesGo_fit _ _ _ L (fun l hl => by cases hl) h
theorem eraStep_place (s : S) (t : List Txt) (k : Nat) (place why : Int) (h : eraStep own s t k = .bad place why) : 0 ≤ place ∧ place ≤ k + t.length := by
  unfold eraStep at h
  have hown : own.era (t.drop k) = Er.parse ((t.drop k).map bts) := rfl
  rw [hown] at h
  split at h
  · cases h
  · injection h with h1 h2
    rename_i h0
    rcases Er.parse_ok ((t.drop k).map bts) with h | h
    · exact absurd h.1 h0
    · have h4 := h.2.2.2
      simp only [List.length_map, List.length_drop] at h4
      have h3 := h.2.2.1
      omega
theorem step_place (s : S) (t : List Txt) (place why : Int) (h : step own s t = .bad place why) : 0 ≤ place ∧ place ≤ 16 + t.length := by
  unfold step at h
  split at h
  · split at h
    · injection h with h1 h2; omega
    · have := eraStep_place s t 0 place why h; omega
  · split at h
    · unfold ruleStep at h
      split at h
      · injection h with h1 h2; omega
      · split at h
        · cases h
        · rename_i h0
          injection h with h1 h2
          have hown : own.rule (t.drop 1) = Ru.parse ((t.drop 1).map bts) := rfl
          rw [hown] at h0 h1
          rcases Ru.parse_ok ((t.drop 1).map bts) with h | h
          · exact absurd h.1 h0
          · have := h.2.2.1
            have := h.2.2.2.2
            omega
    · split at h
      · unfold zoneStep at h
        split at h
        · injection h with h1 h2; omega
        · split at h
          · injection h with h1 h2; omega
          · split at h
            · injection h with h1 h2; omega
            · have := eraStep_place _ t 2 place why h; omega
      · split at h
        · unfold linkStep at h
          split at h
          · injection h with h1 h2; omega
          · split at h
            · rename_i i hw
              injection h with h1 h2
              have h3 := wrong_ge _ _ _ _ hw
              have h4 := at_wrong ((t.drop 1).take 2) 0
              rw [hw] at h4
              have h5 := Ix.at_bd wrongN (((t.drop 1).take 2).map bts) 0
              have h6 : ((((t.drop 1).take 2).map bts).length : Int) ≤ 2 := by simp; omega
              simp only [Option.getD_some] at h4
              rcases h5 with h5 | h5 <;> omega
            · split at h
              · injection h with h1 h2
                have h6 : (((t.drop 1).take 2).length : Int) ≤ 2 := by simp; omega
                omega
              · split at h
                · injection h with h1 h2; omega
                · cases h
        · injection h with h1 h2; omega
/-- A slice that reads as a list of cells. -/
def RowR (w : World) (B size n : Nat) (v : Value) (xs : List Value) : Prop := ∃ A c, v = .slice A n c ∧ n ≤ c ∧ c ≤ maxLen ∧ Reads w B size A n xs
theorem RowR.below {w w' : World} {B size n : Nat} {v : Value} {xs : List Value} (h : RowR w B size n v xs) (hb : Below B w w') : RowR w' B size n v xs := by
  obtain ⟨A, c, e, h1, h2, h3⟩ := h
  exact ⟨A, c, e, h1, h2, h3.below hb⟩
theorem RowR.more {w : World} {B B' size n : Nat} {v : Value} {xs : List Value} (h : RowR w B size n v xs) (hb : B ≤ B') : RowR w B' size n v xs := by
  obtain ⟨A, c, e, h1, h2, h3⟩ := h
  exact ⟨A, c, e, h1, h2, h3.more hb⟩
theorem RowR.of_own {w : World} {base size n : Nat} {e : TypeId} {v : Value} {xs : List Value} (h : w.ownsRow base e size v n xs) : RowR w w.heap.size size n v xs := by
  obtain ⟨A, c, rfl, h1, h2⟩ := own_slice_cap h
  exact ⟨A, c, rfl, h1, h2, Reads.of_own h⟩
/-- A source as it is read: three slices, and one for each zone's eras. -/
structure SrcR (w : World) (B : Nat) (s : S) (rv zv lv : Value) (evs : List Value) : Prop where
  rules : RowR w B 11 s.rules.length rv (s.rules.flatMap Ru.R.cells)
  zones : RowR w B 2 s.zones.length zv ((s.zones.zip evs).flatMap zc)
  links : RowR w B 2 s.links.length lv (s.links.flatMap lc)
  len : evs.length = s.zones.length
  eras : ∀ p ∈ s.zones.zip evs, RowR w B 13 p.1.2.length p.2 (p.1.2.flatMap Er.E.cells)
theorem SrcR.below {w w' : World} {B : Nat} {s : S} {rv zv lv : Value} {evs : List Value} (h : SrcR w B s rv zv lv evs) (hb : Below B w w') : SrcR w' B s rv zv lv evs :=
  ⟨h.rules.below hb, h.zones.below hb, h.links.below hb, h.len, fun p hp => (h.eras p hp).below hb⟩
theorem SrcR.more {w : World} {B B' : Nat} {s : S} {rv zv lv : Value} {evs : List Value} (h : SrcR w B s rv zv lv evs) (hb : B ≤ B') : SrcR w B' s rv zv lv evs :=
  ⟨h.rules.more hb, h.zones.more hb, h.links.more hb, h.len, fun p hp => (h.eras p hp).more hb⟩
theorem SrcR.call {w w' : World} {s : S} {rv zv lv : Value} {evs : List Value} (h : SrcR w w.heap.size s rv zv lv evs) (hb : Below w.heap.size w w') : SrcR w' w'.heap.size s rv zv lv evs := (h.below hb).more hb.size
theorem zoneCells_zip : ∀ (a : List (Txt × List Er.E)) (vs : List Value), zoneCells a vs = (a.zip vs).flatMap zc
  | [], _ => by simp [zoneCells]
  | z :: a, [] => by simp [zoneCells]
  | z :: a, v :: vs => by simp [zoneCells, zc, zoneCells_zip a vs]
theorem eraRows_zip : ∀ (a : List (Txt × List Er.E)) (vs : List Value), eraRows a vs = (a.zip vs).map fun p => eraRow p.2 p.1.2
  | [], _ => by simp [eraRows]
  | z :: a, [] => by simp [eraRows]
  | z :: a, v :: vs => by simp [eraRows, eraRows_zip a vs]
/-- What is read is a source. -/
theorem Held.src {B : Nat} {w : World} {g : Nat} {s : S} {rv zv lv : Value} {evs : List Value} (h : Held B w g s rv zv lv evs) : SrcR w w.heap.size s rv zv lv evs := by
  refine ⟨RowR.of_own (h.many.own (ruleRow rv s) (by simp)), ?_, RowR.of_own (h.many.own (linkRow lv s) (by simp)), h.evs_len, fun p hp => ?_⟩
  · have := RowR.of_own (h.many.own (zoneRow zv evs s) (by simp))
    rw [show (zoneRow zv evs s).xs = (s.zones.zip evs).flatMap zc from zoneCells_zip _ _] at this
    exact this
  · refine RowR.of_own (h.many.own (eraRow p.2 p.1.2) ?_)
    rw [eraRows_zip]
    simp only [List.mem_cons, List.mem_map]
    exact .inr (.inr (.inr ⟨p, hp, rfl⟩))
/-- What source.Parse leaves. -/
def PRet (w : World) (X : Par S) (e : Ending) (w' : World) : Prop :=
  Below w.heap.size w w' ∧ match X with
  | .ok s => ∃ rv zv lv evs, e = .returned (.tuple #[.agg #[rv, zv, lv], .agg #[.int .i64 0, .int .i64 0, .int .i64 0]]) ∧ SrcR w' w'.heap.size s rv zv lv evs
  | .bad l c y => e = .returned (.tuple #[.agg #[.slice none 0 0, .slice none 0 0, .slice none 0 0], .agg #[.int .i64 l, .int .i64 c, .int .i64 y]])
end Src
end Go.Proofs.YtmobejhfajnbhaaDoor
