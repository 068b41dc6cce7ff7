/- What the lines of a text are bounded by; places are not negative; a source in memory as it is read. -/
import Derived.Test.YtajcgoinhpengaaDoorP15
import Derived.Test.YtajcgoinhpengaaDoorP12

namespace Go.Proofs.YtajcgoinhpengaaDoor
open Go.RowKit

namespace Src
def cur : Sc.Mode → Nat
  | .b => 0
  | .f _ t => t.length
  | .q _ _ t => t.length
theorem scan_small (N : Nat) : ∀ (l : Txt) (a : Int) (m : Sc.Mode) (acc f : List (Txt × Int)), (∀ x ∈ acc, x.1.length ≤ N) → cur m + l.length ≤ N → Sc.scan l a m acc = .ok f → ∀ x ∈ f, x.1.length ≤ N
  | [], a, .b, acc, f, ha, hc, h => by
    simp only [Sc.scan, Sc.Res.ok.injEq] at h
    subst h
    exact ha
  | [], a, .f b t, acc, f, ha, hc, h => by
    simp only [Sc.scan, Sc.Res.ok.injEq] at h
    subst h
    intro x hx
    rcases List.mem_append.1 hx with hx | hx
    · exact ha x hx
    · rw [List.mem_singleton] at hx
      subst hx
      simp [cur] at hc
      exact hc
  | [], a, .q q b t, acc, f, ha, hc, h => by simp [Sc.scan] at h
  | c :: l, a, .b, acc, f, ha, hc, h => by
    rw [Sc.scan] at h
    simp only [cur, List.length_cons] at hc
    split at h
    · exact scan_small N l _ _ _ f ha (by simp only [cur]; omega) h
    · split at h
      · simp only [Sc.Res.ok.injEq] at h; subst h; exact ha
      · split at h
        · cases h
        · split at h
          · cases h
          · split at h
            · exact scan_small N l _ _ _ f ha (by simp only [cur, List.length_nil]; omega) h
            · exact scan_small N l _ _ _ f ha (by simp only [cur, List.length_cons, List.length_nil]; omega) h
  | c :: l, a, .f b t, acc, f, ha, hc, h => by
    rw [Sc.scan] at h
    simp only [cur, List.length_cons] at hc
    have hb : ∀ x ∈ acc ++ [(t, b)], x.1.length ≤ N := by
      intro x hx
      rcases List.mem_append.1 hx with hx | hx
      · exact ha x hx
      · rw [List.mem_singleton] at hx
        subst hx
        show t.length ≤ N
        omega
    split at h
    · exact scan_small N l _ _ _ f hb (by simp only [cur]; omega) h
    · split at h
      · simp only [Sc.Res.ok.injEq] at h; subst h; exact hb
      · split at h
        · cases h
        · split at h
          · exact scan_small N l _ _ _ f ha (by simp only [cur]; omega) h
          · exact scan_small N l _ _ _ f ha (by simp only [cur, List.length_append, List.length_cons, List.length_nil]; omega) h
  | c :: l, a, .q q b t, acc, f, ha, hc, h => by
    rw [Sc.scan] at h
    simp only [cur, List.length_cons] at hc
    split at h
    · cases h
    · split at h
      · exact scan_small N l _ _ _ f ha (by simp only [cur]; omega) h
      · exact scan_small N l _ _ _ f ha (by simp only [cur, List.length_append, List.length_cons, List.length_nil]; omega) h
def LineFit (l : Ln) : Prop := l.2 ≠ [] ∧ l.2.length ≤ 1025 ∧ ∀ x ∈ l.2, x.1.length ≤ 2048
theorem fields_small (t : Txt) (f : List (Txt × Int)) (h : Sc.fields t = .ok f) : f.length ≤ 1025 ∧ ∀ x ∈ f, x.1.length ≤ 2048 := by
  have h2 := fields_count t f h
  unfold Sc.fields at h
  split at h
  · cases h
  · rename_i hl
    exact ⟨by omega, scan_small 2048 t 0 .b [] f (fun x hx => by cases hx) (by simp only [cur]; omega) h⟩
theorem linesGo_fit : ∀ (A : List Txt) (no : Int) (acc L : List Ln), (∀ l ∈ acc, LineFit l) → Sc.linesGo A no acc = .ok L → ∀ l ∈ L, LineFit l
  | [], no, acc, L, ha, h => by
    simp only [Sc.linesGo, Sc.LRes.ok.injEq] at h
    subst h
    exact ha
  | t :: A, no, acc, L, ha, h => by
    rw [Sc.linesGo] at h
    cases hf : Sc.fields t with
    | bad col why => rw [hf] at h; cases h
    | ok f =>
      rw [hf] at h
      simp only [] at h
      refine linesGo_fit A _ _ L ?_ h
      split
      · exact ha
      · rename_i hne
        intro l hl
        rcases List.mem_append.1 hl with hl | hl
        · exact ha l hl
        · rw [List.mem_singleton] at hl
          subst hl
          exact ⟨hne, fields_small t f hf⟩
theorem lines_fit (s : Txt) (L : List Ln) (h : Sc.lines s = .ok L) : ∀ l ∈ L, LineFit l := by
  unfold Sc.lines at h
  split at h
  · cases h
  · exact linesGo_fit _ _ _ L (fun l hl => by cases hl) h
theorem eraStep_place (s : S) (t : List Txt) (k : Nat) (place why : Int) (h : eraStep own s t k = .bad place why) : 0 ≤ place ∧ place ≤ k + t.length := by
  unfold eraStep at h
  have hown : own.era (t.drop k) = Er.parse ((t.drop k).map bts) := rfl
  rw [hown] at h
  split at h
  · cases h
  · injection h with h1 h2
    rename_i h0
    rcases Er.parse_ok ((t.drop k).map bts) with h | h
    · exact absurd h.1 h0
    · have h4 := h.2.2.2
      simp only [List.length_map, List.length_drop] at h4
      have h3 := h.2.2.1
      omega
theorem step_place (s : S) (t : List Txt) (place why : Int) (h : step own s t = .bad place why) : 0 ≤ place ∧ place ≤ 16 + t.length := by
  unfold step at h
  split at h
  · split at h
    · injection h with h1 h2; omega
    · have := eraStep_place s t 0 place why h; omega
  · split at h
    · unfold ruleStep at h
      split at h
      · injection h with h1 h2; omega
      · split at h
        · cases h
        · rename_i h0
          injection h with h1 h2
          have hown : own.rule (t.drop 1) = Ru.parse ((t.drop 1).map bts) := rfl
          rw [hown] at h0 h1
          rcases Ru.parse_ok ((t.drop 1).map bts) with h | h
          · exact absurd h.1 h0
          · have := h.2.2.1
            have := h.2.2.2.2
            omega
    · split at h
      · unfold zoneStep at h
        split at h
        · injection h with h1 h2; omega
        · split at h
          · injection h with h1 h2; omega
          · split at h
            · injection h with h1 h2; omega
            · have := eraStep_place _ t 2 place why h; omega
      · split at h
        · unfold linkStep at h
          split at h
          · injection h with h1 h2; omega
          · split at h
            · rename_i i hw
              injection h with h1 h2
              have h3 := wrong_ge _ _ _ _ hw
              have h4 := at_wrong ((t.drop 1).take 2) 0
              rw [hw] at h4
              have h5 := Ix.at_bd wrongN (((t.drop 1).take 2).map bts) 0
              have h6 : ((((t.drop 1).take 2).map bts).length : Int) ≤ 2 := by simp; omega
              simp only [Option.getD_some] at h4
              rcases h5 with h5 | h5 <;> omega
            · split at h
              · injection h with h1 h2
                have h6 : (((t.drop 1).take 2).length : Int) ≤ 2 := by simp; omega
                omega
              · split at h
                · injection h with h1 h2; omega
                · cases h
        · injection h with h1 h2; omega
/-- A slice that reads as a list of cells. -/
def RowR (w : World) (B size n : Nat) (v : Value) (xs : List Value) : Prop := ∃ A c, v = .slice A n c ∧ n ≤ c ∧ c ≤ maxLen ∧ Reads w B size A n xs
theorem RowR.below {w w' : World} {B size n : Nat} {v : Value} {xs : List Value} (h : RowR w B size n v xs) (hb : Below B w w') : RowR w' B size n v xs := by
  obtain ⟨A, c, e, h1, h2, h3⟩ := h
  exact ⟨A, c, e, h1, h2, h3.below hb⟩
theorem RowR.more {w : World} {B B' size n : Nat} {v : Value} {xs : List Value} (h : RowR w B size n v xs) (hb : B ≤ B') : RowR w B' size n v xs := by
  obtain ⟨A, c, e, h1, h2, h3⟩ := h
  exact ⟨A, c, e, h1, h2, h3.more hb⟩
theorem RowR.of_own {w : World} {base size n : Nat} {e : TypeId} {v : Value} {xs : List Value} (h : w.ownsRow base e size v n xs) : RowR w w.heap.size size n v xs := by
  obtain ⟨A, c, rfl, h1, h2⟩ := own_slice_cap h
  exact ⟨A, c, rfl, h1, h2, Reads.of_own h⟩
/-- A source as it is read: three slices, and one for each zone's eras. -/
structure SrcR (w : World) (B : Nat) (s : S) (rv zv lv : Value) (evs : List Value) : Prop where
  rules : RowR w B 11 s.rules.length rv (s.rules.flatMap Ru.R.cells)
  zones : RowR w B 2 s.zones.length zv ((s.zones.zip evs).flatMap zc)
  links : RowR w B 2 s.links.length lv (s.links.flatMap lc)
  len : evs.length = s.zones.length
  eras : ∀ p ∈ s.zones.zip evs, RowR w B 13 p.1.2.length p.2 (p.1.2.flatMap Er.E.cells)
theorem SrcR.below {w w' : World} {B : Nat} {s : S} {rv zv lv : Value} {evs : List Value} (h : SrcR w B s rv zv lv evs) (hb : Below B w w') : SrcR w' B s rv zv lv evs :=
  ⟨h.rules.below hb, h.zones.below hb, h.links.below hb, h.len, fun p hp => (h.eras p hp).below hb⟩
theorem SrcR.more {w : World} {B B' : Nat} {s : S} {rv zv lv : Value} {evs : List Value} (h : SrcR w B s rv zv lv evs) (hb : B ≤ B') : SrcR w B' s rv zv lv evs :=
  ⟨h.rules.more hb, h.zones.more hb, h.links.more hb, h.len, fun p hp => (h.eras p hp).more hb⟩
theorem SrcR.call {w w' : World} {s : S} {rv zv lv : Value} {evs : List Value} (h : SrcR w w.heap.size s rv zv lv evs) (hb : Below w.heap.size w w') : SrcR w' w'.heap.size s rv zv lv evs := (h.below hb).more hb.size
theorem zoneCells_zip : ∀ (a : List (Txt × List Er.E)) (vs : List Value), zoneCells a vs = (a.zip vs).flatMap zc
  | [], _ => by simp [zoneCells]
  | z :: a, [] => by simp [zoneCells]
  | z :: a, v :: vs => by simp [zoneCells, zc, zoneCells_zip a vs]
theorem eraRows_zip : ∀ (a : List (Txt × List Er.E)) (vs : List Value), eraRows a vs = (a.zip vs).map fun p => eraRow p.2 p.1.2
  | [], _ => by simp [eraRows]
  | z :: a, [] => by simp [eraRows]
  | z :: a, v :: vs => by simp [eraRows, eraRows_zip a vs]
/-- What is read is a source. -/
theorem Held.src {B : Nat} {w : World} {g : Nat} {s : S} {rv zv lv : Value} {evs : List Value} (h : Held B w g s rv zv lv evs) : SrcR w w.heap.size s rv zv lv evs := by
  refine ⟨RowR.of_own (h.many.own (ruleRow rv s) (by simp)), ?_, RowR.of_own (h.many.own (linkRow lv s) (by simp)), h.evs_len, fun p hp => ?_⟩
  · have := RowR.of_own (h.many.own (zoneRow zv evs s) (by simp))
    rw [show (zoneRow zv evs s).xs = (s.zones.zip evs).flatMap zc from zoneCells_zip _ _] at this
    exact this
  · refine RowR.of_own (h.many.own (eraRow p.2 p.1.2) ?_)
    rw [eraRows_zip]
    simp only [List.mem_cons, List.mem_map]
    exact .inr (.inr (.inr ⟨p, hp, rfl⟩))
/-- What source.Parse leaves. -/
def PRet (w : World) (X : Par S) (e : Ending) (w' : World) : Prop :=
  Below w.heap.size w w' ∧ match X with
  | .ok s => ∃ rv zv lv evs, e = .returned (.tuple #[.agg #[rv, zv, lv], .agg #[.int .i64 0, .int .i64 0, .int .i64 0]]) ∧ SrcR w' w'.heap.size s rv zv lv evs
  | .bad l c y => e = .returned (.tuple #[.agg #[.slice none 0 0, .slice none 0 0, .slice none 0 0], .agg #[.int .i64 l, .int .i64 c, .int .i64 y]])
end Src
end Go.Proofs.YtajcgoinhpengaaDoor

/- Comparing records cell by cell; slices.Equal at them. -/
namespace Go.Proofs.YtajcgoinhpengaaDoor
open Go.RowKit

theorem toList_eq_iff (a b : ByteArray) : a.toList = b.toList ↔ a = b := by
  rw [ByteArray.toList_eq, ByteArray.toList_eq]
  constructor
  · intro h
    exact ByteArray.ext (Array.ext' h)
  · intro h
    rw [h]
theorem if_and {p : Prop} [Decidable p] {q : Bool} {w : World} {R : Result Bool} (h : R = .ok q w) : (if p then R else .ok false w) = .ok (decide p && q) w := by
  by_cases hp : p
  · rw [if_pos hp, h, decide_eq_true hp, Bool.true_and]
  · rw [if_neg hp, decide_eq_false hp, Bool.false_and]
theorem if_last (p : Prop) [Decidable p] (w : World) : (if p then (.ok true w : Result Bool) else .ok false w) = .ok (decide p) w := by
  by_cases hp : p
  · rw [if_pos hp, decide_eq_true hp]
  · rw [if_neg hp, decide_eq_false hp]
namespace Ix
/-- Two lists agree, one by one. -/
def same {α : Type} (f : α → α → Bool) : List α → List α → Bool
  | [], [] => true
  | x :: l, y :: k => f x y && same f l k
  | _, _ => false
theorem same_len {α : Type} {f : α → α → Bool} : ∀ {xs ys : List α}, xs.length ≠ ys.length → same f xs ys = false
  | [], [], h => absurd rfl h
  | [], y :: k, _ => rfl
  | x :: l, [], _ => rfl
  | x :: l, y :: k, h => by
    unfold same
    rw [same_len (by simpa using h)]
    simp
theorem same_next {α : Type} {f : α → α → Bool} {xs ys : List α} {k : Nat} {x y : α} {X : Bool} (h : X = same f (xs.drop k) (ys.drop k)) (hx : xs[k]? = some x) (hy : ys[k]? = some y) : X = (f x y && same f (xs.drop (k + 1)) (ys.drop (k + 1))) := by
  rw [List.drop_eq_getElem_cons (List.getElem?_eq_some_iff.1 hx).1, List.drop_eq_getElem_cons (List.getElem?_eq_some_iff.1 hy).1] at h
  rw [h, same, (List.getElem?_eq_some_iff.1 hx).2, (List.getElem?_eq_some_iff.1 hy).2]
theorem same_end {α : Type} {f : α → α → Bool} {xs ys : List α} {k : Nat} {X : Bool} (h : X = same f (xs.drop k) (ys.drop k)) (hx : xs.length ≤ k) (hy : ys.length ≤ k) : X = true := by
  rw [h, List.drop_eq_nil_of_le hx, List.drop_eq_nil_of_le hy]
  rfl
theorem same_iff {α : Type} {f : α → α → Bool} (hf : ∀ a b, f a b = true ↔ a = b) : ∀ (xs ys : List α), same f xs ys = true ↔ xs = ys
  | [], [] => by simp [same]
  | [], y :: k => by simp [same]
  | x :: l, [] => by simp [same]
  | x :: l, y :: k => by simp [same, hf, same_iff hf l k]
end Ix
def Ru.R.same (r s : Ru.R) : Bool := decide (r.nm = s.nm) && (decide (r.fr = s.fr) && (decide (r.tt = s.tt) && (decide (r.mo = s.mo) && (decide (r.k = s.k) && (decide (r.n = s.n) && (decide (r.d = s.d) && (decide (r.s = s.s) && (decide (r.c = s.c) && (decide (r.sv = s.sv) && (decide (r.lt = s.lt)))))))))))
theorem Ru.R.same_iff (r s : Ru.R) : r.same s = true ↔ r = s := by
  obtain ⟨a0, a1, a2, a3, a4, a5, a6, a7, a8, a9, a10⟩ := r
  obtain ⟨b0, b1, b2, b3, b4, b5, b6, b7, b8, b9, b10⟩ := s
  simp [Ru.R.same]
set_option maxHeartbeats 800000 in
theorem eq_rule (r s : Ru.R) (w : World) : (Op.equalIn 10000 67 r.v s.v).run Tryd.prog w = .ok (r.same s) w := by
  obtain ⟨a0, a1, a2, a3, a4, a5, a6, a7, a8, a9, a10⟩ := r
  obtain ⟨b0, b1, b2, b3, b4, b5, b6, b7, b8, b9, b10⟩ := s
  unfold Ru.R.v Ru.R.same
  simp only
  go_simp
  simp only [toList_eq_iff]
  iterate 10 refine if_and ?_
  exact if_last _ w
def Er.E.same (r s : Er.E) : Bool := decide (r.std = s.std) && (decide (r.k = s.k) && (decide (r.sv = s.sv) && (decide (r.ru = s.ru) && (decide (r.fm = s.fm) && (decide (r.en = s.en) && (decide (r.u.y = s.u.y) && (decide (r.u.m = s.u.m) && (decide (r.u.k = s.u.k) && (decide (r.u.n = s.u.n) && (decide (r.u.d = s.u.d) && (decide (r.u.s = s.u.s) && (decide (r.u.c = s.u.c)))))))))))))
theorem Er.E.same_iff (r s : Er.E) : r.same s = true ↔ r = s := by
  obtain ⟨a0, a1, a2, a3, a4, a5, ⟨a6, a7, a8, a9, a10, a11, a12⟩⟩ := r
  obtain ⟨b0, b1, b2, b3, b4, b5, ⟨b6, b7, b8, b9, b10, b11, b12⟩⟩ := s
  simp [Er.E.same]
set_option maxHeartbeats 800000 in
theorem eq_era (r s : Er.E) (w : World) : (Op.equalIn 10000 65 r.v s.v).run Tryd.prog w = .ok (r.same s) w := by
  obtain ⟨a0, a1, a2, a3, a4, a5, ⟨a6, a7, a8, a9, a10, a11, a12⟩⟩ := r
  obtain ⟨b0, b1, b2, b3, b4, b5, ⟨b6, b7, b8, b9, b10, b11, b12⟩⟩ := s
  unfold Er.E.v Er.E.same
  simp only
  go_simp
  simp only [toList_eq_iff]
  iterate 12 refine if_and ?_
  exact if_last _ w
/-- Two links agree. -/
def Src.lsame (r s : Src.Txt × Src.Txt) : Bool := decide (r.1 = s.1) && decide (r.2 = s.2)
theorem Src.lsame_iff (r s : Src.Txt × Src.Txt) : Src.lsame r s = true ↔ r = s := by
  obtain ⟨a0, a1⟩ := r
  obtain ⟨b0, b1⟩ := s
  simp [Src.lsame]
theorem Src.bts_iff (a b : Src.Txt) : Src.bts a = Src.bts b ↔ a = b := by
  constructor
  · intro h
    have h1 := congrArg ByteArray.data h
    have h2 := congrArg Array.toList h1
    simpa [Src.bts] using h2
  · intro h
    rw [h]
set_option maxHeartbeats 800000 in
theorem eq_link (r s : Src.Txt × Src.Txt) (w : World) : (Op.equalIn 10000 48 (Src.lv r) (Src.lv s)).run Tryd.prog w = .ok (Src.lsame r s) w := by
  obtain ⟨a0, a1⟩ := r
  obtain ⟨b0, b1⟩ := s
  unfold Src.lv Src.lsame
  simp only
  go_simp
  simp only [toList_eq_iff, Src.bts_iff]
  refine if_and ?_
  exact if_last _ w
end Go.Proofs.YtajcgoinhpengaaDoor

/- source.Check. -/
namespace Go.Proofs.YtajcgoinhpengaaDoor
open Go.RowKit

noncomputable def Ru.R.good (r : Ru.R) : Bool := @decide r.Ok (Classical.propDecidable _)
theorem Ru.R.good_iff (r : Ru.R) : r.good = true ↔ r.Ok := by
  unfold Ru.R.good
  exact @decide_eq_true_iff _ (Classical.propDecidable _)
noncomputable def Er.E.good (e : Er.E) : Bool := decide (Er.chk e = 0)
namespace Src
/-- The eras of a right zone: each is right, and all but the last one end. -/
noncomputable def erasB : List Er.E → Bool
  | [] => true
  | e :: l => e.good && ((e.en == !l.isEmpty) && erasB l)
noncomputable def zoneB (z : Txt × List Er.E) : Bool := Ru.name z.1 && (decide (1 ≤ z.2.length) && (decide (z.2.length ≤ 64) && erasB z.2))
def linkB (k : Txt × Txt) : Bool := Ru.name k.1 && Ru.name k.2
/-- A source is right. -/
noncomputable def srcB (s : S) : Bool := s.rules.all Ru.R.good && (s.zones.all zoneB && s.links.all linkB)
structure Lims (s : S) : Prop where
  rules : s.rules.length ≤ 4096
  zones : s.zones.length ≤ 1024
  links : s.links.length ≤ 4096
/-- No name is too long. -/
structure Sm (s : S) : Prop where
  rules : ∀ r ∈ s.rules, r.nm.size ≤ 1000000 ∧ r.lt.size ≤ 1000000
  zones : ∀ z ∈ s.zones, z.1.length ≤ 1000000 ∧ ∀ e ∈ z.2, e.fm.size ≤ maxLen ∧ e.ru.size ≤ maxLen
  links : ∀ k ∈ s.links, k.1.length ≤ 1000000 ∧ k.2.length ≤ 1000000
end Src
theorem any_not {α : Type} (f : α → Bool) : ∀ l : List α, l.any (fun x => !f x) = !l.all f
  | [] => rfl
  | x :: l => by
    rw [List.any_cons, List.all_cons, any_not f l]
    cases f x <;> rfl
theorem wrongRule_any (r : Ru.R) (w : World) (h1 : r.nm.size ≤ 1000000) (h2 : r.lt.size ≤ 1000000) : Calls Tryd.prog 26 #[r.v] w fun e w' => e = .returned (.bool (!r.good)) ∧ Below w.heap.size w w' := by
  cases hg : r.good
  · have hn : ¬ r.Ok := fun h => by rw [(Ru.R.good_iff r).2 h] at hg; cases hg
    have HC := Lib.hid fun W => ruleCheck_bad r W hn h1 h2
    obtain ⟨nm, fr, tt, mo, k, n, d, s, c, sv, lt⟩ := r
    unfold Ru.R.v at HC ⊢
    clear hn hg h1 h2
    have HB := Lib.hid ((Below.refl w.heap.size w).alloc (Nat.le_refl _) (.cells #[.string nm, .int .i64 fr, .int .i64 tt, .int .i64 mo, .int .u8 k, .int .i64 n, .int .i64 d, .int .i64 s, .int .u8 c, .int .i64 sv, .string lt] 67))
    go_enter Tryd.func26, Tryd.ntmps26
    go_wp2_with fail
    refine (HC.out _).mono ?_
    rintro e w1 ⟨rfl, hb⟩
    replace HB := Lib.hid (below_then HB.out hb)
    clear hb
    go_wp2
    go_ret
    exact ⟨rfl, HB.out⟩
  · have HC := Lib.hid fun W => ruleCheck_ok r W ((Ru.R.good_iff r).1 hg) h1 h2
    obtain ⟨nm, fr, tt, mo, k, n, d, s, c, sv, lt⟩ := r
    unfold Ru.R.v at HC ⊢
    clear hg h1 h2
    have HB := Lib.hid ((Below.refl w.heap.size w).alloc (Nat.le_refl _) (.cells #[.string nm, .int .i64 fr, .int .i64 tt, .int .i64 mo, .int .u8 k, .int .i64 n, .int .i64 d, .int .i64 s, .int .u8 c, .int .i64 sv, .string lt] 67))
    go_enter Tryd.func26, Tryd.ntmps26
    go_wp2_with fail
    refine (HC.out _).mono ?_
    rintro e w1 ⟨rfl, hb⟩
    replace HB := Lib.hid (below_then HB.out hb)
    clear hb
    go_wp2
    go_ret
    exact ⟨rfl, HB.out⟩
theorem name_bts (t : Src.Txt) (w : World) (h : t.length ≤ 1000000) (b : Bool) (hb : Ru.name t = b) : Calls Tryd.prog 31 #[.string (Src.bts t)] w fun e w' => e = .returned (.bool b) ∧ Below w.heap.size w w' := by
  have := name_any (Src.bts t) w h
  rw [show tl (Src.bts t) = t from tl_mk t, hb] at this
  exact this
theorem wrongLink_any (k : Src.Txt × Src.Txt) (w : World) (h1 : k.1.length ≤ 1000000) (h2 : k.2.length ≤ 1000000) : Calls Tryd.prog 30 #[Src.lv k] w fun e w' => e = .returned (.bool (!Src.linkB k)) ∧ Below w.heap.size w w' := by
  obtain ⟨a, b⟩ := k
  unfold Src.lv Src.linkB
  simp only at h1 h2 ⊢
  obtain ⟨va, hva⟩ : ∃ v, Ru.name a = v := ⟨_, rfl⟩
  obtain ⟨vb, hvb⟩ : ∃ v, Ru.name b = v := ⟨_, rfl⟩
  have H1 := Lib.hid fun W => name_bts a W h1 va hva
  have H2 := Lib.hid fun W => name_bts b W h2 vb hvb
  rw [hva, hvb]
  obtain ⟨xa, hxa⟩ : ∃ x, Src.bts a = x := ⟨_, rfl⟩
  obtain ⟨xb, hxb⟩ : ∃ x, Src.bts b = x := ⟨_, rfl⟩
  rw [hxa, hxb]
  rw [hxa] at H1
  rw [hxb] at H2
  clear h1 h2 hva hvb hxa hxb
  have HB := Lib.hid ((Below.refl w.heap.size w).alloc (Nat.le_refl _) (.cells #[.string xa, .string xb] 48))
  have HA := Lib.hid (At.new w #[.string xa, .string xb] 48)
  cases va
  · go_enter Tryd.func30, Tryd.ntmps30
    go_wp2_with fail
    refine (H1.out _).mono ?_
    rintro e w1 ⟨rfl, hb⟩
    replace HB := Lib.hid (below_then HB.out hb)
    clear hb
    go_wp2
    go_ret
    exact ⟨rfl, HB.out⟩
  · go_enter Tryd.func30, Tryd.ntmps30
    go_wp2_with fail
    refine (H1.out _).mono ?_
    rintro e w1 ⟨rfl, hb⟩
    have HA1 := Lib.hid (HA.out.call hb)
    replace HB := Lib.hid (below_then HB.out hb)
    clear hb
    obtain ⟨a0, a1, _⟩ := HA1.out.two
    go_wp2_with fail
    refine (H2.out _).mono ?_
    rintro e w2 ⟨rfl, hb⟩
    replace HB := Lib.hid (below_then HB.out hb)
    clear hb
    go_wp2
    go_ret
    exact ⟨rfl, HB.out⟩
theorem erasB_next {es : List Er.E} {i n : Nat} {e : Er.E} {X : Bool} (h : X = Src.erasB (es.drop i)) (hx : es[i]? = some e) (hn : es.length = n) : X = (e.good && ((e.en == decide (((i : Int)) < (n : Int) - 1)) && Src.erasB (es.drop (i + 1)))) := by
  have hi := (List.getElem?_eq_some_iff.1 hx).1
  rw [h, List.drop_eq_getElem_cons hi, (List.getElem?_eq_some_iff.1 hx).2, Src.erasB]
  have : (!(es.drop (i + 1)).isEmpty) = decide ((i : Int) < (n : Int) - 1) := by
    by_cases hl : i + 1 < es.length
    · have e1 : (es.drop (i + 1)).isEmpty = false := by
        rw [List.isEmpty_eq_false_iff]
        intro e
        have := congrArg List.length e
        simp at this
        omega
      rw [e1, decide_eq_true (by omega)]
      rfl
    · rw [List.drop_eq_nil_of_le (by omega), decide_eq_false (by omega)]
      rfl
  rw [this]
theorem erasB_end {es : List Er.E} {i : Nat} {X : Bool} (h : X = Src.erasB (es.drop i)) (hi : es.length ≤ i) : X = true := by
  rw [h, List.drop_eq_nil_of_le hi]
  rfl
set_option maxHeartbeats 2000000 in
set_option maxRecDepth 100000 in
theorem rightZone_any (z : (Src.Txt × List Er.E) × Value) (w : World) (hW : Wa w) (hr : Src.RowR w w.heap.size 13 z.1.2.length z.2 (z.1.2.flatMap Er.E.cells)) (h1 : z.1.1.length ≤ 1000000) (h2 : ∀ e ∈ z.1.2, e.fm.size ≤ maxLen ∧ e.ru.size ≤ maxLen) :
    Calls Tryd.prog 29 #[Src.zv z] w fun e w' => e = .returned (.bool (Src.zoneB z.1)) ∧ Below w.heap.size w w' := by
  obtain ⟨⟨nm, es⟩, ev⟩ := z
  unfold Src.zv Src.zoneB
  simp only at hr h1 h2 ⊢
  obtain ⟨A, c, rfl, hnc, hcm, hrr⟩ := hr
  obtain ⟨vn, hvn⟩ : ∃ v, Ru.name nm = v := ⟨_, rfl⟩
  have H1 := Lib.hid fun W => name_bts nm W h1 vn hvn
  rw [hvn]
  obtain ⟨xn, hxn⟩ : ∃ x, Src.bts nm = x := ⟨_, rfl⟩
  rw [hxn] at H1 ⊢
  obtain ⟨n, hn⟩ : ∃ n, es.length = n := ⟨_, rfl⟩
  obtain ⟨X, hX⟩ : ∃ X, Src.erasB es = X := ⟨_, rfl⟩
  rw [hX]
  rw [hn] at hrr hnc ⊢
  have HN := Lib.hid hn
  have HX := Lib.hid hX.symm
  have HR := Lib.hid hrr
  have HS := Lib.hid h2
  have HW := Lib.hid hW
  unfold maxLen at hcm
  clear h1 hvn hxn hn hX hrr h2 hW
  have HB0 := Lib.hid ((Below.refl w.heap.size w).alloc (Nat.le_refl _) (.cells #[.string xn, .slice A n c] 54))
  have HA0 := Lib.hid (At.new w #[.string xn, .slice A n c] 54)
  obtain ⟨h, hh⟩ : ∃ h, w.heap.size = h := ⟨_, rfl⟩
  have HH := Lib.hid hh
  cases vn
  · go_enter Tryd.func29, Tryd.ntmps29
    go_wp2_with fail
    refine (H1.out _).mono ?_
    rintro e w1 ⟨rfl, hb⟩
    replace HB0 := Lib.hid (below_then HB0.out hb)
    clear hb
    go_wp2
    go_ret
    exact ⟨rfl, HB0.out⟩
  by_cases hn1 : n < 1
  · have q1 : (n : Int) < 1 := by omega
    go_enter Tryd.func29, Tryd.ntmps29
    go_wp2_with fail
    refine (H1.out _).mono ?_
    rintro e w1 ⟨rfl, hb⟩
    have HA1 := Lib.hid (HA0.out.call hb)
    replace HB0 := Lib.hid (below_then HB0.out hb)
    clear hb
    rw [hh] at HA1
    obtain ⟨a0, a1, _⟩ := HA1.out.two
    go_wp2
    go_ret
    rw [decide_eq_false (by omega)]
    exact ⟨rfl, HB0.out⟩
  have q1 : ¬ (n : Int) < 1 := by omega
  by_cases hn2 : 64 < n
  · have q2 : (64 : Int) < (n : Int) := by omega
    go_enter Tryd.func29, Tryd.ntmps29
    go_wp2_with fail
    refine (H1.out _).mono ?_
    rintro e w1 ⟨rfl, hb⟩
    have HA1 := Lib.hid (HA0.out.call hb)
    replace HB0 := Lib.hid (below_then HB0.out hb)
    clear hb
    rw [hh] at HA1
    obtain ⟨a0, a1, _⟩ := HA1.out.two
    go_wp2
    go_ret
    rw [decide_eq_true (show 1 ≤ n by omega), decide_eq_false (show ¬ n ≤ 64 by omega)]
    exact ⟨rfl, HB0.out⟩
  have q2 : ¬ (64 : Int) < (n : Int) := by omega
  have HY : Hid ((true && (decide (1 ≤ n) && (decide (n ≤ 64) && X))) = X) := by
    show _ = _
    rw [decide_eq_true (show 1 ≤ n by omega), decide_eq_true (show n ≤ 64 by omega)]
    rfl
  rw [HY.out]
  go_enter Tryd.func29, Tryd.ntmps29
  go_wp2_with fail
  refine (H1.out _).mono ?_
  rintro e w1 ⟨rfl, hb⟩
  have HA1 := Lib.hid (HA0.out.call hb)
  have HB1 := Lib.hid (below_then HB0.out hb)
  clear hb
  rw [hh] at HA1
  obtain ⟨a0, a1, _⟩ := HA1.out.two
  go_wp2_with fail
  clear a0 a1 hh
  go_loopw [24] (fun i wr => ∃ k : Nat, k ≤ n ∧ i = .int .i64 k ∧ Hid (X = Src.erasB (es.drop k)) ∧ Hid (At wr h [.string xn, .slice A n c]) ∧ Hid (Below w.heap.size w wr)) (fun i _ => n - (intOf i).toNat)
  case atStart => exact ⟨0, Nat.zero_le _, rfl, HX.out, HA1.out, HB1.out⟩
  case round =>
    obtain ⟨i, hi, rfl, HK, HA, HB⟩ := hrel
    by_cases hlt : i < n
    · have q3 : (0 : Int) ≤ (i : Int) := by omega
      have q4 : (i : Int) < (n : Int) := by omega
      obtain ⟨ad, x, rfl, hab, Hx, HL0⟩ := Ix.reads_cells (enc := Er.E.cells) (m := 13) (fun _ => rfl) HN.out (HR.out.below HB.out) hlt
      have hsm := HS.out x (List.mem_of_getElem? Hx.out)
      have hnx := erasB_next HK.out Hx.out HN.out
      have hC := fun W hw => eraCheck_any x W hw hsm.1 hsm.2
      obtain ⟨q, hq⟩ : ∃ q, Er.chk x = q := ⟨_, rfl⟩
      have hgood : x.good = decide (q = 0) := by unfold Er.E.good; rw [hq]
      simp only [hq] at hC
      rw [hgood] at hnx
      obtain ⟨std, k, sv, ru, fm, en, ⟨y, m, dk, dn, dd, sc, cc⟩⟩ := x
      simp only at hnx
      unfold Er.E.v at hC
      simp only at hC
      have x0 : wr.cell? (ad.add (i * 13)) = some (.int .i64 std) := HL0.out 0 _ rfl
      have x1 : wr.cell? ⟨(ad.add (i * 13)).block, (ad.add (i * 13)).off + 1, none⟩ = some (.int .u8 k) := HL0.out 1 _ rfl
      have x2 : wr.cell? ⟨(ad.add (i * 13)).block, (ad.add (i * 13)).off + 2, none⟩ = some (.int .i64 sv) := HL0.out 2 _ rfl
      have x3 : wr.cell? ⟨(ad.add (i * 13)).block, (ad.add (i * 13)).off + 3, none⟩ = some (.string ru) := HL0.out 3 _ rfl
      have x4 : wr.cell? ⟨(ad.add (i * 13)).block, (ad.add (i * 13)).off + 4, none⟩ = some (.string fm) := HL0.out 4 _ rfl
      have x5 : wr.cell? ⟨(ad.add (i * 13)).block, (ad.add (i * 13)).off + 5, none⟩ = some (.bool en) := HL0.out 5 _ rfl
      have x6 : wr.cell? ⟨(ad.add (i * 13)).block, (ad.add (i * 13)).off + 6, none⟩ = some (.int .i64 y) := HL0.out 6 _ rfl
      have x7 : wr.cell? ⟨(ad.add (i * 13)).block, (ad.add (i * 13)).off + 7, none⟩ = some (.int .i64 m) := HL0.out 7 _ rfl
      have x8 : wr.cell? ⟨(ad.add (i * 13)).block, (ad.add (i * 13)).off + 8, none⟩ = some (.int .u8 dk) := HL0.out 8 _ rfl
      have x9 : wr.cell? ⟨(ad.add (i * 13)).block, (ad.add (i * 13)).off + 9, none⟩ = some (.int .i64 dn) := HL0.out 9 _ rfl
      have x10 : wr.cell? ⟨(ad.add (i * 13)).block, (ad.add (i * 13)).off + 10, none⟩ = some (.int .i64 dd) := HL0.out 10 _ rfl
      have x11 : wr.cell? ⟨(ad.add (i * 13)).block, (ad.add (i * 13)).off + 11, none⟩ = some (.int .i64 sc) := HL0.out 11 _ rfl
      have x12 : wr.cell? ⟨(ad.add (i * 13)).block, (ad.add (i * 13)).off + 12, none⟩ = some (.int .u8 cc) := HL0.out 12 _ rfl
      have HC := Lib.hid hC
      have HNX := Lib.hid hnx
      clear hC hnx hq hgood hsm
      have HA2 := Lib.hid (HA.out.allocO (.cells #[.int .i64 std, .int .u8 k, .int .i64 sv, .string ru, .string fm, .bool en, .int .i64 y, .int .i64 m, .int .u8 dk, .int .i64 dn, .int .i64 dd, .int .i64 sc, .int .u8 cc] 65))
      have HE2 := Lib.hid (At.new wr #[.int .i64 std, .int .u8 k, .int .i64 sv, .string ru, .string fm, .bool en, .int .i64 y, .int .i64 m, .int .u8 dk, .int .i64 dn, .int .i64 dd, .int .i64 sc, .int .u8 cc] 65)
      have HB2 := Lib.hid (HB.out.alloc HB.out.size (.cells #[.int .i64 std, .int .u8 k, .int .i64 sv, .string ru, .string fm, .bool en, .int .i64 y, .int .i64 m, .int .u8 dk, .int .i64 dn, .int .i64 dd, .int .i64 sc, .int .u8 cc] 65))
      obtain ⟨g, hg⟩ : ∃ g, wr.heap.size = g := ⟨_, rfl⟩
      have wn : IntKind.i64.wrap ((n : Int) - 1) = (n : Int) - 1 := IntWalk.i64_in _ (by omega)
      go_wp2_with fail
      refine (HC.out _ (HW.out.below HB2.out)).mono ?_
      rintro e w2 ⟨rfl, hb⟩
      have HA3 := Lib.hid (HA2.out.call hb)
      have HE3 := Lib.hid (HE2.out.call hb)
      have HB3 := Lib.hid (below_then HB2.out hb)
      clear hb HA2 HE2 HB2
      rw [hg] at HE3
      clear hg x0 x1 x2 x3 x4 x5 x6 x7 x8 x9 x10 x11 x12
      by_cases hq0 : q = 0
      · subst hq0
        have e5 := HE3.out.cell 5 _ rfl
        obtain ⟨a0, a1, _⟩ := HA3.out.two
        by_cases hen : en = decide ((i : Int) < (n : Int) - 1)
        · have HQ : Hid (X = Src.erasB (es.drop (i + 1))) := by
            show _ = _
            rw [HNX.out, hen]
            simp
          subst hen
          go_wp2
          go_roundw
          case rel => exact ⟨i + 1, by omega, by go_num, HQ.out, HA3.out, HB3.out⟩
          case measure => simp [intOf]; omega
        · have hne : en = !decide ((i : Int) < (n : Int) - 1) := by
            revert hen
            cases en <;> cases decide ((i : Int) < (n : Int) - 1) <;> simp
          have HQ : Hid (X = false) := by
            show _ = _
            rw [HNX.out, hne]
            cases decide ((i : Int) < (n : Int) - 1) <;> rfl
          subst hne
          clear hen
          go_wp2
          go_ret
          exact ⟨ret_bool HQ.out.symm, HB3.out⟩
      · have e0 : (q == 0) = false := by rw [beq_eq_false_iff_ne]; exact hq0
        have HQ : Hid (X = false) := by
          show _ = _
          rw [HNX.out, decide_eq_false hq0]
          rfl
        have e1 : (q != 0) = true := by simpa using hq0
        clear hq0
        go_wp2
        go_ret
        exact ⟨ret_bool HQ.out.symm, HB3.out⟩
    · have q4 : ¬ (i : Int) < (n : Int) := by omega
      have HE := Lib.hid (erasB_end HK.out (by rw [HN.out]; omega))
      go_wp2
      go_ret
      exact ⟨ret_bool HE.out.symm, HB.out⟩
end Go.Proofs.YtajcgoinhpengaaDoor

/- source.Check, source.Same. -/
namespace Go.Proofs.YtajcgoinhpengaaDoor
open Go.RowKit

theorem wrongZone_any (z : (Src.Txt × List Er.E) × Value) (w : World) (hW : Wa w) (hr : Src.RowR w w.heap.size 13 z.1.2.length z.2 (z.1.2.flatMap Er.E.cells)) (h1 : z.1.1.length ≤ 1000000) (h2 : ∀ e ∈ z.1.2, e.fm.size ≤ maxLen ∧ e.ru.size ≤ maxLen) :
    Calls Tryd.prog 28 #[Src.zv z] w fun e w' => e = .returned (.bool (!Src.zoneB z.1)) ∧ Below w.heap.size w w' := by
  have hC := fun W (hb : Below w.heap.size w W) => rightZone_any z W (hW.below hb) ((hr.below hb).more hb.size) h1 h2
  obtain ⟨v, hv⟩ : ∃ v, Src.zoneB z.1 = v := ⟨_, rfl⟩
  rw [hv]
  simp only [hv] at hC
  obtain ⟨A, c, e, _, _, _⟩ := hr
  obtain ⟨⟨nm, es⟩, ev⟩ := z
  simp only at e
  subst e
  unfold Src.zv at hC ⊢
  simp only at hC ⊢
  obtain ⟨xn, hxn⟩ : ∃ x, Src.bts nm = x := ⟨_, rfl⟩
  rw [hxn]
  simp only [hxn] at hC
  have HC := Lib.hid hC
  have HB := Lib.hid ((Below.refl w.heap.size w).alloc (Nat.le_refl _) (.cells #[.string xn, .slice A es.length c] 54))
  clear hC hW h1 h2 hxn hv
  go_enter Tryd.func28, Tryd.ntmps28
  go_wp2_with fail
  refine (HC.out _ HB.out).mono ?_
  rintro e w1 ⟨rfl, hb⟩
  replace HB := Lib.hid (below_then HB.out hb)
  clear hb
  go_wp2
  go_ret
  exact ⟨rfl, HB.out⟩
theorem any_zip {α β : Type} (f : α → Bool) : ∀ (a : List α) (b : List β), b.length = a.length → ((a.zip b).any fun p => f p.1) = a.any f
  | [], [], _ => rfl
  | x :: a, y :: b, h => by
    rw [List.zip_cons_cons, List.any_cons, List.any_cons, any_zip f a b (by simpa using h)]
theorem mem_zip {α β : Type} {a : List α} {b : List β} {p : α × β} (h : p ∈ a.zip b) : p.1 ∈ a := (List.of_mem_zip h).1
set_option maxHeartbeats 2000000 in
set_option maxRecDepth 100000 in
/-- source.Check. -/
theorem srcCheck_any (s : Src.S) (rv zv lv : Value) (evs : List Value) (w : World) (hW : Wa w) (hR : Src.SrcR w w.heap.size s rv zv lv evs) (hL : Src.Lims s) (hS : Src.Sm s) :
    Calls Tryd.prog 9 #[.agg #[rv, zv, lv]] w fun e w' => e = .returned (.int .i64 (if Src.srcB s = true then 0 else 2)) ∧ Below w.heap.size w w' := by
  obtain ⟨rules, zones, links, op⟩ := s
  obtain ⟨⟨rA, rc, rfl, hr1, hr2, hr3⟩, ⟨zA, zc, rfl, hz1, hz2, hz3⟩, ⟨lA, lc, rfl, hl1, hl2, hl3⟩, hlen, hers⟩ := hR
  obtain ⟨L1, L2, L3⟩ := hL
  obtain ⟨S1, S2, S3⟩ := hS
  unfold Src.srcB
  simp only at hr1 hr3 hz1 hz3 hl1 hl3 hlen hers L1 L2 L3 S1 S2 S3 ⊢
  have hC1 : ∀ W, Below w.heap.size w W → _ := fun W hb => has_rule (fun r => !r.good) 26 #[] (enters_of Tryd.func26 (by kernel_rfl) rfl) rA rules.length rc rules W (Nat.le_trans hr1 hr2) rfl ((hr3.below hb).more hb.size)
    (fun W' x hx hbW => by
      rw [show (#[x.v] ++ (#[] : Array Value)) = #[x.v] by simp]
      exact (wrongRule_any x W' (S1 x hx).1 (S1 x hx).2).mono fun e w' ⟨h, hb⟩ => ⟨h, hbW.trans (hb.mono hbW.size)⟩)
  have hC2 : ∀ W, Below w.heap.size w W → _ := fun W hb => has_zone (fun p => !Src.zoneB p.1) 28 #[] (enters_of Tryd.func28 (by kernel_rfl) rfl) zA zones.length zc (zones.zip evs) W (Nat.le_trans hz1 hz2) (by simp [hlen]) ((hz3.below hb).more hb.size)
    (fun W' x hx hbW => by
      have hb2 := hb.trans (hbW.mono hb.size)
      rw [show (#[Src.zv x] ++ (#[] : Array Value)) = #[Src.zv x] by simp]
      exact (wrongZone_any x W' (hW.below hb2) (((hers x hx).below hb2).more hb2.size) (S2 x.1 (mem_zip hx)).1 (S2 x.1 (mem_zip hx)).2).mono fun e w' ⟨h, hb⟩ => ⟨h, hbW.trans (hb.mono hbW.size)⟩)
  have hC3 : ∀ W, Below w.heap.size w W → _ := fun W hb => has_link (fun p => !Src.linkB p) 30 #[] (enters_of Tryd.func30 (by kernel_rfl) rfl) lA links.length lc links W (Nat.le_trans hl1 hl2) rfl ((hl3.below hb).more hb.size)
    (fun W' x hx hbW => by
      rw [show (#[Src.lv x] ++ (#[] : Array Value)) = #[Src.lv x] by simp]
      exact (wrongLink_any x W' (S3 x hx).1 (S3 x hx).2).mono fun e w' ⟨h, hb⟩ => ⟨h, hbW.trans (hb.mono hbW.size)⟩)
  rw [any_not] at hC1 hC3
  rw [any_zip (fun z => !Src.zoneB z) zones evs hlen, any_not] at hC2
  obtain ⟨b1, hb1⟩ : ∃ b, rules.all Ru.R.good = b := ⟨_, rfl⟩
  obtain ⟨b2, hb2⟩ : ∃ b, zones.all Src.zoneB = b := ⟨_, rfl⟩
  obtain ⟨b3, hb3⟩ : ∃ b, links.all Src.linkB = b := ⟨_, rfl⟩
  rw [hb1] at hC1
  rw [hb2] at hC2
  rw [hb3] at hC3
  rw [hb1, hb2, hb3]
  obtain ⟨n1, hn1⟩ : ∃ n, rules.length = n := ⟨_, rfl⟩
  obtain ⟨n2, hn2⟩ : ∃ n, zones.length = n := ⟨_, rfl⟩
  obtain ⟨n3, hn3⟩ : ∃ n, links.length = n := ⟨_, rfl⟩
  rw [hn1] at hC1 L1 ⊢
  rw [hn2] at hC2 L2 ⊢
  rw [hn3] at hC3 L3 ⊢
  have HC1 := Lib.hid hC1
  have HC2 := Lib.hid hC2
  have HC3 := Lib.hid hC3
  clear hC1 hC2 hC3 hb1 hb2 hb3 hn1 hn2 hn3 hr1 hr2 hr3 hz1 hz2 hz3 hl1 hl2 hl3 hlen hers S1 S2 S3 hW
  have q1 : ¬ (4096 : Int) < (n1 : Int) := by omega
  have q2 : ¬ (1024 : Int) < (n2 : Int) := by omega
  have q3 : ¬ (4096 : Int) < (n3 : Int) := by omega
  have HB := Lib.hid ((Below.refl w.heap.size w).alloc (Nat.le_refl _) (.cells #[.slice rA n1 rc, .slice zA n2 zc, .slice lA n3 lc] 27))
  have HA := Lib.hid (At.new w #[.slice rA n1 rc, .slice zA n2 zc, .slice lA n3 lc] 27)
  go_enter Tryd.func9, Tryd.ntmps9
  go_wp2_with fail
  refine (HC1.out _ HB.out).mono ?_
  rintro e w1 ⟨rfl, hb⟩
  have HA1 := Lib.hid (HA.out.call hb)
  replace HB := Lib.hid (below_then HB.out hb)
  clear hb
  obtain ⟨a0, a1, a2, _⟩ := HA1.out.three
  cases b1
  · go_wp2
    go_ret
    exact ⟨rfl, HB.out⟩
  go_wp2_with fail
  refine (HC2.out _ HB.out).mono ?_
  rintro e w2 ⟨rfl, hb⟩
  have HA2 := Lib.hid (HA1.out.call hb)
  replace HB := Lib.hid (below_then HB.out hb)
  clear hb a0 a1 a2
  obtain ⟨a0, a1, a2, _⟩ := HA2.out.three
  cases b2
  · go_wp2
    go_ret
    exact ⟨rfl, HB.out⟩
  go_wp2_with fail
  refine (HC3.out _ HB.out).mono ?_
  rintro e w3 ⟨rfl, hb⟩
  replace HB := Lib.hid (below_then HB.out hb)
  clear hb a0 a1 a2
  cases b3
  · go_wp2
    go_ret
    exact ⟨rfl, HB.out⟩
  · go_wp2
    go_ret
    exact ⟨rfl, HB.out⟩
namespace Src
def zsame (a b : Txt × List Er.E) : Bool := decide (a.1 = b.1) && Ix.same Er.E.same a.2 b.2
theorem zsame_iff (a b : Txt × List Er.E) : zsame a b = true ↔ a = b := by
  obtain ⟨a0, a1⟩ := a
  obtain ⟨b0, b1⟩ := b
  simp [zsame, Ix.same_iff Er.E.same_iff]
def sameB (a b : S) : Bool := Ix.same Ru.R.same a.rules b.rules && (Ix.same zsame a.zones b.zones && Ix.same lsame a.links b.links)
theorem sameB_iff (a b : S) : sameB a b = true ↔ a.rules = b.rules ∧ a.zones = b.zones ∧ a.links = b.links := by
  simp [sameB, Ix.same_iff Ru.R.same_iff, Ix.same_iff zsame_iff, Ix.same_iff lsame_iff]
theorem same_zip {α β γ : Type} (f : α → α → Bool) : ∀ (a a' : List α) (b : List β) (b' : List γ), b.length = a.length → b'.length = a'.length → Ix.same (fun (p q : α × Value) => f p.1 q.1) [] [] = true
  | _, _, _, _, _, _ => rfl
theorem same_fst (f : (Txt × List Er.E) → (Txt × List Er.E) → Bool) : ∀ (a a' : List (Txt × List Er.E)) (b b' : List Value), b.length = a.length → b'.length = a'.length → Ix.same (fun p q => f p.1 q.1) (a.zip b) (a'.zip b') = Ix.same f a a'
  | [], [], [], [], _, _ => rfl
  | [], x :: a', [], y :: b', _, _ => rfl
  | x :: a, [], y :: b, [], _, _ => rfl
  | x :: a, x' :: a', y :: b, y' :: b', h, h' => by
    rw [List.zip_cons_cons, List.zip_cons_cons, Ix.same, Ix.same, same_fst f a a' b b' (by simpa using h) (by simpa using h')]
end Src
end Go.Proofs.YtajcgoinhpengaaDoor

/- source.Parse. -/
namespace Go.Proofs.YtajcgoinhpengaaDoor
open Go.RowKit

theorem below_six {B h : Nat} {a W : World} (hb : Below B a W) (hh : B ≤ h) (v0 v1 v2 v3 v4 v5 : Value) :
    Below B a ((((((W.setCell ⟨h, 0, none⟩ v0).setCell ⟨h, 1, none⟩ v1).setCell ⟨h, 2, none⟩ v2).setCell ⟨h + 1, 0, none⟩ v3).setCell ⟨h + 1, 1, none⟩ v4).setCell ⟨h + 1, 2, none⟩ v5) :=
  (((((hb.setCell (p := ⟨h, 0, none⟩) hh v0).setCell (p := ⟨h, 1, none⟩) hh v1).setCell (p := ⟨h, 2, none⟩) hh v2).setCell (p := ⟨h + 1, 0, none⟩) (Nat.le_succ_of_le hh) v3).setCell (p := ⟨h + 1, 1, none⟩) (Nat.le_succ_of_le hh) v4).setCell (p := ⟨h + 1, 2, none⟩) (Nat.le_succ_of_le hh) v5
theorem Src.parse_bad {t : Src.Txt} {l c y : Int} (h : Sc.lines t = .bad l c y) : Src.parse Src.own t = .bad l c y := by unfold Src.parse; rw [h]
end Go.Proofs.YtajcgoinhpengaaDoor
