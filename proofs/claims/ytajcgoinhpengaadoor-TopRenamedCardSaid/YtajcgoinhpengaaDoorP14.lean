/- Two texts one behind the other: what is read. -/
import Derived.Test.YtajcgoinhpengaaDoorP13
import Derived.Test.YtajcgoinhpengaaDoorP10
import Derived.OneCell
import Derived.Test.YtajcgoinhpengaaDoorP12
import Derived.RegionTactic
import Derived.Deep.DeepCutAuto

namespace Go.Proofs.YtajcgoinhpengaaDoor
open Go.RowKit

namespace Src
variable {R E : Type}
theorem scan_count : ∀ (l : Txt) (a : Int) (m : Sc.Mode) (acc f : List (Txt × Int)), Sc.scan l a m acc = .ok f →
    2 * f.length ≤ 2 * acc.length + l.length + (match m with | .b => 1 | _ => 2)
  | [], a, .b, acc, f, h => by
    simp only [Sc.scan, Sc.Res.ok.injEq] at h
    subst h
    simp
  | [], a, .f b t, acc, f, h => by
    simp only [Sc.scan, Sc.Res.ok.injEq] at h
    subst h
    simp; omega
  | [], a, .q q b t, acc, f, h => by simp [Sc.scan] at h
  | c :: l, a, .b, acc, f, h => by
    rw [Sc.scan] at h
    split at h
    · have := scan_count l _ _ _ f h; simp only [List.length_cons] at this ⊢; omega
    · split at h
      · simp only [Sc.Res.ok.injEq] at h; subst h; simp only [List.length_cons]; omega
      · split at h
        · cases h
        · split at h
          · cases h
          · split at h
            · have := scan_count l _ _ _ f h; simp only [List.length_cons] at this ⊢; omega
            · have := scan_count l _ _ _ f h; simp only [List.length_cons] at this ⊢; omega
  | c :: l, a, .f b t, acc, f, h => by
    rw [Sc.scan] at h
    split at h
    · have := scan_count l _ _ _ f h; simp only [List.length_cons, List.length_append, List.length_nil] at this ⊢; omega
    · split at h
      · simp only [Sc.Res.ok.injEq] at h; subst h; simp only [List.length_cons, List.length_append, List.length_nil]; omega
      · split at h
        · cases h
        · split at h
          · have := scan_count l _ _ _ f h; simp only [List.length_cons] at this ⊢; omega
          · have := scan_count l _ _ _ f h; simp only [List.length_cons] at this ⊢; omega
  | c :: l, a, .q q b t, acc, f, h => by
    rw [Sc.scan] at h
    split at h
    · cases h
    · split at h
      · have := scan_count l _ _ _ f h; simp only [List.length_cons] at this ⊢; omega
      · have := scan_count l _ _ _ f h; simp only [List.length_cons] at this ⊢; omega
theorem fields_count (t : Txt) (f : List (Txt × Int)) (h : Sc.fields t = .ok f) : 2 * f.length ≤ t.length + 1 := by
  unfold Sc.fields at h
  split at h
  · cases h
  · have := scan_count t _ _ _ f h
    simp only [List.length_nil] at this
    omega
theorem linesGo_weight : ∀ (A : List Txt) (no : Int) (acc L : List Ln), Sc.linesGo A no acc = .ok L → weight L ≤ weight acc + bytes A
  | [], no, acc, L, h => by
    simp only [Sc.linesGo, Sc.LRes.ok.injEq] at h
    subst h
    simp [bytes]
  | t :: A, no, acc, L, h => by
    rw [Sc.linesGo] at h
    cases hf : Sc.fields t with
    | bad col why => rw [hf] at h; cases h
    | ok f =>
      rw [hf] at h
      simp only [] at h
      have hc := fields_count t f hf
      have := linesGo_weight A (no + 1) _ L h
      simp only [bytes]
      split at this
      · omega
      · rw [weight_app] at this
        simp only [weight] at this
        omega
theorem linesGo_of (s : Txt) (hs : s.length ≤ 1048576) : Sc.lines s = Sc.linesGo (Sc.splitNl s) 1 [] := by
  unfold Sc.lines
  rw [if_neg (by omega)]
theorem getLastD_app : ∀ (A B : List Ln) (d : Ln), B ≠ [] → (A ++ B).getLastD d = B.getLastD d
  | [], B, d, h => rfl
  | x :: A, B, d, h => by
    rw [List.cons_append, List.getLastD_cons, getLastD_app A B x h]
    cases B with
    | nil => exact absurd rfl h
    | cons y l => rw [List.getLastD_cons, List.getLastD_cons]
theorem getLastD_shift (n : Int) : ∀ (B : List Ln) (d : Ln), (shift n B).getLastD (d.1 + n, d.2) = ((B.getLastD d).1 + n, (B.getLastD d).2)
  | [], d => rfl
  | x :: B, d => by
    rw [show shift n (x :: B) = (x.1 + n, x.2) :: shift n B from rfl, List.getLastD_cons, List.getLastD_cons]
    exact getLastD_shift n B x
theorem getLastD_two (n : Int) (B : List Ln) (d d' : Ln) (h : B ≠ []) : (shift n B).getLastD d = ((B.getLastD d').1 + n, (B.getLastD d').2) := by
  rw [← getLastD_shift]
  cases B with
  | nil => exact absurd rfl h
  | cons y l => rw [show shift n (y :: l) = (y.1 + n, y.2) :: shift n l from rfl, List.getLastD_cons, List.getLastD_cons]
theorem parse_ok (p : P R E) (s : Txt) (x : St R E) (hs : s.length ≤ 1048576) (h : parse p s = .ok x) :
    ∃ L, Sc.linesGo (Sc.splitNl s) 1 [] = .ok L ∧ readGo p L St.none_ = .ok x ∧ x.op = false := by
  unfold parse at h
  rw [linesGo_of s hs] at h
  cases hl : Sc.linesGo (Sc.splitNl s) 1 [] with
  | bad l c w => rw [hl] at h; cases h
  | ok L =>
    rw [hl] at h
    simp only [] at h
    unfold readAll at h
    cases hr : readGo p L St.none_ with
    | bad l c w => rw [hr] at h; cases h
    | ok t =>
      rw [hr] at h
      simp only [finish] at h
      split at h
      · cases h
      · rename_i ho
        cases h
        exact ⟨L, rfl, hr, by simpa using ho⟩
theorem good_none : Good (St.none_ : St R E) := fun h => by cases h
/-- THE LAW: both together. -/
theorem parse_both (p : P R E) (a b : Txt) (x : St R E) (hn : a.length + b.length ≤ 8192) (h : parse p a = .ok x) :
    parse p (a ++ 10 :: b) = (parse p b).map (app x) (1 + (a.count 10 : Nat)) := by
  obtain ⟨La, hla, hra, hop⟩ := parse_ok p a x (by omega) h
  have hlen : (a ++ 10 :: b).length ≤ 8193 := by simp; omega
  have e0 := linesGo_app (Sc.splitNl a) (Sc.splitNl b) 1 []
  rw [hla] at e0
  simp only [] at e0
  have e1 := linesGo_moved (Sc.splitNl b) 1 ((Sc.splitNl a).length : Int) La []
  have e2 : La ++ shift ((Sc.splitNl a).length : Int) [] = La := by simp [shift]
  rw [e2] at e1
  rw [e1] at e0
  have hN : ((Sc.splitNl a).length : Int) = 1 + (a.count 10 : Nat) := by rw [splitNl_len]; simp
  generalize hn2 : ((Sc.splitNl a).length : Int) = n at *
  rw [← hN]
  unfold parse
  rw [linesGo_of _ (by omega), linesGo_of b (by omega), splitNl_both, e0]
  have w1 := linesGo_weight _ _ _ _ hla
  rw [splitNl_bytes] at w1
  obtain ⟨gx, wx⟩ := readGo_facts p La St.none_ x good_none hra
  cases hlb : Sc.linesGo (Sc.splitNl b) 1 [] with
  | bad l c w => rfl
  | ok Lb =>
    have w2 := linesGo_weight _ _ _ _ hlb
    rw [splitNl_bytes] at w2
    simp only [moved]
    unfold readAll
    rw [readGo_app p La (shift n Lb) St.none_ x hra]
    have ex : app x St.none_ = x := by
      cases x
      simp only at hop
      simp [app, St.none_, hop]
    have hz : weigh (St.none_ : St R E) = 0 := rfl
    have key := readGo_both p x n Lb St.none_ good_none (by simp only [weight] at w1 w2; omega)
    rw [ex] at key
    rw [key]
    cases hrb : readGo p Lb St.none_ with
    | bad l c w => rfl
    | ok t =>
      simp only [Par.map, finish]
      by_cases ho : t.op
      · have hB : Lb ≠ [] := by
          intro e
          subst e
          simp only [readGo, Par.ok.injEq] at hrb
          subst hrb
          cases ho
        have hB' : shift n Lb ≠ [] := by
          intro e
          exact hB (by simpa [shift] using e)
        rw [if_pos ho, if_pos (show (app x t).op = true from ho), getLastD_app _ _ _ hB', getLastD_two _ _ _ (0, []) hB]
      · rw [if_neg ho, if_neg (show ¬ (app x t).op = true from ho)]
end Src
end Go.Proofs.YtajcgoinhpengaaDoor

/- What a fault of reading says: a line, a column, and why. -/
namespace Go.Proofs.YtajcgoinhpengaaDoor
open Go.RowKit

namespace Src
variable {R E : Type}
def Cols (f : List (Txt × Int)) : Prop := ∀ t ∈ f, 1 ≤ t.2
theorem Cols.push {f : List (Txt × Int)} {t : Txt} {b : Int} (h : Cols f) (hb : 1 ≤ b) : Cols (f ++ [(t, b)]) := by
  intro x hx
  rw [List.mem_append] at hx
  rcases hx with hx | hx
  · exact h x hx
  · rw [List.mem_singleton] at hx
    subst hx
    exact hb
def ModeOk : Sc.Mode → Prop
  | .b => True
  | .f b _ => 1 ≤ b
  | .q q b _ => 1 ≤ q ∧ 1 ≤ b
def ResOk : Sc.Res → Prop
  | .ok f => Cols f
  | .bad c _ => 1 ≤ c
theorem scan_cols : ∀ (l : Txt) (a : Int) (m : Sc.Mode) (acc : List (Txt × Int)), 0 ≤ a → ModeOk m → Cols acc → ResOk (Sc.scan l a m acc)
  | [], a, .b, acc, ha, hm, hc => hc
  | [], a, .f b t, acc, ha, hm, hc => hc.push hm
  | [], a, .q q b t, acc, ha, hm, hc => hm.1
  | c :: l, a, .b, acc, ha, hm, hc => by
    rw [Sc.scan]
    have h1 : 1 ≤ a + 1 := by omega
    split
    · exact scan_cols l _ _ _ (by omega) trivial hc
    · split
      · exact hc
      · split
        · exact h1
        · split
          · exact h1
          · split
            · exact scan_cols l _ _ _ (by omega) ⟨h1, h1⟩ hc
            · exact scan_cols l _ _ _ (by omega) h1 hc
  | c :: l, a, .f b t, acc, ha, hm, hc => by
    rw [Sc.scan]
    have h1 : 1 ≤ a + 1 := by omega
    split
    · exact scan_cols l _ _ _ (by omega) trivial (hc.push hm)
    · split
      · exact hc.push hm
      · split
        · exact h1
        · split
          · exact scan_cols l _ _ _ (by omega) ⟨h1, hm⟩ hc
          · exact scan_cols l _ _ _ (by omega) hm hc
  | c :: l, a, .q q b t, acc, ha, hm, hc => by
    rw [Sc.scan]
    have h1 : 1 ≤ a + 1 := by omega
    split
    · exact h1
    · split
      · exact scan_cols l _ _ _ (by omega) hm.2 hc
      · exact scan_cols l _ _ _ (by omega) hm hc
theorem fields_cols (t : Txt) : ResOk (Sc.fields t) := by
  unfold Sc.fields
  split
  · show (1 : Int) ≤ 2049
    decide
  · exact scan_cols t 0 .b [] (by omega) trivial (fun x hx => by cases hx)
/-- Lines with numbers from one on, with fields, with columns from one on. -/
def LinesOk (L : List Ln) : Prop := ∀ l ∈ L, 1 ≤ l.1 ∧ l.2 ≠ [] ∧ Cols l.2
def LResOk : Sc.LRes → Prop
  | .ok L => LinesOk L
  | .bad l c w => 1 ≤ l ∧ 1 ≤ c ∧ w ≠ 0
theorem linesGo_ok : ∀ (A : List Txt) (no : Int) (acc : List Ln), 1 ≤ no → LinesOk acc → LResOk (Sc.linesGo A no acc)
  | [], no, acc, hn, ha => ha
  | t :: A, no, acc, hn, ha => by
    rw [Sc.linesGo]
    have hf := fields_cols t
    have hw := Sc.fields_why t
    cases h : Sc.fields t with
    | bad col why =>
      rw [h] at hf
      exact ⟨hn, hf, hw col why h⟩
    | ok f =>
      rw [h] at hf
      simp only []
      refine linesGo_ok A _ _ (by omega) ?_
      split
      · exact ha
      · rename_i hne
        intro l hl
        rw [List.mem_append] at hl
        rcases hl with hl | hl
        · exact ha l hl
        · rw [List.mem_singleton] at hl
          subst hl
          exact ⟨hn, hne, hf⟩
theorem colAt_ok (f : List (Txt × Int)) (place : Int) (hne : f ≠ []) (hc : Cols f) : 1 ≤ colAt f place := by
  have hl : 0 < f.length := List.length_pos_iff.mpr hne
  have hi : min place.toNat (f.length - 1) < f.length := by omega
  unfold colAt
  rw [List.getD_eq_getElem?_getD, List.getElem?_eq_getElem hi]
  exact hc _ (List.getElem_mem hi)
theorem eraStep_why (p : P R E) (s : St R E) (t : List Txt) (k : Nat) (place why : Int) (h : eraStep p s t k = .bad place why) : why ≠ 0 := by
  unfold eraStep at h
  split at h
  · cases h
  · rename_i h0
    cases h
    exact h0
theorem step_why (p : P R E) (s : St R E) (t : List Txt) (place why : Int) (h : step p s t = .bad place why) : why ≠ 0 := by
  unfold step at h
  split at h
  · split at h
    · cases h; decide
    · exact eraStep_why p s t 0 place why h
  · split at h
    · unfold ruleStep at h
      split at h
      · cases h; decide
      · split at h
        · cases h
        · rename_i h0; cases h; exact h0
    · split at h
      · unfold zoneStep at h
        split at h
        · cases h; decide
        · split at h
          · cases h; decide
          · split at h
            · cases h; decide
            · exact eraStep_why p _ t 2 place why h
      · split at h
        · unfold linkStep at h
          split at h
          · cases h; decide
          · split at h
            · cases h; decide
            · split at h
              · cases h; decide
              · split at h
                · cases h; decide
                · cases h
        · cases h; decide
theorem readGo_fault (p : P R E) : ∀ (L : List Ln) (s : St R E) (l c w : Int), LinesOk L → readGo p L s = .bad l c w → 1 ≤ l ∧ 1 ≤ c ∧ w ≠ 0
  | [], s, l, c, w, hL, h => by cases h
  | x :: L, s, l, c, w, hL, h => by
    rw [readGo_cons] at h
    obtain ⟨a1, a2, a3⟩ := hL x (List.mem_cons_self ..)
    cases h1 : step p s (x.2.map (·.1)) with
    | bad place why =>
      rw [h1] at h
      simp only [Par.bad.injEq] at h
      obtain ⟨e1, e2, e3⟩ := h
      subst e1 e2 e3
      exact ⟨a1, colAt_ok _ _ a2 a3, step_why p s _ _ _ h1⟩
    | ok s1 =>
      rw [h1] at h
      exact readGo_fault p L s1 l c w (fun y hy => hL y (List.mem_cons_of_mem _ hy)) h
theorem getLastD_mem : ∀ (L : List Ln) (d : Ln), L ≠ [] → L.getLastD d ∈ L
  | [], d, h => absurd rfl h
  | [x], d, h => by simp
  | x :: y :: L, d, h => by
    rw [List.getLastD_cons]
    exact List.mem_cons_of_mem _ (getLastD_mem (y :: L) x (by simp))
/-- A text that is not read has its fault. -/
theorem parse_fault (p : P R E) (s : Txt) (l c w : Int) (hs : s.length ≤ 1048576) (h : parse p s = .bad l c w) : 1 ≤ l ∧ 1 ≤ c ∧ w ≠ 0 := by
  unfold parse at h
  rw [linesGo_of s hs] at h
  have hL := linesGo_ok (Sc.splitNl s) 1 [] (by omega) (fun x hx => by cases hx)
  cases hl : Sc.linesGo (Sc.splitNl s) 1 [] with
  | bad l' c' w' =>
    rw [hl] at h hL
    cases h
    exact hL
  | ok L =>
    rw [hl] at h hL
    simp only [] at h
    unfold readAll at h
    cases hr : readGo p L St.none_ with
    | bad l' c' w' =>
      rw [hr] at h
      cases h
      exact readGo_fault p L St.none_ l c w hL hr
    | ok t =>
      rw [hr] at h
      simp only [finish] at h
      split at h
      · rename_i ho
        have hne : L ≠ [] := by
          intro e
          subst e
          simp only [readGo, Par.ok.injEq] at hr
          subst hr
          cases ho
        obtain ⟨a1, a2, a3⟩ := hL _ (getLastD_mem L (0, []) hne)
        simp only [Par.bad.injEq] at h
        obtain ⟨e1, e2, e3⟩ := h
        subst e1 e2 e3
        exact ⟨a1, colAt_ok _ _ a2 a3, by decide⟩
      · cases h
end Src
end Go.Proofs.YtajcgoinhpengaaDoor

/- What is read is right. -/
namespace Go.Proofs.YtajcgoinhpengaaDoor
open Go.RowKit

namespace Src
variable {R E : Type}
def Base (p : P R E) (Re : E → Prop) (z : Txt × List E) : Prop := p.name z.1 = true ∧ z.2.length ≤ 64 ∧ ∀ e ∈ z.2, Re e
def Done (p : P R E) (z : Txt × List E) : Prop := ∃ es e, z.2 = es ++ [e] ∧ (∀ x ∈ es, p.ends x = true) ∧ p.ends e = false
def Opened (p : P R E) (z : Txt × List E) : Prop := ∀ x ∈ z.2, p.ends x = true
def ZonesOk (p : P R E) (Re : E → Prop) (op : Bool) : List (Txt × List E) → Prop
  | [] => op = false
  | [z] => Base p Re z ∧ (if op = true then Opened p z else Done p z)
  | z :: y :: l => Base p Re z ∧ Done p z ∧ ZonesOk p Re op (y :: l)
theorem one_more (p : P R E) (Re : E → Prop) (z : Txt × List E) (e : E) (h1 : p.name z.1 = true) (h2 : z.2.length < 64) (h3 : ∀ e ∈ z.2, Re e) (h4 : Opened p z) (he : Re e) :
    ZonesOk p Re (p.ends e) [(z.1, z.2 ++ [e])] := by
  refine ⟨⟨h1, by simp; omega, ?_⟩, ?_⟩
  · intro x hx
    simp only [List.mem_append, List.mem_singleton] at hx
    rcases hx with hx | hx
    · exact h3 x hx
    · subst hx; exact he
  · split
    · rename_i h
      intro x hx
      simp only [List.mem_append, List.mem_singleton] at hx
      rcases hx with hx | hx
      · exact h4 x hx
      · subst hx; exact h
    · rename_i h
      exact ⟨z.2, e, rfl, h4, by simpa using h⟩
theorem addEra_ok (p : P R E) (Re : E → Prop) (e : E) (he : Re e) : ∀ zs : List (Txt × List E), zs ≠ [] → ZonesOk p Re true zs → lastEras zs ≠ 64 → ZonesOk p Re (p.ends e) (addEra e zs)
  | [], hn, h, hl => absurd rfl hn
  | [z], hn, h, hl => by
    obtain ⟨⟨a, b, c⟩, d⟩ := h
    simp only [lastEras] at hl
    exact one_more p Re z e a (by omega) c d he
  | [z, y], hn, h, hl => by
    obtain ⟨a, b, c⟩ := h
    exact ⟨a, b, addEra_ok p Re e he [y] (by simp) c hl⟩
  | z :: y :: x :: l, hn, h, hl => by
    obtain ⟨a, b, c⟩ := h
    exact ⟨a, b, addEra_ok p Re e he (y :: x :: l) (by simp) c hl⟩
theorem newZone_ok (p : P R E) (Re : E → Prop) (n : Txt) (e : E) (hn : p.name n = true) (he : Re e) : ∀ zs : List (Txt × List E), ZonesOk p Re false zs → ZonesOk p Re (p.ends e) (addEra e (zs ++ [(n, [])]))
  | [], h => one_more p Re (n, []) e hn (by simp) (fun x hx => by cases hx) (fun x hx => by cases hx) he
  | [z], h => ⟨h.1, h.2, newZone_ok p Re n e hn he [] rfl⟩
  | [z, y], h => ⟨h.1, h.2.1, newZone_ok p Re n e hn he [y] h.2.2⟩
  | z :: y :: x :: l, h => ⟨h.1, h.2.1, newZone_ok p Re n e hn he (y :: x :: l) h.2.2⟩
structure Right (p : P R E) (Rr : R → Prop) (Re : E → Prop) (s : St R E) : Prop where
  rules : s.rules.length ≤ 4096 ∧ ∀ r ∈ s.rules, Rr r
  zones : s.zones.length ≤ 1024 ∧ ZonesOk p Re s.op s.zones
  links : s.links.length ≤ 4096 ∧ ∀ k ∈ s.links, p.name k.1 = true ∧ p.name k.2 = true
theorem right_none (p : P R E) (Rr : R → Prop) (Re : E → Prop) : Right p Rr Re St.none_ :=
  ⟨⟨by simp [St.none_], fun r h => (by cases h)⟩, ⟨by simp [St.none_], rfl⟩, ⟨by simp [St.none_], fun r h => (by cases h)⟩⟩
theorem zones_ne (p : P R E) (Re : E → Prop) (zs : List (Txt × List E)) (h : ZonesOk p Re true zs) : zs ≠ [] := by
  intro e
  subst e
  cases h
theorem wrong_none (f : Txt → Bool) : ∀ (l : List Txt) (i : Int), wrong f l i = none → ∀ t ∈ l, f t = true
  | [], i, h, t, ht => by cases ht
  | x :: l, i, h, t, ht => by
    unfold wrong at h
    split at h
    · rename_i hx
      rcases List.mem_cons.mp ht with e | e
      · subst e; exact hx
      · exact wrong_none f l _ h t e
    · cases h
theorem step_right (p : P R E) (Rr : R → Prop) (Re : E → Prop) (hr : ∀ l, (p.rule l).2.2 = 0 → Rr (p.rule l).1) (he : ∀ l, (p.era l).2.2 = 0 → Re (p.era l).1)
    (s s' : St R E) (t : List Txt) (h : Right p Rr Re s) (hs : step p s t = .ok s') : Right p Rr Re s' := by
  unfold step at hs
  split at hs
  · rename_i ho
    have hz := h.zones.2
    rw [ho] at hz
    split at hs
    · cases hs
    · rename_i h64
      unfold eraStep at hs
      split at hs
      · rename_i h0
        cases hs
        exact ⟨h.rules, ⟨by rw [addEra_len]; exact h.zones.1, addEra_ok p Re _ (he _ h0) _ (zones_ne p Re _ hz) hz h64⟩, h.links⟩
      · cases hs
  · rename_i ho
    have hz := h.zones.2
    rw [show s.op = false by simpa using ho] at hz
    split at hs
    · unfold ruleStep at hs
      split at hs
      · cases hs
      · rename_i hlim
        split at hs
        · rename_i h0
          cases hs
          have hl := h.rules.1
          refine ⟨⟨by simp; omega, ?_⟩, h.zones, h.links⟩
          intro r hr'
          rcases List.mem_append.mp hr' with e | e
          · exact h.rules.2 r e
          · rw [List.mem_singleton] at e
            subst e
            exact hr _ h0
        · cases hs
    · split at hs
      · unfold zoneStep at hs
        split at hs
        · cases hs
        · rename_i hlim
          split at hs
          · cases hs
          · split at hs
            · cases hs
            · rename_i hnm
              unfold eraStep at hs
              split at hs
              · rename_i h0
                cases hs
                have hl := h.zones.1
                exact ⟨h.rules, ⟨by rw [addEra_len]; simp; omega, newZone_ok p Re _ _ (by simpa using hnm) (he _ h0) _ hz⟩, h.links⟩
              · cases hs
      · split at hs
        · unfold linkStep at hs
          split at hs
          · cases hs
          · rename_i hlim
            split at hs
            · cases hs
            · rename_i hwr
              split at hs
              · cases hs
              · rename_i h2
                split at hs
                · cases hs
                · cases hs
                  have hl := h.links.1
                  simp only [List.length_take, List.length_drop] at h2
                  refine ⟨h.rules, h.zones, ⟨by simp; omega, ?_⟩⟩
                  intro k hk
                  rcases List.mem_append.mp hk with e | e
                  · exact h.links.2 k e
                  · rw [List.mem_singleton] at e
                    subst e
                    match t, h2, hwr with
                    | [], h2, hwr => simp at h2
                    | [_], h2, hwr => simp at h2
                    | [_, _], h2, hwr => simp at h2
                    | _ :: a :: b :: l, h2, hwr =>
                      have hw := wrong_none p.name _ 0 hwr
                      exact ⟨hw a (by simp), hw b (by simp)⟩
        · cases hs
theorem readGo_right (p : P R E) (Rr : R → Prop) (Re : E → Prop) (hr : ∀ l, (p.rule l).2.2 = 0 → Rr (p.rule l).1) (he : ∀ l, (p.era l).2.2 = 0 → Re (p.era l).1) :
    ∀ (L : List Ln) (s s' : St R E), Right p Rr Re s → readGo p L s = .ok s' → Right p Rr Re s'
  | [], s, s', h, hs => by cases hs; exact h
  | x :: L, s, s', h, hs => by
    rw [readGo_cons] at hs
    cases h1 : step p s (x.2.map (·.1)) with
    | bad place why => rw [h1] at hs; cases hs
    | ok s1 =>
      rw [h1] at hs
      exact readGo_right p Rr Re hr he L s1 s' (step_right p Rr Re hr he s s1 _ h h1) hs
/-- What is read is right. -/
theorem parse_right (p : P R E) (Rr : R → Prop) (Re : E → Prop) (hr : ∀ l, (p.rule l).2.2 = 0 → Rr (p.rule l).1) (he : ∀ l, (p.era l).2.2 = 0 → Re (p.era l).1)
    (s : Txt) (x : St R E) (hs : s.length ≤ 1048576) (h : parse p s = .ok x) : Right p Rr Re x ∧ x.op = false := by
  obtain ⟨L, h1, h2, h3⟩ := parse_ok p s x hs h
  exact ⟨readGo_right p Rr Re hr he L _ x (right_none p Rr Re) h2, h3⟩
end Src
end Go.Proofs.YtajcgoinhpengaaDoor

/- The program's own readers of rules and eras, as the plain law wants them. -/
namespace Go.Proofs.YtajcgoinhpengaaDoor
open Go.RowKit

namespace Src
def bts (t : Txt) : ByteArray := ⟨t.toArray⟩
theorem rule_len (l : List ByteArray) (h : (Ru.parse l).2.2 = 0) : 9 = l.length := by
  unfold Ru.parse at h
  split at h
  · split at h
    · exact absurd (show (5 : Int) = 0 from h) (by decide)
    · split at h
      · exact absurd (show (6 : Int) = 0 from h) (by decide)
      · omega
  · rename_i h0
    exact absurd h h0
theorem era_len (l : List ByteArray) (h : (Er.parse l).2.2 = 0) : 3 ≤ l.length := by
  unfold Er.parse at h
  split at h
  · split at h
    · exact absurd (show (5 : Int) = 0 from h) (by decide)
    · omega
  · rename_i h0
    exact absurd h h0
def words : List Txt := [[82, 117, 108, 101], [90, 111, 110, 101], [76, 105, 110, 107]]
/-- What reads. -/
def own : P Ru.R Er.E where
  key t := Wd.pick t words + 1
  name t := Ru.name t
  rule l := Ru.parse (l.map bts)
  era l := Er.parse (l.map bts)
  ends e := e.en
  rule_len l h := by
    have := rule_len _ h
    simp only [List.length_map] at this
    omega
  era_len l h := by
    have := era_len _ h
    simp only [List.length_map] at this
    omega
end Src
end Go.Proofs.YtajcgoinhpengaaDoor

/- word.Keyword at a door's seat. -/
namespace Go.Proofs.YtajcgoinhpengaaDoor
open Go.RowKit

def Kinds : List ByteArray := [⟨#[82, 117, 108, 101]⟩, ⟨#[90, 111, 110, 101]⟩, ⟨#[76, 105, 110, 107]⟩]
end Go.Proofs.YtajcgoinhpengaaDoor

/- Many rows of a call's own, no two in one block. -/
namespace Go.Proofs.YtajcgoinhpengaaDoor
open Go.RowKit

/-- A row: what it has of each element, its value, how many, its cells. -/
structure Row where
  e : TypeId
  size : Nat
  v : Value
  n : Nat
  xs : List Value
def apartV (a b : Value) : Prop := a.ownBlock = none ∨ a.ownBlock ≠ b.ownBlock
theorem apartV.symm {a b : Value} (h : apartV a b) : apartV b a := by
  unfold apartV at h ⊢
  rcases h with h | h
  · cases e : b.ownBlock with
    | none => exact .inl rfl
    | some k => right; rw [h]; simp
  · exact .inr fun x => h x.symm
structure Many (B : Nat) (w : World) (rs : List Row) : Prop where
  own : ∀ r ∈ rs, w.ownsRow B r.e r.size r.v r.n r.xs
  apart : rs.Pairwise fun a b => apartV a.v b.v
section
variable {B : Nat} {w w' : World} {rs l1 l2 : List Row} {r : Row}
theorem Many.nil_ : Many B w [] := ⟨fun r h => (by cases h), .nil⟩
theorem Many.call (h : Many B w rs) (hb : Below w.heap.size w w') : Many B w' rs := ⟨fun r hr => own_below (h.own r hr) hb, h.apart⟩
theorem Many.alloc (h : Many B w rs) (o : Obj) : Many B (w.alloc o) rs := ⟨fun r hr => (h.own r hr).alloc o, h.apart⟩
theorem Many.setBelow (h : Many B w rs) {p : Addr} (hp : p.block < B) (u : Value) : Many B (w.setCell p u) rs := ⟨fun r hr => ownsRow_setCell_below (h.own r hr) hp u, h.apart⟩
theorem Many.perm {rs' : List Row} (h : Many B w rs) (hp : rs.Perm rs') : Many B w rs' :=
  ⟨fun r hr => h.own r (hp.mem_iff.2 hr), hp.pairwise h.apart fun h => apartV.symm h⟩
/-- The row at the head is written, or has grown into a new block. -/
theorem Many.grow {v' : Value} {n' : Nat} {xs' : List Value} (h : Many B w (r :: rs)) (o : Obj) (hown : w'.ownsRow B r.e r.size v' n' xs') (hg : (w.alloc o).grownBy w' r.v.ownBlock) (hat : v'.ownBlock = r.v.ownBlock ∨ v'.ownBlock = some (w.alloc o).heap.size) :
    Many B w' (⟨r.e, r.size, v', n', xs'⟩ :: rs) := by
  have ha := List.pairwise_cons.1 h.apart
  have hk : ∀ x ∈ rs, w'.ownsRow B x.e x.size x.v x.n x.xs := fun x hx => ((h.own x (List.mem_cons_of_mem _ hx)).alloc o).kept hg (ha.1 x hx).symm
  refine ⟨fun x hx => ?_, List.pairwise_cons.2 ⟨fun x hx => ?_, ha.2⟩⟩
  · rcases List.mem_cons.1 hx with rfl | hx
    · exact hown
    · exact hk x hx
  · show apartV v' x.v
    rcases hat with e | e
    · unfold apartV; rw [e]; exact ha.1 x hx
    · refine apartV.symm ?_
      unfold apartV
      rw [e]
      cases ex : x.v.ownBlock with
      | none => exact .inl rfl
      | some k =>
        right
        have := ((h.own x (List.mem_cons_of_mem _ hx)).lt k ex).2
        intro z
        have hk : k = (w.alloc o).heap.size := Option.some.inj z
        rw [World.size_alloc] at hk
        omega
/-- A row more, that has no block. -/
theorem Many.add0 (h : Many B w rs) (e : TypeId) (size : Nat) : Many B w (⟨e, size, .slice none 0 0, 0, []⟩ :: rs) :=
  ⟨fun x hx => by rcases List.mem_cons.1 hx with rfl | hx; exact World.ownsRow_nil _ _ _ _; exact h.own x hx, List.pairwise_cons.2 ⟨fun x _ => .inl rfl, h.apart⟩⟩
/-- A row more, whose block was made by a callee. -/
theorem Many.addNew (h : Many B w rs) (hb : Below w.heap.size w w') (hB : B ≤ w.heap.size) (hown : w'.ownsRow w.heap.size r.e r.size r.v r.n r.xs) : Many B w' (r :: rs) := by
  have hB' : w'.ownsRow B r.e r.size r.v r.n r.xs := by
    refine ⟨hown.1, ?_⟩
    rcases hown.2 with hn | ⟨g, cap, cur, hv, h1, rest⟩
    · exact .inl hn
    · exact .inr ⟨g, cap, cur, hv, Nat.le_trans hB h1, rest⟩
  refine ⟨fun x hx => ?_, List.pairwise_cons.2 ⟨fun x hx => ?_, h.apart⟩⟩
  · rcases List.mem_cons.1 hx with rfl | hx
    · exact hB'
    · exact own_below (h.own x hx) hb
  · refine apartV.symm ?_
    unfold apartV
    cases ex : x.v.ownBlock with
    | none => exact .inl rfl
    | some k =>
      right
      have h1 := ((h.own x hx).lt k ex).2
      intro z
      have h2 := (hown.lt k z.symm).1
      omega
/-- A store into the head row's own cells. -/
theorem Many.store {g n cap : Nat} {e : TypeId} {size : Nat} {xs : List Value} (h : Many B w (⟨e, size, .slice (some ⟨g, 0, none⟩) n cap, n, xs⟩ :: rs)) (j : Nat) (u : Value) :
    Many B (w.setCell ⟨g, j, none⟩ u) (⟨e, size, .slice (some ⟨g, 0, none⟩) n cap, n, xs.set j u⟩ :: rs) := by
  have ha := List.pairwise_cons.1 h.apart
  refine ⟨fun x hx => ?_, List.pairwise_cons.2 ⟨fun x hx => ha.1 x hx, ha.2⟩⟩
  rcases List.mem_cons.1 hx with rfl | hx
  · exact ((h.own _ List.mem_cons_self).stored j u).1
  · exact ownsRow_setCell_other (h.own x (List.mem_cons_of_mem _ hx)) (by
      rcases (ha.1 x hx).symm with e | e
      · rw [e]; simp
      · exact e) u
end
end Go.Proofs.YtajcgoinhpengaaDoor

/- The contract of scan.Lines. -/
namespace Go.Proofs.YtajcgoinhpengaaDoor
open Go.RowKit

namespace Sc
theorem own_mono {w : World} {base base' : Nat} {e : TypeId} {size : Nat} {v : Value} {n : Nat} {xs : List Value} (h : w.ownsRow base e size v n xs) (hb : base' ≤ base) : w.ownsRow base' e size v n xs := by
  refine ⟨h.1, ?_⟩
  rcases h.2 with hn | ⟨g, cap, cur, hv, h1, rest⟩
  · exact .inl hn
  · exact .inr ⟨g, cap, cur, hv, Nat.le_trans hb h1, rest⟩
def lcells (acc : List (Int × List (List UInt8 × Int))) (us : List Value) : List Value := (acc.zip us).flatMap fun p => [.int .i64 p.1.1, p.2]
def mes (a b : Value) : Nat := match a, b with
  | .string s, .bool true => s.size + 1
  | _, _ => 0
def mesB (txt : ByteArray) (more : Bool) : Nat := if more = true then txt.size + 1 else 0
theorem mes_b (txt : ByteArray) (more : Bool) : mes (.string txt) (.bool more) = mesB txt more := by cases more <;> rfl
def left_ (txt : ByteArray) (more : Bool) : List (List UInt8) := if more = true then splitNl (tl txt) else []
theorem At.grownO {w w' : World} {h : Nat} {row : Option Nat} {xs : List Value} (a : At w h xs) (hg : w.grownBy w' row) (hne : ∀ k, row = some k → h ≠ k) : At w' h xs := by
  cases row with
  | none => exact Go.Proofs.YtajcgoinhpengaaDoor.At.grown a (g := w.heap.size) ⟨hg.os, hg.tape, hg.output, hg.size, fun k hk _ => hg.block k hk (by simp)⟩ (by have := a.lt; omega)
  | some k => exact Go.Proofs.YtajcgoinhpengaaDoor.At.grown a hg (hne k rfl)
end Sc
theorem cutNl (txt : ByteArray) (w : World) (hW : Wl w) (hs : txt.size ≤ 1048576) (a b : ByteArray) (ok : Bool) (ha : (Sc.cutR (tl txt)).1 = tl a) (hb : (Sc.cutR (tl txt)).2.1 = tl b) (hc : (Sc.cutR (tl txt)).2.2 = ok) :
    Calls Tryd.prog 92 #[.string txt, .string ⟨#[10]⟩] w fun e w' => e = .returned (.tuple #[.string a, .string b, .bool ok]) ∧ Drew w w' := by
  obtain ⟨m, hm⟩ := hW.maxl
  have h := Tryd.strings_Cut txt ⟨#[10]⟩ m w (by omega) hm
  have e : Lib.cut txt.data.toList [10] = Sc.cutR (tl txt) := Sc.cut_cutR _
  have ea : (⟨(Lib.cut txt.data.toList [10]).1.toArray⟩ : ByteArray) = a := by rw [e, ha]; rfl
  have eb : (⟨(Lib.cut txt.data.toList [10]).2.1.toArray⟩ : ByteArray) = b := by rw [e, hb]; rfl
  have ec : (Lib.cut txt.data.toList [10]).2.2 = ok := by rw [e, hc]
  subst ea eb ec
  exact h
end Go.Proofs.YtajcgoinhpengaaDoor

/- How a reader lies in memory: its own block, and its rows. -/
namespace Go.Proofs.YtajcgoinhpengaaDoor
open Go.RowKit

namespace Src
abbrev S := St Ru.R Er.E
def ruleRow (v : Value) (s : S) : Row := ⟨67, 11, v, s.rules.length, s.rules.flatMap Ru.R.cells⟩
def zoneCells : List (Txt × List Er.E) → List Value → List Value
  | z :: l, v :: vs => .string (bts z.1) :: v :: zoneCells l vs
  | _, _ => []
def zoneRow (v : Value) (evs : List Value) (s : S) : Row := ⟨54, 2, v, s.zones.length, zoneCells s.zones evs⟩
def linkRow (v : Value) (s : S) : Row := ⟨48, 2, v, s.links.length, s.links.flatMap fun k => [.string (bts k.1), .string (bts k.2)]⟩
def eraRow (v : Value) (es : List Er.E) : Row := ⟨65, 13, v, es.length, es.flatMap Er.E.cells⟩
def eraRows : List (Txt × List Er.E) → List Value → List Row
  | z :: l, v :: vs => eraRow v z.2 :: eraRows l vs
  | _, _ => []
/-- The reader at block g, its rows made from B on. -/
structure Held (B : Nat) (w : World) (g : Nat) (s : S) (rv zv lv : Value) (evs : List Value) : Prop where
  at_ : At w g [rv, zv, lv, .bool s.op]
  many : Many B w (ruleRow rv s :: zoneRow zv evs s :: linkRow lv s :: eraRows s.zones evs)
  below : g < B
  evs_len : evs.length = s.zones.length
theorem Held.call {B : Nat} {w w' : World} {g : Nat} {s : S} {rv zv lv : Value} {evs : List Value} (h : Held B w g s rv zv lv evs) (hb : Below w.heap.size w w') : Held B w' g s rv zv lv evs :=
  ⟨h.at_.call hb, h.many.call hb, h.below, h.evs_len⟩
theorem Held.allocO {B : Nat} {w : World} {g : Nat} {s : S} {rv zv lv : Value} {evs : List Value} (h : Held B w g s rv zv lv evs) (o : Obj) : Held B (w.alloc o) g s rv zv lv evs :=
  ⟨h.at_.allocO o, h.many.alloc o, h.below, h.evs_len⟩
/-- A new reader. -/
theorem Held.new_ (w : World) (t : TypeId) : Held (w.heap.size + 1) (w.alloc (.cells #[.slice none 0 0, .slice none 0 0, .slice none 0 0, .bool false] t)) w.heap.size St.none_ (.slice none 0 0) (.slice none 0 0) (.slice none 0 0) [] :=
  ⟨At.new _ _ _, Many.add0 (Many.add0 (Many.add0 Many.nil_ _ _) _ _) _ _, Nat.lt_succ_self _, rfl⟩
/-- A rule more. -/
theorem Held.rule {B : Nat} {w w' w2 : World} {g : Nat} {s : S} {rv rv' zv lv : Value} {evs : List Value} (h : Held B w g s rv zv lv evs) (r : Ru.R) (o : Obj)
    (hown : w'.ownsRow B 67 11 rv' (s.rules.length + 1) (s.rules.flatMap Ru.R.cells ++ r.cells)) (hg : (w.alloc o).grownBy w' rv.ownBlock) (hat : rv'.ownBlock = rv.ownBlock ∨ rv'.ownBlock = some (w.alloc o).heap.size)
    (hw : w2 = w'.setCell ⟨g, 0, none⟩ rv') : Held B w2 g { s with rules := s.rules ++ [r] } rv' zv lv evs := by
  have hne : ∀ k, rv.ownBlock = some k → g ≠ k := fun k hk e => by
    have := ((h.many.own _ List.mem_cons_self).lt k hk).1
    have := h.below
    omega
  have a1 := (Sc.At.grownO (h.at_.allocO o) hg hne).set 0 rv'
  have m1 := (h.many.grow o hown hg hat).setBelow (p := ⟨g, 0, none⟩) h.below rv'
  subst hw
  refine ⟨a1, ?_, h.below, h.evs_len⟩
  have e : ruleRow rv' { s with rules := s.rules ++ [r] } = ⟨67, 11, rv', s.rules.length + 1, s.rules.flatMap Ru.R.cells ++ r.cells⟩ := by
    simp [ruleRow]
  rw [e]
  exact m1
end Src
end Go.Proofs.YtajcgoinhpengaaDoor

/- The contracts of era.saved and era.read: one text of an era. -/
namespace Go.Proofs.YtajcgoinhpengaaDoor
open Go.RowKit

namespace Er
/-- What a call of read leaves. -/
def Rd (g : Nat) (w : World) (r : E) (why : Int) (e : Ending) (w' : World) : Prop := e = .returned (.int .i64 why) ∧ At w' g r.cells ∧ w.grownBy w' (some g)
theorem num_cases (x : ByteArray) : (num x = true ∧ digAt x 0 = true) ∨ (num x = true ∧ digAt x 0 = false ∧ (∃ h : 0 < x.size, x[0].toNat = 45) ∧ digAt x 1 = true) ∨
    (num x = false ∧ digAt x 0 = false ∧ x = ⟨#[]⟩) ∨ (num x = false ∧ digAt x 0 = false ∧ (∃ h : 0 < x.size, x[0].toNat ≠ 45)) ∨
    (num x = false ∧ digAt x 0 = false ∧ (∃ h : 0 < x.size, x[0].toNat = 45) ∧ digAt x 1 = false) := by
  unfold num
  cases h0 : digAt x 0
  · right
    by_cases hs : 0 < x.size
    · have hg := Dy.tl_get x 0 hs
      by_cases h45 : x[0].toNat = 45
      · have e : (tl x)[0]? = some 45 := by
          rw [hg]
          congr 1
          exact UInt8.toNat.inj h45
        cases h1 : digAt x 1
        · exact .inr (.inr (.inr ⟨by simp, rfl, ⟨hs, h45⟩, rfl⟩))
        · exact .inl ⟨by rw [decide_eq_true e]; rfl, rfl, ⟨hs, h45⟩, rfl⟩
      · have e : ¬ (tl x)[0]? = some 45 := by
          rw [hg]
          intro y
          exact h45 (by rw [Option.some.inj y]; rfl)
        exact .inr (.inr (.inl ⟨by rw [decide_eq_false e]; rfl, rfl, ⟨hs, h45⟩⟩))
    · refine .inr (.inl ⟨?_, rfl, ?_⟩)
      · have e : ¬ (tl x)[0]? = some 45 := by
          rw [List.getElem?_eq_none (by rw [tl_length]; omega)]
          intro y
          cases y
        rw [decide_eq_false e]; rfl
      · apply ByteArray.ext
        apply Array.ext'
        exact List.eq_nil_of_length_eq_zero (by have : x.data.toList.length = x.size := tl_length x; omega)
  · exact .inl ⟨rfl, rfl⟩
end Er
end Go.Proofs.YtajcgoinhpengaaDoor

/- The contract of era.Parse. -/
namespace Go.Proofs.YtajcgoinhpengaaDoor
open Go.RowKit

theorem At.thirteen {w : World} {g : Nat} {e : Er.E} (h : At w g e.cells) :
    (w.cell? ⟨g, 0, none⟩ = some (.int .i64 e.std) ∧ w.cell? ⟨g, 1, none⟩ = some (.int .u8 e.k) ∧ w.cell? ⟨g, 2, none⟩ = some (.int .i64 e.sv) ∧ w.cell? ⟨g, 3, none⟩ = some (.string e.ru) ∧ w.cell? ⟨g, 4, none⟩ = some (.string e.fm) ∧ w.cell? ⟨g, 5, none⟩ = some (.bool e.en) ∧ w.cell? ⟨g, 6, none⟩ = some (.int .i64 e.u.y) ∧ w.cell? ⟨g, 7, none⟩ = some (.int .i64 e.u.m) ∧ w.cell? ⟨g, 8, none⟩ = some (.int .u8 e.u.k) ∧ w.cell? ⟨g, 9, none⟩ = some (.int .i64 e.u.n) ∧ w.cell? ⟨g, 10, none⟩ = some (.int .i64 e.u.d) ∧ w.cell? ⟨g, 11, none⟩ = some (.int .i64 e.u.s) ∧ w.cell? ⟨g, 12, none⟩ = some (.int .u8 e.u.c)) ∧ (w.frozen? ⟨g, 0, none⟩ = false ∧ w.frozen? ⟨g, 1, none⟩ = false ∧ w.frozen? ⟨g, 2, none⟩ = false ∧ w.frozen? ⟨g, 3, none⟩ = false ∧ w.frozen? ⟨g, 4, none⟩ = false ∧ w.frozen? ⟨g, 5, none⟩ = false ∧ w.frozen? ⟨g, 6, none⟩ = false ∧ w.frozen? ⟨g, 7, none⟩ = false ∧ w.frozen? ⟨g, 8, none⟩ = false ∧ w.frozen? ⟨g, 9, none⟩ = false ∧ w.frozen? ⟨g, 10, none⟩ = false ∧ w.frozen? ⟨g, 11, none⟩ = false ∧ w.frozen? ⟨g, 12, none⟩ = false) :=
  ⟨⟨h.cell 0 _ rfl, h.cell 1 _ rfl, h.cell 2 _ rfl, h.cell 3 _ rfl, h.cell 4 _ rfl, h.cell 5 _ rfl, h.cell 6 _ rfl, h.cell 7 _ rfl, h.cell 8 _ rfl, h.cell 9 _ rfl, h.cell 10 _ rfl, h.cell 11 _ rfl, h.cell 12 _ rfl⟩, ⟨h.free 0 _ rfl, h.free 1 _ rfl, h.free 2 _ rfl, h.free 3 _ rfl, h.free 4 _ rfl, h.free 5 _ rfl, h.free 6 _ rfl, h.free 7 _ rfl, h.free 8 _ rfl, h.free 9 _ rfl, h.free 10 _ rfl, h.free 11 _ rfl, h.free 12 _ rfl⟩⟩
def Er.PRel (w : World) (m : Nat) (L : List ByteArray) (P : Er.E × Int × Int) (i : Value) (wr : World) : Prop :=
  ∃ (k : Nat) (r : Er.E), k ≤ m ∧ i = .int .i64 k ∧ Hid (At wr (w.heap.size + 1) r.cells) ∧ Hid (At wr w.heap.size Er.E.zero.cells) ∧ Hid (Below w.heap.size w wr) ∧ Hid (P = Er.run (L.drop k) k r)
theorem reads_from {w : World} {B n : Nat} {ad : Addr} {l : List ByteArray} (h : Reads w B 1 (some ad) n (l.map Value.string)) (k : Nat) (hk : k < n) : Reads w B 1 (some (ad.add k)) (n - k) ((l.drop k).map Value.string) := by
  have hl : l.length = n := by have := h.1; simpa using this
  obtain ⟨ad', e, hb, hc⟩ := h.2 (by omega)
  injection e with e
  subst e
  refine ⟨by simp; omega, fun _ => ⟨_, rfl, by rw [block_of_add]; exact hb, fun j v hj => ?_⟩⟩
  rw [add_of_add]
  refine hc (k + j) v ?_
  rw [List.map_drop, List.getElem?_drop] at hj
  exact hj
end Go.Proofs.YtajcgoinhpengaaDoor

/- (*reader).rule. -/
namespace Go.Proofs.YtajcgoinhpengaaDoor
open Go.RowKit

namespace Src
/-- All blocks that lay there stay as they are, but for the reader's own and the zones' row. -/
def Kept (g : Nat) (zv : Value) (w w' : World) : Prop := ∀ h : Nat, h < w.heap.size → h ≠ g → zv.ownBlock ≠ some h → w'.heap[h]? = w.heap[h]?
/-- What a reading method leaves. -/
def Post (B g : Nat) (zv : Value) (w : World) : Out S → Ending → World → Prop
  | .ok s', e, w' => e = .returned (.tuple #[.int .i64 0, .int .i64 0]) ∧ Below g w w' ∧ ∃ rv zv lv evs, Held B w' g s' rv zv lv evs
  | .bad p y, e, w' => e = .returned (.tuple #[.int .i64 p, .int .i64 y]) ∧ Below g w w' ∧ Kept g zv w w'
theorem kept_of {g : Nat} {zv : Value} {w w' : World} (hb : Below w.heap.size w w') (hg : g ≤ w.heap.size) : Below g w w' ∧ Kept g zv w w' := ⟨hb.mono hg, fun h hl _ _ => hb.block h hl⟩
end Src
end Go.Proofs.YtajcgoinhpengaaDoor
