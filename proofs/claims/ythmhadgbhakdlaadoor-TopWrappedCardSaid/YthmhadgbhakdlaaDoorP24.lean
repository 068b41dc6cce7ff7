/- What is read is right. -/
import Derived.Test.YthmhadgbhakdlaaDoorP23
import Derived.Test.YthmhadgbhakdlaaDoorP21
import Derived.OneCell
import Derived.Test.YthmhadgbhakdlaaDoorP22
import Derived.RegionTactic
import Derived.Deep.DeepCutAuto
import Derived.Deep.AppendLies
import Derived.Deep.RegionHeldLaw
import Derived.Deep.QuietTactic
import Derived.BigQuiet
import Derived.Laws.Cells

namespace Go.Proofs.YthmhadgbhakdlaaDoor
open Go.RowKit

namespace Src
variable {R E : Type}
def Base (p : P R E) (Re : E → Prop) (z : Txt × List E) : Prop := p.name z.1 = true ∧ z.2.length ≤ 64 ∧ ∀ e ∈ z.2, Re e
def Done (p : P R E) (z : Txt × List E) : Prop := ∃ es e, z.2 = es ++ [e] ∧ (∀ x ∈ es, p.ends x = true) ∧ p.ends e = false
def Opened (p : P R E) (z : Txt × List E) : Prop := ∀ x ∈ z.2, p.ends x = true
def ZonesOk (p : P R E) (Re : E → Prop) (op : Bool) : List (Txt × List E) → Prop
  | [] => op = false
  | [z] => Base p Re z ∧ (if op = true then Opened p z else Done p z)
  | z :: y :: l => Base p Re z ∧ Done p z ∧ ZonesOk p Re op (y :: l)
theorem one_more (p : P R E) (Re : E → Prop) (z : Txt × List E) (e : E) (h1 : p.name z.1 = true) (h2 : z.2.length < 64) (h3 : ∀ e ∈ z.2, Re e) (h4 : Opened p z) (he : Re e) :
    ZonesOk p Re (p.ends e) [(z.1, z.2 ++ [e])] := by
  refine ⟨⟨h1, by simp; omega, ?_⟩, ?_⟩
  · intro x hx
    simp only [List.mem_append, List.mem_singleton] at hx
    rcases hx with hx | hx
    · exact h3 x hx
    · subst hx; exact he
  · split
    · rename_i h
      intro x hx
      simp only [List.mem_append, List.mem_singleton] at hx
      rcases hx with hx | hx
      · exact h4 x hx
      · subst hx; exact h
    · rename_i h
      exact ⟨z.2, e, rfl, h4, by simpa using h⟩
theorem addEra_ok (p : P R E) (Re : E → Prop) (e : E) (he : Re e) : ∀ zs : List (Txt × List E), zs ≠ [] → ZonesOk p Re true zs → lastEras zs ≠ 64 → ZonesOk p Re (p.ends e) (addEra e zs)
  | [], hn, h, hl => absurd rfl hn
  | [z], hn, h, hl => by
    obtain ⟨⟨a, b, c⟩, d⟩ := h
    simp only [lastEras] at hl
    exact one_more p Re z e a (by omega) c d he
  | [z, y], hn, h, hl => by
    obtain ⟨a, b, c⟩ := h
    exact ⟨a, b, addEra_ok p Re e he [y] (by simp) c hl⟩
  | z :: y :: x :: l, hn, h, hl => by
    obtain ⟨a, b, c⟩ := h
    exact ⟨a, b, addEra_ok p Re e he (y :: x :: l) (by simp) c hl⟩
theorem newZone_ok (p : P R E) (Re : E → Prop) (n : Txt) (e : E) (hn : p.name n = true) (he : Re e) : ∀ zs : List (Txt × List E), ZonesOk p Re false zs → ZonesOk p Re (p.ends e) (addEra e (zs ++ [(n, [])]))
  | [], h => one_more p Re (n, []) e hn (by simp) (fun x hx => by cases hx) (fun x hx => by cases hx) he
  | [z], h => ⟨h.1, h.2, newZone_ok p Re n e hn he [] rfl⟩
  | [z, y], h => ⟨h.1, h.2.1, newZone_ok p Re n e hn he [y] h.2.2⟩
  | z :: y :: x :: l, h => ⟨h.1, h.2.1, newZone_ok p Re n e hn he (y :: x :: l) h.2.2⟩
structure Right (p : P R E) (Rr : R → Prop) (Re : E → Prop) (s : St R E) : Prop where
  rules : s.rules.length ≤ 4096 ∧ ∀ r ∈ s.rules, Rr r
  zones : s.zones.length ≤ 1024 ∧ ZonesOk p Re s.op s.zones
  links : s.links.length ≤ 4096 ∧ ∀ k ∈ s.links, p.name k.1 = true ∧ p.name k.2 = true
theorem right_none (p : P R E) (Rr : R → Prop) (Re : E → Prop) : Right p Rr Re St.none_ :=
  ⟨⟨by simp [St.none_], fun r h => (by cases h)⟩, ⟨by simp [St.none_], rfl⟩, ⟨by simp [St.none_], fun r h => (by cases h)⟩⟩
theorem zones_ne (p : P R E) (Re : E → Prop) (zs : List (Txt × List E)) (h : ZonesOk p Re true zs) : zs ≠ [] := by
  intro e
  subst e
  cases h
theorem wrong_none (f : Txt → Bool) : ∀ (l : List Txt) (i : Int), wrong f l i = none → ∀ t ∈ l, f t = true
  | [], i, h, t, ht => by cases ht
  | x :: l, i, h, t, ht => by
    unfold wrong at h
    split at h
    · rename_i hx
      rcases List.mem_cons.mp ht with e | e
      · subst e; exact hx
      · exact wrong_none f l _ h t e
    · cases h
theorem step_right (p : P R E) (Rr : R → Prop) (Re : E → Prop) (hr : ∀ l, (p.rule l).2.2 = 0 → Rr (p.rule l).1) (he : ∀ l, (p.era l).2.2 = 0 → Re (p.era l).1)
    (s s' : St R E) (t : List Txt) (h : Right p Rr Re s) (hs : step p s t = .ok s') : Right p Rr Re s' := by
  unfold step at hs
  split at hs
  · rename_i ho
    have hz := h.zones.2
    rw [ho] at hz
    split at hs
    · cases hs
    · rename_i h64
      unfold eraStep at hs
      split at hs
      · rename_i h0
        cases hs
        exact ⟨h.rules, ⟨by rw [addEra_len]; exact h.zones.1, addEra_ok p Re _ (he _ h0) _ (zones_ne p Re _ hz) hz h64⟩, h.links⟩
      · cases hs
  · rename_i ho
    have hz := h.zones.2
    rw [show s.op = false by simpa using ho] at hz
    split at hs
    · unfold ruleStep at hs
      split at hs
      · cases hs
      · rename_i hlim
        split at hs
        · rename_i h0
          cases hs
          have hl := h.rules.1
          refine ⟨⟨by simp; omega, ?_⟩, h.zones, h.links⟩
          intro r hr'
          rcases List.mem_append.mp hr' with e | e
          · exact h.rules.2 r e
          · rw [List.mem_singleton] at e
            subst e
            exact hr _ h0
        · cases hs
    · split at hs
      · unfold zoneStep at hs
        split at hs
        · cases hs
        · rename_i hlim
          split at hs
          · cases hs
          · split at hs
            · cases hs
            · rename_i hnm
              unfold eraStep at hs
              split at hs
              · rename_i h0
                cases hs
                have hl := h.zones.1
                exact ⟨h.rules, ⟨by rw [addEra_len]; simp; omega, newZone_ok p Re _ _ (by simpa using hnm) (he _ h0) _ hz⟩, h.links⟩
              · cases hs
      · split at hs
        · unfold linkStep at hs
          split at hs
          · cases hs
          · rename_i hlim
            split at hs
            · cases hs
            · rename_i hwr
              split at hs
              · cases hs
              · rename_i h2
                split at hs
                · cases hs
                · cases hs
                  have hl := h.links.1
                  simp only [List.length_take, List.length_drop] at h2
                  refine ⟨h.rules, h.zones, ⟨by simp; omega, ?_⟩⟩
                  intro k hk
                  rcases List.mem_append.mp hk with e | e
                  · exact h.links.2 k e
                  · rw [List.mem_singleton] at e
                    subst e
                    match t, h2, hwr with
                    | [], h2, hwr => simp at h2
                    | [_], h2, hwr => simp at h2
                    | [_, _], h2, hwr => simp at h2
                    | _ :: a :: b :: l, h2, hwr =>
                      have hw := wrong_none p.name _ 0 hwr
                      exact ⟨hw a (by simp), hw b (by simp)⟩
        · cases hs
theorem readGo_right (p : P R E) (Rr : R → Prop) (Re : E → Prop) (hr : ∀ l, (p.rule l).2.2 = 0 → Rr (p.rule l).1) (he : ∀ l, (p.era l).2.2 = 0 → Re (p.era l).1) :
    ∀ (L : List Ln) (s s' : St R E), Right p Rr Re s → readGo p L s = .ok s' → Right p Rr Re s'
  | [], s, s', h, hs => by cases hs; exact h
  | x :: L, s, s', h, hs => by
    rw [readGo_cons] at hs
    cases h1 : step p s (x.2.map (·.1)) with
    | bad place why => rw [h1] at hs; cases hs
    | ok s1 =>
      rw [h1] at hs
      exact readGo_right p Rr Re hr he L s1 s' (step_right p Rr Re hr he s s1 _ h h1) hs
/-- What is read is right. -/
theorem parse_right (p : P R E) (Rr : R → Prop) (Re : E → Prop) (hr : ∀ l, (p.rule l).2.2 = 0 → Rr (p.rule l).1) (he : ∀ l, (p.era l).2.2 = 0 → Re (p.era l).1)
    (s : Txt) (x : St R E) (hs : s.length ≤ 1048576) (h : parse p s = .ok x) : Right p Rr Re x ∧ x.op = false := by
  obtain ⟨L, h1, h2, h3⟩ := parse_ok p s x hs h
  exact ⟨readGo_right p Rr Re hr he L _ x (right_none p Rr Re) h2, h3⟩
end Src
end Go.Proofs.YthmhadgbhakdlaaDoor

/- The program's own readers of rules and eras, as the plain law wants them. -/
namespace Go.Proofs.YthmhadgbhakdlaaDoor
open Go.RowKit

namespace Src
def bts (t : Txt) : ByteArray := ⟨t.toArray⟩
theorem rule_len (l : List ByteArray) (h : (Ru.parse l).2.2 = 0) : 9 = l.length := by
  unfold Ru.parse at h
  split at h
  · split at h
    · exact absurd (show (5 : Int) = 0 from h) (by decide)
    · split at h
      · exact absurd (show (6 : Int) = 0 from h) (by decide)
      · omega
  · rename_i h0
    exact absurd h h0
theorem era_len (l : List ByteArray) (h : (Er.parse l).2.2 = 0) : 3 ≤ l.length := by
  unfold Er.parse at h
  split at h
  · split at h
    · exact absurd (show (5 : Int) = 0 from h) (by decide)
    · omega
  · rename_i h0
    exact absurd h h0
def words : List Txt := [[82, 117, 108, 101], [90, 111, 110, 101], [76, 105, 110, 107]]
/-- What reads. -/
def own : P Ru.R Er.E where
  key t := Wd.pick t words + 1
  name t := Ru.name t
  rule l := Ru.parse (l.map bts)
  era l := Er.parse (l.map bts)
  ends e := e.en
  rule_len l h := by
    have := rule_len _ h
    simp only [List.length_map] at this
    omega
  era_len l h := by
    have := era_len _ h
    simp only [List.length_map] at this
    omega
end Src
end Go.Proofs.YthmhadgbhakdlaaDoor

/- word.Keyword at a door's seat. -/
namespace Go.Proofs.YthmhadgbhakdlaaDoor
open Go.RowKit

def Kinds : List ByteArray := [⟨#[82, 117, 108, 101]⟩, ⟨#[90, 111, 110, 101]⟩, ⟨#[76, 105, 110, 107]⟩]
end Go.Proofs.YthmhadgbhakdlaaDoor

/- Many rows of a call's own, no two in one block. -/
namespace Go.Proofs.YthmhadgbhakdlaaDoor
open Go.RowKit

/-- A row: what it has of each element, its value, how many, its cells. -/
structure Row where
  e : TypeId
  size : Nat
  v : Value
  n : Nat
  xs : List Value
def apartV (a b : Value) : Prop := a.ownBlock = none ∨ a.ownBlock ≠ b.ownBlock
theorem apartV.symm {a b : Value} (h : apartV a b) : apartV b a := by
  unfold apartV at h ⊢
  rcases h with h | h
  · cases e : b.ownBlock with
    | none => exact .inl rfl
    | some k => right; rw [h]; simp
  · exact .inr fun x => h x.symm
structure Many (B : Nat) (w : World) (rs : List Row) : Prop where
  own : ∀ r ∈ rs, w.ownsRow B r.e r.size r.v r.n r.xs
  apart : rs.Pairwise fun a b => apartV a.v b.v
section
variable {B : Nat} {w w' : World} {rs l1 l2 : List Row} {r : Row}
theorem Many.nil_ : Many B w [] := ⟨fun r h => (by cases h), .nil⟩
theorem Many.call (h : Many B w rs) (hb : Below w.heap.size w w') : Many B w' rs := ⟨fun r hr => own_below (h.own r hr) hb, h.apart⟩
theorem Many.alloc (h : Many B w rs) (o : Obj) : Many B (w.alloc o) rs := ⟨fun r hr => (h.own r hr).alloc o, h.apart⟩
theorem Many.setBelow (h : Many B w rs) {p : Addr} (hp : p.block < B) (u : Value) : Many B (w.setCell p u) rs := ⟨fun r hr => ownsRow_setCell_below (h.own r hr) hp u, h.apart⟩
theorem Many.perm {rs' : List Row} (h : Many B w rs) (hp : rs.Perm rs') : Many B w rs' :=
  ⟨fun r hr => h.own r (hp.mem_iff.2 hr), hp.pairwise h.apart fun h => apartV.symm h⟩
/-- The row at the head is written, or has grown into a new block. -/
theorem Many.grow {v' : Value} {n' : Nat} {xs' : List Value} (h : Many B w (r :: rs)) (o : Obj) (hown : w'.ownsRow B r.e r.size v' n' xs') (hg : (w.alloc o).grownBy w' r.v.ownBlock) (hat : v'.ownBlock = r.v.ownBlock ∨ v'.ownBlock = some (w.alloc o).heap.size) :
    Many B w' (⟨r.e, r.size, v', n', xs'⟩ :: rs) := by
  have ha := List.pairwise_cons.1 h.apart
  have hk : ∀ x ∈ rs, w'.ownsRow B x.e x.size x.v x.n x.xs := fun x hx => ((h.own x (List.mem_cons_of_mem _ hx)).alloc o).kept hg (ha.1 x hx).symm
  refine ⟨fun x hx => ?_, List.pairwise_cons.2 ⟨fun x hx => ?_, ha.2⟩⟩
  · rcases List.mem_cons.1 hx with rfl | hx
    · exact hown
    · exact hk x hx
  · show apartV v' x.v
    rcases hat with e | e
    · unfold apartV; rw [e]; exact ha.1 x hx
    · refine apartV.symm ?_
      unfold apartV
      rw [e]
      cases ex : x.v.ownBlock with
      | none => exact .inl rfl
      | some k =>
        right
        have := ((h.own x (List.mem_cons_of_mem _ hx)).lt k ex).2
        intro z
        have hk : k = (w.alloc o).heap.size := Option.some.inj z
        rw [World.size_alloc] at hk
        omega
/-- A row more, that has no block. -/
theorem Many.add0 (h : Many B w rs) (e : TypeId) (size : Nat) : Many B w (⟨e, size, .slice none 0 0, 0, []⟩ :: rs) :=
  ⟨fun x hx => by rcases List.mem_cons.1 hx with rfl | hx; exact World.ownsRow_nil _ _ _ _; exact h.own x hx, List.pairwise_cons.2 ⟨fun x _ => .inl rfl, h.apart⟩⟩
/-- A row more, whose block was made by a callee. -/
theorem Many.addNew (h : Many B w rs) (hb : Below w.heap.size w w') (hB : B ≤ w.heap.size) (hown : w'.ownsRow w.heap.size r.e r.size r.v r.n r.xs) : Many B w' (r :: rs) := by
  have hB' : w'.ownsRow B r.e r.size r.v r.n r.xs := by
    refine ⟨hown.1, ?_⟩
    rcases hown.2 with hn | ⟨g, cap, cur, hv, h1, rest⟩
    · exact .inl hn
    · exact .inr ⟨g, cap, cur, hv, Nat.le_trans hB h1, rest⟩
  refine ⟨fun x hx => ?_, List.pairwise_cons.2 ⟨fun x hx => ?_, h.apart⟩⟩
  · rcases List.mem_cons.1 hx with rfl | hx
    · exact hB'
    · exact own_below (h.own x hx) hb
  · refine apartV.symm ?_
    unfold apartV
    cases ex : x.v.ownBlock with
    | none => exact .inl rfl
    | some k =>
      right
      have h1 := ((h.own x hx).lt k ex).2
      intro z
      have h2 := (hown.lt k z.symm).1
      omega
/-- A store into the head row's own cells. -/
theorem Many.store {g n cap : Nat} {e : TypeId} {size : Nat} {xs : List Value} (h : Many B w (⟨e, size, .slice (some ⟨g, 0, none⟩) n cap, n, xs⟩ :: rs)) (j : Nat) (u : Value) :
    Many B (w.setCell ⟨g, j, none⟩ u) (⟨e, size, .slice (some ⟨g, 0, none⟩) n cap, n, xs.set j u⟩ :: rs) := by
  have ha := List.pairwise_cons.1 h.apart
  refine ⟨fun x hx => ?_, List.pairwise_cons.2 ⟨fun x hx => ha.1 x hx, ha.2⟩⟩
  rcases List.mem_cons.1 hx with rfl | hx
  · exact ((h.own _ List.mem_cons_self).stored j u).1
  · exact ownsRow_setCell_other (h.own x (List.mem_cons_of_mem _ hx)) (by
      rcases (ha.1 x hx).symm with e | e
      · rw [e]; simp
      · exact e) u
end
end Go.Proofs.YthmhadgbhakdlaaDoor

/- The contract of scan.Lines. -/
namespace Go.Proofs.YthmhadgbhakdlaaDoor
open Go.RowKit

namespace Sc
theorem own_mono {w : World} {base base' : Nat} {e : TypeId} {size : Nat} {v : Value} {n : Nat} {xs : List Value} (h : w.ownsRow base e size v n xs) (hb : base' ≤ base) : w.ownsRow base' e size v n xs := by
  refine ⟨h.1, ?_⟩
  rcases h.2 with hn | ⟨g, cap, cur, hv, h1, rest⟩
  · exact .inl hn
  · exact .inr ⟨g, cap, cur, hv, Nat.le_trans hb h1, rest⟩
def lcells (acc : List (Int × List (List UInt8 × Int))) (us : List Value) : List Value := (acc.zip us).flatMap fun p => [.int .i64 p.1.1, p.2]
def mes (a b : Value) : Nat := match a, b with
  | .string s, .bool true => s.size + 1
  | _, _ => 0
def mesB (txt : ByteArray) (more : Bool) : Nat := if more = true then txt.size + 1 else 0
theorem mes_b (txt : ByteArray) (more : Bool) : mes (.string txt) (.bool more) = mesB txt more := by cases more <;> rfl
def left_ (txt : ByteArray) (more : Bool) : List (List UInt8) := if more = true then splitNl (tl txt) else []
theorem At.grownO {w w' : World} {h : Nat} {row : Option Nat} {xs : List Value} (a : At w h xs) (hg : w.grownBy w' row) (hne : ∀ k, row = some k → h ≠ k) : At w' h xs := by
  cases row with
  | none => exact Go.Proofs.YthmhadgbhakdlaaDoor.At.grown a (g := w.heap.size) ⟨hg.os, hg.tape, hg.output, hg.size, fun k hk _ => hg.block k hk (by simp)⟩ (by have := a.lt; omega)
  | some k => exact Go.Proofs.YthmhadgbhakdlaaDoor.At.grown a hg (hne k rfl)
end Sc
end Go.Proofs.YthmhadgbhakdlaaDoor

/- How a reader lies in memory: its own block, and its rows. -/
namespace Go.Proofs.YthmhadgbhakdlaaDoor
open Go.RowKit

namespace Src
abbrev S := St Ru.R Er.E
def zoneCells : List (Txt × List Er.E) → List Value → List Value
  | z :: l, v :: vs => .string (bts z.1) :: v :: zoneCells l vs
  | _, _ => []
end Src
end Go.Proofs.YthmhadgbhakdlaaDoor

/- The contracts of era.saved and era.read: one text of an era. -/
namespace Go.Proofs.YthmhadgbhakdlaaDoor
open Go.RowKit

namespace Er
/-- What a call of read leaves. -/
def Rd (g : Nat) (w : World) (r : E) (why : Int) (e : Ending) (w' : World) : Prop := e = .returned (.int .i64 why) ∧ At w' g r.cells ∧ w.grownBy w' (some g)
theorem num_cases (x : ByteArray) : (num x = true ∧ digAt x 0 = true) ∨ (num x = true ∧ digAt x 0 = false ∧ (∃ h : 0 < x.size, x[0].toNat = 45) ∧ digAt x 1 = true) ∨
    (num x = false ∧ digAt x 0 = false ∧ x = ⟨#[]⟩) ∨ (num x = false ∧ digAt x 0 = false ∧ (∃ h : 0 < x.size, x[0].toNat ≠ 45)) ∨
    (num x = false ∧ digAt x 0 = false ∧ (∃ h : 0 < x.size, x[0].toNat = 45) ∧ digAt x 1 = false) := by
  unfold num
  cases h0 : digAt x 0
  · right
    by_cases hs : 0 < x.size
    · have hg := Dy.tl_get x 0 hs
      by_cases h45 : x[0].toNat = 45
      · have e : (tl x)[0]? = some 45 := by
          rw [hg]
          congr 1
          exact UInt8.toNat.inj h45
        cases h1 : digAt x 1
        · exact .inr (.inr (.inr ⟨by simp, rfl, ⟨hs, h45⟩, rfl⟩))
        · exact .inl ⟨by rw [decide_eq_true e]; rfl, rfl, ⟨hs, h45⟩, rfl⟩
      · have e : ¬ (tl x)[0]? = some 45 := by
          rw [hg]
          intro y
          exact h45 (by rw [Option.some.inj y]; rfl)
        exact .inr (.inr (.inl ⟨by rw [decide_eq_false e]; rfl, rfl, ⟨hs, h45⟩⟩))
    · refine .inr (.inl ⟨?_, rfl, ?_⟩)
      · have e : ¬ (tl x)[0]? = some 45 := by
          rw [List.getElem?_eq_none (by rw [tl_length]; omega)]
          intro y
          cases y
        rw [decide_eq_false e]; rfl
      · apply ByteArray.ext
        apply Array.ext'
        exact List.eq_nil_of_length_eq_zero (by have : x.data.toList.length = x.size := tl_length x; omega)
  · exact .inl ⟨rfl, rfl⟩
end Er
end Go.Proofs.YthmhadgbhakdlaaDoor

/- The contract of era.Parse. -/
namespace Go.Proofs.YthmhadgbhakdlaaDoor
open Go.RowKit

theorem At.thirteen {w : World} {g : Nat} {e : Er.E} (h : At w g e.cells) :
    (w.cell? ⟨g, 0, none⟩ = some (.int .i64 e.std) ∧ w.cell? ⟨g, 1, none⟩ = some (.int .u8 e.k) ∧ w.cell? ⟨g, 2, none⟩ = some (.int .i64 e.sv) ∧ w.cell? ⟨g, 3, none⟩ = some (.string e.ru) ∧ w.cell? ⟨g, 4, none⟩ = some (.string e.fm) ∧ w.cell? ⟨g, 5, none⟩ = some (.bool e.en) ∧ w.cell? ⟨g, 6, none⟩ = some (.int .i64 e.u.y) ∧ w.cell? ⟨g, 7, none⟩ = some (.int .i64 e.u.m) ∧ w.cell? ⟨g, 8, none⟩ = some (.int .u8 e.u.k) ∧ w.cell? ⟨g, 9, none⟩ = some (.int .i64 e.u.n) ∧ w.cell? ⟨g, 10, none⟩ = some (.int .i64 e.u.d) ∧ w.cell? ⟨g, 11, none⟩ = some (.int .i64 e.u.s) ∧ w.cell? ⟨g, 12, none⟩ = some (.int .u8 e.u.c)) ∧ (w.frozen? ⟨g, 0, none⟩ = false ∧ w.frozen? ⟨g, 1, none⟩ = false ∧ w.frozen? ⟨g, 2, none⟩ = false ∧ w.frozen? ⟨g, 3, none⟩ = false ∧ w.frozen? ⟨g, 4, none⟩ = false ∧ w.frozen? ⟨g, 5, none⟩ = false ∧ w.frozen? ⟨g, 6, none⟩ = false ∧ w.frozen? ⟨g, 7, none⟩ = false ∧ w.frozen? ⟨g, 8, none⟩ = false ∧ w.frozen? ⟨g, 9, none⟩ = false ∧ w.frozen? ⟨g, 10, none⟩ = false ∧ w.frozen? ⟨g, 11, none⟩ = false ∧ w.frozen? ⟨g, 12, none⟩ = false) :=
  ⟨⟨h.cell 0 _ rfl, h.cell 1 _ rfl, h.cell 2 _ rfl, h.cell 3 _ rfl, h.cell 4 _ rfl, h.cell 5 _ rfl, h.cell 6 _ rfl, h.cell 7 _ rfl, h.cell 8 _ rfl, h.cell 9 _ rfl, h.cell 10 _ rfl, h.cell 11 _ rfl, h.cell 12 _ rfl⟩, ⟨h.free 0 _ rfl, h.free 1 _ rfl, h.free 2 _ rfl, h.free 3 _ rfl, h.free 4 _ rfl, h.free 5 _ rfl, h.free 6 _ rfl, h.free 7 _ rfl, h.free 8 _ rfl, h.free 9 _ rfl, h.free 10 _ rfl, h.free 11 _ rfl, h.free 12 _ rfl⟩⟩
def Er.PRel (w : World) (m : Nat) (L : List ByteArray) (P : Er.E × Int × Int) (i : Value) (wr : World) : Prop :=
  ∃ (k : Nat) (r : Er.E), k ≤ m ∧ i = .int .i64 k ∧ Hid (At wr (w.heap.size + 1) r.cells) ∧ Hid (At wr w.heap.size Er.E.zero.cells) ∧ Hid (Below w.heap.size w wr) ∧ Hid (P = Er.run (L.drop k) k r)
theorem reads_from {w : World} {B n : Nat} {ad : Addr} {l : List ByteArray} (h : Reads w B 1 (some ad) n (l.map Value.string)) (k : Nat) (hk : k < n) : Reads w B 1 (some (ad.add k)) (n - k) ((l.drop k).map Value.string) := by
  have hl : l.length = n := by have := h.1; simpa using this
  obtain ⟨ad', e, hb, hc⟩ := h.2 (by omega)
  injection e with e
  subst e
  refine ⟨by simp; omega, fun _ => ⟨_, rfl, by rw [block_of_add]; exact hb, fun j v hj => ?_⟩⟩
  rw [add_of_add]
  refine hc (k + j) v ?_
  rw [List.map_drop, List.getElem?_drop] at hj
  exact hj
end Go.Proofs.YthmhadgbhakdlaaDoor

/- (*reader).rule. -/
namespace Go.Proofs.YthmhadgbhakdlaaDoor
open Go.RowKit

namespace Src
/-- All blocks that lay there stay as they are, but for the reader's own and the zones' row. -/
def Kept (g : Nat) (zv : Value) (w w' : World) : Prop := ∀ h : Nat, h < w.heap.size → h ≠ g → zv.ownBlock ≠ some h → w'.heap[h]? = w.heap[h]?
theorem kept_of {g : Nat} {zv : Value} {w w' : World} (hb : Below w.heap.size w w') (hg : g ≤ w.heap.size) : Below g w w' ∧ Kept g zv w w' := ⟨hb.mono hg, fun h hl _ _ => hb.block h hl⟩
end Src
end Go.Proofs.YthmhadgbhakdlaaDoor

/- How a reader lies in memory, what more is read: a rule, a zone, a link, an era. -/
namespace Go.Proofs.YthmhadgbhakdlaaDoor
open Go.RowKit

section
variable {B : Nat} {w w' : World} {rs : List Row} {r : Row}
theorem Many.drewN (h : Many B w rs) (k : Nat) : Many B (w.drewN k) rs := ⟨fun r hr => h.own r hr, h.apart⟩
/-- The row at the head is written, or has grown into a new block. -/
theorem Many.grow1 {v' : Value} {n' : Nat} {xs' : List Value} (h : Many B w (r :: rs)) (hown : w'.ownsRow B r.e r.size v' n' xs') (hg : w.grownBy w' r.v.ownBlock) (hat : v'.ownBlock = r.v.ownBlock ∨ v'.ownBlock = some w.heap.size) :
    Many B w' (⟨r.e, r.size, v', n', xs'⟩ :: rs) := by
  have ha := List.pairwise_cons.1 h.apart
  have hk : ∀ x ∈ rs, w'.ownsRow B x.e x.size x.v x.n x.xs := fun x hx => (h.own x (List.mem_cons_of_mem _ hx)).kept hg (ha.1 x hx).symm
  refine ⟨fun x hx => ?_, List.pairwise_cons.2 ⟨fun x hx => ?_, ha.2⟩⟩
  · rcases List.mem_cons.1 hx with rfl | hx
    · exact hown
    · exact hk x hx
  · show apartV v' x.v
    rcases hat with e | e
    · unfold apartV; rw [e]; exact ha.1 x hx
    · refine apartV.symm ?_
      unfold apartV
      rw [e]
      cases ex : x.v.ownBlock with
      | none => exact .inl rfl
      | some k =>
        right
        have := ((h.own x (List.mem_cons_of_mem _ hx)).lt k ex).2
        intro z
        have hk : k = w.heap.size := Option.some.inj z
        omega
/-- What is read lies elsewhere than a row that grows. -/
theorem Reads.far {B0 size n : Nat} {ad : Addr} {xs : List Value} {row : Option Nat} (h : Reads w B0 size (some ad) n xs) (hg : w.grownBy w' row) (hl : ad.block < w.heap.size) (hne : row ≠ some ad.block) : Reads w' w'.heap.size size (some ad) n xs := by
  refine ⟨h.1, fun hn => ?_⟩
  obtain ⟨ad', e, hb, hc⟩ := h.2 hn
  injection e with e
  subst e
  exact ⟨ad, rfl, Nat.lt_of_lt_of_le hl hg.size, fun j u hu => (hg.cell_far _ (by rw [block_of_add]; exact hl) (by rw [block_of_add]; exact fun x => hne x.symm)).trans (hc j u hu)⟩
theorem Reads.set_far {B0 size n : Nat} {ad p : Addr} {xs : List Value} (h : Reads w B0 size (some ad) n xs) (hne : ad.block ≠ p.block) (u : Value) : Reads (w.setCell p u) B0 size (some ad) n xs := by
  refine ⟨h.1, fun hn => ?_⟩
  obtain ⟨ad', e, hb, hc⟩ := h.2 hn
  injection e with e
  subst e
  exact ⟨ad, rfl, hb, fun j u hu => (World.cell?_setCell_other _ _ _ _ (fun e => hne (by rw [e, block_of_add]))).trans (hc j u hu)⟩
end
namespace Src
theorem zoneCells_app : ∀ (a b : List (Txt × List Er.E)) (va vb : List Value), va.length = a.length → zoneCells (a ++ b) (va ++ vb) = zoneCells a va ++ zoneCells b vb
  | [], b, [], vb, _ => rfl
  | z :: a, b, v :: va, vb, h => by
    have := zoneCells_app a b va vb (by simpa using h)
    simp only [List.cons_append, zoneCells, this]
theorem zoneCells_len : ∀ (a : List (Txt × List Er.E)) (va : List Value), va.length = a.length → (zoneCells a va).length = 2 * a.length
  | [], [], _ => rfl
  | z :: a, v :: va, h => by
    have := zoneCells_len a va (by simpa using h)
    simp only [zoneCells, List.length_cons, this]
    omega
theorem addEra_last (e : Er.E) (zs : List (Txt × List Er.E)) (nm : Txt) (es : List Er.E) : addEra e (zs ++ [(nm, es)]) = zs ++ [(nm, es ++ [e])] := by
  rw [addEra_app _ _ _ (by simp)]
  rfl
theorem lastEras_last (zs : List (Txt × List Er.E)) (nm : Txt) (es : List Er.E) : lastEras (zs ++ [(nm, es)]) = es.length := by
  rw [lastEras_app _ _ (by simp)]
  rfl
section
variable {B : Nat} {w w' w2 : World} {g : Nat} {s : S} {rv rv' zv zv' lv lv' : Value} {evs : List Value}
end
end Src
end Go.Proofs.YthmhadgbhakdlaaDoor

/- (*reader).rule: the way that reads. -/
namespace Go.Proofs.YthmhadgbhakdlaaDoor
open Go.RowKit

theorem le_alloc_drew (W : World) (o : Obj) (k : Nat) : W.heap.size ≤ ((W.alloc o).drewN k).heap.size := by
  show W.heap.size ≤ (W.alloc o).heap.size
  rw [World.size_alloc]
  omega
theorem cells_new (w : World) (cs : Array Value) (t : TypeId) : ∀ j u, cs.toList[j]? = some u → (w.alloc (.cells cs t)).cell? ((⟨w.heap.size, 0, none⟩ : Addr).add j) = some u := fun j u hu => by
  have hadd : (⟨w.heap.size, 0, none⟩ : Addr).add j = ⟨w.heap.size, j, none⟩ := by unfold Addr.add; split <;> simp_all
  rw [hadd]
  exact (At.new w cs t).cell j u hu
end Go.Proofs.YthmhadgbhakdlaaDoor

/- (*reader).rule: all its ways. -/
namespace Go.Proofs.YthmhadgbhakdlaaDoor
open Go.RowKit

theorem ru_parse_nil : Ru.parse [] = (Ru.R.zero, 0, 5) := by rfl
theorem Src.map_bts_drop (ts : List Src.Txt) (k : Nat) : (ts.map Src.bts).drop k = (ts.drop k).map Src.bts := by rw [List.map_drop]
theorem own_len {w : World} {base : Nat} {e : TypeId} {size n : Nat} {v : Value} {xs : List Value} (h : w.ownsRow base e size v n xs) : ∃ A c, v = .slice A n c ∧ n ≤ c ∧ c ≤ maxLen := own_slice_cap h
end Go.Proofs.YthmhadgbhakdlaaDoor

/- (*reader).era. -/
namespace Go.Proofs.YthmhadgbhakdlaaDoor
open Go.RowKit

theorem apartV.ne' {a b : Value} (h : apartV a b) : a.ownBlock = none ∨ a.ownBlock ≠ b.ownBlock := h
theorem er_parse_nil : Er.parse [] = (Er.E.zero, 0, 5) := by rfl
end Go.Proofs.YthmhadgbhakdlaaDoor

/- (*reader).era in one law; (*reader).zone. -/
namespace Go.Proofs.YthmhadgbhakdlaaDoor
open Go.RowKit

namespace Src
theorem last_of {α : Type} {l : List α} (h : l ≠ []) : ∃ a z, l = a ++ [z] := ⟨l.dropLast, l.getLast h, (List.dropLast_concat_getLast h).symm⟩
theorem small_bts {ts : List Txt} (hs : ∀ t ∈ ts, t.length ≤ 1000000) : ∀ t ∈ ts.map bts, t.size ≤ 1000000 := by
  intro t ht
  rw [List.mem_map] at ht
  obtain ⟨x, hx, rfl⟩ := ht
  exact hs x hx
end Src
theorem heap_set_far (w : World) (p : Addr) (v : Value) (k : Nat) (h : k ≠ p.block) : (w.setCell p v).heap[k]? = w.heap[k]? := by
  simp [World.setCell, Array.getElem?_modify, Ne.symm h]
theorem heap_alloc_far (w : World) (o : Obj) (k : Nat) (h : k < w.heap.size) : (w.alloc o).heap[k]? = w.heap[k]? := by
  show (w.heap.push o)[k]? = _
  rw [Array.getElem?_push_lt h, Array.getElem?_eq_getElem h]
end Go.Proofs.YthmhadgbhakdlaaDoor

/- slices.IndexFunc and slices.ContainsFunc, at whatever predicate. -/
namespace Go.Proofs.YthmhadgbhakdlaaDoor
open Go.RowKit

namespace Ix
/-- The first place at which p holds; -1, if there is none. -/
def at_ {α : Type} (p : α → Bool) : List α → Int → Int
  | [], _ => -1
  | x :: l, i => if p x then i else at_ p l (i + 1)
theorem at_bd {α : Type} (p : α → Bool) : ∀ (l : List α) (i : Int), at_ p l i = -1 ∨ (i ≤ at_ p l i ∧ at_ p l i < i + l.length)
  | [], _ => .inl rfl
  | x :: l, i => by
    unfold at_
    split
    · right; simp; omega
    · rcases at_bd p l (i + 1) with h | h
      · exact .inl h
      · right; simp; omega
theorem at_any {α : Type} (p : α → Bool) : ∀ (l : List α) (i : Int), 0 ≤ i → decide (0 ≤ at_ p l i) = l.any p
  | [], _, _ => rfl
  | x :: l, i, h => by
    unfold at_
    cases hx : p x
    · rw [if_neg (by simp), at_any p l (i + 1) (by omega)]
      simp [hx]
    · rw [if_pos rfl]
      simp [hx, h]
theorem at_next {α : Type} {p : α → Bool} {l : List α} {k : Nat} {x : α} {X : Int} (h : X = at_ p (l.drop k) k) (hx : l[k]? = some x) : X = if p x then (k : Int) else at_ p (l.drop (k + 1)) ((k + 1 : Nat) : Int) := by
  rw [List.drop_eq_getElem_cons (List.getElem?_eq_some_iff.1 hx).1] at h
  rw [h, at_, (List.getElem?_eq_some_iff.1 hx).2]
  rfl
theorem at_end {α : Type} {p : α → Bool} {l : List α} {k : Nat} {X : Int} (h : X = at_ p (l.drop k) k) (hk : l.length ≤ k) : X = -1 := by
  rw [h, List.drop_eq_nil_of_le hk]
  rfl
/-- An element's cells, out of all. -/
theorem flat_at {α : Type} (enc : α → List Value) (m : Nat) (hm : ∀ x, (enc x).length = m) : ∀ (xs : List α) (k : Nat) (x : α), xs[k]? = some x → ∀ (j : Nat) (v : Value), (enc x)[j]? = some v → (xs.flatMap enc)[k * m + j]? = some v
  | [], k, x, h, j, v, hj => by simp at h
  | y :: l, 0, x, h, j, v, hj => by
    simp at h
    subst h
    rw [List.flatMap_cons, List.getElem?_append_left (by have := (List.getElem?_eq_some_iff.1 hj).1; omega)]
    simpa using hj
  | y :: l, k + 1, x, h, j, v, hj => by
    rw [List.flatMap_cons, List.getElem?_append_right (by rw [hm, Nat.add_mul]; omega), hm]
    have := flat_at enc m hm l k x (by simpa using h) j v hj
    rw [← this]
    congr 1
    rw [Nat.add_mul]
    omega
theorem flat_len {α : Type} (enc : α → List Value) (m : Nat) (hm : ∀ x, (enc x).length = m) : ∀ xs : List α, (xs.flatMap enc).length = xs.length * m
  | [] => by simp
  | y :: l => by rw [List.flatMap_cons, List.length_append, hm, flat_len enc m hm l, List.length_cons, Nat.add_mul]; omega
theorem reads_cells {α : Type} {enc : α → List Value} {m : Nat} (hm : ∀ x, (enc x).length = m) {w : World} {B n k : Nat} {A : Option Addr} {xs : List α} (hl : xs.length = n) (h : Reads w B m A n (xs.flatMap enc)) (hk : k < n) :
    ∃ ad x, A = some ad ∧ ad.block < B ∧ Hid (xs[k]? = some x) ∧ Hid (∀ j v, (enc x)[j]? = some v → w.cell? ((ad.add (k * m)).add j) = some v) := by
  obtain ⟨ad, e, hb, hc⟩ := h.2 (by omega)
  have hkl : k < xs.length := by omega
  refine ⟨ad, xs[k], e, hb, List.getElem?_eq_getElem hkl, fun j v hj => ?_⟩
  rw [add_of_add]
  exact hc _ _ (flat_at enc m hm xs k _ (List.getElem?_eq_getElem hkl) j v hj)
/-- What is asked of a predicate. -/
def Tells {α : Type} (g : FuncId) (lb : Array Value) (enc : α → Value) (p : α → Bool) (xs : List α) (w : World) : Prop :=
  ∀ W x, x ∈ xs → Below w.heap.size w W → Calls Tryd.prog g (#[enc x] ++ lb) W fun e w' => e = .returned (.bool (p x)) ∧ Below w.heap.size w w'
end Ix
namespace Src
/-- A zone with its eras' slice; its cells. -/
def zc (p : (Txt × List Er.E) × Value) : List Value := [.string (bts p.1.1), p.2]
def zv (p : (Txt × List Er.E) × Value) : Value := .agg #[.string (bts p.1.1), p.2]
def lc (p : Txt × Txt) : List Value := [.string (bts p.1), .string (bts p.2)]
def lv (p : Txt × Txt) : Value := .agg #[.string (bts p.1), .string (bts p.2)]
end Src
end Go.Proofs.YthmhadgbhakdlaaDoor

/- (*reader).zone in one law; (*reader).link. -/
namespace Go.Proofs.YthmhadgbhakdlaaDoor
open Go.RowKit

/-- A name is wrong. -/
def wrongN (s : ByteArray) : Bool := !Ru.name (tl s)
theorem wrong_ge (f : Src.Txt → Bool) : ∀ (l : List Src.Txt) (i j : Int), Src.wrong f l i = some j → i ≤ j
  | [], i, j, h => by cases h
  | t :: l, i, j, h => by
    unfold Src.wrong at h
    split at h
    · have := wrong_ge f l (i + 1) j h
      omega
    · injection h with h
      omega
theorem at_wrong : ∀ (l : List Src.Txt) (i : Int), Ix.at_ wrongN (l.map Src.bts) i = (Src.wrong Src.own.name l i).getD (-1)
  | [], i => rfl
  | t :: l, i => by
    have hown : Src.own.name t = Ru.name t := rfl
    have hb : wrongN (Src.bts t) = !Ru.name t := by unfold wrongN; rw [show tl (Src.bts t) = t from tl_mk t]
    rw [List.map_cons, Ix.at_, Src.wrong, hb, hown, at_wrong l (i + 1)]
    cases Ru.name t <;> simp
/-- The names of a link, out of its texts: where they lie. -/
theorem link_names {w : World} {B n : Nat} {ad : Addr} {ts : List Src.Txt} (h : Reads w B 1 (some ad) n ((ts.map Src.bts).map Value.string)) (h1 : 2 ≤ n) : Reads w B 1 (some (ad.add 1)) (min n 3 - 1) ((((ts.drop 1).take 2).map Src.bts).map Value.string) := by
  have h2 := reads_from h 1 (by omega)
  have hlen : ts.length = n := by have := h.1; simpa using this
  refine ⟨by simp [hlen]; omega, fun hn => ?_⟩
  obtain ⟨ad', e, hb, hc⟩ := h2.2 (by omega)
  refine ⟨ad', e, hb, fun j u hj => hc j u ?_⟩
  rw [← List.map_drop]
  rw [List.map_take, List.map_take] at hj
  have hj2 : j < 2 := by
    have := (List.getElem?_eq_some_iff.1 hj).1
    simp at this
    omega
  rw [List.getElem?_take_of_lt hj2] at hj
  exact hj
end Go.Proofs.YthmhadgbhakdlaaDoor

/- (*reader).link in one law; (*reader).line. -/
namespace Go.Proofs.YthmhadgbhakdlaaDoor
open Go.RowKit

theorem Src.last_le {R E : Type} (p : Src.P R E) (Re : E → Prop) (op : Bool) : ∀ zs : List (Src.Txt × List E), Src.ZonesOk p Re op zs → Src.lastEras zs ≤ 64
  | [], _ => by simp [Src.lastEras]
  | [z], h => h.1.2.1
  | z :: y :: l, h => Src.last_le p Re op (y :: l) h.2.2
abbrev Src.Fit (s : Src.S) : Prop := Src.Right Src.own (fun _ => True) (fun _ => True) s
end Go.Proofs.YthmhadgbhakdlaaDoor
