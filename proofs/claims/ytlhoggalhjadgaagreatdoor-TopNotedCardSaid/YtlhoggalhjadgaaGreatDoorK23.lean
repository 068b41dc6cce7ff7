/- What is read is right. -/
import Derived.Test.YtlhoggalhjadgaaGreatDoorK22
import Derived.Test.YtlhoggalhjadgaaGreatDoorK20
import Derived.Test.YtlhoggalhjadgaaGreatDoorK14
import Derived.OneCell

namespace Go.Proofs.YtlhoggalhjadgaaGreatDoor
open Go.RowKit

namespace Src
variable {R E : Type}
def Base (p : P R E) (Re : E → Prop) (z : Txt × List E) : Prop := p.name z.1 = true ∧ z.2.length ≤ 64 ∧ ∀ e ∈ z.2, Re e
def Done (p : P R E) (z : Txt × List E) : Prop := ∃ es e, z.2 = es ++ [e] ∧ (∀ x ∈ es, p.ends x = true) ∧ p.ends e = false
def Opened (p : P R E) (z : Txt × List E) : Prop := ∀ x ∈ z.2, p.ends x = true
def ZonesOk (p : P R E) (Re : E → Prop) (op : Bool) : List (Txt × List E) → Prop
  | [] => op = false
  | [z] => Base p Re z ∧ (if op = true then Opened p z else Done p z)
  | z :: y :: l => Base p Re z ∧ Done p z ∧ ZonesOk p Re op (y :: l)
theorem one_more (p : P R E) (Re : E → Prop) (z : Txt × List E) (e : E) (h1 : p.name z.1 = true) (h2 : z.2.length < 64) (h3 : ∀ e ∈ z.2, Re e) (h4 : Opened p z) (he : Re e) :
    ZonesOk p Re (p.ends e) [(z.1, z.2 ++ [e])] := by
  refine ⟨⟨h1, by simp; omega, ?_⟩, ?_⟩
  · intro x hx
    simp only [List.mem_append, List.mem_singleton] at hx
    rcases hx with hx | hx
    · exact h3 x hx
    · subst hx; exact he
  · split
    · rename_i h
      intro x hx
      simp only [List.mem_append, List.mem_singleton] at hx
      rcases hx with hx | hx
      · exact h4 x hx
      · subst hx; exact h
    · rename_i h
      exact ⟨z.2, e, rfl, h4, by simpa using h⟩
theorem addEra_ok (p : P R E) (Re : E → Prop) (e : E) (he : Re e) : ∀ zs : List (Txt × List E), zs ≠ [] → ZonesOk p Re true zs → lastEras zs ≠ 64 → ZonesOk p Re (p.ends e) (addEra e zs)
  | [], hn, h, hl => absurd rfl hn
  | [z], hn, h, hl => by
    obtain ⟨⟨a, b, c⟩, d⟩ := h
    simp only [lastEras] at hl
    exact one_more p Re z e a (by omega) c d he
  | [z, y], hn, h, hl => by
    obtain ⟨a, b, c⟩ := h
    exact ⟨a, b, addEra_ok p Re e he [y] (by simp) c hl⟩
  | z :: y :: x :: l, hn, h, hl => by
    obtain ⟨a, b, c⟩ := h
    exact ⟨a, b, addEra_ok p Re e he (y :: x :: l) (by simp) c hl⟩
theorem newZone_ok (p : P R E) (Re : E → Prop) (n : Txt) (e : E) (hn : p.name n = true) (he : Re e) : ∀ zs : List (Txt × List E), ZonesOk p Re false zs → ZonesOk p Re (p.ends e) (addEra e (zs ++ [(n, [])]))
  | [], h => one_more p Re (n, []) e hn (by simp) (fun x hx => by cases hx) (fun x hx => by cases hx) he
  | [z], h => ⟨h.1, h.2, newZone_ok p Re n e hn he [] rfl⟩
  | [z, y], h => ⟨h.1, h.2.1, newZone_ok p Re n e hn he [y] h.2.2⟩
  | z :: y :: x :: l, h => ⟨h.1, h.2.1, newZone_ok p Re n e hn he (y :: x :: l) h.2.2⟩
structure Right (p : P R E) (Rr : R → Prop) (Re : E → Prop) (s : St R E) : Prop where
  rules : s.rules.length ≤ 4096 ∧ ∀ r ∈ s.rules, Rr r
  zones : s.zones.length ≤ 1024 ∧ ZonesOk p Re s.op s.zones
  links : s.links.length ≤ 4096 ∧ ∀ k ∈ s.links, p.name k.1 = true ∧ p.name k.2 = true
theorem right_none (p : P R E) (Rr : R → Prop) (Re : E → Prop) : Right p Rr Re St.none_ :=
  ⟨⟨by simp [St.none_], fun r h => (by cases h)⟩, ⟨by simp [St.none_], rfl⟩, ⟨by simp [St.none_], fun r h => (by cases h)⟩⟩
theorem zones_ne (p : P R E) (Re : E → Prop) (zs : List (Txt × List E)) (h : ZonesOk p Re true zs) : zs ≠ [] := by
  intro e
  subst e
  cases h
theorem wrong_none (f : Txt → Bool) : ∀ (l : List Txt) (i : Int), wrong f l i = none → ∀ t ∈ l, f t = true
  | [], i, h, t, ht => by cases ht
  | x :: l, i, h, t, ht => by
    unfold wrong at h
    split at h
    · rename_i hx
      rcases List.mem_cons.mp ht with e | e
      · subst e; exact hx
      · exact wrong_none f l _ h t e
    · cases h
theorem step_right (p : P R E) (Rr : R → Prop) (Re : E → Prop) (hr : ∀ l, (p.rule l).2.2 = 0 → Rr (p.rule l).1) (he : ∀ l, (p.era l).2.2 = 0 → Re (p.era l).1)
    (s s' : St R E) (t : List Txt) (h : Right p Rr Re s) (hs : step p s t = .ok s') : Right p Rr Re s' := by
  unfold step at hs
  split at hs
  · rename_i ho
    have hz := h.zones.2
    rw [ho] at hz
    split at hs
    · cases hs
    · rename_i h64
      unfold eraStep at hs
      split at hs
      · rename_i h0
        cases hs
        exact ⟨h.rules, ⟨by rw [addEra_len]; exact h.zones.1, addEra_ok p Re _ (he _ h0) _ (zones_ne p Re _ hz) hz h64⟩, h.links⟩
      · cases hs
  · rename_i ho
    have hz := h.zones.2
    rw [show s.op = false by simpa using ho] at hz
    split at hs
    · unfold ruleStep at hs
      split at hs
      · cases hs
      · rename_i hlim
        split at hs
        · rename_i h0
          cases hs
          have hl := h.rules.1
          refine ⟨⟨by simp; omega, ?_⟩, h.zones, h.links⟩
          intro r hr'
          rcases List.mem_append.mp hr' with e | e
          · exact h.rules.2 r e
          · rw [List.mem_singleton] at e
            subst e
            exact hr _ h0
        · cases hs
    · split at hs
      · unfold zoneStep at hs
        split at hs
        · cases hs
        · rename_i hlim
          split at hs
          · cases hs
          · split at hs
            · cases hs
            · rename_i hnm
              unfold eraStep at hs
              split at hs
              · rename_i h0
                cases hs
                have hl := h.zones.1
                exact ⟨h.rules, ⟨by rw [addEra_len]; simp; omega, newZone_ok p Re _ _ (by simpa using hnm) (he _ h0) _ hz⟩, h.links⟩
              · cases hs
      · split at hs
        · unfold linkStep at hs
          split at hs
          · cases hs
          · rename_i hlim
            split at hs
            · cases hs
            · rename_i hwr
              split at hs
              · cases hs
              · rename_i h2
                split at hs
                · cases hs
                · cases hs
                  have hl := h.links.1
                  simp only [List.length_take, List.length_drop] at h2
                  refine ⟨h.rules, h.zones, ⟨by simp; omega, ?_⟩⟩
                  intro k hk
                  rcases List.mem_append.mp hk with e | e
                  · exact h.links.2 k e
                  · rw [List.mem_singleton] at e
                    subst e
                    match t, h2, hwr with
                    | [], h2, hwr => simp at h2
                    | [_], h2, hwr => simp at h2
                    | [_, _], h2, hwr => simp at h2
                    | _ :: a :: b :: l, h2, hwr =>
                      have hw := wrong_none p.name _ 0 hwr
                      exact ⟨hw a (by simp), hw b (by simp)⟩
        · cases hs
theorem readGo_right (p : P R E) (Rr : R → Prop) (Re : E → Prop) (hr : ∀ l, (p.rule l).2.2 = 0 → Rr (p.rule l).1) (he : ∀ l, (p.era l).2.2 = 0 → Re (p.era l).1) :
    ∀ (L : List Ln) (s s' : St R E), Right p Rr Re s → readGo p L s = .ok s' → Right p Rr Re s'
  | [], s, s', h, hs => by cases hs; exact h
  | x :: L, s, s', h, hs => by
    rw [readGo_cons] at hs
    cases h1 : step p s (x.2.map (·.1)) with
    | bad place why => rw [h1] at hs; cases hs
    | ok s1 =>
      rw [h1] at hs
      exact readGo_right p Rr Re hr he L s1 s' (step_right p Rr Re hr he s s1 _ h h1) hs
/-- What is read is right. -/
theorem parse_right (p : P R E) (Rr : R → Prop) (Re : E → Prop) (hr : ∀ l, (p.rule l).2.2 = 0 → Rr (p.rule l).1) (he : ∀ l, (p.era l).2.2 = 0 → Re (p.era l).1)
    (s : Txt) (x : St R E) (hs : s.length ≤ 1048576) (h : parse p s = .ok x) : Right p Rr Re x ∧ x.op = false := by
  obtain ⟨L, h1, h2, h3⟩ := parse_ok p s x hs h
  exact ⟨readGo_right p Rr Re hr he L _ x (right_none p Rr Re) h2, h3⟩
end Src
end Go.Proofs.YtlhoggalhjadgaaGreatDoor

/- The program's own readers of rules and eras, as the plain law wants them. -/
namespace Go.Proofs.YtlhoggalhjadgaaGreatDoor
open Go.RowKit

namespace Src
def bts (t : Txt) : ByteArray := ⟨t.toArray⟩
theorem rule_len (l : List ByteArray) (h : (Ru.parse l).2.2 = 0) : 9 = l.length := by
  unfold Ru.parse at h
  split at h
  · split at h
    · exact absurd (show (5 : Int) = 0 from h) (by decide)
    · split at h
      · exact absurd (show (6 : Int) = 0 from h) (by decide)
      · omega
  · rename_i h0
    exact absurd h h0
theorem era_len (l : List ByteArray) (h : (Er.parse l).2.2 = 0) : 3 ≤ l.length := by
  unfold Er.parse at h
  split at h
  · split at h
    · exact absurd (show (5 : Int) = 0 from h) (by decide)
    · omega
  · rename_i h0
    exact absurd h h0
def words : List Txt := [[82, 117, 108, 101], [90, 111, 110, 101], [76, 105, 110, 107]]
/-- What reads. -/
def own : P Ru.R Er.E where
  key t := Wd.pick t words + 1
  name t := Ru.name t
  rule l := Ru.parse (l.map bts)
  era l := Er.parse (l.map bts)
  ends e := e.en
  rule_len l h := by
    have := rule_len _ h
    simp only [List.length_map] at this
    omega
  era_len l h := by
    have := era_len _ h
    simp only [List.length_map] at this
    omega
end Src
end Go.Proofs.YtlhoggalhjadgaaGreatDoor

/- word.Keyword at a door's seat. -/
namespace Go.Proofs.YtlhoggalhjadgaaGreatDoor
open Go.RowKit

def Kinds : List ByteArray := [⟨#[82, 117, 108, 101]⟩, ⟨#[90, 111, 110, 101]⟩, ⟨#[76, 105, 110, 107]⟩]
theorem keyword_any (s : ByteArray) (w : World) (hs : s.size ≤ maxLen) :
    Calls Tryz.prog 52 #[.string s] w fun e w' => e = .returned (.int .i64 (Src.own.key (tl s))) ∧ Below w.heap.size w w' := by
  have hb := Wd.pick_bd (tl s) (Kinds.map tl) (by decide)
  go_enter Tryz.func52, Tryz.ntmps52
  go_wp2_with fail
  refine (pick_any s _ 3 3 Kinds _ hs (by unfold maxLen; omega) (reads_new w Kinds 9)).mono ?_
  rintro e w2 ⟨rfl, HD⟩
  go_wp2
  go_ret
  exact ⟨rfl, ((Below.refl _ _).alloc (Nat.le_refl _) _).trans (HD.below _)⟩
end Go.Proofs.YtlhoggalhjadgaaGreatDoor

/- Many rows of a call's own, no two in one block. -/
namespace Go.Proofs.YtlhoggalhjadgaaGreatDoor
open Go.RowKit

/-- A row: what it has of each element, its value, how many, its cells. -/
structure Row where
  e : TypeId
  size : Nat
  v : Value
  n : Nat
  xs : List Value
def apartV (a b : Value) : Prop := a.ownBlock = none ∨ a.ownBlock ≠ b.ownBlock
theorem apartV.symm {a b : Value} (h : apartV a b) : apartV b a := by
  unfold apartV at h ⊢
  rcases h with h | h
  · cases e : b.ownBlock with
    | none => exact .inl rfl
    | some k => right; rw [h]; simp
  · exact .inr fun x => h x.symm
structure Many (B : Nat) (w : World) (rs : List Row) : Prop where
  own : ∀ r ∈ rs, w.ownsRow B r.e r.size r.v r.n r.xs
  apart : rs.Pairwise fun a b => apartV a.v b.v
section
variable {B : Nat} {w w' : World} {rs l1 l2 : List Row} {r : Row}
theorem Many.nil_ : Many B w [] := ⟨fun r h => (by cases h), .nil⟩
theorem Many.call (h : Many B w rs) (hb : Below w.heap.size w w') : Many B w' rs := ⟨fun r hr => own_below (h.own r hr) hb, h.apart⟩
theorem Many.alloc (h : Many B w rs) (o : Obj) : Many B (w.alloc o) rs := ⟨fun r hr => (h.own r hr).alloc o, h.apart⟩
theorem Many.setBelow (h : Many B w rs) {p : Addr} (hp : p.block < B) (u : Value) : Many B (w.setCell p u) rs := ⟨fun r hr => ownsRow_setCell_below (h.own r hr) hp u, h.apart⟩
theorem Many.perm {rs' : List Row} (h : Many B w rs) (hp : rs.Perm rs') : Many B w rs' :=
  ⟨fun r hr => h.own r (hp.mem_iff.2 hr), hp.pairwise h.apart fun h => apartV.symm h⟩
/-- The row at the head is written, or has grown into a new block. -/
theorem Many.grow {v' : Value} {n' : Nat} {xs' : List Value} (h : Many B w (r :: rs)) (o : Obj) (hown : w'.ownsRow B r.e r.size v' n' xs') (hg : (w.alloc o).grownBy w' r.v.ownBlock) (hat : v'.ownBlock = r.v.ownBlock ∨ v'.ownBlock = some (w.alloc o).heap.size) :
    Many B w' (⟨r.e, r.size, v', n', xs'⟩ :: rs) := by
  have ha := List.pairwise_cons.1 h.apart
  have hk : ∀ x ∈ rs, w'.ownsRow B x.e x.size x.v x.n x.xs := fun x hx => ((h.own x (List.mem_cons_of_mem _ hx)).alloc o).kept hg (ha.1 x hx).symm
  refine ⟨fun x hx => ?_, List.pairwise_cons.2 ⟨fun x hx => ?_, ha.2⟩⟩
  · rcases List.mem_cons.1 hx with rfl | hx
    · exact hown
    · exact hk x hx
  · show apartV v' x.v
    rcases hat with e | e
    · unfold apartV; rw [e]; exact ha.1 x hx
    · refine apartV.symm ?_
      unfold apartV
      rw [e]
      cases ex : x.v.ownBlock with
      | none => exact .inl rfl
      | some k =>
        right
        have := ((h.own x (List.mem_cons_of_mem _ hx)).lt k ex).2
        intro z
        have hk : k = (w.alloc o).heap.size := Option.some.inj z
        rw [World.size_alloc] at hk
        omega
/-- A row more, that has no block. -/
theorem Many.add0 (h : Many B w rs) (e : TypeId) (size : Nat) : Many B w (⟨e, size, .slice none 0 0, 0, []⟩ :: rs) :=
  ⟨fun x hx => by rcases List.mem_cons.1 hx with rfl | hx; exact World.ownsRow_nil _ _ _ _; exact h.own x hx, List.pairwise_cons.2 ⟨fun x _ => .inl rfl, h.apart⟩⟩
/-- A row more, whose block was made by a callee. -/
theorem Many.addNew (h : Many B w rs) (hb : Below w.heap.size w w') (hB : B ≤ w.heap.size) (hown : w'.ownsRow w.heap.size r.e r.size r.v r.n r.xs) : Many B w' (r :: rs) := by
  have hB' : w'.ownsRow B r.e r.size r.v r.n r.xs := by
    refine ⟨hown.1, ?_⟩
    rcases hown.2 with hn | ⟨g, cap, cur, hv, h1, rest⟩
    · exact .inl hn
    · exact .inr ⟨g, cap, cur, hv, Nat.le_trans hB h1, rest⟩
  refine ⟨fun x hx => ?_, List.pairwise_cons.2 ⟨fun x hx => ?_, h.apart⟩⟩
  · rcases List.mem_cons.1 hx with rfl | hx
    · exact hB'
    · exact own_below (h.own x hx) hb
  · refine apartV.symm ?_
    unfold apartV
    cases ex : x.v.ownBlock with
    | none => exact .inl rfl
    | some k =>
      right
      have h1 := ((h.own x hx).lt k ex).2
      intro z
      have h2 := (hown.lt k z.symm).1
      omega
/-- A store into the head row's own cells. -/
theorem Many.store {g n cap : Nat} {e : TypeId} {size : Nat} {xs : List Value} (h : Many B w (⟨e, size, .slice (some ⟨g, 0, none⟩) n cap, n, xs⟩ :: rs)) (j : Nat) (u : Value) :
    Many B (w.setCell ⟨g, j, none⟩ u) (⟨e, size, .slice (some ⟨g, 0, none⟩) n cap, n, xs.set j u⟩ :: rs) := by
  have ha := List.pairwise_cons.1 h.apart
  refine ⟨fun x hx => ?_, List.pairwise_cons.2 ⟨fun x hx => ha.1 x hx, ha.2⟩⟩
  rcases List.mem_cons.1 hx with rfl | hx
  · exact ((h.own _ List.mem_cons_self).stored j u).1
  · exact ownsRow_setCell_other (h.own x (List.mem_cons_of_mem _ hx)) (by
      rcases (ha.1 x hx).symm with e | e
      · rw [e]; simp
      · exact e) u
end
end Go.Proofs.YtlhoggalhjadgaaGreatDoor

/- The contract of scan.Lines. -/
namespace Go.Proofs.YtlhoggalhjadgaaGreatDoor
open Go.RowKit

namespace Sc
theorem own_mono {w : World} {base base' : Nat} {e : TypeId} {size : Nat} {v : Value} {n : Nat} {xs : List Value} (h : w.ownsRow base e size v n xs) (hb : base' ≤ base) : w.ownsRow base' e size v n xs := by
  refine ⟨h.1, ?_⟩
  rcases h.2 with hn | ⟨g, cap, cur, hv, h1, rest⟩
  · exact .inl hn
  · exact .inr ⟨g, cap, cur, hv, Nat.le_trans hb h1, rest⟩
def lcells (acc : List (Int × List (List UInt8 × Int))) (us : List Value) : List Value := (acc.zip us).flatMap fun p => [.int .i64 p.1.1, p.2]
/-- A line's fields lie behind the value u, apart from the list v. -/
def Lrow (B : Nat) (wx : World) (v : Value) (x : Int × List (List UInt8 × Int)) (u : Value) : Prop :=
  (∃ A c, u = .slice A x.2.length c ∧ x.2.length ≤ c ∧ c ≤ maxLen) ∧ wx.ownsRow B 87 2 u x.2.length (fcells x.2) ∧ (u.ownBlock = none ∨ u.ownBlock ≠ v.ownBlock)
/-- The list of lines, the call's own. -/
structure LOwn (B : Nat) (wx : World) (v : Value) (acc : List (Int × List (List UInt8 × Int))) (us : List Value) : Prop where
  len : us.length = acc.length
  list : wx.ownsRow B 85 2 v acc.length (lcells acc us)
  rows : ∀ (i : Nat) x u, acc[i]? = some x → us[i]? = some u → Lrow B wx v x u
theorem LOwn.nil_ (B : Nat) (wx : World) : LOwn B wx (.slice none 0 0) [] [] := ⟨rfl, World.ownsRow_nil _ _ _ _, fun i x u h => by simp at h⟩
theorem LOwn.call {B : Nat} {wx w' : World} {v : Value} {acc : List (Int × List (List UInt8 × Int))} {us : List Value} (h : LOwn B wx v acc us) (hb : Below wx.heap.size wx w') : LOwn B w' v acc us :=
  ⟨h.len, own_below h.list hb, fun i x u hx hu => by obtain ⟨a, b, c⟩ := h.rows i x u hx hu; exact ⟨a, own_below b hb, c⟩⟩
theorem LOwn.setCell {B : Nat} {wx : World} {v : Value} {acc : List (Int × List (List UInt8 × Int))} {us : List Value} (h : LOwn B wx v acc us) {p : Addr} (hp : p.block < B) (u : Value) : LOwn B (wx.setCell p u) v acc us :=
  ⟨h.len, ownsRow_setCell_below h.list hp u, fun i x y hx hy => by obtain ⟨a, b, c⟩ := h.rows i x y hx hy; exact ⟨a, ownsRow_setCell_below b hp u, c⟩⟩
theorem LOwn.push {B : Nat} {wx w' : World} {v v' u : Value} {acc : List (Int × List (List UInt8 × Int))} {us : List Value} {no : Int} {f : List (List UInt8 × Int)} (h : LOwn B wx v acc us) (o : Obj) (hu : Lrow B wx v (no, f) u)
    (hown : w'.ownsRow B 85 2 v' (acc.length + 1) (lcells acc us ++ [.int .i64 no, u])) (hg : (wx.alloc o).grownBy w' v.ownBlock) (hat : v'.ownBlock = v.ownBlock ∨ v'.ownBlock = some (wx.alloc o).heap.size) : LOwn B w' v' (acc ++ [(no, f)]) (us ++ [u]) := by
  have key : ∀ x y, Lrow B wx v x y → Lrow B w' v' x y := by
    intro x y ⟨a, b, c⟩
    refine ⟨a, (b.alloc o).kept hg c, ?_⟩
    rcases hat with e | e
    · rw [e]; exact c
    · rw [e]
      cases ey : y.ownBlock with
      | none => exact .inl rfl
      | some k =>
        right
        have := (b.lt k ey).2
        intro z
        have hk : k = (wx.alloc o).heap.size := Option.some.inj z
        rw [World.size_alloc] at hk
        omega
  refine ⟨by simp [h.len], ?_, ?_⟩
  · unfold lcells at hown ⊢
    rw [List.zip_append h.len.symm, List.flatMap_append, List.length_append]
    simpa using hown
  · intro i x y hx hy
    by_cases hi : i < acc.length
    · rw [List.getElem?_append_left hi] at hx
      rw [List.getElem?_append_left (by rw [h.len]; exact hi)] at hy
      exact key x y (h.rows i x y hx hy)
    · have hi2 : i = acc.length := by
        have := (List.getElem?_eq_some_iff.1 hx).1
        simp at this
        omega
      subst hi2
      rw [List.getElem?_append_right (Nat.le_refl _)] at hx
      rw [List.getElem?_append_right (by rw [h.len]; exact Nat.le_refl _)] at hy
      rw [h.len] at hy
      simp at hx hy
      subst hx hy
      exact key _ _ hu
def mes (a b : Value) : Nat := match a, b with
  | .string s, .bool true => s.size + 1
  | _, _ => 0
def mesB (txt : ByteArray) (more : Bool) : Nat := if more = true then txt.size + 1 else 0
theorem mes_b (txt : ByteArray) (more : Bool) : mes (.string txt) (.bool more) = mesB txt more := by cases more <;> rfl
def left_ (txt : ByteArray) (more : Bool) : List (List UInt8) := if more = true then splitNl (tl txt) else []
def LRel (w : World) (X : LRes) (t0 v4 v5 v6 : Value) (wr : World) : Prop :=
  ∃ (txt : ByteArray) (no : Nat) (acc : List (Int × List (List UInt8 × Int))) (us : List Value) (more : Bool), t0 = .string txt ∧ v5 = .int .i64 no ∧ v6 = .bool more ∧ no + mesB txt more ≤ 1048580 ∧ acc.length + mesB txt more ≤ 1048580 ∧ txt.size ≤ 1048576 ∧
    Hid (LOwn (w.heap.size + 1) wr v4 acc us) ∧ Hid (At wr w.heap.size [.int .i64 0, .int .i64 0, .int .i64 0]) ∧ Hid (Below w.heap.size w wr) ∧ Hid (X = linesGo (left_ txt more) no acc)
def LRet (w : World) (X : LRes) (e : Ending) (w' : World) : Prop :=
  Below w.heap.size w w' ∧ match X with
  | .ok l => ∃ v us, (∃ A c, v = .slice A l.length c ∧ l.length ≤ c ∧ c ≤ maxLen) ∧ e = .returned (.tuple #[v, .agg #[.int .i64 0, .int .i64 0, .int .i64 0]]) ∧ LOwn (w.heap.size + 1) w' v l us
  | .bad line col why => e = .returned (.tuple #[.slice none 0 0, .agg #[.int .i64 line, .int .i64 col, .int .i64 why]]) ∧ why ≠ 0
theorem At.grownO {w w' : World} {h : Nat} {row : Option Nat} {xs : List Value} (a : At w h xs) (hg : w.grownBy w' row) (hne : ∀ k, row = some k → h ≠ k) : At w' h xs := by
  cases row with
  | none => exact Go.Proofs.YtlhoggalhjadgaaGreatDoor.At.grown a (g := w.heap.size) ⟨hg.os, hg.tape, hg.output, hg.size, fun k hk _ => hg.block k hk (by simp)⟩ (by have := a.lt; omega)
  | some k => exact Go.Proofs.YtlhoggalhjadgaaGreatDoor.At.grown a hg (hne k rfl)
theorem line_info : (Tryz.prog.info? 85).map (fun i => (i.zero, i.size, i.bytes)) = some (some (.agg #[.int .i64 0, .slice none 0 0]), 2, 32) := by kernel_rfl
end Sc
theorem cutNl (txt : ByteArray) (w : World) (hW : Wl w) (hs : txt.size ≤ 1048576) (a b : ByteArray) (ok : Bool) (ha : (Sc.cutR (tl txt)).1 = tl a) (hb : (Sc.cutR (tl txt)).2.1 = tl b) (hc : (Sc.cutR (tl txt)).2.2 = ok) :
    Calls Tryz.prog 49 #[.string txt, .string ⟨#[10]⟩] w fun e w' => e = .returned (.tuple #[.string a, .string b, .bool ok]) ∧ Drew w w' := by
  obtain ⟨m, hm⟩ := hW.maxl
  have h := Tryz.strings_Cut txt ⟨#[10]⟩ m w (by omega) hm
  have e : Lib.cut txt.data.toList [10] = Sc.cutR (tl txt) := Sc.cut_cutR _
  have ea : (⟨(Lib.cut txt.data.toList [10]).1.toArray⟩ : ByteArray) = a := by rw [e, ha]; rfl
  have eb : (⟨(Lib.cut txt.data.toList [10]).2.1.toArray⟩ : ByteArray) = b := by rw [e, hb]; rfl
  have ec : (Lib.cut txt.data.toList [10]).2.2 = ok := by rw [e, hc]
  subst ea eb ec
  exact h
set_option maxHeartbeats 4000000 in
set_option maxRecDepth 100000 in
theorem lines_any (s : ByteArray) (w : World) (hW : Wl w) (hs : s.size ≤ maxLen) :
    Calls Tryz.prog 29 #[.string s] w (Sc.LRet w (Sc.lines (tl s))) := by
  unfold maxLen at hs
  obtain ⟨X, hX⟩ : ∃ X, Sc.lines (tl s) = X := ⟨_, rfl⟩
  rw [hX]
  unfold Sc.lines at hX
  rw [tl_length] at hX
  by_cases hl : 1048576 < s.size
  · rw [if_pos hl] at hX
    have q1 : (1048576 : Int) < (s.size : Int) := by omega
    have HX := Lib.hid hX
    clear hX hW
    go_enter Tryz.func29, Tryz.ntmps29
    go_wp2
    refine bodyPost_ret (v := .tuple #[.slice none 0 0, .agg #[.int .i64 0, .int .i64 0, .int .i64 6]]) (by simp [results, Tryz.results29, go_sem]) rfl ⟨?_, ?_⟩
    · exact (Below.refl _ _).alloc (Nat.le_refl _) _
    · rw [← HX.out]
      exact ⟨rfl, by decide⟩
  rw [if_neg hl] at hX
  have q1 : ¬ (1048576 : Int) < (s.size : Int) := by omega
  have HX := Lib.hid hX
  have HW := Lib.hid hW
  have HA0 := Lib.hid (At.new w #[.int .i64 0, .int .i64 0, .int .i64 0] 34)
  have HB0 := Lib.hid ((Below.refl w.heap.size w).alloc (Nat.le_refl _) (.cells #[.int .i64 0, .int .i64 0, .int .i64 0] 34))
  obtain ⟨i0, h1, h2, h3, h4⟩ := info_parts Sc.line_info
  have HI := Lib.hid (And.intro h1 (And.intro h2 (And.intro h3 h4)))
  clear hX hW h1 h2 h3 h4
  go_enter Tryz.func29, Tryz.ntmps29
  go_wp2
  go_loopw [0, 4, 5, 6] (fun t0 v4 v5 v6 wr => Sc.LRel w X t0 v4 v5 v6 wr) (fun t0 _ _ v6 _ => Sc.mes t0 v6)
  case atStart => exact ⟨s, 1, [], [], true, rfl, rfl, rfl, by unfold Sc.mesB; rw [if_pos rfl]; omega, by unfold Sc.mesB; rw [if_pos rfl]; simp; omega, by omega, Sc.LOwn.nil_ _ _, HA0.out, HB0.out, HX.out.symm⟩
  case round =>
    obtain ⟨txt, no, acc, us, more, rfl, rfl, rfl, hno, hacc, htx, HL, HZ, HB, HK⟩ := hrel
    have hz := HZ.out.lt
    obtain ⟨A4, c4, rfl, hn4, hc4⟩ := own_slice_cap HL.out.list
    cases more
    · have HX2 : Hid (X = .ok acc) := HK.out
      obtain ⟨d0, d1, d2, e0, e1, e2⟩ := HZ.out.three
      clear HK
      go_wp2
      refine bodyPost_ret (v := .tuple #[.slice A4 acc.length c4, .agg #[.int .i64 0, .int .i64 0, .int .i64 0]]) (by simp [results, Tryz.results29, go_sem, *]) rfl ⟨?_, ?_⟩
      · exact ((((HB.out).setCell (p := ⟨w.heap.size, _, none⟩) (Nat.le_refl _) _).setCell (p := ⟨w.heap.size, _, none⟩) (Nat.le_refl _) _).setCell (p := ⟨w.heap.size, _, none⟩) (Nat.le_refl _) _)
      · rw [HX2.out]
        exact ⟨_, us, ⟨A4, c4, rfl, hn4, hc4⟩, rfl, (((HL.out.setCell (p := ⟨w.heap.size, _, none⟩) (Nat.lt_succ_self _) _).setCell (p := ⟨w.heap.size, _, none⟩) (Nat.lt_succ_self _) _).setCell (p := ⟨w.heap.size, _, none⟩) (Nat.lt_succ_self _) _)⟩
    · unfold Sc.mesB at hno hacc
      rw [if_pos rfl] at hno hacc
      obtain ⟨a, ha⟩ : ∃ a : ByteArray, tl a = (Sc.cutR (tl txt)).1 := ⟨⟨(Sc.cutR (tl txt)).1.toArray⟩, tl_mk _⟩
      obtain ⟨b, hb⟩ : ∃ b : ByteArray, tl b = (Sc.cutR (tl txt)).2.1 := ⟨⟨(Sc.cutR (tl txt)).2.1.toArray⟩, tl_mk _⟩
      obtain ⟨ok, hok⟩ : ∃ ok, (Sc.cutR (tl txt)).2.2 = ok := ⟨_, rfl⟩
      have hsp := Sc.cutR_split (tl txt)
      rw [← ha, ← hb, hok, tl_length, tl_length, tl_length] at hsp
      obtain ⟨sp1, sp2, sp3⟩ := hsp
      have hleft : Sc.left_ txt true = tl a :: Sc.left_ b ok := by
        unfold Sc.left_
        rw [if_pos rfl]
        cases ok
        · rw [(sp2 rfl).1, if_neg (by decide)]
        · rw [(sp1 rfl).1, if_pos rfl]
      have hbs : b.size ≤ 1048576 ∧ Sc.mesB b ok ≤ txt.size := by
        unfold Sc.mesB
        cases ok
        · have := (sp2 rfl).2
          have h0 : b.size = 0 := by rw [← tl_length, this]; rfl
          rw [if_neg (by decide)]
          omega
        · have := (sp1 rfl).2
          rw [if_pos rfl]
          omega
      obtain ⟨hb1, hb2⟩ := hbs
      have HC := Lib.hid fun W hw => cutNl txt W hw htx a b ok ha.symm hb.symm hok
      have HM : Hid (Sc.mes (.string b) (.bool ok) < Sc.mes (.string txt) (.bool true)) := by
        show _ < _
        rw [Sc.mes_b, Sc.mes_b]
        unfold Sc.mesB at hb2 ⊢
        rw [if_pos (rfl : true = true)]
        omega
      have hka := HK.out
      rw [hleft] at hka
      clear sp1 sp2 ha hb hok hleft HK
      cases hf : Sc.fields (tl a) with
      | bad col why =>
        have HX2 : Hid (X = .bad no col why) := by show X = _; rw [hka, Sc.linesGo, hf]
        have hw0 := Sc.fields_why (tl a) col why hf
        have HF := Lib.hid fun W => by have := fields_any a W (by unfold maxLen; omega); rw [hf] at this; exact this
        have q2 : (why != 0) = true := by simpa using hw0
        have q3 : (why == 0) = false := by simpa using hw0
        have HW0 := Lib.hid hw0
        clear hf hka hw0
        go_wp2_with fail
        refine (HC.out _ (HW.out.below HB.out)).mono ?_
        rintro e w1 ⟨rfl, hd⟩
        have HB1 := Lib.hid (HB.out.trans (hd.below _))
        have HZ1 := Lib.hid (HZ.out.drew hd)
        clear hd
        go_wp2_with fail
        refine (HF.out _).mono ?_
        rintro e w2 ⟨hb2', rfl⟩
        have HBB := Lib.hid (below_then HB1.out hb2')
        have HZ2 := Lib.hid (HZ1.out.call hb2')
        have hz2 := HZ2.out.lt
        clear hb2'
        obtain ⟨d0, d1, d2, e0, e1, e2⟩ := HZ2.out.three
        go_wp2
        refine bodyPost_ret (v := .tuple #[.slice none 0 0, .agg #[.int .i64 no, .int .i64 col, .int .i64 why]]) (by simp [results, Tryz.results29, go_sem, *]) rfl ⟨?_, ?_⟩
        · exact ((((HBB.out).setCell (p := ⟨w.heap.size, _, none⟩) (Nat.le_refl _) _).setCell (p := ⟨w.heap.size, _, none⟩) (Nat.le_refl _) _).setCell (p := ⟨w.heap.size, _, none⟩) (Nat.le_refl _) _)
        · rw [HX2.out]
          exact ⟨rfl, HW0.out⟩
      | ok f =>
        have HN : Hid (X = Sc.linesGo (Sc.left_ b ok) ((no : Int) + 1) (if f = [] then acc else acc ++ [((no : Int), f)])) := by show X = _; rw [hka, Sc.linesGo, hf]
        have HF := Lib.hid fun W => by have := fields_any a W (by unfold maxLen; omega); rw [hf] at this; exact this
        clear hf hka
        go_wp2_with fail
        refine (HC.out _ (HW.out.below HB.out)).mono ?_
        rintro e w1 ⟨rfl, hd⟩
        have HB1 := Lib.hid (HB.out.trans (hd.below _))
        have HZ1 := Lib.hid (HZ.out.drew hd)
        have HL1 := Lib.hid (HL.out.call (hd.below _))
        clear hd
        go_wp2_with fail
        refine (HF.out _).mono ?_
        rintro e w2 ⟨hb2', A, c, hfc, hcm, rfl, hown⟩
        have hz1 := HZ1.out.lt
        have HU : Hid (Sc.Lrow (w.heap.size + 1) w2 (.slice A4 acc.length c4) ((no : Int), f) (.slice A f.length c)) := by
          refine ⟨⟨A, c, rfl, hfc, hcm⟩, Sc.own_mono hown (by omega), ?_⟩
          cases ey : (Value.slice A f.length c).ownBlock with
          | none => exact .inl rfl
          | some k =>
            right
            intro z
            have h5 := (hown.lt k ey).1
            have h6 := (HL1.out.list.lt k z.symm).2
            omega
        have HB2 := Lib.hid (below_then HB1.out hb2')
        have HZ2 := Lib.hid (HZ1.out.call hb2')
        have HL2 := Lib.hid (HL1.out.call hb2')
        have hfl : f.length ≤ maxLen := Nat.le_trans hfc hcm
        unfold maxLen at hfl
        clear hb2' hown hz1
        by_cases hf0 : f = []
        · have HN2 : Hid (X = Sc.linesGo (Sc.left_ b ok) (((no + 1 : Nat) : Int)) acc) := by show X = _; rw [HN.out, if_pos hf0]; rfl
          have q4 : ¬ (0 : Int) < (f.length : Int) := by rw [hf0]; simp
          have q5 : (f.length : Int) = 0 := by rw [hf0]; rfl
          clear hf0
          go_wp2
          go_roundw
          case rel => exact ⟨b, no + 1, acc, us, ok, rfl, by go_num, rfl, by omega, by omega, hb1, HL2, HZ2, HB2, HN2⟩
          case measure => exact HM.out
        · have HN2 : Hid (X = Sc.linesGo (Sc.left_ b ok) (((no + 1 : Nat) : Int)) (acc ++ [((no : Int), f)])) := by show X = _; rw [HN.out, if_neg hf0]; rfl
          have q4 : (0 : Int) < (f.length : Int) := by
            have : f.length ≠ 0 := fun e => hf0 (List.eq_nil_of_length_eq_zero e)
            omega
          clear hf0
          have HAp := fun {ops : Array Oper} {rest : List Oper} {o : Oper} {a : Act} {Q : Exit → Act → World → Prop} (hgd : o.guard = none) (ho : o.op = .call { callee := .builtin .append, args := #[.tmp 39, .tmp 43], argTypes := #[78, 78] }) (hs : a.eval (.tmp 39) = .slice A4 acc.length c4) (hx : a.eval (.tmp 43) = .slice (some ⟨w2.heap.size, 0, none⟩) 1 1) h => wpList_append_any (P := Tryz.prog) (ops := ops) (rest := rest) (o := o) (a := a) (Q := Q) (w2.alloc (.cells #[.int .i64 no, .slice A f.length c] 85)) hgd (.tmp 39) (.tmp 43) 78 ho (w.heap.size + 1) 85 i0 _ 2 32 Tryz.underlying78 HI.out.1 HI.out.2.1 HI.out.2.2.1 HI.out.2.2.2 rfl (by omega) _ acc.length _ hs (HL2.out.list.alloc _) (w2.heap.size + 1) _ 1 1 _ hx (Sc.reads_pairs w2 (.int .i64 no) (.slice A f.length c) 85) (by simp [Value.oneCell']) (by unfold maxLen; omega) (by omega) (by rw [World.size_alloc]; have := HZ2.out.lt; omega) h
          go_wp2_with (at_builtin; refine HAp rfl rfl rfl rfl ?_; intro v9' w9 hown9 hg9 hat9)
          have HL3 := Lib.hid (HL2.out.push _ HU.out hown9 hg9 hat9)
          have HZ3 := Lib.hid (Sc.At.grownO (HZ2.out.alloc _ _) hg9 (fun k hk => by have := (HL2.out.list.lt k hk).1; omega))
          have HB3 := Lib.hid ((HB2.out.alloc HB2.out.size _).grown hg9 (by rw [World.size_alloc]; have := HB2.out.size; omega) (fun k hk => by have := (HL2.out.list.lt k hk).1; omega))
          go_wp2
          go_roundw
          case rel => exact ⟨b, no + 1, _, _, ok, rfl, by go_num, rfl, by omega, by simp; omega, hb1, HL3, HZ3, HB3, HN2⟩
          case measure => exact HM.out
end Go.Proofs.YtlhoggalhjadgaaGreatDoor

/- How a reader lies in memory: its own block, and its rows. -/
namespace Go.Proofs.YtlhoggalhjadgaaGreatDoor
open Go.RowKit

namespace Src
abbrev S := St Ru.R Er.E
def ruleRow (v : Value) (s : S) : Row := ⟨47, 11, v, s.rules.length, s.rules.flatMap Ru.R.cells⟩
def zoneCells : List (Txt × List Er.E) → List Value → List Value
  | z :: l, v :: vs => .string (bts z.1) :: v :: zoneCells l vs
  | _, _ => []
def zoneRow (v : Value) (evs : List Value) (s : S) : Row := ⟨53, 2, v, s.zones.length, zoneCells s.zones evs⟩
def linkRow (v : Value) (s : S) : Row := ⟨56, 2, v, s.links.length, s.links.flatMap fun k => [.string (bts k.1), .string (bts k.2)]⟩
def eraRow (v : Value) (es : List Er.E) : Row := ⟨62, 13, v, es.length, es.flatMap Er.E.cells⟩
def eraRows : List (Txt × List Er.E) → List Value → List Row
  | z :: l, v :: vs => eraRow v z.2 :: eraRows l vs
  | _, _ => []
/-- The reader at block g, its rows made from B on. -/
structure Held (B : Nat) (w : World) (g : Nat) (s : S) (rv zv lv : Value) (evs : List Value) : Prop where
  at_ : At w g [rv, zv, lv, .bool s.op]
  many : Many B w (ruleRow rv s :: zoneRow zv evs s :: linkRow lv s :: eraRows s.zones evs)
  below : g < B
  evs_len : evs.length = s.zones.length
theorem Held.call {B : Nat} {w w' : World} {g : Nat} {s : S} {rv zv lv : Value} {evs : List Value} (h : Held B w g s rv zv lv evs) (hb : Below w.heap.size w w') : Held B w' g s rv zv lv evs :=
  ⟨h.at_.call hb, h.many.call hb, h.below, h.evs_len⟩
theorem Held.allocO {B : Nat} {w : World} {g : Nat} {s : S} {rv zv lv : Value} {evs : List Value} (h : Held B w g s rv zv lv evs) (o : Obj) : Held B (w.alloc o) g s rv zv lv evs :=
  ⟨h.at_.allocO o, h.many.alloc o, h.below, h.evs_len⟩
/-- A new reader. -/
theorem Held.new_ (w : World) (t : TypeId) : Held (w.heap.size + 1) (w.alloc (.cells #[.slice none 0 0, .slice none 0 0, .slice none 0 0, .bool false] t)) w.heap.size St.none_ (.slice none 0 0) (.slice none 0 0) (.slice none 0 0) [] :=
  ⟨At.new _ _ _, Many.add0 (Many.add0 (Many.add0 Many.nil_ _ _) _ _) _ _, Nat.lt_succ_self _, rfl⟩
/-- A rule more. -/
theorem Held.rule {B : Nat} {w w' w2 : World} {g : Nat} {s : S} {rv rv' zv lv : Value} {evs : List Value} (h : Held B w g s rv zv lv evs) (r : Ru.R) (o : Obj)
    (hown : w'.ownsRow B 47 11 rv' (s.rules.length + 1) (s.rules.flatMap Ru.R.cells ++ r.cells)) (hg : (w.alloc o).grownBy w' rv.ownBlock) (hat : rv'.ownBlock = rv.ownBlock ∨ rv'.ownBlock = some (w.alloc o).heap.size)
    (hw : w2 = w'.setCell ⟨g, 0, none⟩ rv') : Held B w2 g { s with rules := s.rules ++ [r] } rv' zv lv evs := by
  have hne : ∀ k, rv.ownBlock = some k → g ≠ k := fun k hk e => by
    have := ((h.many.own _ List.mem_cons_self).lt k hk).1
    have := h.below
    omega
  have a1 := (Sc.At.grownO (h.at_.allocO o) hg hne).set 0 rv'
  have m1 := (h.many.grow o hown hg hat).setBelow (p := ⟨g, 0, none⟩) h.below rv'
  subst hw
  refine ⟨a1, ?_, h.below, h.evs_len⟩
  have e : ruleRow rv' { s with rules := s.rules ++ [r] } = ⟨47, 11, rv', s.rules.length + 1, s.rules.flatMap Ru.R.cells ++ r.cells⟩ := by
    simp [ruleRow]
  rw [e]
  exact m1
end Src
end Go.Proofs.YtlhoggalhjadgaaGreatDoor
