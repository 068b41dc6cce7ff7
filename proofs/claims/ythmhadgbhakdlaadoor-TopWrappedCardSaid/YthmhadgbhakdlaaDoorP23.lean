/- The contract of era.Text. -/
import Derived.Test.YthmhadgbhakdlaaDoorP22
import Derived.Test.YthmhadgbhakdlaaDoorP21
import Derived.Test.YthmhadgbhakdlaaDoorP17

namespace Go.Proofs.YthmhadgbhakdlaaDoor
open Go.RowKit Go.Sort

theorem own_below {w w' : World} {base : Nat} {e : TypeId} {size : Nat} {v : Value} {n : Nat} {xs : List Value} (h : w.ownsRow base e size v n xs) (hb : Below w.heap.size w w') : w'.ownsRow base e size v n xs := by
  refine ⟨h.1, ?_⟩
  rcases h.2 with hn | ⟨g, cap, cur, hv, hbase, hg, rest⟩
  · exact .inl hn
  · have hl : g < w.heap.size := (Array.getElem?_eq_some_iff.1 hg).1
    exact .inr ⟨g, cap, cur, hv, hbase, (hb.block g hl).trans hg, rest⟩
theorem own_slice_cap {w : World} {base : Nat} {e : TypeId} {size n : Nat} {v : Value} {xs : List Value} (h : w.ownsRow base e size v n xs) : ∃ A c, v = .slice A n c ∧ n ≤ c ∧ c ≤ maxLen := by
  rcases h.2 with ⟨rfl, rfl⟩ | ⟨g, cap, cur, rfl, _, _, h1, h2, _⟩
  · exact ⟨none, 0, rfl, Nat.le_refl _, Nat.zero_le _⟩
  · exact ⟨_, cap, rfl, h1, h2⟩
theorem str_info : (Tryd.prog.info? 9).map (fun i => (i.zero, i.size, i.bytes)) = some (some (.string ⟨#[]⟩), 1, 16) := by kernel_rfl
theorem er_reads (w : World) (g : Nat) (l : List ByteArray) (t : TypeId) (hg : g = w.heap.size) : Reads (w.alloc (.cells (strCells l) t)) (w.alloc (.cells (strCells l) t)).heap.size 1 (some ⟨g, 0, none⟩) l.length (l.map Value.string) := by
  subst hg
  exact reads_new w l t
end Go.Proofs.YthmhadgbhakdlaaDoor

/- The contract of scan.Fields. -/
namespace Go.Proofs.YthmhadgbhakdlaaDoor
open Go.RowKit

namespace Sc
def fcells (l : List (List UInt8 × Int)) : List Value := l.flatMap fun x => [.string ⟨x.1.toArray⟩, .int .i64 x.2]
theorem fcells_len (l : List (List UInt8 × Int)) : (fcells l).length = l.length * 2 := by
  unfold fcells
  induction l with
  | nil => rfl
  | cons a l ih => rw [List.flatMap_cons, List.length_append, ih]; simp; omega
theorem fcells_one (l : List (List UInt8 × Int)) (x : List UInt8 × Int) : fcells (l ++ [x]) = fcells l ++ [.string ⟨x.1.toArray⟩, .int .i64 x.2] := by
  unfold fcells
  rw [List.flatMap_append]
  simp
theorem reads_pairs (w : World) (a b : Value) (t : TypeId) : Reads (w.alloc (.cells #[a, b] t)) (w.heap.size + 1) 2 (some ⟨w.heap.size, 0, none⟩) 1 [a, b] := by
  refine ⟨rfl, fun _ => ?_⟩
  obtain ⟨ad, e, hb, hc⟩ := (reads_cells w #[a, b] t).2 (by simp)
  exact ⟨ad, e, hb, hc⟩
theorem frame_of (n : Nat) (a : Act) (hs : a.tmps.size = n) (hd : a.defers = []) : a = { tmps := ((List.range n).map fun i => a.tmps.getD i undef).toArray, defers := [] } := by
  obtain ⟨t, d⟩ := a
  simp only at hs hd
  subst hd
  congr 1
  apply Array.ext
  · simp [hs]
  · intro i h1 h2
    simp [h1]
def mu (s : ByteArray) (l : Nat) (a : Act) : Nat := 2 * (s.size - (intOf (a.tmps.getD 7 undef)).toNat) + (if l = 1 then 1 else 0)
end Sc
end Go.Proofs.YthmhadgbhakdlaaDoor

/- Lines of a text in plain words. -/
namespace Go.Proofs.YthmhadgbhakdlaaDoor
open Go.RowKit

namespace Sc
def splitNl : List UInt8 → List (List UInt8)
  | [] => [[]]
  | c :: l => if c = 10 then [] :: splitNl l else match splitNl l with
    | [] => [[c]]
    | h :: t => (c :: h) :: t
def cutR : List UInt8 → List UInt8 × List UInt8 × Bool
  | [] => ([], [], false)
  | c :: l => if c = 10 then ([], l, true) else (c :: (cutR l).1, (cutR l).2.1, (cutR l).2.2)
theorem cut_cutR (s : List UInt8) : Lib.cut s [10] = cutR s := by
  induction s with
  | nil => rfl
  | cons c l ih =>
    unfold cutR
    unfold Lib.cut at ih ⊢
    rw [Lib.index_one] at ih ⊢
    unfold Lib.indexByte
    by_cases hc : c = 10
    · rw [if_pos hc]
      subst hc
      rfl
    · rw [if_neg hc]
      have hb : (c == 10) = false := by rw [beq_eq_false_iff_ne]; exact hc
      rw [hb, ← ih]
      have hge := Lib.indexByte_ge l 10
      by_cases h1 : Lib.indexByte l 10 = -1
      · simp [h1]
      · have h2 : (Lib.indexByte l 10 == -1) = false := by rw [beq_eq_false_iff_ne]; exact h1
        simp only [h2]
        have h3 : 0 ≤ Lib.indexByte l 10 := by omega
        have h4 : 0 ≤ Lib.indexByte l 10 + 1 := by omega
        have e : (Lib.indexByte l 10 + 1).toNat = (Lib.indexByte l 10).toNat + 1 := by omega
        simp [h3, h4, e]
theorem cutR_split (s : List UInt8) : ((cutR s).2.2 = true → splitNl s = (cutR s).1 :: splitNl (cutR s).2.1 ∧ (cutR s).2.1.length + 1 ≤ s.length) ∧ ((cutR s).2.2 = false → splitNl s = [(cutR s).1] ∧ (cutR s).2.1 = []) ∧ (cutR s).1.length ≤ s.length := by
  induction s with
  | nil => exact ⟨fun h => (by cases h), fun _ => ⟨rfl, rfl⟩, Nat.le_refl _⟩
  | cons c l ih =>
    obtain ⟨i1, i2, i3⟩ := ih
    by_cases hc : c = 10
    · have e1 : cutR (c :: l) = ([], l, true) := by rw [cutR, if_pos hc]
      have e2 : splitNl (c :: l) = [] :: splitNl l := by rw [splitNl, if_pos hc]
      rw [e1, e2]
      exact ⟨fun _ => ⟨rfl, by simp⟩, fun h => (by cases h), by simp⟩
    · have e1 : cutR (c :: l) = (c :: (cutR l).1, (cutR l).2.1, (cutR l).2.2) := by rw [cutR, if_neg hc]
      have e2 : ∀ h t, splitNl l = h :: t → splitNl (c :: l) = (c :: h) :: t := fun h t e => by rw [splitNl, if_neg hc, e]
      rw [e1]
      refine ⟨fun h => ?_, fun h => ?_, by simp; exact i3⟩
      · obtain ⟨a, b⟩ := i1 h
        rw [e2 _ _ a]
        exact ⟨rfl, by simp; omega⟩
      · obtain ⟨a, b⟩ := i2 h
        rw [e2 _ _ a]
        exact ⟨rfl, b⟩
/-- The lines that have fields, each with its number; or the line, the column, and why. -/
inductive LRes where
  | ok (l : List (Int × List (List UInt8 × Int)))
  | bad (line col why : Int)
def linesGo : List (List UInt8) → Int → List (Int × List (List UInt8 × Int)) → LRes
  | [], _, acc => .ok acc
  | t :: L, no, acc => match fields t with
    | .bad col why => .bad no col why
    | .ok f => linesGo L (no + 1) (if f = [] then acc else acc ++ [(no, f)])
/-- The lines of a text. -/
def lines (s : List UInt8) : LRes := if 1048576 < s.length then .bad 0 0 6 else linesGo (splitNl s) 1 []
theorem scan_why : ∀ (l : List UInt8) (a : Int) (m : Mode) (acc : List (List UInt8 × Int)) (col why : Int), scan l a m acc = .bad col why → why ≠ 0
  | [], a, .b, acc, col, why, h => by simp [scan] at h
  | [], a, .f b t, acc, col, why, h => by simp [scan] at h
  | [], a, .q q b t, acc, col, why, h => by
    simp only [scan, Res.bad.injEq] at h
    omega
  | c :: l, a, .b, acc, col, why, h => by
    unfold scan at h
    split at h
    · exact scan_why l _ _ _ col why h
    · split at h
      · simp at h
      · split at h
        · simp only [Res.bad.injEq] at h; omega
        · split at h
          · simp only [Res.bad.injEq] at h; omega
          · split at h
            · exact scan_why l _ _ _ col why h
            · exact scan_why l _ _ _ col why h
  | c :: l, a, .f b t, acc, col, why, h => by
    unfold scan at h
    split at h
    · exact scan_why l _ _ _ col why h
    · split at h
      · simp at h
      · split at h
        · simp only [Res.bad.injEq] at h; omega
        · split at h
          · exact scan_why l _ _ _ col why h
          · exact scan_why l _ _ _ col why h
  | c :: l, a, .q q b t, acc, col, why, h => by
    unfold scan at h
    split at h
    · simp only [Res.bad.injEq] at h; omega
    · split at h
      · exact scan_why l _ _ _ col why h
      · exact scan_why l _ _ _ col why h
theorem fields_why (s : List UInt8) (col why : Int) (h : fields s = .bad col why) : why ≠ 0 := by
  unfold fields at h
  split at h
  · simp only [Res.bad.injEq] at h; omega
  · exact scan_why s _ _ _ col why h
end Sc
end Go.Proofs.YthmhadgbhakdlaaDoor

/- A source in plain words: lines read one after the other; two texts one behind the other. -/
namespace Go.Proofs.YthmhadgbhakdlaaDoor
open Go.RowKit

namespace Src
abbrev Txt := List UInt8
abbrev Ln := Int × List (Txt × Int)
/-- What reads rules and eras. -/
structure P (R E : Type) where
  key : Txt → Int
  name : Txt → Bool
  rule : List Txt → R × Int × Int
  era : List Txt → E × Int × Int
  ends : E → Bool
  rule_len : ∀ l, (rule l).2.2 = 0 → 1 ≤ l.length
  era_len : ∀ l, (era l).2.2 = 0 → 3 ≤ l.length
structure St (R E : Type) where
  rules : List R
  zones : List (Txt × List E)
  links : List (Txt × Txt)
  op : Bool
def St.none_ {R E : Type} : St R E := ⟨[], [], [], false⟩
inductive Out (S : Type) where
  | ok (s : S)
  | bad (place why : Int)
def addEra {E : Type} (e : E) : List (Txt × List E) → List (Txt × List E)
  | [] => []
  | [z] => [(z.1, z.2 ++ [e])]
  | z :: y :: l => z :: addEra e (y :: l)
def lastEras {E : Type} : List (Txt × List E) → Nat
  | [] => 0
  | [z] => z.2.length
  | _ :: y :: l => lastEras (y :: l)
def wrong (f : Txt → Bool) : List Txt → Int → Option Int
  | [], _ => none
  | t :: l, i => if f t then wrong f l (i + 1) else some i
variable {R E : Type}
def eraStep (p : P R E) (s : St R E) (t : List Txt) (from_ : Nat) : Out (St R E) :=
  if (p.era (t.drop from_)).2.2 = 0 then .ok { s with zones := addEra (p.era (t.drop from_)).1 s.zones, op := p.ends (p.era (t.drop from_)).1 }
  else .bad (from_ + (p.era (t.drop from_)).2.1) (p.era (t.drop from_)).2.2
def ruleStep (p : P R E) (s : St R E) (t : List Txt) : Out (St R E) :=
  if s.rules.length = 4096 then .bad 0 6
  else if (p.rule (t.drop 1)).2.2 = 0 then .ok { s with rules := s.rules ++ [(p.rule (t.drop 1)).1] }
  else .bad (1 + (p.rule (t.drop 1)).2.1) (p.rule (t.drop 1)).2.2
def zoneStep (p : P R E) (s : St R E) (t : List Txt) : Out (St R E) :=
  if s.zones.length = 1024 then .bad 0 6
  else if t.length < 2 then .bad 1 5
  else if p.name (t.getD 1 []) = false then .bad 1 7
  else eraStep p { s with zones := s.zones ++ [(t.getD 1 [], [])] } t 2
def linkStep (p : P R E) (s : St R E) (t : List Txt) : Out (St R E) :=
  if s.links.length = 4096 then .bad 0 6
  else match wrong p.name ((t.drop 1).take 2) 0 with
  | some i => .bad (1 + i) 7
  | none => if ((t.drop 1).take 2).length < 2 then .bad (1 + ((t.drop 1).take 2).length) 5
    else if 3 < t.length then .bad 3 6
    else .ok { s with links := s.links ++ [(t.getD 1 [], t.getD 2 [])] }
def step (p : P R E) (s : St R E) (t : List Txt) : Out (St R E) :=
  if s.op then (if lastEras s.zones = 64 then .bad 0 6 else eraStep p s t 0)
  else if p.key (t.getD 0 []) = 1 then ruleStep p s t
  else if p.key (t.getD 0 []) = 2 then zoneStep p s t
  else if p.key (t.getD 0 []) = 3 then linkStep p s t
  else .bad 0 7
inductive Par (S : Type) where
  | ok (s : S)
  | bad (line col why : Int)
def colAt (f : List (Txt × Int)) (place : Int) : Int := (f.getD (min place.toNat (f.length - 1)) ([], 0)).2
def readGo (p : P R E) : List Ln → St R E → Par (St R E)
  | [], s => .ok s
  | l :: L, s => match step p s (l.2.map (·.1)) with
    | .bad place why => .bad l.1 (colAt l.2 place) why
    | .ok s' => readGo p L s'
def finish (L : List Ln) (s : St R E) : Par (St R E) :=
  if s.op then .bad (L.getLastD (0, [])).1 (colAt (L.getLastD (0, [])).2 0) 5 else .ok s
def readAll (p : P R E) (L : List Ln) : Par (St R E) := match readGo p L St.none_ with
  | .bad l c w => .bad l c w
  | .ok s => finish L s
/-- What a text is read as. -/
def parse (p : P R E) (s : Txt) : Par (St R E) := match Sc.lines s with
  | .bad l c w => .bad l c w
  | .ok L => readAll p L
def app (a b : St R E) : St R E := ⟨a.rules ++ b.rules, a.zones ++ b.zones, a.links ++ b.links, b.op⟩
def Out.map {S T : Type} (f : S → T) : Out S → Out T
  | .ok s => .ok (f s)
  | .bad p w => .bad p w
def Par.map {S T : Type} (f : S → T) (d : Int) : Par S → Par T
  | .ok s => .ok (f s)
  | .bad l c w => .bad (l + d) c w

theorem addEra_app (e : E) : ∀ (a b : List (Txt × List E)), b ≠ [] → addEra e (a ++ b) = a ++ addEra e b
  | [], b, _ => rfl
  | [z], [], h => absurd rfl h
  | [z], y :: l, h => rfl
  | z :: y :: l, b, h => by
    have := addEra_app e (y :: l) b h
    simp only [List.cons_append] at this ⊢
    rw [addEra, this]
theorem lastEras_app : ∀ (a b : List (Txt × List E)), b ≠ [] → lastEras (a ++ b) = lastEras b
  | [], b, _ => rfl
  | [z], [], h => absurd rfl h
  | [z], y :: l, h => rfl
  | z :: y :: l, b, h => by
    have := lastEras_app (y :: l) b h
    simp only [List.cons_append] at this ⊢
    rw [lastEras, this]
theorem addEra_len (e : E) : ∀ (b : List (Txt × List E)), (addEra e b).length = b.length
  | [] => rfl
  | [z] => rfl
  | z :: y :: l => by simp [addEra, addEra_len e (y :: l)]
def Good (s : St R E) : Prop := s.op = true → s.zones ≠ []
/-- What the lists weigh: less than this many bytes cannot hold them. -/
def weigh (s : St R E) : Nat := 4 * s.rules.length + 10 * s.zones.length + 6 * s.links.length
theorem eraStep_app (p : P R E) (a s : St R E) (t : List Txt) (k : Nat) (hz : s.zones ≠ []) : eraStep p (app a s) t k = (eraStep p s t k).map (app a) := by
  unfold eraStep
  split
  · simp [app, Out.map, addEra_app _ _ _ hz]
  · rfl
theorem step_app (p : P R E) (a s : St R E) (t : List Txt) (hg : Good s) (hr : a.rules.length + s.rules.length < 4096) (hz : a.zones.length + s.zones.length < 1024) (hl : a.links.length + s.links.length < 4096) :
    step p (app a s) t = (step p s t).map (app a) := by
  unfold step
  by_cases ho : s.op
  · have hne := hg ho
    have e1 : (app a s).op = true := ho
    rw [if_pos ho, if_pos e1, show (app a s).zones = a.zones ++ s.zones from rfl, lastEras_app _ _ hne]
    split
    · rfl
    · exact eraStep_app p a s t 0 hne
  · have e1 : ¬ (app a s).op = true := ho
    rw [if_neg ho, if_neg e1]
    split
    · unfold ruleStep
      rw [if_neg (show ¬ (app a s).rules.length = 4096 by simp [app]; omega), if_neg (show ¬ s.rules.length = 4096 by omega)]
      split
      · simp [app, Out.map]
      · rfl
    · split
      · unfold zoneStep
        rw [if_neg (show ¬ (app a s).zones.length = 1024 by simp [app]; omega), if_neg (show ¬ s.zones.length = 1024 by omega)]
        split
        · rfl
        · split
          · rfl
          · rw [← eraStep_app p a _ t 2 (by simp)]
            simp [app]
      · split
        · unfold linkStep
          rw [if_neg (show ¬ (app a s).links.length = 4096 by simp [app]; omega), if_neg (show ¬ s.links.length = 4096 by omega)]
          split
          · rfl
          · split
            · rfl
            · split
              · rfl
              · simp [app, Out.map]
        · rfl
theorem eraStep_facts (p : P R E) (s s' : St R E) (t : List Txt) (k : Nat) (hz : s.zones ≠ []) (h : eraStep p s t k = .ok s') :
    Good s' ∧ s'.rules = s.rules ∧ s'.links = s.links ∧ s'.zones.length = s.zones.length ∧ k + 3 ≤ t.length := by
  unfold eraStep at h
  split at h
  · rename_i h0
    have := p.era_len _ h0
    simp only [List.length_drop] at this
    cases h
    refine ⟨fun _ e => hz ?_, rfl, rfl, addEra_len _ _, by omega⟩
    have e2 := congrArg List.length e
    simp only [addEra_len, List.length_nil] at e2
    exact List.length_eq_zero_iff.mp e2
  · cases h
theorem step_facts (p : P R E) (s s' : St R E) (t : List Txt) (hg : Good s) (h : step p s t = .ok s') : Good s' ∧ weigh s' ≤ weigh s + 2 * t.length := by
  unfold step at h
  split at h
  · rename_i ho
    split at h
    · cases h
    · obtain ⟨a, b, c, d, e⟩ := eraStep_facts p s s' t 0 (hg ho) h
      exact ⟨a, by unfold weigh; rw [b, c, d]; omega⟩
  · rename_i ho
    split at h
    · unfold ruleStep at h
      split at h
      · cases h
      · split at h
        · rename_i h0
          have := p.rule_len _ h0
          simp only [List.length_drop] at this
          cases h
          exact ⟨fun e => absurd e ho, by simp [weigh]; omega⟩
        · cases h
    · split at h
      · unfold zoneStep at h
        split at h
        · cases h
        · split at h
          · cases h
          · split at h
            · cases h
            · obtain ⟨a, b, c, d, e⟩ := eraStep_facts p _ s' t 2 (by simp) h
              exact ⟨a, by unfold weigh; rw [b, c, d]; simp; omega⟩
      · split at h
        · unfold linkStep at h
          split at h
          · cases h
          · split at h
            · cases h
            · split at h
              · cases h
              · rename_i h3
                split at h
                · cases h
                · simp only [List.length_take, List.length_drop] at h3
                  cases h
                  exact ⟨fun e => absurd e ho, by simp [weigh]; omega⟩
        · cases h
end Src
end Go.Proofs.YthmhadgbhakdlaaDoor

/- Two texts one behind the other are read together as both. -/
namespace Go.Proofs.YthmhadgbhakdlaaDoor
open Go.RowKit

namespace Src
variable {R E : Type}
/-- What lines weigh. -/
def weight : List Ln → Nat
  | [] => 0
  | l :: L => 2 * l.2.length + weight L
theorem weight_app (A B : List Ln) : weight (A ++ B) = weight A + weight B := by
  induction A with
  | nil => simp [weight]
  | cons l A ih => simp only [List.cons_append, weight, ih]; omega
def shift (d : Int) (L : List Ln) : List Ln := L.map (fun l => (l.1 + d, l.2))
theorem weight_shift (d : Int) (L : List Ln) : weight (shift d L) = weight L := by
  induction L with
  | nil => rfl
  | cons l L ih => simp only [shift, List.map_cons, weight] at ih ⊢; rw [ih]
theorem readGo_cons (p : P R E) (l : Ln) (L : List Ln) (s : St R E) : readGo p (l :: L) s = match step p s (l.2.map (·.1)) with
    | .bad place why => .bad l.1 (colAt l.2 place) why
    | .ok s' => readGo p L s' := rfl
theorem readGo_facts (p : P R E) : ∀ (L : List Ln) (s s' : St R E), Good s → readGo p L s = .ok s' → Good s' ∧ weigh s' ≤ weigh s + weight L
  | [], s, s', hg, h => by
    simp only [readGo, Par.ok.injEq] at h
    subst h
    exact ⟨hg, by simp [weight]⟩
  | l :: L, s, s', hg, h => by
    rw [readGo_cons] at h
    cases h1 : step p s (l.2.map (·.1)) with
    | bad place why => rw [h1] at h; cases h
    | ok s1 =>
      rw [h1] at h
      obtain ⟨g1, w1⟩ := step_facts p s s1 _ hg h1
      obtain ⟨g2, w2⟩ := readGo_facts p L s1 s' g1 h
      simp only [List.length_map] at w1
      exact ⟨g2, by simp only [weight]; omega⟩
theorem readGo_app (p : P R E) : ∀ (A B : List Ln) (s s' : St R E), readGo p A s = .ok s' → readGo p (A ++ B) s = readGo p B s'
  | [], B, s, s', h => by
    simp only [readGo, Par.ok.injEq] at h
    subst h
    rfl
  | l :: A, B, s, s', h => by
    rw [List.cons_append, readGo_cons]
    rw [readGo_cons] at h
    cases h1 : step p s (l.2.map (·.1)) with
    | bad place why => rw [h1] at h; cases h
    | ok s1 =>
      rw [h1] at h
      exact readGo_app p A B s1 s' h
/-- Behind a state of before, and with other line numbers. -/
theorem readGo_both (p : P R E) (a : St R E) (d : Int) : ∀ (L : List Ln) (s : St R E), Good s → weigh a + weigh s + weight L < 10240 →
    readGo p (shift d L) (app a s) = (readGo p L s).map (app a) d
  | [], s, hg, hw => rfl
  | l :: L, s, hg, hw => by
    rw [show shift d (l :: L) = (l.1 + d, l.2) :: shift d L from rfl, readGo_cons, readGo_cons]
    simp only [weight] at hw
    have hw' : weigh a + weigh s < 10240 := by omega
    unfold weigh at hw'
    rw [step_app p a s _ hg (by omega) (by omega) (by omega)]
    cases h1 : step p s (l.2.map (·.1)) with
    | bad place why => rfl
    | ok s1 =>
      obtain ⟨g1, w1⟩ := step_facts p s s1 _ hg h1
      simp only [List.length_map] at w1
      exact readGo_both p a d L s1 g1 (by omega)
theorem splitNl_ne (l : Txt) : Sc.splitNl l ≠ [] := by
  cases l with
  | nil => simp [Sc.splitNl]
  | cons c l =>
    rw [Sc.splitNl]
    split
    · simp
    · split <;> simp
theorem splitNl_both (b : Txt) : ∀ a : Txt, Sc.splitNl (a ++ 10 :: b) = Sc.splitNl a ++ Sc.splitNl b
  | [] => by simp [Sc.splitNl]
  | c :: a => by
    rw [List.cons_append, Sc.splitNl, Sc.splitNl, splitNl_both b a]
    split
    · rfl
    · cases h : Sc.splitNl a with
      | nil => exact absurd h (splitNl_ne a)
      | cons x l => rfl
theorem splitNl_len : ∀ a : Txt, (Sc.splitNl a).length = 1 + a.count 10
  | [] => rfl
  | c :: a => by
    have ih := splitNl_len a
    rw [Sc.splitNl]
    split
    · rename_i h
      subst h
      simp [ih]; omega
    · rename_i h
      rw [List.count_cons_of_ne h]
      cases h : Sc.splitNl a with
      | nil => exact absurd h (splitNl_ne a)
      | cons x l => rw [h] at ih; exact ih
/-- The weight of texts: each byte, and one for each text. -/
def bytes : List Txt → Nat
  | [] => 0
  | t :: L => t.length + 1 + bytes L
theorem splitNl_bytes : ∀ a : Txt, bytes (Sc.splitNl a) = a.length + 1
  | [] => rfl
  | c :: a => by
    have ih := splitNl_bytes a
    rw [Sc.splitNl]
    split
    · simp [bytes, ih]; omega
    · cases h : Sc.splitNl a with
      | nil => exact absurd h (splitNl_ne a)
      | cons x l => rw [h] at ih; simp only [bytes, List.length_cons] at ih ⊢; omega
theorem linesGo_app : ∀ (A B : List Txt) (no : Int) (acc : List Ln), Sc.linesGo (A ++ B) no acc = match Sc.linesGo A no acc with
    | .bad l c w => .bad l c w
    | .ok acc' => Sc.linesGo B (no + A.length) acc'
  | [], B, no, acc => by simp [Sc.linesGo]
  | t :: A, B, no, acc => by
    rw [List.cons_append, Sc.linesGo, Sc.linesGo]
    cases h : Sc.fields t with
    | bad col why => rfl
    | ok f =>
      simp only []
      rw [linesGo_app A B]
      simp only [List.length_cons, Int.natCast_add, Int.add_assoc, Int.natCast_one, Int.add_comm (1 : Int)]
def moved (acc : List Ln) (d : Int) : Sc.LRes → Sc.LRes
  | .ok L => .ok (acc ++ shift d L)
  | .bad l c w => .bad (l + d) c w
theorem linesGo_moved : ∀ (A : List Txt) (no d : Int) (acc acc' : List Ln), Sc.linesGo A (no + d) (acc ++ shift d acc') = moved acc d (Sc.linesGo A no acc')
  | [], no, d, acc, acc' => rfl
  | t :: A, no, d, acc, acc' => by
    rw [Sc.linesGo, Sc.linesGo]
    cases h : Sc.fields t with
    | bad col why => rfl
    | ok f =>
      simp only []
      have e := linesGo_moved A (no + 1) d acc (if f = [] then acc' else acc' ++ [(no, f)])
      rw [← e]
      have e1 : no + 1 + d = no + d + 1 := by omega
      rw [e1]
      split
      · rfl
      · simp [shift, List.append_assoc]
end Src
end Go.Proofs.YthmhadgbhakdlaaDoor

/- Two texts one behind the other: what is read. -/
namespace Go.Proofs.YthmhadgbhakdlaaDoor
open Go.RowKit

namespace Src
variable {R E : Type}
theorem scan_count : ∀ (l : Txt) (a : Int) (m : Sc.Mode) (acc f : List (Txt × Int)), Sc.scan l a m acc = .ok f →
    2 * f.length ≤ 2 * acc.length + l.length + (match m with | .b => 1 | _ => 2)
  | [], a, .b, acc, f, h => by
    simp only [Sc.scan, Sc.Res.ok.injEq] at h
    subst h
    simp
  | [], a, .f b t, acc, f, h => by
    simp only [Sc.scan, Sc.Res.ok.injEq] at h
    subst h
    simp; omega
  | [], a, .q q b t, acc, f, h => by simp [Sc.scan] at h
  | c :: l, a, .b, acc, f, h => by
    rw [Sc.scan] at h
    split at h
    · have := scan_count l _ _ _ f h; simp only [List.length_cons] at this ⊢; omega
    · split at h
      · simp only [Sc.Res.ok.injEq] at h; subst h; simp only [List.length_cons]; omega
      · split at h
        · cases h
        · split at h
          · cases h
          · split at h
            · have := scan_count l _ _ _ f h; simp only [List.length_cons] at this ⊢; omega
            · have := scan_count l _ _ _ f h; simp only [List.length_cons] at this ⊢; omega
  | c :: l, a, .f b t, acc, f, h => by
    rw [Sc.scan] at h
    split at h
    · have := scan_count l _ _ _ f h; simp only [List.length_cons, List.length_append, List.length_nil] at this ⊢; omega
    · split at h
      · simp only [Sc.Res.ok.injEq] at h; subst h; simp only [List.length_cons, List.length_append, List.length_nil]; omega
      · split at h
        · cases h
        · split at h
          · have := scan_count l _ _ _ f h; simp only [List.length_cons] at this ⊢; omega
          · have := scan_count l _ _ _ f h; simp only [List.length_cons] at this ⊢; omega
  | c :: l, a, .q q b t, acc, f, h => by
    rw [Sc.scan] at h
    split at h
    · cases h
    · split at h
      · have := scan_count l _ _ _ f h; simp only [List.length_cons] at this ⊢; omega
      · have := scan_count l _ _ _ f h; simp only [List.length_cons] at this ⊢; omega
theorem fields_count (t : Txt) (f : List (Txt × Int)) (h : Sc.fields t = .ok f) : 2 * f.length ≤ t.length + 1 := by
  unfold Sc.fields at h
  split at h
  · cases h
  · have := scan_count t _ _ _ f h
    simp only [List.length_nil] at this
    omega
theorem linesGo_weight : ∀ (A : List Txt) (no : Int) (acc L : List Ln), Sc.linesGo A no acc = .ok L → weight L ≤ weight acc + bytes A
  | [], no, acc, L, h => by
    simp only [Sc.linesGo, Sc.LRes.ok.injEq] at h
    subst h
    simp [bytes]
  | t :: A, no, acc, L, h => by
    rw [Sc.linesGo] at h
    cases hf : Sc.fields t with
    | bad col why => rw [hf] at h; cases h
    | ok f =>
      rw [hf] at h
      simp only [] at h
      have hc := fields_count t f hf
      have := linesGo_weight A (no + 1) _ L h
      simp only [bytes]
      split at this
      · omega
      · rw [weight_app] at this
        simp only [weight] at this
        omega
theorem linesGo_of (s : Txt) (hs : s.length ≤ 1048576) : Sc.lines s = Sc.linesGo (Sc.splitNl s) 1 [] := by
  unfold Sc.lines
  rw [if_neg (by omega)]
theorem getLastD_app : ∀ (A B : List Ln) (d : Ln), B ≠ [] → (A ++ B).getLastD d = B.getLastD d
  | [], B, d, h => rfl
  | x :: A, B, d, h => by
    rw [List.cons_append, List.getLastD_cons, getLastD_app A B x h]
    cases B with
    | nil => exact absurd rfl h
    | cons y l => rw [List.getLastD_cons, List.getLastD_cons]
theorem getLastD_shift (n : Int) : ∀ (B : List Ln) (d : Ln), (shift n B).getLastD (d.1 + n, d.2) = ((B.getLastD d).1 + n, (B.getLastD d).2)
  | [], d => rfl
  | x :: B, d => by
    rw [show shift n (x :: B) = (x.1 + n, x.2) :: shift n B from rfl, List.getLastD_cons, List.getLastD_cons]
    exact getLastD_shift n B x
theorem getLastD_two (n : Int) (B : List Ln) (d d' : Ln) (h : B ≠ []) : (shift n B).getLastD d = ((B.getLastD d').1 + n, (B.getLastD d').2) := by
  rw [← getLastD_shift]
  cases B with
  | nil => exact absurd rfl h
  | cons y l => rw [show shift n (y :: l) = (y.1 + n, y.2) :: shift n l from rfl, List.getLastD_cons, List.getLastD_cons]
theorem parse_ok (p : P R E) (s : Txt) (x : St R E) (hs : s.length ≤ 1048576) (h : parse p s = .ok x) :
    ∃ L, Sc.linesGo (Sc.splitNl s) 1 [] = .ok L ∧ readGo p L St.none_ = .ok x ∧ x.op = false := by
  unfold parse at h
  rw [linesGo_of s hs] at h
  cases hl : Sc.linesGo (Sc.splitNl s) 1 [] with
  | bad l c w => rw [hl] at h; cases h
  | ok L =>
    rw [hl] at h
    simp only [] at h
    unfold readAll at h
    cases hr : readGo p L St.none_ with
    | bad l c w => rw [hr] at h; cases h
    | ok t =>
      rw [hr] at h
      simp only [finish] at h
      split at h
      · cases h
      · rename_i ho
        cases h
        exact ⟨L, rfl, hr, by simpa using ho⟩
theorem good_none : Good (St.none_ : St R E) := fun h => by cases h
/-- THE LAW: both together. -/
theorem parse_both (p : P R E) (a b : Txt) (x : St R E) (hn : a.length + b.length ≤ 8192) (h : parse p a = .ok x) :
    parse p (a ++ 10 :: b) = (parse p b).map (app x) (1 + (a.count 10 : Nat)) := by
  obtain ⟨La, hla, hra, hop⟩ := parse_ok p a x (by omega) h
  have hlen : (a ++ 10 :: b).length ≤ 8193 := by simp; omega
  have e0 := linesGo_app (Sc.splitNl a) (Sc.splitNl b) 1 []
  rw [hla] at e0
  simp only [] at e0
  have e1 := linesGo_moved (Sc.splitNl b) 1 ((Sc.splitNl a).length : Int) La []
  have e2 : La ++ shift ((Sc.splitNl a).length : Int) [] = La := by simp [shift]
  rw [e2] at e1
  rw [e1] at e0
  have hN : ((Sc.splitNl a).length : Int) = 1 + (a.count 10 : Nat) := by rw [splitNl_len]; simp
  generalize hn2 : ((Sc.splitNl a).length : Int) = n at *
  rw [← hN]
  unfold parse
  rw [linesGo_of _ (by omega), linesGo_of b (by omega), splitNl_both, e0]
  have w1 := linesGo_weight _ _ _ _ hla
  rw [splitNl_bytes] at w1
  obtain ⟨gx, wx⟩ := readGo_facts p La St.none_ x good_none hra
  cases hlb : Sc.linesGo (Sc.splitNl b) 1 [] with
  | bad l c w => rfl
  | ok Lb =>
    have w2 := linesGo_weight _ _ _ _ hlb
    rw [splitNl_bytes] at w2
    simp only [moved]
    unfold readAll
    rw [readGo_app p La (shift n Lb) St.none_ x hra]
    have ex : app x St.none_ = x := by
      cases x
      simp only at hop
      simp [app, St.none_, hop]
    have hz : weigh (St.none_ : St R E) = 0 := rfl
    have key := readGo_both p x n Lb St.none_ good_none (by simp only [weight] at w1 w2; omega)
    rw [ex] at key
    rw [key]
    cases hrb : readGo p Lb St.none_ with
    | bad l c w => rfl
    | ok t =>
      simp only [Par.map, finish]
      by_cases ho : t.op
      · have hB : Lb ≠ [] := by
          intro e
          subst e
          simp only [readGo, Par.ok.injEq] at hrb
          subst hrb
          cases ho
        have hB' : shift n Lb ≠ [] := by
          intro e
          exact hB (by simpa [shift] using e)
        rw [if_pos ho, if_pos (show (app x t).op = true from ho), getLastD_app _ _ _ hB', getLastD_two _ _ _ (0, []) hB]
      · rw [if_neg ho, if_neg (show ¬ (app x t).op = true from ho)]
end Src
end Go.Proofs.YthmhadgbhakdlaaDoor

/- What a fault of reading says: a line, a column, and why. -/
namespace Go.Proofs.YthmhadgbhakdlaaDoor
open Go.RowKit

namespace Src
variable {R E : Type}
def Cols (f : List (Txt × Int)) : Prop := ∀ t ∈ f, 1 ≤ t.2
theorem Cols.push {f : List (Txt × Int)} {t : Txt} {b : Int} (h : Cols f) (hb : 1 ≤ b) : Cols (f ++ [(t, b)]) := by
  intro x hx
  rw [List.mem_append] at hx
  rcases hx with hx | hx
  · exact h x hx
  · rw [List.mem_singleton] at hx
    subst hx
    exact hb
def ModeOk : Sc.Mode → Prop
  | .b => True
  | .f b _ => 1 ≤ b
  | .q q b _ => 1 ≤ q ∧ 1 ≤ b
def ResOk : Sc.Res → Prop
  | .ok f => Cols f
  | .bad c _ => 1 ≤ c
theorem scan_cols : ∀ (l : Txt) (a : Int) (m : Sc.Mode) (acc : List (Txt × Int)), 0 ≤ a → ModeOk m → Cols acc → ResOk (Sc.scan l a m acc)
  | [], a, .b, acc, ha, hm, hc => hc
  | [], a, .f b t, acc, ha, hm, hc => hc.push hm
  | [], a, .q q b t, acc, ha, hm, hc => hm.1
  | c :: l, a, .b, acc, ha, hm, hc => by
    rw [Sc.scan]
    have h1 : 1 ≤ a + 1 := by omega
    split
    · exact scan_cols l _ _ _ (by omega) trivial hc
    · split
      · exact hc
      · split
        · exact h1
        · split
          · exact h1
          · split
            · exact scan_cols l _ _ _ (by omega) ⟨h1, h1⟩ hc
            · exact scan_cols l _ _ _ (by omega) h1 hc
  | c :: l, a, .f b t, acc, ha, hm, hc => by
    rw [Sc.scan]
    have h1 : 1 ≤ a + 1 := by omega
    split
    · exact scan_cols l _ _ _ (by omega) trivial (hc.push hm)
    · split
      · exact hc.push hm
      · split
        · exact h1
        · split
          · exact scan_cols l _ _ _ (by omega) ⟨h1, hm⟩ hc
          · exact scan_cols l _ _ _ (by omega) hm hc
  | c :: l, a, .q q b t, acc, ha, hm, hc => by
    rw [Sc.scan]
    have h1 : 1 ≤ a + 1 := by omega
    split
    · exact h1
    · split
      · exact scan_cols l _ _ _ (by omega) hm.2 hc
      · exact scan_cols l _ _ _ (by omega) hm hc
theorem fields_cols (t : Txt) : ResOk (Sc.fields t) := by
  unfold Sc.fields
  split
  · show (1 : Int) ≤ 2049
    decide
  · exact scan_cols t 0 .b [] (by omega) trivial (fun x hx => by cases hx)
/-- Lines with numbers from one on, with fields, with columns from one on. -/
def LinesOk (L : List Ln) : Prop := ∀ l ∈ L, 1 ≤ l.1 ∧ l.2 ≠ [] ∧ Cols l.2
def LResOk : Sc.LRes → Prop
  | .ok L => LinesOk L
  | .bad l c w => 1 ≤ l ∧ 1 ≤ c ∧ w ≠ 0
theorem linesGo_ok : ∀ (A : List Txt) (no : Int) (acc : List Ln), 1 ≤ no → LinesOk acc → LResOk (Sc.linesGo A no acc)
  | [], no, acc, hn, ha => ha
  | t :: A, no, acc, hn, ha => by
    rw [Sc.linesGo]
    have hf := fields_cols t
    have hw := Sc.fields_why t
    cases h : Sc.fields t with
    | bad col why =>
      rw [h] at hf
      exact ⟨hn, hf, hw col why h⟩
    | ok f =>
      rw [h] at hf
      simp only []
      refine linesGo_ok A _ _ (by omega) ?_
      split
      · exact ha
      · rename_i hne
        intro l hl
        rw [List.mem_append] at hl
        rcases hl with hl | hl
        · exact ha l hl
        · rw [List.mem_singleton] at hl
          subst hl
          exact ⟨hn, hne, hf⟩
theorem colAt_ok (f : List (Txt × Int)) (place : Int) (hne : f ≠ []) (hc : Cols f) : 1 ≤ colAt f place := by
  have hl : 0 < f.length := List.length_pos_iff.mpr hne
  have hi : min place.toNat (f.length - 1) < f.length := by omega
  unfold colAt
  rw [List.getD_eq_getElem?_getD, List.getElem?_eq_getElem hi]
  exact hc _ (List.getElem_mem hi)
theorem eraStep_why (p : P R E) (s : St R E) (t : List Txt) (k : Nat) (place why : Int) (h : eraStep p s t k = .bad place why) : why ≠ 0 := by
  unfold eraStep at h
  split at h
  · cases h
  · rename_i h0
    cases h
    exact h0
theorem step_why (p : P R E) (s : St R E) (t : List Txt) (place why : Int) (h : step p s t = .bad place why) : why ≠ 0 := by
  unfold step at h
  split at h
  · split at h
    · cases h; decide
    · exact eraStep_why p s t 0 place why h
  · split at h
    · unfold ruleStep at h
      split at h
      · cases h; decide
      · split at h
        · cases h
        · rename_i h0; cases h; exact h0
    · split at h
      · unfold zoneStep at h
        split at h
        · cases h; decide
        · split at h
          · cases h; decide
          · split at h
            · cases h; decide
            · exact eraStep_why p _ t 2 place why h
      · split at h
        · unfold linkStep at h
          split at h
          · cases h; decide
          · split at h
            · cases h; decide
            · split at h
              · cases h; decide
              · split at h
                · cases h; decide
                · cases h
        · cases h; decide
theorem readGo_fault (p : P R E) : ∀ (L : List Ln) (s : St R E) (l c w : Int), LinesOk L → readGo p L s = .bad l c w → 1 ≤ l ∧ 1 ≤ c ∧ w ≠ 0
  | [], s, l, c, w, hL, h => by cases h
  | x :: L, s, l, c, w, hL, h => by
    rw [readGo_cons] at h
    obtain ⟨a1, a2, a3⟩ := hL x (List.mem_cons_self ..)
    cases h1 : step p s (x.2.map (·.1)) with
    | bad place why =>
      rw [h1] at h
      simp only [Par.bad.injEq] at h
      obtain ⟨e1, e2, e3⟩ := h
      subst e1 e2 e3
      exact ⟨a1, colAt_ok _ _ a2 a3, step_why p s _ _ _ h1⟩
    | ok s1 =>
      rw [h1] at h
      exact readGo_fault p L s1 l c w (fun y hy => hL y (List.mem_cons_of_mem _ hy)) h
theorem getLastD_mem : ∀ (L : List Ln) (d : Ln), L ≠ [] → L.getLastD d ∈ L
  | [], d, h => absurd rfl h
  | [x], d, h => by simp
  | x :: y :: L, d, h => by
    rw [List.getLastD_cons]
    exact List.mem_cons_of_mem _ (getLastD_mem (y :: L) x (by simp))
/-- A text that is not read has its fault. -/
theorem parse_fault (p : P R E) (s : Txt) (l c w : Int) (hs : s.length ≤ 1048576) (h : parse p s = .bad l c w) : 1 ≤ l ∧ 1 ≤ c ∧ w ≠ 0 := by
  unfold parse at h
  rw [linesGo_of s hs] at h
  have hL := linesGo_ok (Sc.splitNl s) 1 [] (by omega) (fun x hx => by cases hx)
  cases hl : Sc.linesGo (Sc.splitNl s) 1 [] with
  | bad l' c' w' =>
    rw [hl] at h hL
    cases h
    exact hL
  | ok L =>
    rw [hl] at h hL
    simp only [] at h
    unfold readAll at h
    cases hr : readGo p L St.none_ with
    | bad l' c' w' =>
      rw [hr] at h
      cases h
      exact readGo_fault p L St.none_ l c w hL hr
    | ok t =>
      rw [hr] at h
      simp only [finish] at h
      split at h
      · rename_i ho
        have hne : L ≠ [] := by
          intro e
          subst e
          simp only [readGo, Par.ok.injEq] at hr
          subst hr
          cases ho
        obtain ⟨a1, a2, a3⟩ := hL _ (getLastD_mem L (0, []) hne)
        simp only [Par.bad.injEq] at h
        obtain ⟨e1, e2, e3⟩ := h
        subst e1 e2 e3
        exact ⟨a1, colAt_ok _ _ a2 a3, by decide⟩
      · cases h
end Src
end Go.Proofs.YthmhadgbhakdlaaDoor
