/- markup: what the text of a chart is read as, in plain words. -/
import Derived.Test.YthmhadgbhakdlaaDoorP09
import Derived.OneCell
import Derived.WalkSmall

namespace Go.Proofs.YthmhadgbhakdlaaDoor
open Go.RowKit

namespace Mk
theorem res_plain {l : Txt} (h : (38 : UInt8) ∉ l) : resolve l = (l, 0, 0) := by
  unfold resolve
  rw [res_end (aft_none h)]
  rfl
/-- A name: a letter, and signs. -/
def IsName (nm : Txt) : Prop := begins nm = true ∧ ∀ b ∈ nm, sign b = true
theorem cut_name {nm r : Txt} (h : IsName nm) (hr : ∀ b, r.head? = some b → sign b = false) : cutN (nm ++ r) = (nm, r) := by
  have hb : begins (nm ++ r) = true := by
    cases nm with
    | nil => have := h.1; cases this
    | cons b l => exact h.1
  unfold cutN
  rw [hb, if_pos rfl]
  have h1 : (nm ++ r).takeWhile sign = nm ∧ (nm ++ r).dropWhile sign = r := by
    have h2 := h.2
    clear h hb
    induction nm with
    | nil =>
      cases r with
      | nil => exact ⟨rfl, rfl⟩
      | cons b l =>
        have := hr b rfl
        rw [List.nil_append, List.takeWhile_cons, List.dropWhile_cons, this]
        exact ⟨rfl, rfl⟩
    | cons b l ih =>
      have h3 := h2 b List.mem_cons_self
      have h4 := ih (fun x hx => h2 x (List.mem_cons_of_mem _ hx))
      rw [List.cons_append, List.takeWhile_cons, List.dropWhile_cons, h3]
      exact ⟨by rw [if_pos rfl, h4.1], by rw [if_pos rfl, h4.2]⟩
  rw [h1.1, h1.2]
theorem skip_hit {b : UInt8} {l : Txt} (h : white b = false) : skip (b :: l) = b :: l := by unfold skip; rw [List.dropWhile_cons, h]; rfl
theorem skip_blank (l : Txt) : skip (32 :: l) = skip l := by unfold skip; rw [List.dropWhile_cons]; rfl
theorem letter_white (b : UInt8) : letter b = true → white b = false := byte_all (P := fun b => letter b = true → white b = false) (by decide +kernel) b
theorem name_white {nm r : Txt} (h : IsName nm) : skip (nm ++ r) = nm ++ r := by
  cases nm with
  | nil => have := h.1; cases this
  | cons b l => exact skip_hit (letter_white b h.1)
/-- An attribute, and what is behind. -/
def attrT (nm v r : Txt) : Txt := nm ++ 61 :: 34 :: (v ++ 34 :: r)
theorem read_attr {nm v r : Txt} (h : IsName nm) (h34 : (34 : UInt8) ∉ v) (h60 : (60 : UInt8) ∉ v) : readAttr (attrT nm v r) = some ((nm, v), r) := by
  have hc : cutN (attrT nm v r) = (nm, 61 :: 34 :: (v ++ 34 :: r)) := cut_name h (fun b hb => by cases hb; rfl)
  have hne : nm ≠ [] := fun e => by have := h.1; rw [e] at this; cases this
  unfold readAttr
  rw [hc, if_neg hne]
  simp only
  rw [skip_hit (show white 61 = false from rfl)]
  simp only
  rw [skip_hit (show white 34 = false from rfl)]
  simp only
  rw [if_pos (.inl trivial), aft_app h34, aft_hit, if_neg (by simp), bef_app h34, bef_hit, List.append_nil, if_pos (aft_none h60)]
  rfl
theorem tg_attr {f : Nat} {tn nm v r : Txt} {ats : List (Txt × Txt)} (h : IsName nm) (h34 : (34 : UInt8) ∉ v) (h60 : (60 : UInt8) ∉ v) : tagGo (f + 1) tn (32 :: attrT nm v r) ats = tagGo f tn r (ats ++ [(nm, v)]) := by
  have hs : skip (32 :: attrT nm v r) = attrT nm v r := by rw [skip_blank]; exact name_white h
  have hl : 3 ≤ (attrT nm v r).length := by unfold attrT; simp; omega
  refine tg_on ?_ ?_ ?_ ?_
  · rw [hs]; intro e; rw [e] at hl; simp at hl
  · rw [hs]; intro e; rw [e] at hl; simp at hl
  · rw [hs, List.length_cons]; omega
  · rw [hs]; exact read_attr h h34 h60
def KEY : Txt := [107, 101, 121]
def TERR : Txt := [116, 101, 114, 114, 105, 116, 111, 114, 121]
def ZONES : Txt := [122, 111, 110, 101, 115]
def MAP : Txt := [109, 97, 112]
def CHART : Txt := [99, 104, 97, 114, 116]
theorem n_key : IsName KEY := ⟨by decide, by decide⟩
theorem n_terr : IsName TERR := ⟨by decide, by decide⟩
theorem n_zones : IsName ZONES := ⟨by decide, by decide⟩
theorem n_map : IsName MAP := ⟨by decide, by decide⟩
/-- What stands within the tag of an entry. -/
def mapIn (k t z : Txt) : Txt := MAP ++ 32 :: attrT KEY k (32 :: attrT TERR t (32 :: attrT ZONES z [47]))
def mapTag (k t z : Txt) : Txt := 60 :: (mapIn k t z ++ [62])
/-- Signs that need no reference. -/
def Clean (v : Txt) : Prop := (34 : UInt8) ∉ v ∧ (60 : UInt8) ∉ v
theorem read_map {k t z : Txt} (hk : Clean k) (ht : Clean t) (hz : Clean z) : readTag (mapIn k t z) = some ⟨MAP, [(KEY, k), (TERR, t), (ZONES, z)], true, true⟩ := by
  have hc : cutN (mapIn k t z) = (MAP, 32 :: attrT KEY k (32 :: attrT TERR t (32 :: attrT ZONES z [47]))) := cut_name n_map (fun b hb => by cases hb; rfl)
  have hno : ∀ r, mapIn k t z ≠ 47 :: r := fun r e => by
    have := congrArg List.head? e
    cases this
  obtain ⟨f, hf⟩ : ∃ f, (mapIn k t z).length + 1 = f + 1 + 1 + 1 + 1 := ⟨(mapIn k t z).length - 3, by unfold mapIn MAP; simp⟩
  rw [rt_go hno (by rw [hc]; intro h; cases h), hc, hf]
  simp only
  rw [tg_attr n_key hk.1 hk.2, tg_attr n_terr ht.1 ht.2, tg_attr n_zones hz.1 hz.2]
  exact tg_close rfl
theorem scan_plain : ∀ (a : Txt) (i : Nat) (r : Txt), (∀ b ∈ a, b ≠ 34 ∧ b ≠ 39 ∧ b ≠ 62) → scanQ none i (a ++ r) = scanQ none (i + a.length) r
  | [], i, r, _ => rfl
  | b :: a, i, r, h => by
    obtain ⟨h1, h2, h3⟩ := h b List.mem_cons_self
    rw [List.cons_append, scanQ, if_neg (by rintro (e | e); exact h1 e; exact h2 e), if_neg h3, scan_plain a (i + 1) r (fun x hx => h x (List.mem_cons_of_mem _ hx)), List.length_cons]
    congr 1
    omega
theorem scan_quoted (v : Txt) (i : Nat) (r : Txt) (h : (34 : UInt8) ∉ v) : scanQ none i (34 :: (v ++ 34 :: r)) = scanQ none (i + v.length + 2) r := by
  rw [scanQ, if_pos (.inl rfl), scan_thru 34 v h]
  congr 1
  omega
theorem scan_attr {nm v r : Txt} {i : Nat} (hn : ∀ b ∈ nm, b ≠ 34 ∧ b ≠ 39 ∧ b ≠ 62) (h : (34 : UInt8) ∉ v) : scanQ none i (attrT nm v r) = scanQ none (i + (nm.length + v.length + 3)) r := by
  unfold attrT
  rw [scan_plain nm i _ hn, show (61 :: 34 :: (v ++ 34 :: r) : Txt) = [61] ++ 34 :: (v ++ 34 :: r) from rfl, scan_plain [61] _ _ (by decide), scan_quoted v _ _ h]
  congr 1
  simp only [List.length_cons, List.length_nil]
  omega
theorem scan_blank {i : Nat} {r : Txt} : scanQ none i (32 :: r) = scanQ none (i + 1) r := rfl
theorem end_map {k t z : Txt} (r : Txt) (hk : Clean k) (ht : Clean t) (hz : Clean z) : pieceEnd (mapTag k t z ++ r) = some (mapTag k t z).length := by
  have h : pieceEnd (mapTag k t z ++ r) = scanQ none 1 (mapIn k t z ++ 62 :: r) := by
    unfold pieceEnd mapTag
    rw [if_neg (by simp [comm, mapIn, MAP, List.isPrefixOf]), if_neg (by simp [note, mapIn, MAP, List.isPrefixOf])]
    simp
  have hq : ∀ nm v a b : Txt, attrT nm v a ++ b = attrT nm v (a ++ b) := fun nm v a b => by unfold attrT; simp
  rw [h]
  unfold mapIn
  rw [List.append_assoc, scan_plain MAP _ _ (by decide), List.cons_append, hq, List.cons_append, hq, List.cons_append, hq, scan_blank, scan_attr (by decide) hk.1, scan_blank, scan_attr (by decide) ht.1, scan_blank, scan_attr (by decide) hz.1]
  rw [show ([47] ++ 62 :: r : Txt) = [47] ++ 62 :: r from rfl, scan_plain [47] _ _ (by decide), scanQ, if_neg (by decide), if_pos rfl]
  unfold mapTag mapIn attrT MAP KEY TERR ZONES
  simp only [List.length_append, List.length_cons, List.length_nil]
  congr 1
  omega
/-- An entry: its key, its territory, its zones, put together. -/
abbrev En := Txt × Txt × Txt
structure EnOk (e : En) : Prop where
  t : Clean e.2.1 ∧ (38 : UInt8) ∉ e.2.1
  z : Clean e.2.2 ∧ (38 : UInt8) ∉ e.2.2
theorem clean_esc (k : Txt) : Clean (esc k) := ⟨(esc_not k).2.1, (esc_not k).1⟩
def enTag (e : En) : Txt := mapTag (esc e.1) e.2.1 e.2.2
def enAts (e : En) : List (Txt × Txt) := [(KEY, e.1), (TERR, e.2.1), (ZONES, e.2.2)]
theorem resAll_en {e : En} (h : EnOk e) : resAll [(KEY, esc e.1), (TERR, e.2.1), (ZONES, e.2.2)] = .inr (enAts e) := by
  have h1 := resolve_esc e.1
  have h2 := res_plain h.t.2
  have h3 := res_plain h.z.2
  unfold enAts
  simp [resAll, h1, h2, h3]
theorem tag_in (k t z : Txt) : ((mapTag k t z).drop 1).take ((mapTag k t z).length - 2) = mapIn k t z := by
  unfold mapTag
  rw [List.drop_one, List.tail_cons, List.length_cons, List.length_append]
  simp
theorem piece_map {e : En} (h : EnOk e) (p : Nat) (T : List T) : piece (enTag e) p ⟨T, [CHART], true⟩ = .inr ⟨T ++ [⟨1, MAP, enAts e, [], p⟩, ⟨2, MAP, [], [], p⟩], [CHART], true⟩ := by
  have hr : readTag (((enTag e).drop 1).take ((enTag e).length - 2)) = some ⟨MAP, [(KEY, esc e.1), (TERR, e.2.1), (ZONES, e.2.2)], true, true⟩ := by
    unfold enTag
    rw [tag_in]
    exact read_map (clean_esc _) h.t.1 h.z.1
  have hb : begin_ ⟨MAP, [(KEY, esc e.1), (TERR, e.2.1), (ZONES, e.2.2)], true, true⟩ p ⟨T, [CHART], true⟩ = .inr ⟨T ++ [⟨1, MAP, enAts e, [], p⟩], [CHART, MAP], true⟩ := by
    unfold begin_
    rw [if_neg (by rintro ⟨_, h⟩; cases h), if_neg (by simp), if_neg (by simp [twice, KEY, TERR, ZONES]), resAll_en h]
    rfl
  unfold piece
  rw [if_neg (show ¬ comm.isPrefixOf (enTag e) = true by simp [enTag, mapTag, comm, mapIn, MAP, List.isPrefixOf]), if_neg (show ¬ note.isPrefixOf (enTag e) = true by simp [enTag, mapTag, note, mapIn, MAP, List.isPrefixOf]), hr]
  simp only [if_true]
  rw [hb]
  simp only
  unfold finish
  rw [if_pos (show ([CHART, MAP] : List Txt).getLast? = some MAP from rfl)]
  simp
/-- What is behind the first tag of a chart's text. -/
def body : List En → Txt
  | [] => [10, 60, 47, 99, 104, 97, 114, 116, 62, 10]
  | e :: l => [10, 32, 32] ++ (enTag e ++ body l)
def chartT (l : List En) : Txt := [60, 99, 104, 97, 114, 116, 62] ++ body l
/-- The parts of it. -/
def ents : Nat → List En → List T
  | p, [] => [⟨3, [], [], [10], p⟩, ⟨2, CHART, [], [], p + 1⟩]
  | p, e :: l => ⟨3, [], [], [10, 32, 32], p⟩ :: ⟨1, MAP, enAts e, [], p + 3⟩ :: ⟨2, MAP, [], [], p + 3⟩ :: ents (p + 3 + (enTag e).length) l
theorem tag_head (k t z : Txt) (r : Txt) : ∃ x, mapTag k t z ++ r = 60 :: x := ⟨_, rfl⟩
theorem between_open {pre : Txt} {p : Nat} {T : List T} {op : List Txt} {ro : Bool} (ho : op ≠ []) (hp : pre ≠ []) (h : (38 : UInt8) ∉ pre) : between pre p ⟨T, op, ro⟩ = .inr ⟨T ++ [⟨3, [], [], pre, p⟩], op, ro⟩ := by
  unfold between
  rw [if_neg ho, if_neg hp, res_plain h, if_neg (by simp)]
theorem body_len (l : List En) : 10 ≤ (body l).length := by
  induction l with
  | nil => exact Nat.le_refl _
  | cons e l ih => unfold body; simp only [List.length_append]; omega
theorem thr_body : ∀ (l : List En) (f p : Nat) (T : List T), (∀ e ∈ l, EnOk e) → (body l).length < f → thr f (body l) p ⟨T, [CHART], true⟩ = .inr ⟨T ++ ents p l, [], true⟩
  | [], f, p, T, _, hf => by
    obtain ⟨f, rfl⟩ : ∃ k, f = k + 2 := ⟨f - 2, by have : (body []).length = 10 := rfl; omega⟩
    have hb : between [10] p ⟨T, [CHART], true⟩ = .inr ⟨T ++ [⟨3, [], [], [10], p⟩], [CHART], true⟩ := between_open (by simp) (by simp) (by decide)
    have hp : piece [60, 47, 99, 104, 97, 114, 116, 62] (p + 1) ⟨T ++ [⟨3, [], [], [10], p⟩], [CHART], true⟩ = .inr ⟨T ++ [⟨3, [], [], [10], p⟩] ++ [⟨2, CHART, [], [], p + 1⟩], [], true⟩ := by
      unfold piece
      rw [if_neg (by decide), if_neg (by decide)]
      rfl
    rw [thr, show bef 60 (body []) = [10] from rfl, hb]
    simp only
    rw [show aft 60 (body []) = [60, 47, 99, 104, 97, 114, 116, 62, 10] from rfl, if_neg (by simp), show pieceEnd [60, 47, 99, 104, 97, 114, 116, 62, 10] = some 8 from rfl]
    simp only
    rw [show ([60, 47, 99, 104, 97, 114, 116, 62, 10] : Txt).take 8 = [60, 47, 99, 104, 97, 114, 116, 62] from rfl, show ([10] : Txt).length = 1 from rfl, hp]
    simp only
    rw [show ([60, 47, 99, 104, 97, 114, 116, 62, 10] : Txt).drop 8 = [10] from rfl, thr, show bef 60 [10] = [10] from rfl, show aft 60 [10] = [] from rfl]
    unfold between
    simp only
    rw [if_pos trivial, if_pos (show skip [10] = [] from rfl)]
    simp [ents]
  | e :: l, f, p, T, he, hf => by
    obtain ⟨f, rfl⟩ : ∃ k, f = k + 1 := ⟨f - 1, by omega⟩
    have hok := he e List.mem_cons_self
    have hb : between [10, 32, 32] p ⟨T, [CHART], true⟩ = .inr ⟨T ++ [⟨3, [], [], [10, 32, 32], p⟩], [CHART], true⟩ := between_open (by simp) (by simp) (by decide)
    obtain ⟨x, hx⟩ := tag_head (esc e.1) e.2.1 e.2.2 (body l)
    have hx2 : enTag e ++ body l = 60 :: x := hx
    have hbd : body (e :: l) = [10, 32, 32] ++ (enTag e ++ body l) := rfl
    have h1 : bef 60 (body (e :: l)) = [10, 32, 32] := by
      rw [hbd, hx2, bef_app (by decide), bef_hit, List.append_nil]
    have h2 : aft 60 (body (e :: l)) = enTag e ++ body l := by
      rw [hbd, hx2, aft_app (by decide), aft_hit]
    have h3 : pieceEnd (enTag e ++ body l) = some (enTag e).length := end_map (body l) (clean_esc _) hok.t.1 hok.z.1
    have hlen : (body (e :: l)).length = 3 + ((enTag e).length + (body l).length) := by
      rw [body, List.length_append, List.length_append]
      rfl
    have hn : 0 < (enTag e).length := by unfold enTag mapTag; simp
    rw [thr, h1, hb]
    simp only
    rw [h2, if_neg (by rw [hx2]; simp), h3]
    simp only
    rw [List.take_left, show ([10, 32, 32] : Txt).length = 3 from rfl, piece_map hok]
    simp only
    rw [List.drop_left, thr_body l f _ _ (fun y hy => he y (List.mem_cons_of_mem _ hy)) (by omega)]
    simp [ents]
/-- What a chart's text is read as. -/
theorem tokens_chart (l : List En) (h : ∀ e ∈ l, EnOk e) : tokens (chartT l) = .inr ⟨⟨1, CHART, [], [], 0⟩ :: ents 7 l, [], true⟩ := by
  have hl := body_len l
  have hlen : (chartT l).length = 7 + (body l).length := by unfold chartT; rw [List.length_append]; rfl
  have he : pieceEnd (chartT l) = some 7 := by
    have h1 : pieceEnd (chartT l) = scanQ none 1 ([99, 104, 97, 114, 116] ++ 62 :: body l) := by
      unfold pieceEnd chartT
      rw [if_neg (by simp [comm, List.isPrefixOf]), if_neg (by simp [note, List.isPrefixOf])]
      rfl
    rw [h1, scan_plain _ _ _ (by decide), scanQ, if_neg (by decide), if_pos rfl]
    rfl
  have hp : piece [60, 99, 104, 97, 114, 116, 62] 0 start = .inr ⟨[⟨1, CHART, [], [], 0⟩], [CHART], true⟩ := by rfl
  unfold tokens
  rw [thr, show bef 60 (chartT l) = [] from rfl, show aft 60 (chartT l) = chartT l from rfl]
  rw [show between [] 0 start = .inr start from rfl]
  simp only
  rw [if_neg (by unfold chartT; simp), he]
  simp only
  rw [show (chartT l).take 7 = [60, 99, 104, 97, 114, 116, 62] from rfl, show 0 + ([] : Txt).length = 0 from rfl, hp]
  simp only
  rw [show (chartT l).drop 7 = body l from rfl, thr_body l _ _ _ h (by rw [hlen]; omega)]
  rfl
end Mk
end Go.Proofs.YthmhadgbhakdlaaDoor

/- markup: many rows of a call's own, no two in one block (XMany, here without era). -/
namespace Go.Proofs.YthmhadgbhakdlaaDoor
open Go.RowKit

namespace Mk
/-- A row: what it has of each element, its value, how many, its cells. -/
structure Row where
  e : TypeId
  size : Nat
  v : Value
  n : Nat
  xs : List Value
def apartV (a b : Value) : Prop := a.ownBlock = none ∨ a.ownBlock ≠ b.ownBlock
theorem apartV.symm {a b : Value} (h : apartV a b) : apartV b a := by
  unfold apartV at h ⊢
  rcases h with h | h
  · cases e : b.ownBlock with
    | none => exact .inl rfl
    | some k => right; rw [h]; simp
  · exact .inr fun x => h x.symm
structure Many (B : Nat) (w : World) (rs : List Row) : Prop where
  own : ∀ r ∈ rs, w.ownsRow B r.e r.size r.v r.n r.xs
  apart : rs.Pairwise fun a b => apartV a.v b.v
section
variable {B : Nat} {w w' : World} {rs l1 l2 : List Row} {r : Row}
theorem Many.nil_ : Many B w [] := ⟨fun r h => (by cases h), .nil⟩
theorem Many.call (h : Many B w rs) (hb : Below w.heap.size w w') : Many B w' rs := ⟨fun r hr => own_below (h.own r hr) hb, h.apart⟩
theorem Many.alloc (h : Many B w rs) (o : Obj) : Many B (w.alloc o) rs := ⟨fun r hr => (h.own r hr).alloc o, h.apart⟩
theorem Many.setBelow (h : Many B w rs) {p : Addr} (hp : p.block < B) (u : Value) : Many B (w.setCell p u) rs := ⟨fun r hr => ownsRow_setCell_below (h.own r hr) hp u, h.apart⟩
theorem Many.perm {rs' : List Row} (h : Many B w rs) (hp : rs.Perm rs') : Many B w rs' :=
  ⟨fun r hr => h.own r (hp.mem_iff.2 hr), hp.pairwise h.apart fun h => apartV.symm h⟩
/-- The row at the head is written, or has grown into a new block. -/
theorem Many.grow {v' : Value} {n' : Nat} {xs' : List Value} (h : Many B w (r :: rs)) (o : Obj) (hown : w'.ownsRow B r.e r.size v' n' xs') (hg : (w.alloc o).grownBy w' r.v.ownBlock) (hat : v'.ownBlock = r.v.ownBlock ∨ v'.ownBlock = some (w.alloc o).heap.size) :
    Many B w' (⟨r.e, r.size, v', n', xs'⟩ :: rs) := by
  have ha := List.pairwise_cons.1 h.apart
  have hk : ∀ x ∈ rs, w'.ownsRow B x.e x.size x.v x.n x.xs := fun x hx => ((h.own x (List.mem_cons_of_mem _ hx)).alloc o).kept hg (ha.1 x hx).symm
  refine ⟨fun x hx => ?_, List.pairwise_cons.2 ⟨fun x hx => ?_, ha.2⟩⟩
  · rcases List.mem_cons.1 hx with rfl | hx
    · exact hown
    · exact hk x hx
  · show apartV v' x.v
    rcases hat with e | e
    · unfold apartV; rw [e]; exact ha.1 x hx
    · refine apartV.symm ?_
      unfold apartV
      rw [e]
      cases ex : x.v.ownBlock with
      | none => exact .inl rfl
      | some k =>
        right
        have := ((h.own x (List.mem_cons_of_mem _ hx)).lt k ex).2
        intro z
        have hk : k = (w.alloc o).heap.size := Option.some.inj z
        rw [World.size_alloc] at hk
        omega
/-- A row more, that has no block. -/
theorem Many.add0 (h : Many B w rs) (e : TypeId) (size : Nat) : Many B w (⟨e, size, .slice none 0 0, 0, []⟩ :: rs) :=
  ⟨fun x hx => by rcases List.mem_cons.1 hx with rfl | hx; exact World.ownsRow_nil _ _ _ _; exact h.own x hx, List.pairwise_cons.2 ⟨fun x _ => .inl rfl, h.apart⟩⟩
/-- A row more, whose block was made by a callee. -/
theorem Many.addNew (h : Many B w rs) (hb : Below w.heap.size w w') (hB : B ≤ w.heap.size) (hown : w'.ownsRow w.heap.size r.e r.size r.v r.n r.xs) : Many B w' (r :: rs) := by
  have hB' : w'.ownsRow B r.e r.size r.v r.n r.xs := by
    refine ⟨hown.1, ?_⟩
    rcases hown.2 with hn | ⟨g, cap, cur, hv, h1, rest⟩
    · exact .inl hn
    · exact .inr ⟨g, cap, cur, hv, Nat.le_trans hB h1, rest⟩
  refine ⟨fun x hx => ?_, List.pairwise_cons.2 ⟨fun x hx => ?_, h.apart⟩⟩
  · rcases List.mem_cons.1 hx with rfl | hx
    · exact hB'
    · exact own_below (h.own x hx) hb
  · refine apartV.symm ?_
    unfold apartV
    cases ex : x.v.ownBlock with
    | none => exact .inl rfl
    | some k =>
      right
      have h1 := ((h.own x hx).lt k ex).2
      intro z
      have h2 := (hown.lt k z.symm).1
      omega
/-- A store into the head row's own cells. -/
theorem Many.store {g n cap : Nat} {e : TypeId} {size : Nat} {xs : List Value} (h : Many B w (⟨e, size, .slice (some ⟨g, 0, none⟩) n cap, n, xs⟩ :: rs)) (j : Nat) (u : Value) :
    Many B (w.setCell ⟨g, j, none⟩ u) (⟨e, size, .slice (some ⟨g, 0, none⟩) n cap, n, xs.set j u⟩ :: rs) := by
  have ha := List.pairwise_cons.1 h.apart
  refine ⟨fun x hx => ?_, List.pairwise_cons.2 ⟨fun x hx => ha.1 x hx, ha.2⟩⟩
  rcases List.mem_cons.1 hx with rfl | hx
  · exact ((h.own _ List.mem_cons_self).stored j u).1
  · exact ownsRow_setCell_other (h.own x (List.mem_cons_of_mem _ hx)) (by
      rcases (ha.1 x hx).symm with e | e
      · rw [e]; simp
      · exact e) u
end
end Mk
end Go.Proofs.YthmhadgbhakdlaaDoor

/- markup: a walk that is held, and what its methods keep. -/
namespace Go.Proofs.YthmhadgbhakdlaaDoor
open Go.RowKit

namespace Mk
/-- All that lay is kept, but S. -/
structure Kp (S : Nat → Prop) (w w' : World) : Prop where
  os : w'.os = w.os
  tape : w'.tape = w.tape
  output : w'.output = w.output
  size : w.heap.size ≤ w'.heap.size
  block : ∀ k, k < w.heap.size → ¬ S k → w'.heap[k]? = w.heap[k]?
section
variable {S S' : Nat → Prop} {a b w w' : World}
theorem Kp.refl (S : Nat → Prop) (w : World) : Kp S w w := ⟨rfl, rfl, rfl, Nat.le_refl _, fun _ _ _ => rfl⟩
theorem Kp.of_below (h : Below w.heap.size w w') : Kp S w w' := ⟨h.os, h.tape, h.output, h.size, fun k hk _ => h.block k hk⟩
theorem Kp.trans (h : Kp S a b) (k : Kp S' b w) (hS : ∀ j, j < a.heap.size → S' j → S j) : Kp S a w :=
  ⟨k.os.trans h.os, k.tape.trans h.tape, k.output.trans h.output, Nat.le_trans h.size k.size, fun i hi hn => (k.block i (Nat.lt_of_lt_of_le hi h.size) (fun x => hn (hS i hi x))).trans (h.block i hi hn)⟩
theorem Kp.then_ (h : Kp S a b) (k : Below b.heap.size b w) : Kp S a w := h.trans (Kp.of_below (S := S) k) fun _ _ x => x
theorem Kp.at_ {g : Nat} {xs : List Value} (k : Kp S w w') (h : At w g xs) (hb : ¬ S g) : At w' g xs := by
  have e := k.block g h.lt hb
  exact ⟨Nat.lt_of_lt_of_le h.1 k.size, fun i v hi => ⟨(World.cell?_of_block (a := ⟨g, i, none⟩) e).trans (h.2 i v hi).1, (World.frozen?_of_block (a := ⟨g, i, none⟩) e).trans (h.2 i v hi).2⟩⟩
theorem Kp.below {B : Nat} (k : Kp S w w') (hS : ∀ j, S j → B ≤ j) (hB : B ≤ w.heap.size) : Below B w w' :=
  ⟨k.os, k.tape, k.output, k.size, fun i hi => k.block i (by omega) (fun x => by have := hS i x; omega)⟩
theorem Kp.grown {row : Option Nat} (k : Kp S a w) (hg : w.grownBy w' row) (hr : ∀ j, row = some j → j < a.heap.size → S j) : Kp S a w' :=
  ⟨hg.os.trans k.os, hg.tape.trans k.tape, hg.output.trans k.output, Nat.le_trans k.size hg.size, fun i hi hn => (hg.block i (Nat.lt_of_lt_of_le hi k.size) (fun e => hn (hr i e.symm hi))).trans (k.block i hi hn)⟩
theorem Kp.set (k : Kp S a w) {p : Addr} (hp : p.block < a.heap.size → S p.block) (v : Value) : Kp S a (w.setCell p v) :=
  ⟨k.os, k.tape, k.output, by rw [heap_set]; exact k.size, fun i hi hn => (Below.heap_setCell _ _ _ _ (fun e => by subst e; exact hn (hp hi))).trans (k.block i hi hn)⟩
theorem Kp.alloc (k : Kp S a w) (o : Obj) : Kp S a (w.alloc o) := k.then_ (below_new w o)
theorem Kp.drewN (k : Kp S a w) (n : Nat) : Kp S a (w.drewN n) := ⟨k.os, k.tape, k.output, k.size, k.block⟩
theorem Kp.more (k : Kp S a w) (hS : ∀ j, j < a.heap.size → S j → S' j) : Kp S' a w := ⟨k.os, k.tape, k.output, k.size, fun i hi hn => k.block i hi (fun x => hn (hS i hi x))⟩
end
section
variable {B : Nat} {w w' : World} {rs : List Row} {r : Row}
/-- The row at the head is written, or has grown into a new block. -/
theorem Many.grow1 {v' : Value} {n' : Nat} {xs' : List Value} (h : Many B w (r :: rs)) (hown : w'.ownsRow B r.e r.size v' n' xs') (hg : w.grownBy w' r.v.ownBlock) (hat : v'.ownBlock = r.v.ownBlock ∨ v'.ownBlock = some w.heap.size) :
    Many B w' (⟨r.e, r.size, v', n', xs'⟩ :: rs) := by
  have ha := List.pairwise_cons.1 h.apart
  have hk : ∀ x ∈ rs, w'.ownsRow B x.e x.size x.v x.n x.xs := fun x hx => (h.own x (List.mem_cons_of_mem _ hx)).kept hg (ha.1 x hx).symm
  refine ⟨fun x hx => ?_, List.pairwise_cons.2 ⟨fun x hx => ?_, ha.2⟩⟩
  · rcases List.mem_cons.1 hx with rfl | hx
    · exact hown
    · exact hk x hx
  · show apartV v' x.v
    rcases hat with e | e
    · unfold apartV; rw [e]; exact ha.1 x hx
    · refine apartV.symm ?_
      unfold apartV
      rw [e]
      cases ex : x.v.ownBlock with
      | none => exact .inl rfl
      | some k =>
        right
        have := ((h.own x (List.mem_cons_of_mem _ hx)).lt k ex).2
        intro z
        have hk : k = w.heap.size := Option.some.inj z
        omega
theorem Many.drewN (h : Many B w rs) (n : Nat) : Many B (w.drewN n) rs := ⟨fun r hr => h.own r hr, h.apart⟩
theorem Many.more {B' : Nat} (h : Many B w rs) (hB : B' ≤ B) : Many B' w rs := ⟨fun r hr => own_mono (h.own r hr) hB, h.apart⟩
end
theorem At.grownO {w w' : World} {h : Nat} {row : Option Nat} {xs : List Value} (a : At w h xs) (hg : w.grownBy w' row) (hne : row ≠ some h) : At w' h xs := by
  have e := hg.block h a.lt (fun x => hne x.symm)
  exact ⟨Nat.lt_of_lt_of_le a.1 hg.size, fun i v hi => ⟨(World.cell?_of_block (a := ⟨h, i, none⟩) e).trans (a.2 i v hi).1, (World.frozen?_of_block (a := ⟨h, i, none⟩) e).trans (a.2 i v hi).2⟩⟩
/-- The cells of a part. -/
def tkv (t : T) (v : Value) : List Value := [.int .u8 (t.kind : Int), .string (bts t.name), v, .string (bts t.text), .int .i64 (t.at_ : Int)]
def tkCells : List T → List Value → List Value
  | t :: l, v :: vs => tkv t v ++ tkCells l vs
  | _, _ => []
theorem tkCells_snoc : ∀ (l : List T) (vs : List Value) (t : T) (v : Value), vs.length = l.length → tkCells (l ++ [t]) (vs ++ [v]) = tkCells l vs ++ tkv t v
  | [], [], t, v, _ => by simp [tkCells]
  | x :: l, u :: vs, t, v, h => by
    rw [List.cons_append, List.cons_append, tkCells, tkCells, tkCells_snoc l vs t v (by simpa using h), List.append_assoc]
  | [], _ :: _, _, _, h => by simp at h
  | _ :: _, [], _, _, h => by simp at h
def atRow (t : T) (v : Value) : Row := ⟨75, 2, v, t.attrs.length, atCells t.attrs⟩
def atRows : List T → List Value → List Row
  | t :: l, v :: vs => atRow t v :: atRows l vs
  | _, _ => []
theorem atRows_snoc : ∀ (l : List T) (vs : List Value) (t : T) (v : Value), vs.length = l.length → atRows (l ++ [t]) (vs ++ [v]) = atRows l vs ++ [atRow t v]
  | [], [], t, v, _ => by simp [atRows]
  | x :: l, u :: vs, t, v, h => by
    rw [List.cons_append, List.cons_append, atRows, atRows, atRows_snoc l vs t v (by simpa using h), List.cons_append]
  | [], _ :: _, _, _, h => by simp at h
  | _ :: _, [], _, _, h => by simp at h
def opCells (l : List Txt) : List Value := l.map fun t => .string (bts t)
def tkRow (l : List T) (tv : Value) (avs : List Value) : Row := ⟨59, 5, tv, l.length, tkCells l avs⟩
def opRow (l : List Txt) (ov : Value) : Row := ⟨9, 1, ov, l.length, opCells l⟩
/-- A walk in block g: its text, its parts, the names that are open; and rows beside. -/
structure Wk (w : World) (g : Nat) (s : ByteArray) (st : S) (tv ov : Value) (avs : List Value) (ex : List Row) : Prop where
  at_ : At w g [.string s, tv, ov, .bool st.rooted]
  len : avs.length = st.toks.length
  many : Many (g + 1) w (tkRow st.toks tv avs :: opRow st.opened ov :: (ex ++ atRows st.toks avs))
section
variable {w w' : World} {g : Nat} {s : ByteArray} {st : S} {tv ov : Value} {avs : List Value} {ex : List Row}
theorem Wk.call (h : Wk w g s st tv ov avs ex) (hb : Below w.heap.size w w') : Wk w' g s st tv ov avs ex := ⟨h.at_.call hb, h.len, h.many.call hb⟩
theorem Wk.alloc (h : Wk w g s st tv ov avs ex) (o : Obj) : Wk (w.alloc o) g s st tv ov avs ex := h.call (below_new w o)
theorem Wk.drewN (h : Wk w g s st tv ov avs ex) (n : Nat) : Wk (w.drewN n) g s st tv ov avs ex := ⟨h.at_.drew ⟨n, rfl⟩, h.len, h.many.drewN n⟩
theorem Wk.tk (h : Wk w g s st tv ov avs ex) : w.ownsRow (g + 1) 59 5 tv st.toks.length (tkCells st.toks avs) := h.many.own _ List.mem_cons_self
theorem Wk.op (h : Wk w g s st tv ov avs ex) : w.ownsRow (g + 1) 9 1 ov st.opened.length (opCells st.opened) := h.many.own _ (List.mem_cons_of_mem _ List.mem_cons_self)
theorem Wk.tk_ne (h : Wk w g s st tv ov avs ex) : tv.ownBlock ≠ some g := fun e => by have := (h.tk.lt g e).1; omega
theorem Wk.op_ne (h : Wk w g s st tv ov avs ex) : ov.ownBlock ≠ some g := fun e => by have := (h.op.lt g e).1; omega
/-- A row beside, without a block. -/
theorem Wk.add0 (h : Wk w g s st tv ov avs ex) (e : TypeId) (size : Nat) : Wk w g s st tv ov avs (⟨e, size, .slice none 0 0, 0, []⟩ :: ex) :=
  ⟨h.at_, h.len, (h.many.add0 e size).perm (by
    simp only [List.cons_append]
    exact (List.Perm.swap _ _ _).trans (List.Perm.cons _ (List.Perm.swap _ _ _)))⟩
/-- A row beside, whose block was made by a callee. -/
theorem Wk.addNew {r : Row} (h : Wk w g s st tv ov avs ex) (hb : Below w.heap.size w w') (hown : w'.ownsRow w.heap.size r.e r.size r.v r.n r.xs) : Wk w' g s st tv ov avs (r :: ex) :=
  ⟨h.at_.call hb, h.len, (h.many.addNew hb h.at_.lt hown).perm (by
    simp only [List.cons_append]
    exact (List.Perm.swap _ _ _).trans (List.Perm.cons _ (List.Perm.swap _ _ _)))⟩
/-- A part more. -/
theorem Wk.push {t : T} {v v' : Value} {n' : Nat} (h : Wk w g s st tv ov avs (atRow t v :: ex)) (hn : n' = st.toks.length + 1) (hown : w'.ownsRow (g + 1) 59 5 v' n' (tkCells st.toks avs ++ tkv t v)) (hg : w.grownBy w' tv.ownBlock) (hat : v'.ownBlock = tv.ownBlock ∨ v'.ownBlock = some w.heap.size) :
    Wk (w'.setCell ⟨g, 1, none⟩ v') g s ⟨st.toks ++ [t], st.opened, st.rooted⟩ v' ov (avs ++ [v]) ex := by
  subst hn
  refine ⟨(At.grownO h.at_ hg h.tk_ne).set 1 v', by simp [h.len], ?_⟩
  have h1 := (h.many.grow1 (v' := v') (n' := st.toks.length + 1) (xs' := tkCells st.toks avs ++ tkv t v) hown hg hat).setBelow (p := ⟨g, 1, none⟩) (Nat.lt_succ_self g) v'
  have e1 : tkRow (st.toks ++ [t]) v' (avs ++ [v]) = ⟨59, 5, v', st.toks.length + 1, tkCells st.toks avs ++ tkv t v⟩ := by
    unfold tkRow
    rw [tkCells_snoc _ _ _ _ h.len, List.length_append]
    rfl
  show Many (g + 1) _ (tkRow (st.toks ++ [t]) v' (avs ++ [v]) :: opRow st.opened ov :: (ex ++ atRows (st.toks ++ [t]) (avs ++ [v])))
  rw [e1, atRows_snoc _ _ _ _ h.len]
  refine h1.perm (List.Perm.cons _ (List.Perm.cons _ ?_))
  rw [← List.append_assoc]
  exact (List.perm_append_singleton _ _).symm
/-- A name more that is open. -/
theorem Wk.pushO {nm : Txt} {v' : Value} {n' : Nat} (h : Wk w g s st tv ov avs ex) (hn : n' = st.opened.length + 1) (hown : w'.ownsRow (g + 1) 9 1 v' n' (opCells st.opened ++ [.string (bts nm)])) (hg : w.grownBy w' ov.ownBlock) (hat : v'.ownBlock = ov.ownBlock ∨ v'.ownBlock = some w.heap.size) :
    Wk (w'.setCell ⟨g, 2, none⟩ v') g s ⟨st.toks, st.opened ++ [nm], st.rooted⟩ tv v' avs ex := by
  subst hn
  refine ⟨(At.grownO h.at_ hg h.op_ne).set 2 v', h.len, ?_⟩
  have h0 := h.many.perm (List.Perm.swap _ _ _)
  have h1 := (h0.grow1 (v' := v') (n' := st.opened.length + 1) (xs' := opCells st.opened ++ [.string (bts nm)]) hown hg hat).setBelow (p := ⟨g, 2, none⟩) (Nat.lt_succ_self g) v'
  have e1 : opRow (st.opened ++ [nm]) v' = ⟨9, 1, v', st.opened.length + 1, opCells st.opened ++ [.string (bts nm)]⟩ := by
    unfold opRow opCells
    rw [List.map_append, List.length_append]
    rfl
  show Many (g + 1) _ (tkRow st.toks tv avs :: opRow (st.opened ++ [nm]) v' :: (ex ++ atRows st.toks avs))
  rw [e1]
  exact h1.perm (List.Perm.swap _ _ _)
/-- The last name is closed. -/
theorem Wk.pop {A : Option Addr} {n c : Nat} (h : Wk w g s st tv (.slice A (n + 1) c) avs ex) (hn : st.opened.length = n + 1) :
    Wk (w.setCell ⟨g, 2, none⟩ (.slice A n c)) g s ⟨st.toks, st.opened.dropLast, st.rooted⟩ tv (.slice A n c) avs ex := by
  have hown := h.op
  rw [hn] at hown
  obtain ⟨gb, cap, e, _, _⟩ := hown.form (Nat.succ_pos n)
  injection e with e _ e2
  subst e e2
  have hne : st.opened ≠ [] := fun e => by rw [e] at hn; cases hn
  have hsp : opCells st.opened = opCells st.opened.dropLast ++ opCells [st.opened.getLast hne] := by
    unfold opCells
    rw [← List.map_append, List.dropLast_concat_getLast]
  have hdl : st.opened.dropLast.length = n := by rw [List.length_dropLast, hn]; rfl
  rw [hsp] at hown
  have hpop := ownsRow_pop (by unfold opCells; rw [List.length_map, hdl, Nat.mul_one]) hown
  refine ⟨h.at_.set 2 _, h.len, ?_⟩
  have h0 := h.many.perm (List.Perm.swap _ _ _)
  have ha := List.pairwise_cons.1 h0.apart
  have h1 : Many (g + 1) w (opRow st.opened.dropLast (.slice (some ⟨gb, 0, none⟩) n c) :: tkRow st.toks tv avs :: (ex ++ atRows st.toks avs)) := by
    refine ⟨fun x hx => ?_, List.pairwise_cons.2 ⟨fun x hx => ha.1 x hx, ha.2⟩⟩
    rcases List.mem_cons.1 hx with rfl | hx
    · show w.ownsRow _ _ _ _ st.opened.dropLast.length _
      rw [hdl]
      exact hpop
    · exact h0.own x (List.mem_cons_of_mem _ hx)
  exact (h1.perm (List.Perm.swap _ _ _)).setBelow (p := ⟨g, 2, none⟩) (Nat.lt_succ_self g) _
theorem Wk.root (h : Wk w g s st tv ov avs ex) : Wk (w.setCell ⟨g, 3, none⟩ (.bool true)) g s ⟨st.toks, st.opened, true⟩ tv ov avs ex :=
  ⟨h.at_.set 3 _, h.len, h.many.setBelow (p := ⟨g, 3, none⟩) (Nat.lt_succ_self g) _⟩
/-- A store into the cells of the row beside. -/
theorem Wk.store {b n c : Nat} {e : TypeId} {size : Nat} {xs : List Value} (h : Wk w g s st tv ov avs (⟨e, size, .slice (some ⟨b, 0, none⟩) n c, n, xs⟩ :: ex)) (j : Nat) (u : Value) :
    Wk (w.setCell ⟨b, j, none⟩ u) g s st tv ov avs (⟨e, size, .slice (some ⟨b, 0, none⟩) n c, n, xs.set j u⟩ :: ex) := by
  have hp : ∀ r : Row, List.Perm (tkRow st.toks tv avs :: opRow st.opened ov :: (r :: ex ++ atRows st.toks avs)) (r :: tkRow st.toks tv avs :: opRow st.opened ov :: (ex ++ atRows st.toks avs)) := fun r => by
    rw [List.cons_append]
    exact (List.Perm.cons _ (List.Perm.swap _ _ _)).trans (List.Perm.swap _ _ _)
  have h0 := h.many.perm (hp _)
  have hb : g + 1 ≤ b := ((h0.own _ List.mem_cons_self).lt b rfl).1
  exact ⟨h.at_.set_other _ _ (by show b ≠ g; omega), h.len, (h0.store j u).perm (hp _).symm⟩
end
def Sg (g : Nat) (tv ov : Value) (k : Nat) : Prop := k = g ∨ tv.ownBlock = some k ∨ ov.ownBlock = some k
def Mv (w : World) (v v' : Value) : Prop := v'.ownBlock = v.ownBlock ∨ ∃ k, v'.ownBlock = some k ∧ w.heap.size ≤ k
theorem Mv.refl (w : World) (v : Value) : Mv w v v := .inl rfl
theorem Mv.trans {w w1 : World} {v v1 v2 : Value} (h : Mv w v v1) (k : Mv w1 v1 v2) (hs : w.heap.size ≤ w1.heap.size) : Mv w v v2 := by
  rcases k with k | ⟨j, k1, k2⟩
  · rcases h with h | ⟨i, h1, h2⟩
    · exact .inl (k.trans h)
    · exact .inr ⟨i, k.trans h1, h2⟩
  · exact .inr ⟨j, k1, by omega⟩
/-- What a method of a walk answers: an error, or the walk, held still. -/
def WRet (w : World) (g : Nat) (s : ByteArray) (tv ov : Value) (E : Nat → Prop) (o : Nat ⊕ S) (e : Ending) (w' : World) : Prop :=
  Kp (fun k => Sg g tv ov k ∨ E k) w w' ∧ match o with
  | .inl k => e = .returned (.int .i64 (k : Int))
  | .inr st' => e = .returned (.int .i64 0) ∧ ∃ tv' ov' avs', Wk w' g s st' tv' ov' avs' [] ∧ Mv w tv tv' ∧ Mv w ov ov'
/-- A part more, and what is kept of all else. -/
theorem push_end {w W w9 : World} {g g9 cp9 L : Nat} {s : ByteArray} {st : S} {tv ov ov0 v : Value} {avs : List Value} {ex : List Row} {t : T} {E : Nat → Prop} (hK : Kp (fun k => Sg g tv ov0 k ∨ E k) w W) (h : Wk W g s st tv ov avs (atRow t v :: ex)) (hL : st.toks.length = L)
    (hown : w9.ownsRow (g + 1) 59 5 (.slice (some ⟨g9, 0, none⟩) (L + 1) cp9) (L + 1) (tkCells st.toks avs ++ tkv t v)) (hg : W.grownBy w9 tv.ownBlock) (hat : tv.ownBlock = some g9 ∨ g9 = W.heap.size) :
    Kp (fun k => Sg g tv ov0 k ∨ E k) w (w9.setCell ⟨g, 1, none⟩ (.slice (some ⟨g9, 0, none⟩) (L + 1) cp9)) ∧
      Wk (w9.setCell ⟨g, 1, none⟩ (.slice (some ⟨g9, 0, none⟩) (L + 1) cp9)) g s ⟨st.toks ++ [t], st.opened, st.rooted⟩ (.slice (some ⟨g9, 0, none⟩) (L + 1) cp9) ov (avs ++ [v]) ex ∧ Mv w tv (.slice (some ⟨g9, 0, none⟩) (L + 1) cp9) := by
  refine ⟨(hK.grown hg (fun j e _ => .inl (.inr (.inl e)))).set (fun _ => .inl (.inl rfl)) _, h.push (by rw [hL]) hown hg ?_, ?_⟩
  · rcases hat with h | h
    · exact .inl h.symm
    · exact .inr (congrArg some h)
  · rcases hat with h | h
    · exact .inl h.symm
    · exact .inr ⟨g9, rfl, by rw [h]; exact hK.size⟩
/-- A name more that is open, and what is kept of all else. -/
theorem pushO_end {w W w9 : World} {g g9 cp9 L : Nat} {s : ByteArray} {st : S} {tv tv0 ov : Value} {avs : List Value} {ex : List Row} {nm : Txt} {E : Nat → Prop} (hK : Kp (fun k => Sg g tv0 ov k ∨ E k) w W) (h : Wk W g s st tv ov avs ex) (hL : st.opened.length = L)
    (hown : w9.ownsRow (g + 1) 9 1 (.slice (some ⟨g9, 0, none⟩) (L + 1) cp9) (L + 1) (opCells st.opened ++ [.string (bts nm)])) (hg : W.grownBy w9 ov.ownBlock) (hat : ov.ownBlock = some g9 ∨ g9 = W.heap.size) :
    Kp (fun k => Sg g tv0 ov k ∨ E k) w (w9.setCell ⟨g, 2, none⟩ (.slice (some ⟨g9, 0, none⟩) (L + 1) cp9)) ∧
      Wk (w9.setCell ⟨g, 2, none⟩ (.slice (some ⟨g9, 0, none⟩) (L + 1) cp9)) g s ⟨st.toks, st.opened ++ [nm], st.rooted⟩ tv (.slice (some ⟨g9, 0, none⟩) (L + 1) cp9) avs ex ∧ Mv w ov (.slice (some ⟨g9, 0, none⟩) (L + 1) cp9) := by
  refine ⟨(hK.grown hg (fun j e _ => .inl (.inr (.inr e)))).set (fun _ => .inl (.inl rfl)) _, h.pushO (by rw [hL]) hown hg ?_, ?_⟩
  · rcases hat with h | h
    · exact .inl h.symm
    · exact .inr (congrArg some h)
  · rcases hat with h | h
    · exact .inl h.symm
    · exact .inr ⟨g9, rfl, by rw [h]; exact hK.size⟩
theorem tok_info : (Tryd.prog.info? 59).map (fun i => (i.zero, i.size, i.bytes)) = some (some (.agg #[.int .u8 0, .string ⟨#[]⟩, .slice none 0 0, .string ⟨#[]⟩, .int .i64 0]), 5, 72) := by kernel_rfl
theorem text_info : (Tryd.prog.info? 9).map (fun i => (i.zero, i.size, i.bytes)) = some (some (.string ⟨#[]⟩), 1, 16) := by kernel_rfl
end Mk
end Go.Proofs.YthmhadgbhakdlaaDoor
