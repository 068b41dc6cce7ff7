/- Comparing records cell by cell; slices.Equal at them. -/
import Derived.Test.YtlhoggalhjadgaaDoorK31
import Derived.Test.YtlhoggalhjadgaaDoorK21
import Derived.Laws.MakeOwn
import Derived.Test.YtlhoggalhjadgaaDoorK29
namespace Go.Proofs.YtlhoggalhjadgaaDoor
open Go.RowKit

theorem toList_eq_iff (a b : ByteArray) : a.toList = b.toList ↔ a = b := by
  rw [ByteArray.toList_eq, ByteArray.toList_eq]
  constructor
  · intro h
    exact ByteArray.ext (Array.ext' h)
  · intro h
    rw [h]
theorem if_and {p : Prop} [Decidable p] {q : Bool} {w : World} {R : Result Bool} (h : R = .ok q w) : (if p then R else .ok false w) = .ok (decide p && q) w := by
  by_cases hp : p
  · rw [if_pos hp, h, decide_eq_true hp, Bool.true_and]
  · rw [if_neg hp, decide_eq_false hp, Bool.false_and]
theorem if_last (p : Prop) [Decidable p] (w : World) : (if p then (.ok true w : Result Bool) else .ok false w) = .ok (decide p) w := by
  by_cases hp : p
  · rw [if_pos hp, decide_eq_true hp]
  · rw [if_neg hp, decide_eq_false hp]
namespace Ix
/-- Two lists agree, one by one. -/
def same {α : Type} (f : α → α → Bool) : List α → List α → Bool
  | [], [] => true
  | x :: l, y :: k => f x y && same f l k
  | _, _ => false
theorem same_len {α : Type} {f : α → α → Bool} : ∀ {xs ys : List α}, xs.length ≠ ys.length → same f xs ys = false
  | [], [], h => absurd rfl h
  | [], y :: k, _ => rfl
  | x :: l, [], _ => rfl
  | x :: l, y :: k, h => by
    unfold same
    rw [same_len (by simpa using h)]
    simp
theorem same_next {α : Type} {f : α → α → Bool} {xs ys : List α} {k : Nat} {x y : α} {X : Bool} (h : X = same f (xs.drop k) (ys.drop k)) (hx : xs[k]? = some x) (hy : ys[k]? = some y) : X = (f x y && same f (xs.drop (k + 1)) (ys.drop (k + 1))) := by
  rw [List.drop_eq_getElem_cons (List.getElem?_eq_some_iff.1 hx).1, List.drop_eq_getElem_cons (List.getElem?_eq_some_iff.1 hy).1] at h
  rw [h, same, (List.getElem?_eq_some_iff.1 hx).2, (List.getElem?_eq_some_iff.1 hy).2]
theorem same_end {α : Type} {f : α → α → Bool} {xs ys : List α} {k : Nat} {X : Bool} (h : X = same f (xs.drop k) (ys.drop k)) (hx : xs.length ≤ k) (hy : ys.length ≤ k) : X = true := by
  rw [h, List.drop_eq_nil_of_le hx, List.drop_eq_nil_of_le hy]
  rfl
theorem same_iff {α : Type} {f : α → α → Bool} (hf : ∀ a b, f a b = true ↔ a = b) : ∀ (xs ys : List α), same f xs ys = true ↔ xs = ys
  | [], [] => by simp [same]
  | [], y :: k => by simp [same]
  | x :: l, [] => by simp [same]
  | x :: l, y :: k => by simp [same, hf, same_iff hf l k]
end Ix
def Ru.R.same (r s : Ru.R) : Bool := decide (r.nm = s.nm) && (decide (r.fr = s.fr) && (decide (r.tt = s.tt) && (decide (r.mo = s.mo) && (decide (r.k = s.k) && (decide (r.n = s.n) && (decide (r.d = s.d) && (decide (r.s = s.s) && (decide (r.c = s.c) && (decide (r.sv = s.sv) && (decide (r.lt = s.lt)))))))))))
theorem Ru.R.same_iff (r s : Ru.R) : r.same s = true ↔ r = s := by
  obtain ⟨a0, a1, a2, a3, a4, a5, a6, a7, a8, a9, a10⟩ := r
  obtain ⟨b0, b1, b2, b3, b4, b5, b6, b7, b8, b9, b10⟩ := s
  simp [Ru.R.same]
set_option maxHeartbeats 800000 in
theorem eq_rule (r s : Ru.R) (w : World) : (Op.equalIn 10000 29 r.v s.v).run Tryd.prog w = .ok (r.same s) w := by
  obtain ⟨a0, a1, a2, a3, a4, a5, a6, a7, a8, a9, a10⟩ := r
  obtain ⟨b0, b1, b2, b3, b4, b5, b6, b7, b8, b9, b10⟩ := s
  unfold Ru.R.v Ru.R.same
  simp only
  go_simp
  simp only [toList_eq_iff]
  iterate 10 refine if_and ?_
  exact if_last _ w
def Er.E.same (r s : Er.E) : Bool := decide (r.std = s.std) && (decide (r.k = s.k) && (decide (r.sv = s.sv) && (decide (r.ru = s.ru) && (decide (r.fm = s.fm) && (decide (r.en = s.en) && (decide (r.u.y = s.u.y) && (decide (r.u.m = s.u.m) && (decide (r.u.k = s.u.k) && (decide (r.u.n = s.u.n) && (decide (r.u.d = s.u.d) && (decide (r.u.s = s.u.s) && (decide (r.u.c = s.u.c)))))))))))))
theorem Er.E.same_iff (r s : Er.E) : r.same s = true ↔ r = s := by
  obtain ⟨a0, a1, a2, a3, a4, a5, ⟨a6, a7, a8, a9, a10, a11, a12⟩⟩ := r
  obtain ⟨b0, b1, b2, b3, b4, b5, ⟨b6, b7, b8, b9, b10, b11, b12⟩⟩ := s
  simp [Er.E.same]
set_option maxHeartbeats 800000 in
theorem eq_era (r s : Er.E) (w : World) : (Op.equalIn 10000 34 r.v s.v).run Tryd.prog w = .ok (r.same s) w := by
  obtain ⟨a0, a1, a2, a3, a4, a5, ⟨a6, a7, a8, a9, a10, a11, a12⟩⟩ := r
  obtain ⟨b0, b1, b2, b3, b4, b5, ⟨b6, b7, b8, b9, b10, b11, b12⟩⟩ := s
  unfold Er.E.v Er.E.same
  simp only
  go_simp
  simp only [toList_eq_iff]
  iterate 12 refine if_and ?_
  exact if_last _ w
/-- Two links agree. -/
def Src.lsame (r s : Src.Txt × Src.Txt) : Bool := decide (r.1 = s.1) && decide (r.2 = s.2)
theorem Src.lsame_iff (r s : Src.Txt × Src.Txt) : Src.lsame r s = true ↔ r = s := by
  obtain ⟨a0, a1⟩ := r
  obtain ⟨b0, b1⟩ := s
  simp [Src.lsame]
theorem Src.bts_iff (a b : Src.Txt) : Src.bts a = Src.bts b ↔ a = b := by
  constructor
  · intro h
    have h1 := congrArg ByteArray.data h
    have h2 := congrArg Array.toList h1
    simpa [Src.bts] using h2
  · intro h
    rw [h]
end Go.Proofs.YtlhoggalhjadgaaDoor
/- source.Check. -/
namespace Go.Proofs.YtlhoggalhjadgaaDoor
open Go.RowKit

noncomputable def Ru.R.good (r : Ru.R) : Bool := @decide r.Ok (Classical.propDecidable _)
theorem Ru.R.good_iff (r : Ru.R) : r.good = true ↔ r.Ok := by
  unfold Ru.R.good
  exact @decide_eq_true_iff _ (Classical.propDecidable _)
noncomputable def Er.E.good (e : Er.E) : Bool := decide (Er.chk e = 0)
namespace Src
/-- The eras of a right zone: each is right, and all but the last one end. -/
noncomputable def erasB : List Er.E → Bool
  | [] => true
  | e :: l => e.good && ((e.en == !l.isEmpty) && erasB l)
noncomputable def zoneB (z : Txt × List Er.E) : Bool := Ru.name z.1 && (decide (1 ≤ z.2.length) && (decide (z.2.length ≤ 64) && erasB z.2))
def linkB (k : Txt × Txt) : Bool := Ru.name k.1 && Ru.name k.2
/-- A source is right. -/
noncomputable def srcB (s : S) : Bool := s.rules.all Ru.R.good && (s.zones.all zoneB && s.links.all linkB)
structure Lims (s : S) : Prop where
  rules : s.rules.length ≤ 4096
  zones : s.zones.length ≤ 1024
  links : s.links.length ≤ 4096
/-- No name is too long. -/
structure Sm (s : S) : Prop where
  rules : ∀ r ∈ s.rules, r.nm.size ≤ 1000000 ∧ r.lt.size ≤ 1000000
  zones : ∀ z ∈ s.zones, z.1.length ≤ 1000000 ∧ ∀ e ∈ z.2, e.fm.size ≤ maxLen ∧ e.ru.size ≤ maxLen
  links : ∀ k ∈ s.links, k.1.length ≤ 1000000 ∧ k.2.length ≤ 1000000
end Src
theorem any_not {α : Type} (f : α → Bool) : ∀ l : List α, l.any (fun x => !f x) = !l.all f
  | [] => rfl
  | x :: l => by
    rw [List.any_cons, List.all_cons, any_not f l]
    cases f x <;> rfl
theorem name_bts (t : Src.Txt) (w : World) (h : t.length ≤ 1000000) (b : Bool) (hb : Ru.name t = b) : Calls Tryd.prog 12 #[.string (Src.bts t)] w fun e w' => e = .returned (.bool b) ∧ Below w.heap.size w w' := by
  have := name_any (Src.bts t) w h
  rw [show tl (Src.bts t) = t from tl_mk t, hb] at this
  exact this
theorem erasB_next {es : List Er.E} {i n : Nat} {e : Er.E} {X : Bool} (h : X = Src.erasB (es.drop i)) (hx : es[i]? = some e) (hn : es.length = n) : X = (e.good && ((e.en == decide (((i : Int)) < (n : Int) - 1)) && Src.erasB (es.drop (i + 1)))) := by
  have hi := (List.getElem?_eq_some_iff.1 hx).1
  rw [h, List.drop_eq_getElem_cons hi, (List.getElem?_eq_some_iff.1 hx).2, Src.erasB]
  have : (!(es.drop (i + 1)).isEmpty) = decide ((i : Int) < (n : Int) - 1) := by
    by_cases hl : i + 1 < es.length
    · have e1 : (es.drop (i + 1)).isEmpty = false := by
        rw [List.isEmpty_eq_false_iff]
        intro e
        have := congrArg List.length e
        simp at this
        omega
      rw [e1, decide_eq_true (by omega)]
      rfl
    · rw [List.drop_eq_nil_of_le (by omega), decide_eq_false (by omega)]
      rfl
  rw [this]
theorem erasB_end {es : List Er.E} {i : Nat} {X : Bool} (h : X = Src.erasB (es.drop i)) (hi : es.length ≤ i) : X = true := by
  rw [h, List.drop_eq_nil_of_le hi]
  rfl
end Go.Proofs.YtlhoggalhjadgaaDoor
/- source.Check, source.Same. -/
namespace Go.Proofs.YtlhoggalhjadgaaDoor
open Go.RowKit

theorem any_zip {α β : Type} (f : α → Bool) : ∀ (a : List α) (b : List β), b.length = a.length → ((a.zip b).any fun p => f p.1) = a.any f
  | [], [], _ => rfl
  | x :: a, y :: b, h => by
    rw [List.zip_cons_cons, List.any_cons, List.any_cons, any_zip f a b (by simpa using h)]
theorem mem_zip {α β : Type} {a : List α} {b : List β} {p : α × β} (h : p ∈ a.zip b) : p.1 ∈ a := (List.of_mem_zip h).1
namespace Src
def zsame (a b : Txt × List Er.E) : Bool := decide (a.1 = b.1) && Ix.same Er.E.same a.2 b.2
theorem zsame_iff (a b : Txt × List Er.E) : zsame a b = true ↔ a = b := by
  obtain ⟨a0, a1⟩ := a
  obtain ⟨b0, b1⟩ := b
  simp [zsame, Ix.same_iff Er.E.same_iff]
def sameB (a b : S) : Bool := Ix.same Ru.R.same a.rules b.rules && (Ix.same zsame a.zones b.zones && Ix.same lsame a.links b.links)
theorem sameB_iff (a b : S) : sameB a b = true ↔ a.rules = b.rules ∧ a.zones = b.zones ∧ a.links = b.links := by
  simp [sameB, Ix.same_iff Ru.R.same_iff, Ix.same_iff zsame_iff, Ix.same_iff lsame_iff]
theorem same_zip {α β γ : Type} (f : α → α → Bool) : ∀ (a a' : List α) (b : List β) (b' : List γ), b.length = a.length → b'.length = a'.length → Ix.same (fun (p q : α × Value) => f p.1 q.1) [] [] = true
  | _, _, _, _, _, _ => rfl
theorem same_fst (f : (Txt × List Er.E) → (Txt × List Er.E) → Bool) : ∀ (a a' : List (Txt × List Er.E)) (b b' : List Value), b.length = a.length → b'.length = a'.length → Ix.same (fun p q => f p.1 q.1) (a.zip b) (a'.zip b') = Ix.same f a a'
  | [], [], [], [], _, _ => rfl
  | [], x :: a', [], y :: b', _, _ => rfl
  | x :: a, [], y :: b, [], _, _ => rfl
  | x :: a, x' :: a', y :: b, y' :: b', h, h' => by
    rw [List.zip_cons_cons, List.zip_cons_cons, Ix.same, Ix.same, same_fst f a a' b b' (by simpa using h) (by simpa using h')]
end Src
end Go.Proofs.YtlhoggalhjadgaaDoor
/- source.Parse. -/
namespace Go.Proofs.YtlhoggalhjadgaaDoor
open Go.RowKit

theorem below_six {B h : Nat} {a W : World} (hb : Below B a W) (hh : B ≤ h) (v0 v1 v2 v3 v4 v5 : Value) :
    Below B a ((((((W.setCell ⟨h, 0, none⟩ v0).setCell ⟨h, 1, none⟩ v1).setCell ⟨h, 2, none⟩ v2).setCell ⟨h + 1, 0, none⟩ v3).setCell ⟨h + 1, 1, none⟩ v4).setCell ⟨h + 1, 2, none⟩ v5) :=
  (((((hb.setCell (p := ⟨h, 0, none⟩) hh v0).setCell (p := ⟨h, 1, none⟩) hh v1).setCell (p := ⟨h, 2, none⟩) hh v2).setCell (p := ⟨h + 1, 0, none⟩) (Nat.le_succ_of_le hh) v3).setCell (p := ⟨h + 1, 1, none⟩) (Nat.le_succ_of_le hh) v4).setCell (p := ⟨h + 1, 2, none⟩) (Nat.le_succ_of_le hh) v5
theorem Src.parse_bad {t : Src.Txt} {l c y : Int} (h : Sc.lines t = .bad l c y) : Src.parse Src.own t = .bad l c y := by unfold Src.parse; rw [h]
end Go.Proofs.YtlhoggalhjadgaaDoor
/- source.Parse: the lines are gone through. -/
namespace Go.Proofs.YtlhoggalhjadgaaDoor
open Go.RowKit

namespace Src
def rest (L : List Ln) (k : Nat) (s : S) : Par S := match readGo own (L.drop k) s with
  | .bad l c w => .bad l c w
  | .ok s' => finish L s'
theorem rest_step {L : List Ln} {k : Nat} {s : S} {x : Ln} {X : Par S} (h : X = rest L k s) (hx : L[k]? = some x) :
    X = match step own s (x.2.map (·.1)) with
    | .bad p y => .bad x.1 (colAt x.2 p) y
    | .ok s' => rest L (k + 1) s' := by
  rw [h]
  unfold rest
  rw [List.drop_eq_getElem_cons (List.getElem?_eq_some_iff.1 hx).1, (List.getElem?_eq_some_iff.1 hx).2, readGo_cons]
  cases step own s (x.2.map (·.1)) <;> rfl
theorem rest_end {L : List Ln} {k : Nat} {s : S} {X : Par S} (h : X = rest L k s) (hk : L.length ≤ k) : X = finish L s := by
  rw [h]
  unfold rest
  rw [List.drop_eq_nil_of_le hk]
  rfl
theorem rest_all {L : List Ln} : readAll own L = rest L 0 St.none_ := by
  unfold readAll rest
  rw [List.drop_zero]
  cases readGo own L St.none_ <;> rfl
/-- A line with its fields' slice; its cells; a field's cells. -/
def lnc (p : Ln × Value) : List Value := [.int .i64 p.1.1, p.2]
def flc (x : Txt × Int) : List Value := [.string (bts x.1), .int .i64 x.2]
def IRel (W8 : World) (ts : List Txt) (m : Nat) (v i : Value) (wi : World) : Prop :=
  ∃ j : Nat, j ≤ m ∧ i = .int .i64 j ∧ Hid (wi.ownsRow W8.heap.size 9 1 v j (((ts.take j).map bts).map Value.string)) ∧ Hid (Below W8.heap.size W8 wi)
theorem take_more {ts : List Txt} {j : Nat} {t : Txt} (h : ts[j]? = some t) : ((ts.take (j + 1)).map bts).map Value.string = ((ts.take j).map bts).map Value.string ++ [.string (bts t)] := by
  rw [List.take_add_one, h]
  simp
theorem last_at {L : List Ln} {x d : Ln} (h : L[L.length - 1]? = some x) : L.getLastD d = x := by
  rw [List.getLastD_eq_getLast?, List.getLast?_eq_getElem?, h]
  rfl
end Src
theorem At.same {w w' : World} {g : Nat} {xs : List Value} (h : At w g xs) (hs : g < w'.heap.size) (e : w'.heap[g]? = w.heap[g]?) : At w' g xs :=
  ⟨hs, fun i v hi => ⟨(World.cell?_of_block e).trans (h.2 i v hi).1, (World.frozen?_of_block e).trans (h.2 i v hi).2⟩⟩
end Go.Proofs.YtlhoggalhjadgaaDoor
/- slices.EqualFunc at zones, source.Same, source.Names. -/
namespace Go.Proofs.YtlhoggalhjadgaaDoor
open Go.RowKit

/-- What is asked of a comparison. -/
def Ix.Tells2 {α : Type} (g : FuncId) (lb : Array Value) (enc : α → Value) (f : α → α → Bool) (xs ys : List α) (w : World) : Prop :=
  ∀ W x y, x ∈ xs → y ∈ ys → Below w.heap.size w W → Calls Tryd.prog g (#[enc x, enc y] ++ lb) W fun e w' => e = .returned (.bool (f x y)) ∧ Below w.heap.size w w'
end Go.Proofs.YtlhoggalhjadgaaDoor
/- source.Names. -/
namespace Go.Proofs.YtlhoggalhjadgaaDoor
open Go.RowKit

namespace Src
def zoneNames (s : S) : List ByteArray := s.zones.map fun z => bts z.1
def linkNames (s : S) : List ByteArray := s.links.map fun k => bts k.2
def names (s : S) : List ByteArray := zoneNames s ++ linkNames s
theorem more_one {l : List ByteArray} {k : Nat} {x : ByteArray} (h : l[k]? = some x) : (l.take (k + 1)).map Value.string = (l.take k).map Value.string ++ [Value.string x] := by
  rw [List.take_add_one, h]
  simp
def NRel (W0 : World) (h : Nat) (cs : List Value) (pre l : List ByteArray) (n : Nat) (v i : Value) (wr : World) : Prop :=
  ∃ k : Nat, k ≤ n ∧ i = .int .i64 k ∧ Hid (wr.ownsRow W0.heap.size 9 1 v (pre.length + k) (pre.map Value.string ++ (l.take k).map Value.string)) ∧ Hid (At wr h cs) ∧ Hid (Below W0.heap.size W0 wr)
end Src
end Go.Proofs.YtlhoggalhjadgaaDoor
/- The contract of scan.Join. -/
namespace Go.Proofs.YtlhoggalhjadgaaDoor
open Go.RowKit

namespace Sc
def qall : List ByteArray → Option (List ByteArray)
  | [] => some []
  | s :: l => match quote s with
    | none => none
    | some q => (qall l).map (q :: ·)
theorem qall_some {s q : ByteArray} {l : List ByteArray} (h : quote s = some q) : qall (s :: l) = (qall l).map (q :: ·) := by rw [qall, h]
theorem qall_no {s : ByteArray} {l : List ByteArray} (h : quote s = none) : qall (s :: l) = none := by rw [qall, h]
theorem qall_more : ∀ (l : List ByteArray) (k : Nat) (qs : List ByteArray) (s q : ByteArray), qall (l.take k) = some qs → l[k]? = some s → quote s = some q → qall (l.take (k + 1)) = some (qs ++ [q])
  | [], k, qs, s, q, _, h, _ => by simp at h
  | x :: l, 0, qs, s, q, h1, h2, h3 => by
    simp only [List.take_zero] at h1
    have e1 : qs = [] := by rw [qall] at h1; exact (Option.some.inj h1).symm
    have e2 : x = s := by simpa using h2
    subst e1 e2
    rw [List.take_succ_cons, List.take_zero, qall_some h3]
    rfl
  | x :: l, k + 1, qs, s, q, h1, h2, h3 => by
    rw [List.take_succ_cons] at h1 ⊢
    cases hx : quote x with
    | none => rw [qall_no hx] at h1; cases h1
    | some y =>
      rw [qall_some hx] at h1 ⊢
      cases hy : qall (l.take k) with
      | none => rw [hy] at h1; cases h1
      | some ys =>
        rw [hy] at h1
        have e : qs = y :: ys := by simpa using h1.symm
        subst e
        rw [qall_more l k ys s q hy (by simpa using h2) h3]
        rfl
theorem qall_none : ∀ (l : List ByteArray) (k : Nat) (s : ByteArray), l[k]? = some s → quote s = none → qall l = none
  | [], k, s, h, _ => by simp at h
  | x :: l, 0, s, h, h2 => by
    have e : x = s := by simpa using h
    subst e
    exact qall_no h2
  | x :: l, k + 1, s, h, h2 => by
    cases hx : quote x with
    | none => exact qall_no hx
    | some y => rw [qall_some hx, qall_none l k s (by simpa using h) h2]; rfl
theorem quote_size {s q : ByteArray} (h : quote s = some q) : q.size ≤ s.size + 2 := by
  unfold quote at h
  cases hb : qgo (tl s) (decide (s = ⟨#[]⟩)) with
  | none => rw [hb] at h; cases h
  | some b =>
    rw [hb] at h
    cases b with
    | true =>
      have e : ⟨#[34]⟩ ++ s ++ ⟨#[34]⟩ = q := by simpa using h
      rw [← e, ByteArray.size_append, ByteArray.size_append]
      have : (⟨#[34]⟩ : ByteArray).size = 1 := rfl
      omega
    | false =>
      have e : s = q := by simpa using h
      rw [← e]
      omega
theorem qall_size : ∀ (l qs : List ByteArray) (m : Nat), qall l = some qs → (∀ t ∈ l, t.size ≤ m) → qs.length = l.length ∧ Lib.lens (qs.map (·.data.toList)) ≤ l.length * (m + 2)
  | [], qs, m, h, _ => by
    have e : qs = [] := by rw [qall] at h; exact (Option.some.inj h).symm
    subst e
    exact ⟨rfl, by simp [Lib.lens]⟩
  | x :: l, qs, m, h, hm => by
    cases hx : quote x with
    | none => rw [qall_no hx] at h; cases h
    | some y =>
      rw [qall_some hx] at h
      cases hy : qall l with
      | none => rw [hy] at h; cases h
      | some ys =>
        rw [hy] at h
        have e : qs = y :: ys := by simpa using h.symm
        subst e
        obtain ⟨i1, i2⟩ := qall_size l ys m hy fun t ht => hm t (List.mem_cons_of_mem _ ht)
        refine ⟨by simp [i1], ?_⟩
        have h1 := quote_size hx
        have h2 := hm x List.mem_cons_self
        have h3 : y.data.toList.length = y.size := by rw [Array.length_toList]; rfl
        have h4 : Lib.lens ((y :: ys).map (·.data.toList)) = y.data.toList.length + Lib.lens (ys.map (·.data.toList)) := by simp [Lib.lens]
        rw [h4, h3, List.length_cons, Nat.add_mul]
        omega
def line (qs : List ByteArray) : ByteArray := ⟨(Lib.join (qs.map (·.data.toList)) [32]).toArray⟩
def jv (ss : List ByteArray) : Value :=
  if 24 < ss.length then .tuple #[.string ⟨#[]⟩, .int .i64 6] else match qall ss with
  | none => .tuple #[.string ⟨#[]⟩, .int .i64 2]
  | some qs => if 2048 < (line qs).size then .tuple #[.string ⟨#[]⟩, .int .i64 6] else .tuple #[.string (line qs), .int .i64 0]
theorem line_size (qs : List ByteArray) : (line qs).size ≤ Lib.lens (qs.map (·.data.toList)) + qs.length := by
  unfold line
  show (Lib.join _ _).toArray.size ≤ _
  cases qs with
  | nil => simp [Lib.join_nil]
  | cons x r =>
    rw [List.map_cons, List.size_toArray, Lib.join_length]
    simp
    omega
def JRel (W0 : World) (ss : List ByteArray) (n : Nat) (v i : Value) (wr : World) : Prop :=
  ∃ (k : Nat) (qs : List ByteArray), k ≤ n ∧ i = .int .i64 k ∧ Hid (qall (ss.take k) = some qs) ∧ Hid (wr.ownsRow W0.heap.size 9 1 v k (qs.map Value.string)) ∧ Hid (Below W0.heap.size W0 wr)
end Sc
theorem join_row {w : World} {base n : Nat} {v : Value} {qs : List ByteArray} (h : w.ownsRow base 9 1 v n (qs.map Value.string)) (hn : qs.length ≤ 24) (hl : (Sc.line qs).size ≤ 140737488355328) :
    Calls Tryd.prog 38 #[v, .string ⟨#[32]⟩] w fun e w' => e = .returned (.string (Sc.line qs)) ∧ Below w.heap.size w w' := by
  obtain ⟨A, c, rfl, hc1, hc2⟩ := own_slice_cap h
  have hr := Reads.of_own h
  have hlen : qs.length = n := by have := h.1; simpa using this
  rcases Nat.eq_zero_or_pos n with h0 | h0
  · subst h0
    have e : qs = [] := List.eq_nil_of_length_eq_zero hlen
    subst e
    exact (Tryd.strings_Join_none A c ⟨#[32]⟩ w).mono fun e w' ⟨he, hw⟩ => ⟨by rw [he]; rfl, by rw [hw]; exact Below.refl _ _⟩
  · rcases h.2 with ⟨hv, _⟩ | ⟨g, cap, cur, hv, _, hg, _⟩
    · cases hv; omega
    · injection hv with e1 e2 e3
      subst e1 e3
      obtain ⟨ad, e, hb, hc⟩ := hr.2 h0
      cases e
      have := Tryd.strings_Join g 0 c qs ⟨#[32]⟩ w (fun j x hx => by have hj := hc j _ (show (qs.map Value.string)[j]? = some (.string x) by rw [List.getElem?_map, hx]; rfl); rw [Nat.zero_add]; rcases Nat.eq_zero_or_pos j with h00 | h00; (subst h00; exact hj); simpa [Addr.add, show ¬ j = 0 by omega] using hj) hb (by omega) (by omega) hl
      rw [hlen] at this
      exact this
set_option maxHeartbeats 2000000 in
set_option maxRecDepth 100000 in
theorem join_any (A : Option Addr) (n c : Nat) (ss : List ByteArray) (w : World) (_hn : n ≤ c) (_hc : c ≤ maxLen) (hr : Reads w w.heap.size 1 A n (ss.map Value.string)) (hs : ∀ t ∈ ss, t.size ≤ 1000000) :
    Calls Tryd.prog 19 #[.slice A n c] w fun e w' => e = .returned (Sc.jv ss) ∧ Below w.heap.size w w' := by
  have hlen : ss.length = n := by have := hr.1; simpa using this
  by_cases h24 : n ≤ 24
  · have q24 : ¬ (24 : Int) < (n : Int) := by omega
    obtain ⟨E, hE⟩ : ∃ E, Ending.returned (Sc.jv ss) = E := ⟨_, rfl⟩
    have hEn : Sc.qall ss = none → E = .returned (.tuple #[.string ⟨#[]⟩, .int .i64 2]) := by intro h; rw [← hE]; unfold Sc.jv; rw [if_neg (by omega), h]
    have hEl : ∀ qs, Sc.qall ss = some qs → 2048 < (Sc.line qs).size → E = .returned (.tuple #[.string ⟨#[]⟩, .int .i64 6]) := by intro qs h h2; rw [← hE]; unfold Sc.jv; rw [if_neg (by omega), h]; simp only; rw [if_pos h2]
    have hEo : ∀ qs, Sc.qall ss = some qs → ¬ 2048 < (Sc.line qs).size → E = .returned (.tuple #[.string (Sc.line qs), .int .i64 0]) := by intro qs h h2; rw [← hE]; unfold Sc.jv; rw [if_neg (by omega), h]; simp only; rw [if_neg h2]
    have hQs : ∀ qs, Sc.qall ss = some qs → qs.length = n ∧ (Sc.line qs).size ≤ 30000000 := by
      intro qs h
      obtain ⟨i1, i2⟩ := Sc.qall_size ss qs 1000000 h hs
      have := Sc.line_size qs
      have h3 : ss.length * (1000000 + 2) ≤ 24 * (1000000 + 2) := Nat.mul_le_mul_right _ (by omega)
      exact ⟨by omega, by omega⟩
    rw [hE]
    have HEn := Lib.hid hEn
    have HEl := Lib.hid hEl
    have HEo := Lib.hid hEo
    have HQs := Lib.hid hQs
    have HLen := Lib.hid hlen
    have HR := Lib.hid hr
    have HS := Lib.hid hs
    clear hE hEn hEl hEo hQs hr hs hlen
    obtain ⟨i0, i1, i2, i3, i4⟩ := info_parts str_info
    have HI := Lib.hid (And.intro i1 (And.intro i2 (And.intro i3 i4)))
    clear i1 i2 i3 i4
    have hmk := fun W : World => run_make (P := Tryd.prog) W 36 9 i0 _ Tryd.underlying36 HI.out.1 HI.out.2.1 .i64 .i64 0 (n : Int) (by omega) (by omega) (by rw [HI.out.2.2.2]; omega) (by omega)
    rw [HI.out.2.2.1] at hmk
    obtain ⟨MC, hMC⟩ : ∃ x, madeCells (Value.string ⟨#[]⟩).cells ((n : Int).toNat * 1) = x := ⟨_, rfl⟩
    rw [hMC] at hmk
    have hMs : MC.size = n := by rw [← hMC, size_madeCells]; simp
    clear hMC
    have HO0 := Lib.hid (show (w.alloc (.cells MC 9)).ownsRow w.heap.size 9 1 (.slice (some ⟨w.heap.size, 0, none⟩) 0 n) 0 [] from World.ownsRow_made w MC n (Nat.le_refl _) (by unfold maxLen; omega) (by omega))
    go_enter Tryd.func19, Tryd.ntmps19
    go_wp2_with fail
    go_loopw [4, 18] (fun v i wr => Sc.JRel w ss n v i wr) (fun _ i _ => n - (intOf i).toNat)
    case atStart => exact ⟨0, [], Nat.zero_le _, rfl, rfl, HO0.out, (Below.refl _ _).alloc (Nat.le_refl _) _⟩
    case round =>
      obtain ⟨k, qs, hk, rfl, HQ, HO, HB⟩ := hrel
      obtain ⟨vA, vc, hv, hv1, hv2⟩ := own_slice_cap HO.out
      subst hv
      have hwr := HB.out.size
      by_cases hlt : k < n
      · have q1 : (0 : Int) ≤ (k : Int) := by omega
        have q2 : (k : Int) < (n : Int) := by omega
        obtain ⟨ad, x, rfl, Hx, c0⟩ : ∃ ad nm, A = some ad ∧ Hid (ss[k]? = some nm) ∧ wr.cell? (ad.add k) = some (.string nm) := reads_str (HR.out.below HB.out) hlt
        have hxs : x.size ≤ 1000000 := HS.out x (List.mem_of_getElem? Hx.out)
        cases hq : Sc.quote x with
        | none =>
          have HN := Lib.hid (HEn.out (Sc.qall_none ss k x Hx.out hq))
          have HQu := Lib.hid fun W => (show Calls Tryd.prog 37 #[.string x] W fun e w' => e = .returned (.tuple #[.string ⟨#[]⟩, .int .i64 2]) ∧ W = w' from by have := quote_any x W (by omega); rw [hq] at this; exact this)
          clear hq
          go_wp2_with fail
          refine (HQu.out _).mono ?_
          rintro e w1 ⟨rfl, rfl⟩
          go_wp2
          go_ret2
          exact ⟨HN.out.symm, HB.out⟩
        | some q =>
          have HQ2 := Lib.hid (Sc.qall_more ss k qs x q HQ.out Hx.out hq)
          have HQu := Lib.hid fun W => (show Calls Tryd.prog 37 #[.string x] W fun e w' => e = .returned (.tuple #[.string q, .int .i64 0]) ∧ W = w' from by have := quote_any x W (by omega); rw [hq] at this; exact this)
          have HAp := fun {ops : Array Oper} {rest : List Oper} {o : Oper} {a : Act} {Q : Exit → Act → World → Prop} (hgd : o.guard = none) (ho : o.op = .call { callee := .builtin .append, args := #[.tmp 30, .tmp 32], argTypes := #[36, 36] }) (hs : a.eval (.tmp 30) = .slice vA k vc) (hx : a.eval (.tmp 32) = .slice (some ⟨wr.heap.size, 0, none⟩) 1 1) h => wpList_append_any (P := Tryd.prog) (ops := ops) (rest := rest) (o := o) (a := a) (Q := Q) (wr.alloc (.cells #[.string q] 9)) hgd (.tmp 30) (.tmp 32) 36 ho w.heap.size 9 i0 _ 1 16 Tryd.underlying36 HI.out.1 HI.out.2.1 HI.out.2.2.1 HI.out.2.2.2 rfl (by decide) _ k _ hs (HO.out.alloc _) (wr.alloc (.cells #[.string q] 9)).heap.size _ 1 1 _ hx (er_reads wr wr.heap.size [q] 9 rfl) (by simp [Value.oneCell']) (by unfold maxLen; omega) (by omega) (by simp; omega) h
          clear hq
          go_wp2_with fail
          refine (HQu.out _).mono ?_
          rintro e w1 ⟨rfl, rfl⟩
          go_wp2_with (at_builtin; refine HAp rfl rfl rfl rfl ?_; intro v9' w9 hown9 hg9 hat9)
          have HO9 := Lib.hid (show w9.ownsRow w.heap.size 9 1 v9' (k + 1) ((qs ++ [q]).map Value.string) by simpa using hown9)
          have HB9 := Lib.hid (show Below w.heap.size w w9 from (HB.out.alloc HB.out.size _).grown hg9 (by simp; omega) (fun kk hkk => (HO.out.lt kk hkk).1))
          clear hown9 hg9 hat9 HAp c0
          go_wp2
          go_roundw
          case rel => exact ⟨k + 1, qs ++ [q], by omega, by go_num, HQ2.out, HO9.out, HB9.out⟩
          case measure => simp [intOf]; omega
      · have q2 : ¬ (k : Int) < (n : Int) := by omega
        have hkn : k = n := by omega
        subst hkn
        have hqa : Sc.qall ss = some qs := by have := HQ.out; rw [List.take_of_length_le (by rw [HLen.out]; exact Nat.le_refl _)] at this; exact this
        obtain ⟨hq1, hq2⟩ := HQs.out qs hqa
        have HJ := Lib.hid (join_row HO.out (by omega) (by omega))
        by_cases hL : 2048 < (Sc.line qs).size
        · have HN := Lib.hid (HEl.out qs hqa hL)
          obtain ⟨Y, hY⟩ : ∃ Y, Sc.line qs = Y := ⟨_, rfl⟩
          rw [hY] at HJ hL hq2
          have q5 : (2048 : Int) < (Y.size : Int) := by omega
          clear hY hqa hL
          go_wp2_with fail
          refine HJ.out.mono ?_
          rintro e w1 ⟨rfl, hb⟩
          have HB1 := Lib.hid (below_then HB.out hb)
          clear hb
          go_wp2
          go_ret2
          exact ⟨HN.out.symm, HB1.out⟩
        · have HN := Lib.hid (HEo.out qs hqa hL)
          obtain ⟨Y, hY⟩ : ∃ Y, Sc.line qs = Y := ⟨_, rfl⟩
          rw [hY] at HJ hL hq2 HN
          have q5 : ¬ (2048 : Int) < (Y.size : Int) := by omega
          clear hY hqa hL
          go_wp2_with fail
          refine HJ.out.mono ?_
          rintro e w1 ⟨rfl, hb⟩
          have HB1 := Lib.hid (below_then HB.out hb)
          clear hb
          go_wp2
          go_ret2
          exact ⟨HN.out.symm, HB1.out⟩
  · have q24 : (24 : Int) < (n : Int) := by omega
    have hE : Sc.jv ss = .tuple #[.string ⟨#[]⟩, .int .i64 6] := by unfold Sc.jv; rw [if_pos (by omega)]
    rw [hE]
    clear hr hs hE
    go_enter Tryd.func19, Tryd.ntmps19
    go_wp2
    go_ret2
    exact ⟨rfl, Below.refl _ _⟩
end Go.Proofs.YtlhoggalhjadgaaDoor
