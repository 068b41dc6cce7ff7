/- atlas.names: the names of a chart, each with its entry's place, by a range over a function. -/
import Derived.Test.YthmhadgbhakdlaaDoorP28
import Derived.Test.YthmhadgbhakdlaaDoorP17
import Derived.Test.YthmhadgbhakdlaaDoorP20
import Derived.ProofKit
import Derived.OpenShut
import Derived.Lib.SmallJoins
import Derived.SliceStrings
import Derived.Deep.RegionHeld
import Derived.Deep.Strs
import Derived.Test.YthmhadgbhakdlaaDoorP22
import Derived.Lib.LaidTab
import Derived.Test.YthmhadgbhakdlaaDoorP25
import Derived.Deep.QuietTactic
import Derived.BigQuiet
import Derived.Test.YthmhadgbhakdlaaDoorP19
import Derived.Test.YthmhadgbhakdlaaDoorP24

namespace Go.Proofs.YthmhadgbhakdlaaDoor
open Go.RowKit Go.Shelf
attribute [local go_sem] Oper.semAt_some

namespace Ca
/-- What lay below n, but for the blocks of S, lies as it lay. -/
structure Kp (S : Nat → Prop) (n : Nat) (W W' : World) : Prop where
  size : W.heap.size ≤ W'.heap.size
  same : ∀ k, k < n → ¬ S k → W'.heap[k]? = W.heap[k]?
theorem Kp.refl (S : Nat → Prop) (n : Nat) (W : World) : Kp S n W W := ⟨Nat.le_refl _, fun _ _ _ => rfl⟩
theorem Kp.trans {S : Nat → Prop} {n : Nat} {A B C : World} (h : Kp S n A B) (k : Kp S n B C) : Kp S n A C := ⟨Nat.le_trans h.size k.size, fun i hi hb => (k.same i hi hb).trans (h.same i hi hb)⟩
theorem Kp.cell {S : Nat → Prop} {n : Nat} {W W' : World} (h : Kp S n W W') {p : Addr} (hp : p.block < n) (hb : ¬ S p.block) : W'.cell? p = W.cell? p := World.cell?_of_block (h.same p.block hp hb)
theorem Kp.alloc {S : Nat → Prop} {n : Nat} {W W' : World} (h : Kp S n W W') (hn : n ≤ W.heap.size) (o : Obj) : Kp S n W (W'.alloc o) :=
  ⟨Nat.le_trans h.size (by rw [World.size_alloc]; omega), fun k hk hs => ((World.grownBy_alloc W' o none).block k (by have := h.size; omega) (by simp)).trans (h.same k hk hs)⟩
theorem Kp.put {S : Nat → Prop} {n : Nat} {w : World} (hn : n ≤ w.heap.size) (W : World) (l : Nat) (o o' : Obj) (hl : w.heap.size ≤ l) (_ : W.heap[l]? = some o) (_ : o.isCells = false) (_ : o.isWalk = false) : Kp S n W (W.putObj l o') :=
  ⟨(grownBy_putObj' W l o').size, fun k hk _ => World.putObj_heap_other (by omega)⟩
theorem reads_same {w w' : World} {B size n : Nat} {A : Option Addr} {xs : List Value} (h : Reads w B size A n xs) (hs : ∀ k, k < B → w'.heap[k]? = w.heap[k]?) : Reads w' B size A n xs := by
  refine ⟨h.1, fun hn => ?_⟩
  obtain ⟨ad, e, hb, hc⟩ := h.2 hn
  refine ⟨ad, e, hb, fun j u hj => ?_⟩
  rw [World.cell?_of_block (hs _ (by rw [block_of_add]; exact hb))]
  exact hc j u hj
theorem row_same {w w' : World} {B size n : Nat} {v : Value} {xs : List Value} (h : Src.RowR w B size n v xs) (hs : ∀ k, k < B → w'.heap[k]? = w.heap[k]?) : Src.RowR w' B size n v xs := by
  obtain ⟨A, c, e, h1, h2, h3⟩ := h
  exact ⟨A, c, e, h1, h2, reads_same h3 hs⟩
theorem EntR.same {w w' : World} {B : Nat} {l : List E} {v : Value} {evs : List Value} (h : EntR w B l v evs) (hs : ∀ k, k < B → w'.heap[k]? = w.heap[k]?) : EntR w' B l v evs :=
  ⟨row_same h.row hs, h.len, fun p hp => row_same (h.zns p hp) hs⟩
/-- One of a chart's names, with its entry's place. -/
abbrev Nm (es : List E) := { p : Nat × ByteArray // p ∈ flat es 0 }
/-- All of them. -/
def all (es : List E) : List (Nm es) := (flat es 0).attach
theorem all_map (es : List E) : (all es).map (·.1) = flat es 0 := by unfold all; exact List.attach_map_subtype_val _
theorem all_len (es : List E) : (all es).length = (flat es 0).length := by unfold all; exact List.length_attach
/-- How many come ahead of an entry's. -/
def off (es : List E) (k : Nat) : Nat := (flat (es.take k) 0).length
theorem come_off (es : List E) (k m : Nat) (zs : List ByteArray) (hm : m ≤ zs.length) : (come es k m zs).length = off es k + m := by
  unfold come off
  rw [List.length_append, List.length_map, List.length_take]
  omega
theorem off_next {es : List E} {k : Nat} {x : E} (h : es[k]? = some x) : off es (k + 1) = off es k + x.zones.length := by
  rw [← come_off es k x.zones.length x.zones (Nat.le_refl _), come_all h]
  rfl
theorem off_all (es : List E) : off es es.length = (all es).length := by
  unfold off
  rw [List.take_length, all_len]
theorem all_at {es : List E} {k m : Nat} {x : E} {z : ByteArray} (h : es[k]? = some x) (hz : x.zones[m]? = some z) : ∃ hp, (all es)[off es k + m]? = some ⟨(k, z), hp⟩ := by
  obtain ⟨r, hr⟩ := come_split h hz
  have hm : m ≤ x.zones.length := Nat.le_of_lt (List.getElem?_eq_some_iff.1 hz).1
  have hl := come_off es k m x.zones hm
  have hg : (flat es 0)[off es k + m]? = some (k, z) := by
    rw [hr, List.getElem?_append_right (by omega), hl]
    simp
  have hlt := (List.getElem?_eq_some_iff.1 hg).1
  have he := (List.getElem?_eq_some_iff.1 hg).2
  refine ⟨List.mem_of_getElem? hg, ?_⟩
  unfold all
  rw [List.getElem?_attach]
  simp [hg]
/-- What the iterator hands back. -/
def SqRet (es : List E) (JY JX : List (Nm es) → World → Prop) (e : Ending) (W' : World) : Prop :=
  (∃ v, e = .returned v) ∧ ((∃ ys, ys = all es ∧ JY ys W') ∨ (∃ pre, (∃ j, pre = (all es).take j) ∧ JX pre W'))
end Ca
end Go.Proofs.YthmhadgbhakdlaaDoor

/- An Until among a row's arguments, opened: its seven cells. -/
namespace Go.Proofs.YthmhadgbhakdlaaDoor
open Go.Deep
open Go.ChangeShapes Go.WideShapes Go.ChangeAt Go.RowKit Go.Joins
theorem byte_nonneg {c : Int} (h : (Lit.int .u8 c).wf = true) : 0 ≤ c := by
  have : 0 ≤ c ∧ c ≤ 255 := by simpa [Lit.wf, IntKind.min, IntKind.max, IntKind.signed, IntKind.bits] using h
  exact this.1
theorem array7 {α : Type} {cs : Array α} (h : cs.size = 7) : ∃ c0 c1 c2 c3 c4 c5 c6, cs = #[c0, c1, c2, c3, c4, c5, c6] := by
  obtain ⟨l⟩ := cs
  match l, h with
  | [c0, c1, c2, c3, c4, c5, c6], _ => exact ⟨c0, c1, c2, c3, c4, c5, c6, rfl⟩
set_option maxRecDepth 100000 in
theorem open_strs {H : Type} {enc : TypeId × Value → H} {w : World} {base : Nat} {spare : Nat → Bool} {held : Bool} {r : Reach} {b0 : Nat} {v : Value} {d : DataW H} {p : List MemPlace}
    (hv : Value.okWide Tryd.prog w r b0 47 v) (h : DataW.Trod enc Tryd.prog w base spare held 47 v d p) :
    ∃ (A : Option Addr) (ln lc : Nat) (ss : List ByteArray), v = .slice A ln lc ∧ ln ≤ lc ∧ lc ≤ maxLen ∧ Reads w w.heap.size 1 A ln (ss.map Value.string) ∧ ∀ t ∈ ss, t.size ≤ maxLen := by
  have q0 : Tryd.prog.cellsOf 9 = 1 := by kernel_rfl
  obtain ⟨a0, ln, lc, rfl⟩ := okWide_slice Tryd.underlying47 hv
  obtain ⟨fuel, hf⟩ := h
  rcases open_strings Tryd.underlying47 Tryd.underlying9 q0 hf with ⟨hcs, _⟩ | ⟨a, ln', lc', ss, hcs, _, hl, hm, hz, _, hcell, hsz⟩
  · simp only [Value.cells, List.cons.injEq, Value.slice.injEq, and_true] at hcs
    obtain ⟨rfl, rfl, rfl⟩ := hcs
    exact ⟨none, 0, 0, [], rfl, Nat.le_refl _, Nat.zero_le _, Reads.none_, fun t ht => by cases ht⟩
  · simp only [Value.cells, List.cons.injEq, Value.slice.injEq, and_true] at hcs
    obtain ⟨rfl, rfl, rfl⟩ := hcs
    have hle : ln ≤ ss.length := by rw [hz]; split <;> omega
    refine ⟨some a, ln, lc, ss.take ln, rfl, hl, hm, ⟨by simp; omega, fun hn => ⟨a, rfl, World.block_lt_of_cell? w (a.add 0) (hcell 0 (by omega)), fun j u hj => ?_⟩⟩, fun t ht => hsz t (List.mem_of_mem_take ht)⟩
    have hj' : j < ln := by
      have := (List.getElem?_eq_some_iff.1 hj).1
      simp at this
      omega
    rw [List.getElem?_map, List.getElem?_take_of_lt hj', List.getElem?_eq_getElem (by omega)] at hj
    obtain rfl : Value.string ss[j] = u := by simpa using hj
    rw [hcell j (by omega)]
    simp [List.getD, List.getElem?_eq_getElem (show j < ss.length by omega)]
end Go.Proofs.YthmhadgbhakdlaaDoor

/- A Rule, and an Era, among a row's arguments, opened; a listed table of strings. -/
namespace Go.Proofs.YthmhadgbhakdlaaDoor
open Go.Deep
open Go.ChangeShapes Go.WideShapes Go.ChangeAt Go.RowKit Go.Joins
section
variable {H : Type} {enc : TypeId × Value → H} {P : Program} {w : World} {base : Nat} {spare : Nat → Bool} {held : Bool}
theorem trod_struct8 {t : TypeId} {f0 f1 f2 f3 f4 f5 f6 f7 : Field} {fuel : Nat} {cs : List Value} {x : DataW H × List MemPlace} (ht : P.underlying t = some (.struct #[f0, f1, f2, f3, f4, f5, f6, f7])) (h : DataW.trod enc P w base spare held fuel t cs = some x) :
    ∃ y0 y1 y2 y3 y4 y5 y6 y7 n, DataW.trod enc P w base spare held n f0.type ((cs.drop f0.offset).take (P.cellsOf f0.type)) = some y0 ∧
      DataW.trod enc P w base spare held n f1.type ((cs.drop f1.offset).take (P.cellsOf f1.type)) = some y1 ∧ DataW.trod enc P w base spare held n f2.type ((cs.drop f2.offset).take (P.cellsOf f2.type)) = some y2 ∧
      DataW.trod enc P w base spare held n f3.type ((cs.drop f3.offset).take (P.cellsOf f3.type)) = some y3 ∧ DataW.trod enc P w base spare held n f4.type ((cs.drop f4.offset).take (P.cellsOf f4.type)) = some y4 ∧
      DataW.trod enc P w base spare held n f5.type ((cs.drop f5.offset).take (P.cellsOf f5.type)) = some y5 ∧ DataW.trod enc P w base spare held n f6.type ((cs.drop f6.offset).take (P.cellsOf f6.type)) = some y6 ∧
      DataW.trod enc P w base spare held n f7.type ((cs.drop f7.offset).take (P.cellsOf f7.type)) = some y7 := by
  obtain ⟨xs, n, _, rfl, hl, hlen, hf⟩ := DataW.trod_struct ht h
  match xs, hlen with
  | [y0, y1, y2, y3, y4, y5, y6, y7], _ => exact ⟨y0, y1, y2, y3, y4, y5, y6, y7, n, by simpa using hf 0 f0 rfl, by simpa using hf 1 f1 rfl, by simpa using hf 2 f2 rfl, by simpa using hf 3 f3 rfl, by simpa using hf 4 f4 rfl, by simpa using hf 5 f5 rfl, by simpa using hf 6 f6 rfl, by simpa using hf 7 f7 rfl⟩
theorem trod_struct7 {t : TypeId} {f0 f1 f2 f3 f4 f5 f6 : Field} {fuel : Nat} {cs : List Value} {x : DataW H × List MemPlace} (ht : P.underlying t = some (.struct #[f0, f1, f2, f3, f4, f5, f6])) (h : DataW.trod enc P w base spare held fuel t cs = some x) :
    ∃ y0 y1 y2 y3 y4 y5 y6 n, DataW.trod enc P w base spare held n f0.type ((cs.drop f0.offset).take (P.cellsOf f0.type)) = some y0 ∧
      DataW.trod enc P w base spare held n f1.type ((cs.drop f1.offset).take (P.cellsOf f1.type)) = some y1 ∧ DataW.trod enc P w base spare held n f2.type ((cs.drop f2.offset).take (P.cellsOf f2.type)) = some y2 ∧
      DataW.trod enc P w base spare held n f3.type ((cs.drop f3.offset).take (P.cellsOf f3.type)) = some y3 ∧ DataW.trod enc P w base spare held n f4.type ((cs.drop f4.offset).take (P.cellsOf f4.type)) = some y4 ∧
      DataW.trod enc P w base spare held n f5.type ((cs.drop f5.offset).take (P.cellsOf f5.type)) = some y5 ∧ DataW.trod enc P w base spare held n f6.type ((cs.drop f6.offset).take (P.cellsOf f6.type)) = some y6 := by
  obtain ⟨xs, n, _, rfl, hl, hlen, hf⟩ := DataW.trod_struct ht h
  match xs, hlen with
  | [y0, y1, y2, y3, y4, y5, y6], _ => exact ⟨y0, y1, y2, y3, y4, y5, y6, n, by simpa using hf 0 f0 rfl, by simpa using hf 1 f1 rfl, by simpa using hf 2 f2 rfl, by simpa using hf 3 f3 rfl, by simpa using hf 4 f4 rfl, by simpa using hf 5 f5 rfl, by simpa using hf 6 f6 rfl⟩
end
theorem array11 {α : Type} {cs : Array α} (h : cs.size = 11) : ∃ c0 c1 c2 c3 c4 c5 c6 c7 c8 c9 c10, cs = #[c0, c1, c2, c3, c4, c5, c6, c7, c8, c9, c10] := by
  obtain ⟨l⟩ := cs
  match l, h with
  | [c0, c1, c2, c3, c4, c5, c6, c7, c8, c9, c10], _ => exact ⟨c0, c1, c2, c3, c4, c5, c6, c7, c8, c9, c10, rfl⟩
theorem array13 {α : Type} {cs : Array α} (h : cs.size = 13) : ∃ c0 c1 c2 c3 c4 c5 c6 c7 c8 c9 c10 c11 c12, cs = #[c0, c1, c2, c3, c4, c5, c6, c7, c8, c9, c10, c11, c12] := by
  obtain ⟨l⟩ := cs
  match l, h with
  | [c0, c1, c2, c3, c4, c5, c6, c7, c8, c9, c10, c11, c12], _ => exact ⟨c0, c1, c2, c3, c4, c5, c6, c7, c8, c9, c10, c11, c12, rfl⟩
/-- A listed table of strings: what its cells hold. -/
theorem strs_of_head {P : Program} {W : World} {name : String} {ls : List (List UInt8)} {rest : List (String × DataW Unit)} {g : Nat} {t e : TypeId} {n : Nat}
    (hg : P.globalNamed name = some g) (hty : (P.globals[g]?).map (·.type) = some t) (ht : P.underlying t = some (.array n e)) (he : P.underlying e = some .string) (hce : P.cellsOf e = 1) (hct : P.cellsOf t = n)
    (h : laidMet P ((name, .agg (ls.map fun l => .lit (.string l))) :: rest) W) : ∀ i l, ls[i]? = some l → W.cell? ⟨g, i, none⟩ = some (.string ⟨l.toArray⟩) := by
  obtain ⟨ps, ⟨g', t', cs, fuel, p, q, hg', ht', hvar, hd, _, _⟩, _⟩ := h
  obtain rfl := Option.some.inj (hg.symm.trans hg')
  obtain rfl := Option.some.inj (hty.symm.trans ht')
  obtain ⟨xs, m, rfl, hx, hl, hxl, hel⟩ := DataW.trod_array ht hd
  intro i l hi
  have hmap : xs.map (·.1) = ls.map fun l => (DataW.lit (.string l)) := by
    have := congrArg Prod.fst hx
    simpa using this.symm
  have hn : i < n := by
    have h1 := congrArg List.length hmap
    have h2 := (List.getElem?_eq_some_iff.1 hi).1
    simp only [List.length_map] at h1
    omega
  have hE := hel i hn
  rw [hce, Nat.mul_one, List.getElem?_eq_getElem (by omega)] at hE
  obtain ⟨s, hc, hd', _⟩ := DataW.trod_string he hE
  have h2 : (xs.map (·.1))[i]? = some xs[i].1 := by simp [List.getElem?_eq_getElem (show i < xs.length by omega)]
  rw [hmap, List.getElem?_map, hi, Option.map_some, hd'] at h2
  simp only [Option.some.injEq, DataW.lit.injEq, Lit.string.injEq] at h2
  have h3 : cs[i]? = some (.string s) := by
    have := congrArg (·[0]?) hc
    simpa [List.getElem?_take, List.getElem?_drop] using this
  have := World.var?_cell hg hvar i
  rw [this]
  rw [h2]
  exact h3
end Go.Proofs.YthmhadgbhakdlaaDoor

/- A Source among a row's arguments, opened. -/
namespace Go.Proofs.YthmhadgbhakdlaaDoor
open Go.Deep
open Go.ChangeShapes Go.WideShapes Go.ChangeAt Go.RowKit Go.Joins
theorem list11 {α : Type} {l : List α} (h : l.length = 11) : ∃ c0 c1 c2 c3 c4 c5 c6 c7 c8 c9 c10, l = [c0, c1, c2, c3, c4, c5, c6, c7, c8, c9, c10] := by
  match l, h with
  | [c0, c1, c2, c3, c4, c5, c6, c7, c8, c9, c10], _ => exact ⟨c0, c1, c2, c3, c4, c5, c6, c7, c8, c9, c10, rfl⟩
theorem list13 {α : Type} {l : List α} (h : l.length = 13) : ∃ c0 c1 c2 c3 c4 c5 c6 c7 c8 c9 c10 c11 c12, l = [c0, c1, c2, c3, c4, c5, c6, c7, c8, c9, c10, c11, c12] := by
  match l, h with
  | [c0, c1, c2, c3, c4, c5, c6, c7, c8, c9, c10, c11, c12], _ => exact ⟨c0, c1, c2, c3, c4, c5, c6, c7, c8, c9, c10, c11, c12, rfl⟩
theorem list_lt {α : Type} {p : Nat → α → Prop} : ∀ n : Nat, (∀ i, i < n → ∃ a, p i a) → ∃ xs : List α, xs.length = n ∧ ∀ i a, xs[i]? = some a → p i a
  | 0, _ => ⟨[], rfl, fun i a h => by simp at h⟩
  | n + 1, h => by
    obtain ⟨xs, h1, h2⟩ := list_lt n fun i hi => h i (by omega)
    obtain ⟨a, ha⟩ := h n (by omega)
    refine ⟨xs ++ [a], by simp [h1], fun i b hb => ?_⟩
    rcases Nat.lt_or_ge i n with hi | hi
    · rw [List.getElem?_append_left (by omega)] at hb
      exact h2 i b hb
    · rw [List.getElem?_append_right (by omega)] at hb
      have h3 : i - xs.length < 1 := by
        have := (List.getElem?_eq_some_iff.1 hb).1
        simpa using this
      have h4 : i = n := by omega
      subst h4
      rw [show i - xs.length = 0 by omega] at hb
      simp only [List.getElem?_cons_zero, Option.some.injEq] at hb
      rw [← hb]
      exact ha
theorem cells_flat {α : Type} {cells : α → List Value} {m : Nat} {w : World} {A : Addr} (hm : ∀ a, (cells a).length = m) : ∀ (xs : List α) (o : Nat), (∀ i a, xs[i]? = some a → ∀ k u, (cells a)[k]? = some u → w.cell? (A.add (o + (i * m + k))) = some u) →
    ∀ j u, (xs.flatMap cells)[j]? = some u → w.cell? (A.add (o + j)) = some u
  | [], o, h, j, u, hj => by simp at hj
  | a :: xs, o, h, j, u, hj => by
    rw [List.flatMap_cons] at hj
    rcases Nat.lt_or_ge j m with hlt | hge
    · rw [List.getElem?_append_left (by rw [hm]; exact hlt)] at hj
      have := h 0 a rfl j u hj
      rwa [Nat.zero_mul, Nat.zero_add] at this
    · rw [List.getElem?_append_right (by rw [hm]; exact hge), hm] at hj
      have := cells_flat hm xs (o + m) (fun i b hb k v hv => by
        have := h (i + 1) b (by simpa using hb) k v hv
        rwa [show o + ((i + 1) * m + k) = o + m + (i * m + k) by rw [Nat.add_mul]; omega] at this) (j - m) u hj
      rwa [show o + m + (j - m) = o + j by omega] at this
/-- A slice of records, opened: what each of its elements is. -/
theorem open_rows {H : Type} {enc : TypeId × Value → H} {P : Program} {w : World} {base : Nat} {spare : Nat → Bool} {held : Bool} {fuel : Nat} {cs : List Value} {x : DataW H × List MemPlace} {t e : TypeId} {m : Nat} {α : Type} {cells : α → List Value} {Good : α → Prop}
    (ht : P.underlying t = some (.slice e)) (hc : P.cellsOf e = m) (hm0 : 0 < m) (hm : ∀ a, (cells a).length = m)
    (hel : ∀ n cs x, cs.length = m → DataW.trod enc P w base spare held n e cs = some x → ∃ a, cs = cells a ∧ Good a)
    (h : DataW.trod enc P w base spare held fuel t cs = some x) : ∃ (v : Value) (xs : List α), cs = [v] ∧ Src.RowR w w.heap.size m xs.length v (xs.flatMap cells) ∧ ∀ a ∈ xs, Good a := by
  rcases open_slice ht h with ⟨rfl, _⟩ | ⟨A, len, cap, k, n, D, Pl, rfl, hb, hl, hcm, hk, _, hx⟩
  · exact ⟨_, [], rfl, ⟨none, 0, rfl, Nat.le_refl _, by decide, ⟨by simp, fun h => absurd h (by simp)⟩⟩, fun a ha => by cases ha⟩
  · have hlk : len ≤ k := by rw [hk]; split <;> omega
    obtain ⟨xs, h1, h2⟩ := list_lt (p := fun i a => w.cells? base (A.add (i * m)) m = some (cells a) ∧ Good a) len (fun i hi => by
      obtain ⟨cs', c1, c2⟩ := hx i (by omega)
      rw [hc] at c1
      obtain ⟨a, rfl, ha⟩ := hel n cs' _ (World.cells?_some c1).2.1 c2
      exact ⟨a, c1, ha⟩)
    refine ⟨_, xs, rfl, ⟨some A, cap, by rw [h1], by omega, hcm, ⟨?_, fun hn => ⟨A, rfl, ?_, ?_⟩⟩⟩, fun a ha => ?_⟩
    · clear h1 h2
      induction xs with
      | nil => simp
      | cons a l ih => rw [List.flatMap_cons, List.length_append, hm, ih, List.length_cons, Nat.add_mul]; omega
    · have h3 := (h2 0 xs[0] (List.getElem?_eq_getElem hn)).1
      have h4 := World.cells?_block h3 hm0
      rwa [block_of_add] at h4
    · intro j u hj
      have := cells_flat (w := w) (A := A) hm xs 0 (fun i a hi k v hv => by
        have h3 := World.cells?_some (h2 i a hi).1
        have h4 : k < m := by rw [← hm a]; exact (List.getElem?_eq_some_iff.1 hv).1
        have h5 := h3.2.2 k h4
        rw [add_add] at h5
        rw [Nat.zero_add, h5, hv]) j u hj
      rwa [Nat.zero_add] at this
    · obtain ⟨i, hi, e⟩ := List.getElem_of_mem ha
      exact (h2 i a (by rw [List.getElem?_eq_getElem hi, e])).2
namespace Src
def WideR (r : Ru.R) : Prop := 0 ≤ r.c ∧ r.nm.size ≤ maxLen ∧ r.lt.size ≤ maxLen
def WideE (e : Er.E) : Prop := 0 ≤ e.u.c ∧ e.ru.size ≤ maxLen ∧ e.fm.size ≤ maxLen
structure Wide (s : S) : Prop where
  rules : ∀ r ∈ s.rules, WideR r
  zones : ∀ z ∈ s.zones, z.1.length ≤ maxLen ∧ ∀ e ∈ z.2, WideE e
  links : ∀ k ∈ s.links, k.1.length ≤ maxLen ∧ k.2.length ≤ maxLen
  op : s.op = false
end Src
theorem list2 {α : Type} {l : List α} (h : l.length = 2) : ∃ a b, l = [a, b] := by
  match l, h with
  | [a, b], _ => exact ⟨a, b, rfl⟩
theorem txt_of (s : ByteArray) : ∃ t : Src.Txt, s = Src.bts t ∧ t.length = s.size := ⟨tl s, rfl, tl_length s⟩
theorem zip_fst_snd {α β : Type} : ∀ l : List (α × β), (l.map (·.1)).zip (l.map (·.2)) = l
  | [] => rfl
  | x :: l => by simp [zip_fst_snd l]
end Go.Proofs.YthmhadgbhakdlaaDoor

/- source.Rules. -/
namespace Go.Proofs.YthmhadgbhakdlaaDoor
open Go.RowKit

theorem reads_cells_at (w : World) (g : Nat) (cs : Array Value) (m : Nat) (t : TypeId) (hg : g = w.heap.size) (hm : cs.size = m) : Reads (w.alloc (.cells cs t)) (w.alloc (.cells cs t)).heap.size m (some ⟨g, 0, none⟩) 1 cs.toList := by
  subst hg
  refine ⟨by simpa using hm, fun _ => ⟨_, rfl, by simp, fun j u hu => cells_new w cs t j u hu⟩⟩
namespace Src
def ofName (name : ByteArray) (l : List Ru.R) : List Ru.R := l.filter fun r => decide (r.nm = name)
theorem ofName_yes {name : ByteArray} {l : List Ru.R} {k : Nat} {r : Ru.R} (h : l[k]? = some r) (hn : r.nm = name) : ofName name (l.take (k + 1)) = ofName name (l.take k) ++ [r] := by
  unfold ofName
  rw [List.take_add_one, h]
  simp [hn]
theorem ofName_no {name : ByteArray} {l : List Ru.R} {k : Nat} {r : Ru.R} (h : l[k]? = some r) (hn : ¬ r.nm = name) : ofName name (l.take (k + 1)) = ofName name (l.take k) := by
  unfold ofName
  rw [List.take_add_one, h]
  simp [hn]
theorem ofName_le (name : ByteArray) (l : List Ru.R) (k : Nat) : (ofName name (l.take k)).length ≤ k := by
  unfold ofName
  exact Nat.le_trans (List.length_filter_le _ _) (by simp; omega)
end Src
end Go.Proofs.YthmhadgbhakdlaaDoor

/- The contract of the reference's Texts: whether two lists of texts are one. -/
namespace Go.Proofs.YthmhadgbhakdlaaDoor
open Go.RowKit

theorem list_next {α : Type} {l m : List α} {k : Nat} {a : α} (h : l.take k = m.take k) (h1 : l[k]? = some a) (h2 : m[k]? = some a) : l.take (k + 1) = m.take (k + 1) := by
  rw [List.take_add_one, List.take_add_one, h, h1, h2]
set_option maxHeartbeats 1000000 in
theorem refTexts_any (A A' : Option Addr) (n n' c c' : Nat) (ss ts : List ByteArray) (w : World) (hn : n ≤ maxLen) (hn' : n' ≤ maxLen) (hr : Reads w w.heap.size 1 A n (ss.map Value.string)) (hr' : Reads w w.heap.size 1 A' n' (ts.map Value.string)) :
    Calls Tryd.prog 20 #[.slice A n c, .slice A' n' c'] w fun e w' => e = .returned (.bool (decide (ss = ts))) ∧ Drew w w' := by
  unfold maxLen at hn hn'
  have h1 : ss.length = n := by have := hr.1; simpa using this
  have h2 : ts.length = n' := by have := hr'.1; simpa using this
  by_cases he : n = n'
  · subst he
    have q0 : ((n : Int) != (n : Int)) = false := by simp
    have H1 := Lib.hid h1
    have H2 := Lib.hid h2
    have HR := Lib.hid hr
    have HR' := Lib.hid hr'
    clear h1 h2 hr hr'
    go_enter Tryd.func20, Tryd.ntmps20
    go_wp2
    go_loopw [13] (fun i wr => ∃ k : Nat, k ≤ n ∧ i = .int .i64 k ∧ Hid (Drew w wr) ∧ Hid (ss.take k = ts.take k)) (fun i _ => n - (intOf i).toNat)
    case atStart => exact ⟨0, Nat.zero_le _, rfl, Drew.refl w, rfl⟩
    case round =>
      obtain ⟨k, hk, rfl, HD, HE⟩ := hrel
      by_cases hlt : k < n
      · obtain ⟨ad, x, rfl, hx, hcell⟩ : ∃ ad nm, A = some ad ∧ Hid (ss[k]? = some nm) ∧ wr.cell? (ad.add k) = some (.string nm) := reads_str (HR.out.of_drew HD.out) hlt
        obtain ⟨ad', y, rfl, hy, hcell'⟩ : ∃ ad nm, A' = some ad ∧ Hid (ts[k]? = some nm) ∧ wr.cell? (ad.add k) = some (.string nm) := reads_str (HR'.out.of_drew HD.out) hlt
        have q1 : (0 : Int) ≤ (k : Int) := by omega
        have q2 : (k : Int) < (n : Int) := by omega
        by_cases hxy : x = y
        · subst hxy
          have HN := Lib.hid (list_next HE.out hx.out hy.out)
          go_wp2
          go_quiet (fail)
          go_wp2
          go_roundw
          case rel => exact ⟨k + 1, by omega, by go_num, by first | exact HD.out | exact HD.out.drewN _, HN⟩
          case measure => simp [intOf]; omega
        · have qe : (x.toList == y.toList) = false := by
            rw [beq_eq_false_iff_ne]
            intro e
            apply hxy
            rw [ByteArray.toList_eq, ByteArray.toList_eq] at e
            apply ByteArray.ext
            exact Array.ext' e
          have qe' : ¬ x.toList = y.toList := by simpa using qe
          have HN : Hid (decide (ss = ts) = false) := by
            show decide (ss = ts) = false
            apply decide_eq_false
            intro e
            apply hxy
            have a := hx.out
            rw [e, hy.out] at a
            exact (Option.some.inj a).symm
          clear hxy
          go_wp2
          go_quiet (fail)
          go_wp2
          go_ret
          exact ⟨ret_bool (by rw [HN.out]), by first | exact HD.out | exact HD.out.drewN _⟩
      · obtain rfl : k = n := by omega
        have HN : Hid (decide (ss = ts) = true) := by
          show decide (ss = ts) = true
          apply decide_eq_true
          have e := HE.out
          rw [List.take_of_length_le (by have := H1.out; omega), List.take_of_length_le (by have := H2.out; omega)] at e
          exact e
        go_wp2
        go_ret
        exact ⟨ret_bool (by rw [HN.out]), HD.out⟩
  · have q0 : ((n : Int) != (n' : Int)) = true := by simp; omega
    have HN : Hid (decide (ss = ts) = false) := by
      show decide (ss = ts) = false
      apply decide_eq_false
      intro e
      apply he
      rw [← h1, ← h2, e]
    clear h1 h2 hr hr' he
    go_enter Tryd.func20, Tryd.ntmps20
    go_wp2
    go_ret
    exact ⟨ret_bool (by rw [HN.out]), Drew.refl w⟩
end Go.Proofs.YthmhadgbhakdlaaDoor

/- The statements' own 'lives' of package moment. -/
namespace Go.Proofs.YthmhadgbhakdlaaDoor
open Go.RowKit

instance : DecidableEq Mo.U := fun a b => decidable_of_iff (a.y = b.y ∧ a.m = b.m ∧ a.k = b.k ∧ a.n = b.n ∧ a.d = b.d ∧ a.s = b.s ∧ a.c = b.c) (by cases a; cases b; simp)
theorem itoa_1999 : Lib.itoa 1999 = [49, 57, 57, 57] := by
  unfold Lib.itoa
  rw [if_neg (by decide)]
  rw [Lib.decDigits, dif_neg (by decide), Lib.decDigits, dif_neg (by decide), Lib.decDigits, dif_neg (by decide), Lib.decDigits, dif_pos (by decide)]
  rfl
def Mo.uOct : Mo.U := ⟨1999, 10, 0, 1, 0, 0, 0⟩
theorem oct_ok : Mo.uOct.Ok := ⟨⟨by decide +kernel, by decide +kernel, by decide +kernel, by decide +kernel⟩, by decide +kernel, by decide +kernel⟩
theorem texts_oct : Mo.uOct.texts = [⟨#[49, 57, 57, 57]⟩, ⟨#[79, 99, 116]⟩] := by
  have e1 : (⟨(Mo.text 0 0).toArray⟩ : ByteArray) = Mo.u3 := by unfold Mo.text; rw [text_eq]; decide +kernel
  have e2 : (⟨(Dy.text 0 1 0).toArray⟩ : ByteArray) = Mo.u2 := by decide +kernel
  have e3 : ¬ textOf Months (10 - 1) = Mo.u1 := by decide +kernel
  have hc : Mo.uOct.count = 2 := by
    unfold Mo.U.count Mo.uOct
    rw [if_pos e1, if_pos e2, if_neg e3]
  unfold Mo.U.texts
  rw [hc]
  unfold Mo.U.full Mo.uOct
  simp only [itoa_1999]
  decide +kernel
theorem reads_at (w : World) (g : Nat) (l : List ByteArray) (t : TypeId) (hg : g = w.heap.size) : Reads (w.alloc (.cells (strCells l) t)) (w.alloc (.cells (strCells l) t)).heap.size 1 (some ⟨g, 0, none⟩) l.length (l.map Value.string) := by
  subst hg
  exact reads_new w l t
theorem texts_yes (A A' : Option Addr) (n n' c c' : Nat) (ss ts : List ByteArray) (w : World) (hn : n ≤ maxLen) (hn' : n' ≤ maxLen) (hr : Reads w w.heap.size 1 A n (ss.map Value.string)) (hr' : Reads w w.heap.size 1 A' n' (ts.map Value.string)) (h : ss = ts) :
    Calls Tryd.prog 20 #[.slice A n c, .slice A' n' c'] w fun e w' => e = .returned (.bool true) ∧ Below w.heap.size w w' :=
  (calls_bool (refTexts_any A A' n n' c c' ss ts w hn hn' hr hr') (by rw [h]; simp)).mono fun _ _ ⟨a, d⟩ => ⟨a, d.below _⟩

end Go.Proofs.YthmhadgbhakdlaaDoor

/- The statements' own 'lives' of package source. -/
namespace Go.Proofs.YthmhadgbhakdlaaDoor
open Go.RowKit

namespace Lv
def e1 : Er.E := ⟨3600, 2, 0, ⟨#[69, 85]⟩, ⟨#[67, 69, 37, 115, 84]⟩, true, ⟨2000, 1, 0, 1, 0, 0, 0⟩⟩
def e2 : Er.E := ⟨7200, 0, 0, ⟨#[]⟩, ⟨#[88]⟩, false, ⟨0, 0, 0, 0, 0, 0, 0⟩⟩
def r1 : Ru.R := ⟨⟨#[69, 85]⟩, 1981, 9999, 3, 1, 0, 0, 3600, 2, 3600, ⟨#[83]⟩⟩
def s1 : Src.S := ⟨[r1], [([65, 47, 66], [e1, e2])], [([65, 47, 66], [67])], false⟩
theorem p1 : Src.parse Src.own (tl ⟨([82, 117, 108, 101, 32, 69, 85, 32, 49, 57, 56, 49, 32, 109, 97, 120, 32, 45, 32, 77, 97, 114, 32, 108, 97, 115, 116, 83, 117, 110, 32, 49, 58, 48, 48, 117, 32, 49, 58, 48, 48, 32, 83, 32, 35, 32, 120, 10, 90, 111, 110, 101, 32, 65, 47, 66, 32, 49, 58, 48, 48, 32, 69, 85, 32, 67, 69, 37, 115, 84, 32, 50, 48, 48, 48, 10, 32, 50, 58, 48, 48, 32, 45, 32, 88, 10, 76, 32, 65, 47, 66, 32, 67, 10]).toArray⟩) = .ok s1 := by kernel_rfl
theorem p2 : Src.parse Src.own (tl ⟨([90, 111, 110, 101, 32, 65, 32, 49, 58, 48, 48, 32, 45, 32, 88, 32, 50, 48, 48, 48, 10]).toArray⟩) = .bad 1 1 5 := by kernel_rfl
theorem p3 : Src.parse Src.own (tl ⟨([82, 117, 108, 101, 32, 69, 85, 32, 49, 57, 56, 49, 10, 120]).toArray⟩) = .bad 1 9 5 := by kernel_rfl
theorem p4 : Src.parse Src.own (tl ⟨([10, 32, 76, 105, 110, 107, 32, 65, 32, 57, 98]).toArray⟩) = .bad 2 9 7 := by kernel_rfl
theorem p5 : Src.parse Src.own (tl ⟨([90, 111, 110, 101, 32, 65, 32, 49, 58, 48, 48, 32, 45, 32, 88, 32, 50, 48, 48, 48, 10, 32, 82, 117, 108, 101, 32, 97, 32, 98]).toArray⟩) = .bad 2 2 4 := by kernel_rfl
theorem open_ {w : World} {B : Nat} {rv zv lv : Value} {evs : List Value} (h : Src.SrcR w B s1 rv zv lv evs) : ∃ ra rc za zc la lc ea ec, rv = .slice (some ra) 1 rc ∧ zv = .slice (some za) 1 zc ∧ lv = .slice (some la) 1 lc ∧ evs = [.slice (some ea) 2 ec] ∧
    (ra.block < B ∧ za.block < B ∧ la.block < B ∧ ea.block < B) ∧ w.cell? ra = some (.string ⟨#[69, 85]⟩) ∧ w.cell? ⟨za.block, za.off + 1, none⟩ = some (.slice (some ea) 2 ec) ∧ w.cell? la = some (.string ⟨#[65, 47, 66]⟩) ∧ w.cell? ⟨la.block, la.off + 1, none⟩ = some (.string ⟨#[67]⟩) ∧ w.cell? ⟨ea.block, ea.off + 13, none⟩ = some (.int .i64 7200) := by
  obtain ⟨⟨rA, rc, rfl, hr1, hr2, hr3⟩, ⟨zA, zc, rfl, hz1, hz2, hz3⟩, ⟨lA, lc, rfl, hl1, hl2, hl3⟩, hlen, hers⟩ := h
  have hlen' : evs.length = 1 := hlen
  obtain ⟨ev, rfl⟩ : ∃ ev, evs = [ev] := by
    match evs, hlen' with
    | [ev], _ => exact ⟨ev, rfl⟩
  obtain ⟨eA, ec, he, he1, he2, he3⟩ := hers (([65, 47, 66], [e1, e2]), ev) (List.mem_cons_self)
  have he' : ev = .slice eA 2 ec := he
  subst he'
  obtain ⟨ra, rfl, rb, rcell⟩ := hr3.2 (by decide)
  obtain ⟨za, rfl, zb, zcell⟩ := hz3.2 (by decide)
  obtain ⟨la, rfl, lb, lcell⟩ := hl3.2 (by decide)
  obtain ⟨ea, rfl, eb, ecell⟩ := he3.2 (show 0 < 2 by decide)
  exact ⟨ra, rc, za, zc, la, lc, ea, ec, rfl, rfl, rfl, rfl, ⟨rb, zb, lb, eb⟩, rcell 0 _ rfl, zcell 1 _ rfl, lcell 0 _ rfl, lcell 1 _ rfl, ecell 13 _ rfl⟩
theorem r1_ok : r1.Ok := ⟨by decide +kernel, by decide +kernel, by decide +kernel, by decide +kernel, by decide +kernel, by decide +kernel, by decide +kernel⟩
theorem e1_ok : e1.Ok := ⟨by decide +kernel, by decide +kernel, .inr (.inr ⟨rfl, rfl, by decide +kernel⟩), fun _ => ⟨⟨by decide +kernel, by decide +kernel, by decide +kernel, by decide +kernel⟩, by decide +kernel, by decide +kernel⟩, fun h => (by cases h)⟩
theorem e2_ok : e2.Ok := ⟨by decide +kernel, by decide +kernel, .inl ⟨rfl, rfl, rfl⟩, fun h => (by cases h), fun _ => rfl⟩
theorem s1_ok : Src.srcB s1 = true := by
  have h1 : r1.good = true := (Ru.R.good_iff r1).2 r1_ok
  have h2 : e1.good = true := by unfold Er.E.good; rw [Er.chk_ok e1 e1_ok]; rfl
  have h3 : e2.good = true := by unfold Er.E.good; rw [Er.chk_ok e2 e2_ok]; rfl
  have h4 : Src.zoneB ([65, 47, 66], [e1, e2]) = true := by
    unfold Src.zoneB Src.erasB Src.erasB Src.erasB
    simp only [h2, h3]
    decide +kernel
  have h5 : Src.linkB ([65, 47, 66], [67]) = true := by decide +kernel
  unfold Src.srcB s1
  simp only [List.all_cons, List.all_nil, h1, h4, h5]
  rfl
theorem s1_lims : Src.Lims s1 := ⟨by decide, by decide, by decide⟩
theorem s1_sm : Src.Sm s1 := by
  refine ⟨?_, ?_, ?_⟩
  · intro r hr
    rw [show s1.rules = [r1] from rfl, List.mem_singleton] at hr
    subst hr
    decide
  · intro z hz
    rw [show s1.zones = [([65, 47, 66], [e1, e2])] from rfl, List.mem_singleton] at hz
    subst hz
    refine ⟨by decide, ?_⟩
    intro e he
    simp only [List.mem_cons, List.not_mem_nil, or_false] at he
    rcases he with rfl | rfl
    · exact ⟨by decide, by decide⟩
    · exact ⟨by decide, by decide⟩
  · intro k hk
    rw [show s1.links = [([65, 47, 66], [67])] from rfl, List.mem_singleton] at hk
    subst hk
    decide
def s2 : Src.S := ⟨[], [([65], [])], [], false⟩
theorem s2_bad : Src.srcB s2 = false := by
  have h4 : Src.zoneB ([65], []) = false := by
    unfold Src.zoneB
    simp
  unfold Src.srcB s2
  simp [h4]
theorem s2_lims : Src.Lims s2 := ⟨by decide, by decide, by decide⟩
theorem s2_sm : Src.Sm s2 := by
  refine ⟨fun r hr => (by cases hr), ?_, fun k hk => (by cases hk)⟩
  intro z hz
  rw [show s2.zones = [([65], [])] from rfl, List.mem_singleton] at hz
  subst hz
  exact ⟨by decide, fun e he => (by cases he)⟩
theorem row_nil (w : World) (B size : Nat) : Src.RowR w B size 0 (.slice none 0 0) [] := ⟨none, 0, rfl, Nat.le_refl _, by decide, ⟨by simp, fun h => absurd h (by omega)⟩⟩
theorem src_nil (w : World) (B : Nat) : Src.SrcR w B Src.St.none_ (.slice none 0 0) (.slice none 0 0) (.slice none 0 0) [] :=
  ⟨row_nil w B 11, row_nil w B 2, row_nil w B 2, rfl, fun p hp => (by cases hp)⟩
end Lv
end Go.Proofs.YthmhadgbhakdlaaDoor

/- What is read of a short text is right, as source.Check asks it. -/
namespace Go.Proofs.YthmhadgbhakdlaaDoor
open Go.RowKit

namespace Src
theorem name_len {t : Txt} (h : Ru.name t = true) : t.length ≤ 64 := by
  unfold Ru.name at h
  simp only [Bool.and_eq_true, decide_eq_true_eq] at h
  exact h.1.2
def GoodE (e : Er.E) : Prop := e.Ok
theorem erasB_done : ∀ (es : List Er.E) (e : Er.E), (∀ x ∈ es, x.Ok ∧ x.en = true) → e.Ok → e.en = false → erasB (es ++ [e]) = true
  | [], e, _, h, he => by
    have : e.good = true := by unfold Er.E.good; rw [Er.chk_ok e h]; rfl
    simp [erasB, this, he]
  | x :: es, e, hx, h, he => by
    have h1 := hx x List.mem_cons_self
    have : x.good = true := by unfold Er.E.good; rw [Er.chk_ok x h1.1]; rfl
    have ih := erasB_done es e (fun y hy => hx y (List.mem_cons_of_mem _ hy)) h he
    have e1 : ((es ++ [e]).isEmpty) = false := by cases es <;> rfl
    rw [List.cons_append, erasB, this, h1.2, e1, ih]
    rfl
theorem zoneB_done {z : Txt × List Er.E} (hb : Base own Er.E.Ok z) (hd : Done own z) : zoneB z = true := by
  obtain ⟨h1, h2, h3⟩ := hb
  obtain ⟨es, e, he, h4, h5⟩ := hd
  have hn : Ru.name z.1 = true := h1
  have h6 := erasB_done es e (fun x hx => ⟨h3 x (by rw [he]; simp [hx]), h4 x hx⟩) (h3 e (by rw [he]; simp)) h5
  unfold zoneB
  rw [hn, decide_eq_true (show 1 ≤ z.2.length by rw [he]; simp), decide_eq_true h2, he, h6]
  rfl
theorem zones_done : ∀ (zs : List (Txt × List Er.E)), ZonesOk own Er.E.Ok false zs → ∀ z ∈ zs, Base own Er.E.Ok z ∧ Done own z
  | [], _, z, hz => by cases hz
  | [x], h, z, hz => by
    rw [List.mem_singleton] at hz
    subst hz
    exact ⟨h.1, by have := h.2; rw [if_neg (by decide)] at this; exact this⟩
  | x :: y :: l, h, z, hz => by
    rcases List.mem_cons.1 hz with rfl | hz
    · exact ⟨h.1, h.2.1⟩
    · exact zones_done (y :: l) h.2.2 z hz
abbrev Rt (s : S) : Prop := Right own Ru.R.Ok Er.E.Ok s
theorem right_of {t : Txt} {x : S} (hs : t.length ≤ 1048576) (h : parse own t = .ok x) : Rt x ∧ x.op = false := by
  refine parse_right own Ru.R.Ok Er.E.Ok ?_ ?_ t x hs h
  · intro l hl
    have hown : own.rule l = Ru.parse (l.map bts) := rfl
    rw [hown] at hl ⊢
    rcases Ru.parse_ok (l.map bts) with h | h
    · exact h.2.2.2.1
    · exact absurd hl h.1
  · intro l hl
    have hown : own.era l = Er.parse (l.map bts) := rfl
    rw [hown] at hl ⊢
    rcases Er.parse_ok (l.map bts) with h | h
    · exact h.2.2.1
    · exact absurd hl h.1
theorem right_srcB {x : S} (h : Rt x) (ho : x.op = false) : srcB x = true := by
  have hz := h.zones.2
  rw [ho] at hz
  have h1 : x.rules.all Ru.R.good = true := List.all_eq_true.2 fun r hr => (Ru.R.good_iff r).2 (h.rules.2 r hr)
  have h2 : x.zones.all zoneB = true := List.all_eq_true.2 fun z hz' => zoneB_done (zones_done x.zones hz z hz').1 (zones_done x.zones hz z hz').2
  have h3 : x.links.all linkB = true := List.all_eq_true.2 fun k hk => by
    have := h.links.2 k hk
    have h1 : Ru.name k.1 = true := this.1
    have h2 : Ru.name k.2 = true := this.2
    unfold linkB
    rw [h1, h2]
    rfl
  unfold srcB
  rw [h1, h2, h3]
  rfl
theorem right_lims {x : S} (h : Rt x) : Lims x := ⟨h.rules.1, h.zones.1, h.links.1⟩
theorem right_sm {x : S} (h : Rt x) (ho : x.op = false) : Sm x := by
  have hz := h.zones.2
  rw [ho] at hz
  refine ⟨fun r hr => ?_, fun z hz' => ?_, fun k hk => ?_⟩
  · have hR := h.rules.2 r hr
    obtain ⟨h1, _, _, _, _, _, h7⟩ := hR
    have := name_len h1
    rw [tl_length] at this
    unfold Ab.letter at h7
    simp only [Bool.and_eq_true, decide_eq_true_eq] at h7
    exact ⟨by omega, by have := h7.1.1; omega⟩
  · have hB := (zones_done x.zones hz z hz').1
    refine ⟨by have := name_len (show Ru.name z.1 = true from hB.1); omega, fun e he => ?_⟩
    obtain ⟨_, hf, hk, _⟩ := hB.2.2 e he
    refine ⟨?_, ?_⟩
    · have := Ab.fmt_size e.fm hf
      unfold maxLen
      omega
    · unfold maxLen
      rcases hk with ⟨_, _, hr⟩ | ⟨_, _, hr⟩ | ⟨_, _, hr⟩
      · rw [hr]; decide
      · rw [hr]; decide
      · have := name_len hr
        rw [tl_length] at this
        omega
  · have := h.links.2 k hk
    have h1 := name_len (show Ru.name k.1 = true from this.1)
    have h2 := name_len (show Ru.name k.2 = true from this.2)
    exact ⟨by omega, by omega⟩
end Src
end Go.Proofs.YthmhadgbhakdlaaDoor

/- source.Check of any source, however long its names are, and however many there are. -/
namespace Go.Proofs.YthmhadgbhakdlaaDoor
open Go.RowKit

theorem name_btsW (t : Src.Txt) (w : World) (h : t.length ≤ maxLen) (b : Bool) (hb : Ru.name t = b) : Calls Tryd.prog 35 #[.string (Src.bts t)] w fun e w' => e = .returned (.bool b) ∧ Below w.heap.size w w' := by
  have := name_all (Src.bts t) w h
  rw [show tl (Src.bts t) = t from tl_mk t, hb] at this
  exact this
/-- No name is too long for a machine. -/
structure Src.SmW (s : Src.S) : Prop where
  rules : ∀ r ∈ s.rules, r.nm.size ≤ maxLen ∧ r.lt.size ≤ maxLen
  zones : ∀ z ∈ s.zones, z.1.length ≤ maxLen ∧ ∀ e ∈ z.2, e.fm.size ≤ maxLen ∧ e.ru.size ≤ maxLen
  links : ∀ k ∈ s.links, k.1.length ≤ maxLen ∧ k.2.length ≤ maxLen
theorem Src.Wide.smw {s : Src.S} (h : Src.Wide s) : Src.SmW s := ⟨fun r hr => (h.rules r hr).2, fun z hz => ⟨(h.zones z hz).1, fun e he => ⟨((h.zones z hz).2 e he).2.2, ((h.zones z hz).2 e he).2.1⟩⟩, h.links⟩
end Go.Proofs.YthmhadgbhakdlaaDoor
