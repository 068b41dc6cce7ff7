/- A list of missed years among a row's arguments, opened; listed tables of strings, and listed errors. -/
import Derived.Test.YtlmheieabkdhjaaDoorTellBackWalk
import Derived.ProofKit
import Derived.OpenShut
import Derived.Lib.SmallJoins
import Derived.SliceStrings
import Derived.Deep.RegionHeld
import Derived.Deep.Strs
import Derived.Deep.Slices
import Derived.Lib.LaidTab
import Derived.LaidLaws
namespace Go.Proofs.YtlmheieabkdhjaaDoor
open Go.Deep
open Go.ChangeShapes Go.WideShapes Go.ChangeAt Go.RowKit Go.Joins
theorem list_lt {α : Type} {p : Nat → α → Prop} : ∀ n : Nat, (∀ i, i < n → ∃ a, p i a) → ∃ xs : List α, xs.length = n ∧ ∀ i a, xs[i]? = some a → p i a
  | 0, _ => ⟨[], rfl, fun i a h => by simp at h⟩
  | n + 1, h => by
    obtain ⟨xs, h1, h2⟩ := list_lt n fun i hi => h i (by omega)
    obtain ⟨a, ha⟩ := h n (by omega)
    refine ⟨xs ++ [a], by simp [h1], fun i b hb => ?_⟩
    rcases Nat.lt_or_ge i n with hi | hi
    · rw [List.getElem?_append_left (by omega)] at hb
      exact h2 i b hb
    · rw [List.getElem?_append_right (by omega)] at hb
      have h3 : i - xs.length < 1 := by
        have := (List.getElem?_eq_some_iff.1 hb).1
        simpa using this
      have h4 : i = n := by omega
      subst h4
      rw [show i - xs.length = 0 by omega] at hb
      simp only [List.getElem?_cons_zero, Option.some.injEq] at hb
      rw [← hb]
      exact ha
theorem cells_flat {α : Type} {cells : α → List Value} {m : Nat} {w : World} {A : Addr} (hm : ∀ a, (cells a).length = m) : ∀ (xs : List α) (o : Nat), (∀ i a, xs[i]? = some a → ∀ k u, (cells a)[k]? = some u → w.cell? (A.add (o + (i * m + k))) = some u) →
    ∀ j u, (xs.flatMap cells)[j]? = some u → w.cell? (A.add (o + j)) = some u
  | [], o, h, j, u, hj => by simp at hj
  | a :: xs, o, h, j, u, hj => by
    rw [List.flatMap_cons] at hj
    rcases Nat.lt_or_ge j m with hlt | hge
    · rw [List.getElem?_append_left (by rw [hm]; exact hlt)] at hj
      have := h 0 a rfl j u hj
      rwa [Nat.zero_mul, Nat.zero_add] at this
    · rw [List.getElem?_append_right (by rw [hm]; exact hge), hm] at hj
      have := cells_flat hm xs (o + m) (fun i b hb k v hv => by
        have := h (i + 1) b (by simpa using hb) k v hv
        rwa [show o + ((i + 1) * m + k) = o + m + (i * m + k) by rw [Nat.add_mul]; omega] at this) (j - m) u hj
      rwa [show o + m + (j - m) = o + j by omega] at this
theorem flat_len {α : Type} {cells : α → List Value} {m : Nat} (hm : ∀ a, (cells a).length = m) : ∀ xs : List α, (xs.flatMap cells).length = xs.length * m
  | [] => by simp
  | a :: l => by rw [List.flatMap_cons, List.length_append, hm, flat_len hm l, List.length_cons, Nat.add_mul]; omega
/-- A slice of records, opened: what each of its elements is. -/
theorem open_rows {H : Type} {enc : TypeId × Value → H} {P : Program} {w : World} {base : Nat} {spare : Nat → Bool} {held : Bool} {fuel : Nat} {cs : List Value} {x : DataW H × List MemPlace} {t e : TypeId} {m : Nat} {α : Type} {cells : α → List Value} {Good : α → Prop}
    (ht : P.underlying t = some (.slice e)) (hc : P.cellsOf e = m) (hm0 : 0 < m) (hm : ∀ a, (cells a).length = m)
    (hel : ∀ n cs x, cs.length = m → DataW.trod enc P w base spare held n e cs = some x → ∃ a, cs = cells a ∧ Good a)
    (h : DataW.trod enc P w base spare held fuel t cs = some x) : ∃ (A : Option Addr) (ln c : Nat) (xs : List α), cs = [.slice A ln c] ∧ xs.length = ln ∧ ln ≤ c ∧ c ≤ maxLen ∧ Reads w w.heap.size m A ln (xs.flatMap cells) ∧ ∀ a ∈ xs, Good a := by
  rcases open_slice ht h with ⟨rfl, _⟩ | ⟨A, len, cap, k, n, D, Pl, rfl, hb, hl, hcm, hk, _, hx⟩
  · exact ⟨none, 0, 0, [], rfl, rfl, Nat.le_refl _, by decide, ⟨by simp, fun h => absurd h (by simp)⟩, fun a ha => by cases ha⟩
  · have hlk : len ≤ k := by rw [hk]; split <;> omega
    obtain ⟨xs, h1, h2⟩ := list_lt (p := fun i a => w.cells? base (A.add (i * m)) m = some (cells a) ∧ Good a) len (fun i hi => by
      obtain ⟨cs', c1, c2⟩ := hx i (by omega)
      rw [hc] at c1
      obtain ⟨a, rfl, ha⟩ := hel n cs' _ (World.cells?_some c1).2.1 c2
      exact ⟨a, c1, ha⟩)
    subst h1
    refine ⟨some A, _, cap, xs, rfl, rfl, by omega, hcm, ⟨?_, fun hn => ⟨A, rfl, ?_, ?_⟩⟩, fun a ha => ?_⟩
    · exact flat_len hm xs
    · have h3 := (h2 0 xs[0] (List.getElem?_eq_getElem hn)).1
      have h4 := World.cells?_block h3 hm0
      rwa [block_of_add] at h4
    · intro j u hj
      have := cells_flat (w := w) (A := A) hm xs 0 (fun i a hi k v hv => by
        have h3 := World.cells?_some (h2 i a hi).1
        have h4 : k < m := by rw [← hm a]; exact (List.getElem?_eq_some_iff.1 hv).1
        have h5 := h3.2.2 k h4
        rw [add_add] at h5
        rw [Nat.zero_add, h5, hv]) j u hj
      rwa [Nat.zero_add] at this
    · obtain ⟨i, hi, e⟩ := List.getElem_of_mem ha
      exact (h2 i a (by rw [List.getElem?_eq_getElem hi, e])).2
theorem strs_of_head {P : Program} {W : World} {name : String} {ls : List (List UInt8)} {rest : List (String × DataW Unit)} {g : Nat} {t e : TypeId} {n : Nat}
    (hg : P.globalNamed name = some g) (hty : (P.globals[g]?).map (·.type) = some t) (ht : P.underlying t = some (.array n e)) (he : P.underlying e = some .string) (hce : P.cellsOf e = 1) (hct : P.cellsOf t = n)
    (h : laidMet P ((name, .agg (ls.map fun l => .lit (.string l))) :: rest) W) : ∀ i l, ls[i]? = some l → W.cell? ⟨g, i, none⟩ = some (.string ⟨l.toArray⟩) := by
  obtain ⟨ps, ⟨g', t', cs, fuel, p, q, hg', ht', hvar, hd, _, _⟩, _⟩ := h
  obtain rfl := Option.some.inj (hg.symm.trans hg')
  obtain rfl := Option.some.inj (hty.symm.trans ht')
  obtain ⟨xs, m, rfl, hx, hl, hxl, hel⟩ := DataW.trod_array ht hd
  intro i l hi
  have hmap : xs.map (·.1) = ls.map fun l => (DataW.lit (.string l)) := by
    have := congrArg Prod.fst hx
    simpa using this.symm
  have hn : i < n := by
    have h1 := congrArg List.length hmap
    have h2 := (List.getElem?_eq_some_iff.1 hi).1
    simp only [List.length_map] at h1
    omega
  have hE := hel i hn
  rw [hce, Nat.mul_one, List.getElem?_eq_getElem (by omega)] at hE
  obtain ⟨s, hc, hd', _⟩ := DataW.trod_string he hE
  have h2 : (xs.map (·.1))[i]? = some xs[i].1 := by simp [List.getElem?_eq_getElem (show i < xs.length by omega)]
  rw [hmap, List.getElem?_map, hi, Option.map_some, hd'] at h2
  simp only [Option.some.injEq, DataW.lit.injEq, Lit.string.injEq] at h2
  have h3 : cs[i]? = some (.string s) := by
    have := congrArg (·[0]?) hc
    simpa [List.getElem?_take, List.getElem?_drop] using this
  have := World.var?_cell hg hvar i
  rw [this]
  rw [h2]
  exact h3
theorem iface_of_head {P : Program} {W : World} {name nm : String} {d : DataW Unit} {rest : List (String × DataW Unit)} {g : Nat} {t : TypeId} {ms : Array (String × TypeId)}
    (hg : P.globalNamed name = some g) (hty : (P.globals[g]?).map (·.type) = some t) (ht : P.underlying t = some (.interface ms))
    (h : laidMet P ((name, .iface nm d) :: rest) W) : ∃ ev, W.cell? ⟨g, 0, none⟩ = some ev ∧ (ev = .nilIface ∨ ∃ te pe, ev = .iface te pe) := by
  obtain ⟨ps, ⟨g', t', cs, fuel, p, q, hg', ht', hvar, hd, _, _⟩, _⟩ := h
  obtain rfl := Option.some.inj (hg.symm.trans hg')
  obtain rfl := Option.some.inj (hty.symm.trans ht')
  obtain ⟨l⟩ := cs
  obtain ⟨f1, u, v, e, _, _⟩ := iface_of_trod ht hd
  have e2 : l = [.iface u v] := e
  subst e2
  exact ⟨_, by rw [World.var?_cell hg hvar 0]; rfl, .inr ⟨u, v, rfl⟩⟩
theorem words_get (i : Nat) (h : i < 6) : ([[], [109, 105, 110, 117, 116, 101], [102, 97, 114], [109, 97, 110, 121], [115, 104, 105, 102, 116], [100, 97, 116, 101]] : List (List UInt8))[i]? = some (Te.word i) := by
  rcases (by omega : i = 0 ∨ i = 1 ∨ i = 2 ∨ i = 3 ∨ i = 4 ∨ i = 5) with rfl | rfl | rfl | rfl | rfl | rfl <;> rfl
theorem list3 {α : Type} {l : List α} (h : l.length = 3) : ∃ a b c, l = [a, b, c] := by
  match l, h with
  | [a, b, c], _ => exact ⟨a, b, c, rfl⟩
theorem byte_bound {c : Int} (h : (Lit.int .u8 c).wf = true) : 0 ≤ c ∧ c ≤ 255 := by
  simpa [Lit.wf, IntKind.min, IntKind.max, IntKind.signed, IntKind.bits] using h
theorem int_bound {c : Int} (h : (Lit.int .i64 c).wf = true) : -9223372036854775808 ≤ c ∧ c ≤ 9223372036854775807 := by
  simpa [Lit.wf, IntKind.min, IntKind.max, IntKind.signed, IntKind.bits] using h
def Te.Wide (m : Te.M) : Prop := -9223372036854775808 ≤ m.y ∧ m.y ≤ 9223372036854775807
set_option maxRecDepth 100000 in
theorem open_missed_cells {H : Type} {enc : TypeId × Value → H} {w : World} {base : Nat} {spare : Nat → Bool} {held : Bool} {fuel : Nat} {cs : List Value} {x : DataW H × List MemPlace} (hl : cs.length = 3)
    (h : DataW.trod enc Tryd.prog w base spare held fuel 37 cs = some x) : ∃ m : Te.M, cs = Te.mc m ∧ Te.Wide m := by
  have q0 : Tryd.prog.cellsOf 3 = 1 := by kernel_rfl
  have q3 : Tryd.prog.cellsOf 35 = 1 := by kernel_rfl
  have q6 : Tryd.prog.cellsOf 9 = 1 := by kernel_rfl
  obtain ⟨c0, c1, c2, rfl⟩ := list3 hl
  obtain ⟨y0, y1, y2, n, _, _, h0, h1, h2⟩ := trod_struct3 Tryd.underlying37 h
  simp only [q0, q3, q6, List.drop, List.take] at h0 h1 h2
  obtain ⟨nm, e0, _, wn⟩ := DataW.trod_string Tryd.underlying9 h0
  obtain ⟨y, e1, _, wy⟩ := DataW.trod_int Tryd.underlying3 h1
  obtain ⟨r, e2, _, wr⟩ := DataW.trod_int Tryd.underlying35 h2
  simp only [List.cons.injEq, and_true] at e0 e1 e2
  subst e0 e1 e2
  have hb := byte_bound wr
  refine ⟨⟨nm, y, r.toNat⟩, ?_, int_bound wy⟩
  unfold Te.mc
  simp only
  rw [Int.toNat_of_nonneg hb.1]
set_option maxRecDepth 100000 in
theorem open_missed {H : Type} {enc : TypeId × Value → H} {w : World} {base : Nat} {spare : Nat → Bool} {held : Bool} {r : Reach} {b0 : Nat} {v : Value} {d : DataW H} {p : List MemPlace}
    (hv : Value.okWide Tryd.prog w r b0 22 v) (h : DataW.Trod enc Tryd.prog w base spare held 22 v d p) :
    ∃ (A : Option Addr) (ln lc : Nat) (ms : List Te.M), v = .slice A ln lc ∧ ms.length = ln ∧ ln ≤ maxLen ∧ (∀ m ∈ ms, -9223372036854775808 ≤ m.y ∧ m.y ≤ 9223372036854775807) ∧ Reads w w.heap.size 3 A ln (Te.rows ms) := by
  obtain ⟨a0, ln, lc, rfl⟩ := okWide_slice Tryd.underlying22 hv
  obtain ⟨fuel, hf⟩ := h
  obtain ⟨A, n, c, xs, e, h1, h2, h3, h4, h5⟩ := open_rows (cells := Te.mc) (Good := Te.Wide) Tryd.underlying22 (by kernel_rfl) (show 0 < 3 by decide) (fun _ => rfl) (fun n cs x hl hx => open_missed_cells hl hx) hf
  simp only [Value.cells, List.cons.injEq, Value.slice.injEq, and_true] at e
  obtain ⟨rfl, rfl, rfl⟩ := e
  exact ⟨a0, ln, lc, xs, rfl, h1, Nat.le_trans h2 h3, h5, h4⟩
end Go.Proofs.YtlmheieabkdhjaaDoor
