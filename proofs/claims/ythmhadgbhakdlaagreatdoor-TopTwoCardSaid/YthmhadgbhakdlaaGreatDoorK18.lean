/- A hive, and a value, among a row's arguments, opened: their strings obey the form's reach. -/
import Derived.Test.YthmhadgbhakdlaaGreatDoorK06
import Derived.ProofKit
import Derived.OpenShut
import Derived.Lib.SmallJoins
import Derived.SliceStrings
import Derived.Deep.RegionHeld
import Derived.Deep.Strs
import Derived.Deep.Slices
import Derived.Lib.LaidTab
import Derived.SizedLaws
import Derived.Test.YthmhadgbhakdlaaGreatDoorK12
import Derived.Test.YthmhadgbhakdlaaGreatDoorK08
import Derived.Test.YthmhadgbhakdlaaGreatDoorK10
import Derived.Test.YthmhadgbhakdlaaGreatDoorK01

namespace Go.Proofs.YthmhadgbhakdlaaGreatDoor
open Go.Deep
open Go.ChangeShapes Go.WideShapes Go.ChangeAt Go.RowKit Go.Joins
namespace Hv
theorem list_lt {α : Type} {p : Nat → α → Prop} : ∀ n : Nat, (∀ i, i < n → ∃ a, p i a) → ∃ xs : List α, xs.length = n ∧ ∀ i a, xs[i]? = some a → p i a
  | 0, _ => ⟨[], rfl, fun i a h => by simp at h⟩
  | n + 1, h => by
    obtain ⟨xs, h1, h2⟩ := list_lt n fun i hi => h i (by omega)
    obtain ⟨a, ha⟩ := h n (by omega)
    refine ⟨xs ++ [a], by simp [h1], fun i b hb => ?_⟩
    rcases Nat.lt_or_ge i n with hi | hi
    · rw [List.getElem?_append_left (by omega)] at hb
      exact h2 i b hb
    · rw [List.getElem?_append_right (by omega)] at hb
      have h3 : i - xs.length < 1 := by
        have := (List.getElem?_eq_some_iff.1 hb).1
        simpa using this
      have h4 : i = n := by omega
      subst h4
      rw [show i - xs.length = 0 by omega] at hb
      simp only [List.getElem?_cons_zero, Option.some.injEq] at hb
      rw [← hb]
      exact ha
theorem cells_flat {α : Type} {cells : α → List Value} {m : Nat} {w : World} {A : Addr} (hm : ∀ a, (cells a).length = m) : ∀ (xs : List α) (o : Nat), (∀ i a, xs[i]? = some a → ∀ k u, (cells a)[k]? = some u → w.cell? (A.add (o + (i * m + k))) = some u) →
    ∀ j u, (xs.flatMap cells)[j]? = some u → w.cell? (A.add (o + j)) = some u
  | [], o, h, j, u, hj => by simp at hj
  | a :: xs, o, h, j, u, hj => by
    rw [List.flatMap_cons] at hj
    rcases Nat.lt_or_ge j m with hlt | hge
    · rw [List.getElem?_append_left (by rw [hm]; exact hlt)] at hj
      have := h 0 a rfl j u hj
      rwa [Nat.zero_mul, Nat.zero_add] at this
    · rw [List.getElem?_append_right (by rw [hm]; exact hge), hm] at hj
      have := cells_flat hm xs (o + m) (fun i b hb k v hv => by
        have := h (i + 1) b (by simpa using hb) k v hv
        rwa [show o + ((i + 1) * m + k) = o + m + (i * m + k) by rw [Nat.add_mul]; omega] at this) (j - m) u hj
      rwa [show o + m + (j - m) = o + j by omega] at this
theorem flat_len {α : Type} {cells : α → List Value} {m : Nat} (hm : ∀ a, (cells a).length = m) : ∀ xs : List α, (xs.flatMap cells).length = xs.length * m
  | [] => by simp
  | a :: l => by rw [List.flatMap_cons, List.length_append, hm, flat_len hm l, List.length_cons, Nat.add_mul]; omega

theorem weights_mem_all {H : Type} {P : Program} {e : TypeId} : ∀ {l : List (DataW H)} {d : DataW H}, d ∈ l → ∀ n ∈ d.weights P e, n ∈ DataW.weightsAll P e l
  | [], _, h, _, _ => by cases h
  | a :: l, d, h, n, hn => by
    unfold DataW.weightsAll
    rcases List.mem_cons.1 h with rfl | h
    · exact List.mem_append_left _ hn
    · exact List.mem_append_right _ (weights_mem_all h n hn)
/-- All that a datum weighs is within the reach. -/
def Lite {H : Type} (P : Program) (t : TypeId) (d : DataW H) : Prop := ∀ n ∈ d.weights P t, n ≤ reachBytes
theorem Lite.str {H : Type} {P : Program} {t : TypeId} {s : ByteArray} (h : Lite P t (.lit (.string s.data.toList) : DataW H)) : far s := by
  have := h s.data.toList.length (by unfold DataW.weights; exact List.mem_singleton.2 rfl)
  rw [Array.length_toList] at this
  exact Nat.le_trans this (by decide)
theorem Lite.elem {H : Type} {P : Program} {t e : TypeId} {l r : List (DataW H)} {d : DataW H} (ht : P.underlying t = some (.slice e)) (h : Lite P t (.slice l r : DataW H)) (hd : d ∈ l) : Lite P e d := fun n hn => h n (by
  unfold DataW.weights
  rw [ht]
  exact List.mem_cons_of_mem _ (List.mem_append_left _ (weights_mem_all hd n hn)))
theorem Lite.part {H : Type} {P : Program} {t : TypeId} {fs : Array Field} {l : List (DataW H)} {d : DataW H} {i : Nat} {f : Field} (ht : P.underlying t = some (.struct fs)) (h : Lite P t (.agg l : DataW H)) (hi : fs[i]? = some f) (hd : l[i]? = some d) : Lite P f.type d := fun n hn => h n (by
  unfold DataW.weights
  rw [ht]
  exact DataW.weights_mem_each (show (fs.toList.map (·.type))[i]? = some f.type by rw [List.getElem?_map, Array.getElem?_toList, hi]; rfl) hd n hn)
theorem Lite.arg {H : Type} {P : Program} {ts : List TypeId} {ds : List (DataW H)} {j : Nat} {t : TypeId} {d : DataW H} (hz : (DataW.weightsEach P ts ds).all (· ≤ reachBytes) = true) (hj : ts[j]? = some t) (hd : ds[j]? = some d) : Lite P t d :=
  fun n hn => of_decide_eq_true (List.all_eq_true.1 hz _ (DataW.weights_mem_each hj hd n hn))
/-- A slice of records, opened: what each of its elements is. -/
theorem open_rows {H : Type} {enc : TypeId × Value → H} {P : Program} {w : World} {base : Nat} {spare : Nat → Bool} {held : Bool} {fuel : Nat} {cs : List Value} {x : DataW H × List MemPlace} {t e : TypeId} {m : Nat} {α : Type} {cells : α → List Value} {Good : α → Prop}
    (ht : P.underlying t = some (.slice e)) (hc : P.cellsOf e = m) (hm0 : 0 < m) (hm : ∀ a, (cells a).length = m)
    (hel : ∀ n cs x, cs.length = m → DataW.trod enc P w base spare held n e cs = some x → Lite P e x.1 → ∃ a, cs = cells a ∧ Good a)
    (h : DataW.trod enc P w base spare held fuel t cs = some x) (hL : Lite P t x.1) : ∃ (v : Value) (xs : List α), cs = [v] ∧ Row w w.heap.size m xs.length v (xs.flatMap cells) ∧ ∀ a ∈ xs, Good a := by
  rcases open_slice ht h with ⟨rfl, _⟩ | ⟨A, len, cap, k, n, D, Pl, rfl, hb, hl, hcm, hk, rfl, hx⟩
  · exact ⟨_, [], rfl, ⟨none, 0, rfl, Nat.le_refl _, by decide, by simp, fun h => absurd h (by simp)⟩, fun a ha => by cases ha⟩
  · have hlk : len ≤ k := by rw [hk]; split <;> omega
    obtain ⟨xs, h1, h2⟩ := list_lt (p := fun i a => w.cells? base (A.add (i * m)) m = some (cells a) ∧ Good a) len (fun i hi => by
      obtain ⟨cs', c1, c2⟩ := hx i (by omega)
      rw [hc] at c1
      obtain ⟨a, rfl, ha⟩ := hel n cs' _ (World.cells?_some c1).2.1 c2 (hL.elem ht (List.mem_map.2 ⟨i, List.mem_range.2 hi, rfl⟩))
      exact ⟨a, c1, ha⟩)
    subst h1
    refine ⟨_, xs, rfl, ⟨some A, cap, rfl, by omega, hcm, ?_, fun hn => ⟨A, rfl, ?_, ?_⟩⟩, fun a ha => ?_⟩
    · exact flat_len hm xs
    · have h3 := (h2 0 xs[0] (List.getElem?_eq_getElem hn)).1
      have h4 := World.cells?_block h3 hm0
      rwa [block_of_add] at h4
    · intro j u hj
      have := cells_flat (w := w) (A := A) hm xs 0 (fun i a hi k v hv => by
        have h3 := World.cells?_some (h2 i a hi).1
        have h4 : k < m := by rw [← hm a]; exact (List.getElem?_eq_some_iff.1 hv).1
        have h5 := h3.2.2 k h4
        rw [add_of_add] at h5
        rw [Nat.zero_add, h5, hv]) j u hj
      rwa [Nat.zero_add] at this
    · obtain ⟨i, hi, e⟩ := List.getElem_of_mem ha
      exact (h2 i a (by rw [List.getElem?_eq_getElem hi, e])).2
theorem struct1 {H : Type} {enc : TypeId × Value → H} {P : Program} {w : World} {base : Nat} {spare : Nat → Bool} {held : Bool} {t : TypeId} {f0 : Field} {fuel : Nat} {cs : List Value} {x : DataW H × List MemPlace} (ht : P.underlying t = some (.struct #[f0])) (h : DataW.trod enc P w base spare held fuel t cs = some x) :
    ∃ y0 n, x.1 = .agg [y0.1] ∧ DataW.trod enc P w base spare held n f0.type ((cs.drop f0.offset).take (P.cellsOf f0.type)) = some y0 := by
  obtain ⟨xs, n, _, rfl, _, hlen, hf⟩ := DataW.trod_struct ht h
  match xs, hlen with
  | [y0], _ => exact ⟨y0, n, rfl, by simpa using hf 0 f0 rfl⟩
theorem struct2 {H : Type} {enc : TypeId × Value → H} {P : Program} {w : World} {base : Nat} {spare : Nat → Bool} {held : Bool} {t : TypeId} {f0 f1 : Field} {fuel : Nat} {cs : List Value} {x : DataW H × List MemPlace} (ht : P.underlying t = some (.struct #[f0, f1])) (h : DataW.trod enc P w base spare held fuel t cs = some x) :
    ∃ y0 y1 n, x.1 = .agg [y0.1, y1.1] ∧ DataW.trod enc P w base spare held n f0.type ((cs.drop f0.offset).take (P.cellsOf f0.type)) = some y0 ∧
      DataW.trod enc P w base spare held n f1.type ((cs.drop f1.offset).take (P.cellsOf f1.type)) = some y1 := by
  obtain ⟨xs, n, _, rfl, _, hlen, hf⟩ := DataW.trod_struct ht h
  match xs, hlen with
  | [y0, y1], _ => exact ⟨y0, y1, n, rfl, by simpa using hf 0 f0 rfl, by simpa using hf 1 f1 rfl⟩
theorem struct5 {H : Type} {enc : TypeId × Value → H} {P : Program} {w : World} {base : Nat} {spare : Nat → Bool} {held : Bool} {t : TypeId} {f0 f1 f2 f3 f4 : Field} {fuel : Nat} {cs : List Value} {x : DataW H × List MemPlace} (ht : P.underlying t = some (.struct #[f0, f1, f2, f3, f4])) (h : DataW.trod enc P w base spare held fuel t cs = some x) :
    ∃ y0 y1 y2 y3 y4 n, x.1 = .agg [y0.1, y1.1, y2.1, y3.1, y4.1] ∧ DataW.trod enc P w base spare held n f0.type ((cs.drop f0.offset).take (P.cellsOf f0.type)) = some y0 ∧
      DataW.trod enc P w base spare held n f1.type ((cs.drop f1.offset).take (P.cellsOf f1.type)) = some y1 ∧
      DataW.trod enc P w base spare held n f2.type ((cs.drop f2.offset).take (P.cellsOf f2.type)) = some y2 ∧
      DataW.trod enc P w base spare held n f3.type ((cs.drop f3.offset).take (P.cellsOf f3.type)) = some y3 ∧
      DataW.trod enc P w base spare held n f4.type ((cs.drop f4.offset).take (P.cellsOf f4.type)) = some y4 := by
  obtain ⟨xs, n, _, rfl, _, hlen, hf⟩ := DataW.trod_struct ht h
  match xs, hlen with
  | [y0, y1, y2, y3, y4], _ => exact ⟨y0, y1, y2, y3, y4, n, rfl, by simpa using hf 0 f0 rfl, by simpa using hf 1 f1 rfl, by simpa using hf 2 f2 rfl, by simpa using hf 3 f3 rfl, by simpa using hf 4 f4 rfl⟩
theorem u8_range {c : Int} (h : (Lit.int .u8 c).wf = true) : 0 ≤ c ∧ c ≤ 255 := by
  simpa [Lit.wf, IntKind.min, IntKind.max, IntKind.signed, IntKind.bits] using h
theorem u32_range {c : Int} (h : (Lit.int .u32 c).wf = true) : 0 ≤ c ∧ c ≤ 4294967295 := by
  simpa [Lit.wf, IntKind.min, IntKind.max, IntKind.signed, IntKind.bits] using h
theorem list5 {α : Type} {l : List α} (h : l.length = 5) : ∃ a b c d e, l = [a, b, c, d, e] := by
  match l, h with
  | [a, b, c, d, e], _ => exact ⟨a, b, c, d, e, rfl⟩
theorem list2 {α : Type} {l : List α} (h : l.length = 2) : ∃ a b, l = [a, b] := by
  match l, h with
  | [a, b], _ => exact ⟨a, b, rfl⟩
theorem zip_fs {α β : Type} (l : List (α × β)) : (l.map (·.1)).zip (l.map (·.2)) = l := by
  induction l with
  | nil => rfl
  | cons a l ih => rw [List.map_cons, List.map_cons, List.zip_cons_cons, ih]
set_option maxRecDepth 100000 in
theorem open_val_cells {H : Type} {enc : TypeId × Value → H} {w : World} {base : Nat} {spare : Nat → Bool} {held : Bool} {fuel : Nat} {cs : List Value} {x : DataW H × List MemPlace} (hl : cs.length = 5)
    (h : DataW.trod enc Tryz.prog w base spare held fuel 55 cs = some x) (hL : Lite Tryz.prog 55 x.1) : ∃ v : V, cs = v.cells ∧ v.Ok ∧ v.Far := by
  have q0 : Tryz.prog.cellsOf 9 = 1 := by kernel_rfl
  have q1 : Tryz.prog.cellsOf 52 = 1 := by kernel_rfl
  have q2 : Tryz.prog.cellsOf 53 = 1 := by kernel_rfl
  obtain ⟨c0, c1, c2, c3, c4, rfl⟩ := list5 hl
  obtain ⟨y0, y1, y2, y3, y4, n, hx, h0, h1, h2, h3, h4⟩ := struct5 Tryz.underlying55 h
  rw [hx] at hL
  simp only [q0, q1, q2, List.drop, List.take] at h0 h1 h2 h3 h4
  obtain ⟨nm, e0, d0, wn⟩ := DataW.trod_string Tryz.underlying9 h0
  obtain ⟨k, e1, _, wk⟩ := DataW.trod_int Tryz.underlying52 h1
  obtain ⟨tx, e2, d2, wt⟩ := DataW.trod_string Tryz.underlying9 h2
  obtain ⟨nu, e3, _, wu⟩ := DataW.trod_int Tryz.underlying53 h3
  obtain ⟨bs, e4, d4, wb⟩ := DataW.trod_string Tryz.underlying9 h4
  simp only [List.cons.injEq, and_true] at e0 e1 e2 e3 e4
  subst e0 e1 e2 e3 e4
  have hk := u8_range wk
  have hu := u32_range wu
  have f0 : far nm := Lite.str (H := H) (P := Tryz.prog) (t := 9) (by have := hL.part Tryz.underlying55 (i := 0) rfl (d := y0.1) rfl; rw [d0] at this; exact this)
  have f2 : far tx := Lite.str (H := H) (P := Tryz.prog) (t := 9) (by have := hL.part Tryz.underlying55 (i := 2) rfl (d := y2.1) rfl; rw [d2] at this; exact this)
  have f4 : far bs := Lite.str (H := H) (P := Tryz.prog) (t := 9) (by have := hL.part Tryz.underlying55 (i := 4) rfl (d := y4.1) rfl; rw [d4] at this; exact this)
  exact ⟨⟨nm, k, tx, nu, bs⟩, rfl, ⟨wn, wt, wb, hk.1, hk.2, hu.1, hu.2⟩, f0, f2, f4⟩
set_option maxRecDepth 100000 in
theorem open_key_cells {H : Type} {enc : TypeId × Value → H} {w : World} {base : Nat} {spare : Nat → Bool} {held : Bool} {fuel : Nat} {cs : List Value} {x : DataW H × List MemPlace} (hl : cs.length = 2)
    (h : DataW.trod enc Tryz.prog w base spare held fuel 64 cs = some x) (hL : Lite Tryz.prog 64 x.1) : ∃ p : K × Value, cs = kc p ∧ Row w w.heap.size 5 p.1.vals.length p.2 (p.1.vals.flatMap V.cells) ∧ p.1.Ok ∧ ∀ v ∈ p.1.vals, v.Far := by
  have q0 : Tryz.prog.cellsOf 9 = 1 := by kernel_rfl
  have q1 : Tryz.prog.cellsOf 62 = 1 := by kernel_rfl
  obtain ⟨c0, c1, rfl⟩ := list2 hl
  obtain ⟨y0, y1, n, hx, h0, h1⟩ := struct2 Tryz.underlying64 h
  rw [hx] at hL
  simp only [q0, q1, List.drop, List.take] at h0 h1
  obtain ⟨pt, e0, _, wp⟩ := DataW.trod_string Tryz.underlying9 h0
  obtain ⟨v, vs, e1, hr, hv⟩ := open_rows (cells := V.cells) (Good := fun v => v.Ok ∧ v.Far) Tryz.underlying62 (by kernel_rfl) (show 0 < 5 by decide) (fun _ => rfl) (fun n cs x hl hx hw => open_val_cells hl hx hw) h1 (hL.part Tryz.underlying64 (i := 1) rfl (d := y1.1) rfl)
  simp only [List.cons.injEq, and_true] at e0 e1
  subst e0 e1
  exact ⟨(⟨pt, vs⟩, c1), rfl, hr, ⟨wp, fun v hv2 => (hv v hv2).1⟩, fun v hv2 => (hv v hv2).2⟩
set_option maxRecDepth 100000 in
theorem open_hive {H : Type} {enc : TypeId × Value → H} {w : World} {base : Nat} {spare : Nat → Bool} {held : Bool} {r : Reach} {b0 : Nat} {v : Value} {d : DataW H} {p : List MemPlace}
    (hv : Value.okWide Tryz.prog w r b0 43 v) (h : DataW.Trod enc Tryz.prog w base spare held 43 v d p) (hL : Lite Tryz.prog 43 d) :
    ∃ (l : List K) (A : Option Addr) (n c : Nat) (evs : List Value), v = .agg #[.slice A n c] ∧ HR w w.heap.size l (.slice A n c) evs ∧ l.length = n ∧ n ≤ maxLen ∧ (∀ k ∈ l, k.Ok) ∧ ∀ k ∈ l, ∀ v ∈ k.vals, v.Far := by
  have q3 : Tryz.prog.cellsOf 43 = 1 := by kernel_rfl
  have q0 : Tryz.prog.cellsOf 41 = 1 := by kernel_rfl
  obtain ⟨cs, rfl, hsz⟩ := okWide_struct Tryz.underlying43 hv
  obtain ⟨fuel, hf0⟩ := h
  obtain ⟨l⟩ := cs
  have hl3 : l.length = 1 := hsz.trans q3
  match l, hl3 with
  | [c0], _ =>
    obtain ⟨y0, n, hx, h0⟩ := struct1 Tryz.underlying43 hf0
    simp only at hx
    rw [hx] at hL
    simp only [q0, Value.cells, List.drop, List.take] at h0
    obtain ⟨v, ks, e0, hr, hk⟩ := open_rows (cells := kc) (Good := fun p => Row w w.heap.size 5 p.1.vals.length p.2 (p.1.vals.flatMap V.cells) ∧ p.1.Ok ∧ ∀ v ∈ p.1.vals, v.Far) Tryz.underlying41 (by kernel_rfl) (show 0 < 2 by decide) (fun _ => rfl) (fun n cs x hl hx hw => open_key_cells hl hx hw) h0 (hL.part Tryz.underlying43 (i := 0) rfl (d := y0.1) rfl)
    simp only [List.cons.injEq, and_true] at e0
    subst e0
    obtain ⟨A, c, e9, h1, h2, _⟩ := id hr
    subst e9
    refine ⟨ks.map (·.1), A, ks.length, c, ks.map (·.2), rfl, ⟨?_, by simp, fun q hq => ?_⟩, by simp, Nat.le_trans h1 h2, fun q hq => ?_, fun q hq => ?_⟩
    · rw [zip_fs]
      simpa using hr
    · rw [zip_fs] at hq
      exact (hk q hq).1
    · rw [List.mem_map] at hq
      obtain ⟨x, hx, rfl⟩ := hq
      exact (hk x hx).2.1
    · rw [List.mem_map] at hq
      obtain ⟨x, hx, rfl⟩ := hq
      exact (hk x hx).2.2
set_option maxRecDepth 100000 in
theorem open_val {H : Type} {enc : TypeId × Value → H} {w : World} {base : Nat} {spare : Nat → Bool} {held : Bool} {r : Reach} {b0 : Nat} {v : Value} {d : DataW H} {p : List MemPlace}
    (hv : Value.okWide Tryz.prog w r b0 55 v) (h : DataW.Trod enc Tryz.prog w base spare held 55 v d p) (hL : Lite Tryz.prog 55 d) :
    ∃ x : V, v = x.v ∧ x.Ok ∧ x.Far := by
  have q3 : Tryz.prog.cellsOf 55 = 5 := by kernel_rfl
  obtain ⟨cs, rfl, hsz⟩ := okWide_struct Tryz.underlying55 hv
  obtain ⟨fuel, hf0⟩ := h
  obtain ⟨l⟩ := cs
  have hl3 : l.length = 5 := hsz.trans q3
  obtain ⟨x, e, ho, hf⟩ := open_val_cells (x := (d, p)) hl3 hf0 hL
  subst e
  exact ⟨x, rfl, ho, hf⟩
end Hv
end Go.Proofs.YthmhadgbhakdlaaGreatDoor

/- TopTwo: one chain of two appends, a block and a store in a region that draws its order: the invariant. -/
namespace Go.Proofs.YthmhadgbhakdlaaGreatDoor
open Go.RowKit

namespace T2
open Od
structure Ch where
  B : Nat
  va : Value
  vb : Value
  n : Nat
  m : Nat
  xs : List Value
  ys : List Value
  ga : Nat
  gb : Nat
def curV (b : Nat → Bool) (u : Nat → Value) : Value := if b 6 = true then u 44 else if b 3 = true then u 41 else if b 0 = true then u 38 else .slice none 0 0
def curN (c : Ch) (b : Nat → Bool) : Nat := if b 6 = true then c.n + c.m else if b 3 = true then c.n else 0
def curX (c : Ch) (b : Nat → Bool) : List Value := if b 6 = true then c.xs ++ c.ys else if b 3 = true then c.xs else []
def deps : Nat → List Nat
  | 3 => [0]
  | 6 => [3]
  | 7 => [6]
  | 9 => [7, 8]
  | _ => []
structure J (c : Ch) (w0 : World) (u0 : Nat → Value) (b : Nat → Bool) (u : Nat → Value) (w : World) : Prop where
  below : Below c.B w0 w
  size : c.B ≤ w.heap.size
  old : ∀ k, k < 38 → k ≠ 9 → u k = u0 k
  dep : ∀ k, b k = true → ∀ e ∈ deps k, b e = true
  p1 : b 1 = true → u 39 = .pointer (some ⟨c.ga, 0, none⟩)
  x1 : b 2 = true → u 40 = c.va
  p2 : b 4 = true → u 42 = .pointer (some ⟨c.gb, 0, none⟩)
  x2 : b 5 = true → u 43 = c.vb
  own : w.ownsRow c.B 64 2 (curV b u) (curN c b) (curX c b)
  bd : b 7 = true → u 45 = .agg #[u 44]
  al : b 8 = true → ∃ g, u 9 = .pointer (some ⟨g, 0, none⟩) ∧ c.B ≤ g ∧ At w g (if b 9 = true then [u 44] else [.slice none 0 0]) ∧ (curV b u).ownBlock ≠ some g
section
variable {c : Ch} {w0 w w' : World} {u0 u : Nat → Value} {b : Nat → Bool}
theorem J.no (h : J c w0 u0 b u w) {k : Nat} (hk : b k = false) {j : Nat} (hj : k ∈ deps j) : b j = false := by
  cases e : b j with
  | false => rfl
  | true =>
    have := h.dep j e k hj
    rw [hk] at this
    cases this
theorem J.start (hb : Below c.B w0 w) (hB : c.B ≤ w.heap.size) : J c w0 u0 (fun _ => false) u0 w :=
  ⟨hb, hB, fun _ _ _ => rfl, fun _ e => (by cases e), fun e => (by cases e), fun e => (by cases e), fun e => (by cases e), fun e => (by cases e), World.ownsRow_nil _ _ _ _, fun e => (by cases e), fun e => (by cases e)⟩
theorem dep_step {k : Nat} (h : ∀ j, b j = true → ∀ e ∈ deps j, b e = true) (hd : ∀ e ∈ deps k, b e = true) : ∀ j, upd b k true j = true → ∀ e ∈ deps j, upd b k true e = true := by
  intro j hj e he
  by_cases hjk : j = k
  · subst hjk
    exact Ink.upd_true (hd e he)
  · rw [Ink.upd_ne hjk] at hj
    exact Ink.upd_true (h j hj e he)
theorem J.s1 (h : J c w0 u0 b u w) : J c w0 u0 (upd b 1 true) (upd u 39 (.pointer (some ⟨c.ga, 0, none⟩))) w :=
  ⟨h.below, h.size, fun k h1 h2 => by rw [Ink.upd_ne (by omega)]; exact h.old k h1 h2, dep_step h.dep (by simp [deps]), fun _ => rfl, h.x1, h.p2, h.x2, h.own, h.bd, h.al⟩
theorem J.s2 (h : J c w0 u0 b u w) : J c w0 u0 (upd b 2 true) (upd u 40 c.va) w :=
  ⟨h.below, h.size, fun k h1 h2 => by rw [Ink.upd_ne (by omega)]; exact h.old k h1 h2, dep_step h.dep (by simp [deps]), h.p1, fun _ => rfl, h.p2, h.x2, h.own, h.bd, h.al⟩
theorem J.s4 (h : J c w0 u0 b u w) : J c w0 u0 (upd b 4 true) (upd u 42 (.pointer (some ⟨c.gb, 0, none⟩))) w :=
  ⟨h.below, h.size, fun k h1 h2 => by rw [Ink.upd_ne (by omega)]; exact h.old k h1 h2, dep_step h.dep (by simp [deps]), h.p1, h.x1, fun _ => rfl, h.x2, h.own, h.bd, h.al⟩
theorem J.s5 (h : J c w0 u0 b u w) : J c w0 u0 (upd b 5 true) (upd u 43 c.vb) w :=
  ⟨h.below, h.size, fun k h1 h2 => by rw [Ink.upd_ne (by omega)]; exact h.old k h1 h2, dep_step h.dep (by simp [deps]), h.p1, h.x1, h.p2, fun _ => rfl, h.own, h.bd, h.al⟩
theorem J.s7 (h : J c w0 u0 b u w) (hd : b 6 = true) : J c w0 u0 (upd b 7 true) (upd u 45 (.agg #[u 44])) w :=
  ⟨h.below, h.size, fun k h1 h2 => by rw [Ink.upd_ne (by omega)]; exact h.old k h1 h2, dep_step h.dep (by simpa [deps] using hd), h.p1, h.x1, h.p2, h.x2, h.own, fun _ => rfl, h.al⟩
/-- The chain's row has grown. -/
theorem J.grow (h : J c w0 u0 b u w) {k s : Nat} {v' : Value} (hk : k = 0 ∨ k = 3 ∨ k = 6) (hs : s = 38 + k) (hb : b k = false) (hd : ∀ e ∈ deps k, b e = true) (hV : curV (upd b k true) (upd u s v') = v')
    (hown : w'.ownsRow c.B 64 2 v' (curN c (upd b k true)) (curX c (upd b k true))) (hg : w.grownBy w' (curV b u).ownBlock) (hat : v'.ownBlock = (curV b u).ownBlock ∨ v'.ownBlock = some w.heap.size) : J c w0 u0 (upd b k true) (upd u s v') w' := by
  have h6 : b 6 = false := by
    rcases hk with rfl | rfl | rfl
    · exact h.no (h.no hb (by simp [deps])) (k := 3) (by simp [deps])
    · exact h.no hb (by simp [deps])
    · exact hb
  have h7 := h.no h6 (j := 7) (by simp [deps])
  have h9 := h.no h7 (j := 9) (by simp [deps])
  have hbl : Below c.B w w' := (Below.refl c.B w).grown hg h.size (fun j e => (h.own.lt j e).1)
  refine ⟨h.below.trans hbl, Nat.le_trans h.size hg.size, fun j h1 h2 => by rw [Ink.upd_ne (by omega)]; exact h.old j h1 h2, dep_step h.dep hd, fun e => ?_, fun e => ?_, fun e => ?_, fun e => ?_, by rw [hV]; exact hown, fun e => ?_, fun e => ?_⟩
  · rw [Ink.upd_ne (by omega)] at e ⊢; exact h.p1 e
  · rw [Ink.upd_ne (by omega)] at e ⊢; exact h.x1 e
  · rw [Ink.upd_ne (by omega)] at e ⊢; exact h.p2 e
  · rw [Ink.upd_ne (by omega)] at e ⊢; exact h.x2 e
  · rw [Ink.upd_ne (by omega), h7] at e; cases e
  · rw [Ink.upd_ne (by omega)] at e
    obtain ⟨g, hg1, hg2, hg3, hg4⟩ := h.al e
    rw [h9, if_neg (by decide)] at hg3
    refine ⟨g, by rw [Ink.upd_ne (by omega)]; exact hg1, hg2, ?_, ?_⟩
    · rw [Ink.upd_ne (by omega), h9, if_neg (by decide)]
      exact Ink.at_grown hg3 hg hg4
    · rw [hV]
      rcases hat with hat | hat
      · rw [hat]; exact hg4
      · rw [hat]
        intro e
        injection e with e
        have := hg3.lt
        omega
theorem J.s0 (h : J c w0 u0 b u w) (hb : b 0 = false) : J c w0 u0 (upd b 0 true) (upd u 38 (.slice (some ⟨w.heap.size, 0, none⟩) 0 0)) (w.alloc (.cells #[] 64)) := by
  have h3 := h.no hb (j := 3) (by simp [deps])
  have h6 := h.no h3 (j := 6) (by simp [deps])
  have e1 : curV b u = .slice none 0 0 := by unfold curV; simp [hb, h3, h6]
  refine h.grow (.inl rfl) rfl hb (by simp [deps]) (by unfold curV; simp [upd, h3, h6]) ?_ (by rw [e1]; exact World.grownBy_alloc w _ none) (.inr rfl)
  have e2 : curN c (upd b 0 true) = 0 := by unfold curN; simp [upd, h3, h6]
  have e3 : curX c (upd b 0 true) = [] := by unfold curX; simp [upd, h3, h6]
  rw [e2, e3]
  exact World.ownsRow_made w #[] 0 h.size (Nat.zero_le _) (by simp)
theorem J.own0 (h : J c w0 u0 b u w) (hb : b 3 = false) (hd : b 0 = true) : w.ownsRow c.B 64 2 (u 38) 0 [] := by
  have h6 := h.no hb (j := 6) (by simp [deps])
  have ho := h.own
  unfold curV curN curX at ho
  simpa [hb, h6, hd] using ho
theorem J.own3 (h : J c w0 u0 b u w) (hb : b 6 = false) (hd : b 3 = true) : w.ownsRow c.B 64 2 (u 41) c.n c.xs := by
  have ho := h.own
  unfold curV curN curX at ho
  simpa [hb, hd] using ho
theorem J.own6 (h : J c w0 u0 b u w) (hd : b 6 = true) : w.ownsRow c.B 64 2 (u 44) (c.n + c.m) (c.xs ++ c.ys) := by
  have ho := h.own
  unfold curV curN curX at ho
  simpa [hd] using ho
theorem J.s3 (h : J c w0 u0 b u w) (hb : b 3 = false) (hd : b 0 = true) {v' : Value} (hown : w'.ownsRow c.B 64 2 v' c.n c.xs) (hg : w.grownBy w' (u 38).ownBlock) (hat : v'.ownBlock = (u 38).ownBlock ∨ v'.ownBlock = some w.heap.size) : J c w0 u0 (upd b 3 true) (upd u 41 v') w' := by
  have h6 := h.no hb (j := 6) (by simp [deps])
  have e1 : curV b u = u 38 := by unfold curV; simp [hb, h6, hd]
  refine h.grow (.inr (.inl rfl)) rfl hb (by simpa [deps] using hd) (by unfold curV; simp [upd, h6]) ?_ (by rw [e1]; exact hg) (by rw [e1]; exact hat)
  have e2 : curN c (upd b 3 true) = c.n := by unfold curN; simp [upd, h6]
  have e3 : curX c (upd b 3 true) = c.xs := by unfold curX; simp [upd, h6]
  rw [e2, e3]
  exact hown
theorem J.s6 (h : J c w0 u0 b u w) (hb : b 6 = false) (hd : b 3 = true) {v' : Value} (hown : w'.ownsRow c.B 64 2 v' (c.n + c.m) (c.xs ++ c.ys)) (hg : w.grownBy w' (u 41).ownBlock) (hat : v'.ownBlock = (u 41).ownBlock ∨ v'.ownBlock = some w.heap.size) : J c w0 u0 (upd b 6 true) (upd u 44 v') w' := by
  have e1 : curV b u = u 41 := by unfold curV; simp [hb, hd]
  refine h.grow (.inr (.inr rfl)) rfl hb (by simpa [deps] using hd) (by unfold curV; simp [upd]) ?_ (by rw [e1]; exact hg) (by rw [e1]; exact hat)
  have e2 : curN c (upd b 6 true) = c.n + c.m := by unfold curN; simp [upd]
  have e3 : curX c (upd b 6 true) = c.xs ++ c.ys := by unfold curX; simp [upd]
  rw [e2, e3]
  exact hown
theorem J.s8 (h : J c w0 u0 b u w) (hb : b 8 = false) : J c w0 u0 (upd b 8 true) (upd u 9 (.pointer (some ⟨w.heap.size, 0, none⟩))) (w.alloc (.cells #[.slice none 0 0] 43)) := by
  have h9 := h.no hb (j := 9) (by simp [deps])
  refine ⟨h.below.alloc h.size _, Nat.le_trans h.size (by rw [World.size_alloc]; omega), fun k h1 h2 => by rw [Ink.upd_ne h2]; exact h.old k h1 h2, dep_step h.dep (by simp [deps]), h.p1, h.x1, h.p2, h.x2, h.own.alloc _, h.bd, fun _ => ⟨w.heap.size, rfl, h.size, ?_, ?_⟩⟩
  · show At _ _ (if b 9 = true then _ else _)
    rw [h9, if_neg (by decide)]
    exact At.new w _ _
  · intro e
    have := (h.own.lt _ e).2
    omega
theorem J.s9 (h : J c w0 u0 b u w) (h7 : b 7 = true) (h8 : b 8 = true) (hb : b 9 = false) {g : Nat} (hg : u 9 = .pointer (some ⟨g, 0, none⟩)) : J c w0 u0 (upd b 9 true) u (w.setCell ⟨g, 0, none⟩ (u 44)) := by
  obtain ⟨g', hg1, hg2, hg3, hg4⟩ := h.al h8
  rw [hg] at hg1
  injection hg1 with hg1
  injection hg1 with hg1
  injection hg1 with hg1
  subst hg1
  rw [hb, if_neg (by decide)] at hg3
  refine ⟨h.below.setCell (p := ⟨g, 0, none⟩) hg2 _, by rw [show (w.setCell ⟨g, 0, none⟩ (u 44)).heap.size = w.heap.size from by simp]; exact h.size, h.old, dep_step h.dep (by simp [deps, h7, h8]), h.p1, h.x1, h.p2, h.x2, ownsRow_setCell_other h.own (a := ⟨g, 0, none⟩) hg4 _, h.bd, fun _ => ⟨g, hg, hg2, ?_, hg4⟩⟩
  rw [if_pos (show upd b 9 true 9 = true from Ink.upd_eq)]
  exact hg3.set 0 (u 44)
end
end T2
end Go.Proofs.YthmhadgbhakdlaaGreatDoor
