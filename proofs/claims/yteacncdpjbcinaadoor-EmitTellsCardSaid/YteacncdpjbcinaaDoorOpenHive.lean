/- A hive, and a value, among a row's arguments, opened: their strings obey the form's reach. -/
import Derived.Test.YteacncdpjbcinaaDoorHvSmall
import Derived.ProofKit
import Derived.OpenShut
import Derived.Lib.SmallJoins
import Derived.SliceStrings
import Derived.Deep.RegionHeld
import Derived.Deep.Strs
import Derived.Deep.Slices
import Derived.Lib.LaidTab
import Derived.SizedLaws
namespace Go.Proofs.YteacncdpjbcinaaDoor
open Go.Deep
open Go.ChangeShapes Go.WideShapes Go.ChangeAt Go.RowKit Go.Joins
namespace Hv
theorem list_lt {α : Type} {p : Nat → α → Prop} : ∀ n : Nat, (∀ i, i < n → ∃ a, p i a) → ∃ xs : List α, xs.length = n ∧ ∀ i a, xs[i]? = some a → p i a
  | 0, _ => ⟨[], rfl, fun i a h => by simp at h⟩
  | n + 1, h => by
    obtain ⟨xs, h1, h2⟩ := list_lt n fun i hi => h i (by omega)
    obtain ⟨a, ha⟩ := h n (by omega)
    refine ⟨xs ++ [a], by simp [h1], fun i b hb => ?_⟩
    rcases Nat.lt_or_ge i n with hi | hi
    · rw [List.getElem?_append_left (by omega)] at hb
      exact h2 i b hb
    · rw [List.getElem?_append_right (by omega)] at hb
      have h3 : i - xs.length < 1 := by
        have := (List.getElem?_eq_some_iff.1 hb).1
        simpa using this
      have h4 : i = n := by omega
      subst h4
      rw [show i - xs.length = 0 by omega] at hb
      simp only [List.getElem?_cons_zero, Option.some.injEq] at hb
      rw [← hb]
      exact ha
theorem cells_flat {α : Type} {cells : α → List Value} {m : Nat} {w : World} {A : Addr} (hm : ∀ a, (cells a).length = m) : ∀ (xs : List α) (o : Nat), (∀ i a, xs[i]? = some a → ∀ k u, (cells a)[k]? = some u → w.cell? (A.add (o + (i * m + k))) = some u) →
    ∀ j u, (xs.flatMap cells)[j]? = some u → w.cell? (A.add (o + j)) = some u
  | [], o, h, j, u, hj => by simp at hj
  | a :: xs, o, h, j, u, hj => by
    rw [List.flatMap_cons] at hj
    rcases Nat.lt_or_ge j m with hlt | hge
    · rw [List.getElem?_append_left (by rw [hm]; exact hlt)] at hj
      have := h 0 a rfl j u hj
      rwa [Nat.zero_mul, Nat.zero_add] at this
    · rw [List.getElem?_append_right (by rw [hm]; exact hge), hm] at hj
      have := cells_flat hm xs (o + m) (fun i b hb k v hv => by
        have := h (i + 1) b (by simpa using hb) k v hv
        rwa [show o + ((i + 1) * m + k) = o + m + (i * m + k) by rw [Nat.add_mul]; omega] at this) (j - m) u hj
      rwa [show o + m + (j - m) = o + j by omega] at this
theorem flat_len {α : Type} {cells : α → List Value} {m : Nat} (hm : ∀ a, (cells a).length = m) : ∀ xs : List α, (xs.flatMap cells).length = xs.length * m
  | [] => by simp
  | a :: l => by rw [List.flatMap_cons, List.length_append, hm, flat_len hm l, List.length_cons, Nat.add_mul]; omega

theorem weights_mem_all {H : Type} {P : Program} {e : TypeId} : ∀ {l : List (DataW H)} {d : DataW H}, d ∈ l → ∀ n ∈ d.weights P e, n ∈ DataW.weightsAll P e l
  | [], _, h, _, _ => by cases h
  | a :: l, d, h, n, hn => by
    unfold DataW.weightsAll
    rcases List.mem_cons.1 h with rfl | h
    · exact List.mem_append_left _ hn
    · exact List.mem_append_right _ (weights_mem_all h n hn)
/-- All that a datum weighs is within the reach. -/
def Lite {H : Type} (P : Program) (t : TypeId) (d : DataW H) : Prop := ∀ n ∈ d.weights P t, n ≤ reachBytes
theorem Lite.str {H : Type} {P : Program} {t : TypeId} {s : ByteArray} (h : Lite P t (.lit (.string s.data.toList) : DataW H)) : far s := by
  have := h s.data.toList.length (by unfold DataW.weights; exact List.mem_singleton.2 rfl)
  rw [Array.length_toList] at this
  exact Nat.le_trans this (by decide)
theorem Lite.elem {H : Type} {P : Program} {t e : TypeId} {l r : List (DataW H)} {d : DataW H} (ht : P.underlying t = some (.slice e)) (h : Lite P t (.slice l r : DataW H)) (hd : d ∈ l) : Lite P e d := fun n hn => h n (by
  unfold DataW.weights
  rw [ht]
  exact List.mem_cons_of_mem _ (List.mem_append_left _ (weights_mem_all hd n hn)))
theorem Lite.part {H : Type} {P : Program} {t : TypeId} {fs : Array Field} {l : List (DataW H)} {d : DataW H} {i : Nat} {f : Field} (ht : P.underlying t = some (.struct fs)) (h : Lite P t (.agg l : DataW H)) (hi : fs[i]? = some f) (hd : l[i]? = some d) : Lite P f.type d := fun n hn => h n (by
  unfold DataW.weights
  rw [ht]
  exact DataW.weights_mem_each (show (fs.toList.map (·.type))[i]? = some f.type by rw [List.getElem?_map, Array.getElem?_toList, hi]; rfl) hd n hn)
theorem Lite.arg {H : Type} {P : Program} {ts : List TypeId} {ds : List (DataW H)} {j : Nat} {t : TypeId} {d : DataW H} (hz : (DataW.weightsEach P ts ds).all (· ≤ reachBytes) = true) (hj : ts[j]? = some t) (hd : ds[j]? = some d) : Lite P t d :=
  fun n hn => of_decide_eq_true (List.all_eq_true.1 hz _ (DataW.weights_mem_each hj hd n hn))
/-- A slice of records, opened: what each of its elements is. -/
theorem open_rows {H : Type} {enc : TypeId × Value → H} {P : Program} {w : World} {base : Nat} {spare : Nat → Bool} {held : Bool} {fuel : Nat} {cs : List Value} {x : DataW H × List MemPlace} {t e : TypeId} {m : Nat} {α : Type} {cells : α → List Value} {Good : α → Prop}
    (ht : P.underlying t = some (.slice e)) (hc : P.cellsOf e = m) (hm0 : 0 < m) (hm : ∀ a, (cells a).length = m)
    (hel : ∀ n cs x, cs.length = m → DataW.trod enc P w base spare held n e cs = some x → Lite P e x.1 → ∃ a, cs = cells a ∧ Good a)
    (h : DataW.trod enc P w base spare held fuel t cs = some x) (hL : Lite P t x.1) : ∃ (v : Value) (xs : List α), cs = [v] ∧ Row w w.heap.size m xs.length v (xs.flatMap cells) ∧ ∀ a ∈ xs, Good a := by
  rcases open_slice ht h with ⟨rfl, _⟩ | ⟨A, len, cap, k, n, D, Pl, rfl, hb, hl, hcm, hk, rfl, hx⟩
  · exact ⟨_, [], rfl, ⟨none, 0, rfl, Nat.le_refl _, by decide, by simp, fun h => absurd h (by simp)⟩, fun a ha => by cases ha⟩
  · have hlk : len ≤ k := by rw [hk]; split <;> omega
    obtain ⟨xs, h1, h2⟩ := list_lt (p := fun i a => w.cells? base (A.add (i * m)) m = some (cells a) ∧ Good a) len (fun i hi => by
      obtain ⟨cs', c1, c2⟩ := hx i (by omega)
      rw [hc] at c1
      obtain ⟨a, rfl, ha⟩ := hel n cs' _ (World.cells?_some c1).2.1 c2 (hL.elem ht (List.mem_map.2 ⟨i, List.mem_range.2 hi, rfl⟩))
      exact ⟨a, c1, ha⟩)
    subst h1
    refine ⟨_, xs, rfl, ⟨some A, cap, rfl, by omega, hcm, ?_, fun hn => ⟨A, rfl, ?_, ?_⟩⟩, fun a ha => ?_⟩
    · exact flat_len hm xs
    · have h3 := (h2 0 xs[0] (List.getElem?_eq_getElem hn)).1
      have h4 := World.cells?_block h3 hm0
      rwa [block_of_add] at h4
    · intro j u hj
      have := cells_flat (w := w) (A := A) hm xs 0 (fun i a hi k v hv => by
        have h3 := World.cells?_some (h2 i a hi).1
        have h4 : k < m := by rw [← hm a]; exact (List.getElem?_eq_some_iff.1 hv).1
        have h5 := h3.2.2 k h4
        rw [add_of_add] at h5
        rw [Nat.zero_add, h5, hv]) j u hj
      rwa [Nat.zero_add] at this
    · obtain ⟨i, hi, e⟩ := List.getElem_of_mem ha
      exact (h2 i a (by rw [List.getElem?_eq_getElem hi, e])).2
theorem struct1 {H : Type} {enc : TypeId × Value → H} {P : Program} {w : World} {base : Nat} {spare : Nat → Bool} {held : Bool} {t : TypeId} {f0 : Field} {fuel : Nat} {cs : List Value} {x : DataW H × List MemPlace} (ht : P.underlying t = some (.struct #[f0])) (h : DataW.trod enc P w base spare held fuel t cs = some x) :
    ∃ y0 n, x.1 = .agg [y0.1] ∧ DataW.trod enc P w base spare held n f0.type ((cs.drop f0.offset).take (P.cellsOf f0.type)) = some y0 := by
  obtain ⟨xs, n, _, rfl, _, hlen, hf⟩ := DataW.trod_struct ht h
  match xs, hlen with
  | [y0], _ => exact ⟨y0, n, rfl, by simpa using hf 0 f0 rfl⟩
theorem struct2 {H : Type} {enc : TypeId × Value → H} {P : Program} {w : World} {base : Nat} {spare : Nat → Bool} {held : Bool} {t : TypeId} {f0 f1 : Field} {fuel : Nat} {cs : List Value} {x : DataW H × List MemPlace} (ht : P.underlying t = some (.struct #[f0, f1])) (h : DataW.trod enc P w base spare held fuel t cs = some x) :
    ∃ y0 y1 n, x.1 = .agg [y0.1, y1.1] ∧ DataW.trod enc P w base spare held n f0.type ((cs.drop f0.offset).take (P.cellsOf f0.type)) = some y0 ∧
      DataW.trod enc P w base spare held n f1.type ((cs.drop f1.offset).take (P.cellsOf f1.type)) = some y1 := by
  obtain ⟨xs, n, _, rfl, _, hlen, hf⟩ := DataW.trod_struct ht h
  match xs, hlen with
  | [y0, y1], _ => exact ⟨y0, y1, n, rfl, by simpa using hf 0 f0 rfl, by simpa using hf 1 f1 rfl⟩
theorem struct5 {H : Type} {enc : TypeId × Value → H} {P : Program} {w : World} {base : Nat} {spare : Nat → Bool} {held : Bool} {t : TypeId} {f0 f1 f2 f3 f4 : Field} {fuel : Nat} {cs : List Value} {x : DataW H × List MemPlace} (ht : P.underlying t = some (.struct #[f0, f1, f2, f3, f4])) (h : DataW.trod enc P w base spare held fuel t cs = some x) :
    ∃ y0 y1 y2 y3 y4 n, x.1 = .agg [y0.1, y1.1, y2.1, y3.1, y4.1] ∧ DataW.trod enc P w base spare held n f0.type ((cs.drop f0.offset).take (P.cellsOf f0.type)) = some y0 ∧
      DataW.trod enc P w base spare held n f1.type ((cs.drop f1.offset).take (P.cellsOf f1.type)) = some y1 ∧
      DataW.trod enc P w base spare held n f2.type ((cs.drop f2.offset).take (P.cellsOf f2.type)) = some y2 ∧
      DataW.trod enc P w base spare held n f3.type ((cs.drop f3.offset).take (P.cellsOf f3.type)) = some y3 ∧
      DataW.trod enc P w base spare held n f4.type ((cs.drop f4.offset).take (P.cellsOf f4.type)) = some y4 := by
  obtain ⟨xs, n, _, rfl, _, hlen, hf⟩ := DataW.trod_struct ht h
  match xs, hlen with
  | [y0, y1, y2, y3, y4], _ => exact ⟨y0, y1, y2, y3, y4, n, rfl, by simpa using hf 0 f0 rfl, by simpa using hf 1 f1 rfl, by simpa using hf 2 f2 rfl, by simpa using hf 3 f3 rfl, by simpa using hf 4 f4 rfl⟩
theorem u8_range {c : Int} (h : (Lit.int .u8 c).wf = true) : 0 ≤ c ∧ c ≤ 255 := by
  simpa [Lit.wf, IntKind.min, IntKind.max, IntKind.signed, IntKind.bits] using h
theorem u32_range {c : Int} (h : (Lit.int .u32 c).wf = true) : 0 ≤ c ∧ c ≤ 4294967295 := by
  simpa [Lit.wf, IntKind.min, IntKind.max, IntKind.signed, IntKind.bits] using h
theorem list5 {α : Type} {l : List α} (h : l.length = 5) : ∃ a b c d e, l = [a, b, c, d, e] := by
  match l, h with
  | [a, b, c, d, e], _ => exact ⟨a, b, c, d, e, rfl⟩
theorem list2 {α : Type} {l : List α} (h : l.length = 2) : ∃ a b, l = [a, b] := by
  match l, h with
  | [a, b], _ => exact ⟨a, b, rfl⟩
theorem zip_fs {α β : Type} (l : List (α × β)) : (l.map (·.1)).zip (l.map (·.2)) = l := by
  induction l with
  | nil => rfl
  | cons a l ih => rw [List.map_cons, List.map_cons, List.zip_cons_cons, ih]
set_option maxRecDepth 100000 in
theorem open_val_cells {H : Type} {enc : TypeId × Value → H} {w : World} {base : Nat} {spare : Nat → Bool} {held : Bool} {fuel : Nat} {cs : List Value} {x : DataW H × List MemPlace} (hl : cs.length = 5)
    (h : DataW.trod enc Tryd.prog w base spare held fuel 28 cs = some x) (hL : Lite Tryd.prog 28 x.1) : ∃ v : V, cs = v.cells ∧ v.Ok ∧ v.Far := by
  have q0 : Tryd.prog.cellsOf 9 = 1 := by kernel_rfl
  have q1 : Tryd.prog.cellsOf 25 = 1 := by kernel_rfl
  have q2 : Tryd.prog.cellsOf 26 = 1 := by kernel_rfl
  obtain ⟨c0, c1, c2, c3, c4, rfl⟩ := list5 hl
  obtain ⟨y0, y1, y2, y3, y4, n, hx, h0, h1, h2, h3, h4⟩ := struct5 Tryd.underlying28 h
  rw [hx] at hL
  simp only [q0, q1, q2, List.drop, List.take] at h0 h1 h2 h3 h4
  obtain ⟨nm, e0, d0, wn⟩ := DataW.trod_string Tryd.underlying9 h0
  obtain ⟨k, e1, _, wk⟩ := DataW.trod_int Tryd.underlying25 h1
  obtain ⟨tx, e2, d2, wt⟩ := DataW.trod_string Tryd.underlying9 h2
  obtain ⟨nu, e3, _, wu⟩ := DataW.trod_int Tryd.underlying26 h3
  obtain ⟨bs, e4, d4, wb⟩ := DataW.trod_string Tryd.underlying9 h4
  simp only [List.cons.injEq, and_true] at e0 e1 e2 e3 e4
  subst e0 e1 e2 e3 e4
  have hk := u8_range wk
  have hu := u32_range wu
  have f0 : far nm := Lite.str (H := H) (P := Tryd.prog) (t := 9) (by have := hL.part Tryd.underlying28 (i := 0) rfl (d := y0.1) rfl; rw [d0] at this; exact this)
  have f2 : far tx := Lite.str (H := H) (P := Tryd.prog) (t := 9) (by have := hL.part Tryd.underlying28 (i := 2) rfl (d := y2.1) rfl; rw [d2] at this; exact this)
  have f4 : far bs := Lite.str (H := H) (P := Tryd.prog) (t := 9) (by have := hL.part Tryd.underlying28 (i := 4) rfl (d := y4.1) rfl; rw [d4] at this; exact this)
  exact ⟨⟨nm, k, tx, nu, bs⟩, rfl, ⟨wn, wt, wb, hk.1, hk.2, hu.1, hu.2⟩, f0, f2, f4⟩
set_option maxRecDepth 100000 in
theorem open_key_cells {H : Type} {enc : TypeId × Value → H} {w : World} {base : Nat} {spare : Nat → Bool} {held : Bool} {fuel : Nat} {cs : List Value} {x : DataW H × List MemPlace} (hl : cs.length = 2)
    (h : DataW.trod enc Tryd.prog w base spare held fuel 40 cs = some x) (hL : Lite Tryd.prog 40 x.1) : ∃ p : K × Value, cs = kc p ∧ Row w w.heap.size 5 p.1.vals.length p.2 (p.1.vals.flatMap V.cells) ∧ p.1.Ok ∧ ∀ v ∈ p.1.vals, v.Far := by
  have q0 : Tryd.prog.cellsOf 9 = 1 := by kernel_rfl
  have q1 : Tryd.prog.cellsOf 38 = 1 := by kernel_rfl
  obtain ⟨c0, c1, rfl⟩ := list2 hl
  obtain ⟨y0, y1, n, hx, h0, h1⟩ := struct2 Tryd.underlying40 h
  rw [hx] at hL
  simp only [q0, q1, List.drop, List.take] at h0 h1
  obtain ⟨pt, e0, _, wp⟩ := DataW.trod_string Tryd.underlying9 h0
  obtain ⟨v, vs, e1, hr, hv⟩ := open_rows (cells := V.cells) (Good := fun v => v.Ok ∧ v.Far) Tryd.underlying38 (by kernel_rfl) (show 0 < 5 by decide) (fun _ => rfl) (fun n cs x hl hx hw => open_val_cells hl hx hw) h1 (hL.part Tryd.underlying40 (i := 1) rfl (d := y1.1) rfl)
  simp only [List.cons.injEq, and_true] at e0 e1
  subst e0 e1
  exact ⟨(⟨pt, vs⟩, c1), rfl, hr, ⟨wp, fun v hv2 => (hv v hv2).1⟩, fun v hv2 => (hv v hv2).2⟩
set_option maxRecDepth 100000 in
theorem open_hive {H : Type} {enc : TypeId × Value → H} {w : World} {base : Nat} {spare : Nat → Bool} {held : Bool} {r : Reach} {b0 : Nat} {v : Value} {d : DataW H} {p : List MemPlace}
    (hv : Value.okWide Tryd.prog w r b0 24 v) (h : DataW.Trod enc Tryd.prog w base spare held 24 v d p) (hL : Lite Tryd.prog 24 d) :
    ∃ (l : List K) (A : Option Addr) (n c : Nat) (evs : List Value), v = .agg #[.slice A n c] ∧ HR w w.heap.size l (.slice A n c) evs ∧ l.length = n ∧ n ≤ maxLen ∧ (∀ k ∈ l, k.Ok) ∧ ∀ k ∈ l, ∀ v ∈ k.vals, v.Far := by
  have q3 : Tryd.prog.cellsOf 24 = 1 := by kernel_rfl
  have q0 : Tryd.prog.cellsOf 22 = 1 := by kernel_rfl
  obtain ⟨cs, rfl, hsz⟩ := okWide_struct Tryd.underlying24 hv
  obtain ⟨fuel, hf0⟩ := h
  obtain ⟨l⟩ := cs
  have hl3 : l.length = 1 := hsz.trans q3
  match l, hl3 with
  | [c0], _ =>
    obtain ⟨y0, n, hx, h0⟩ := struct1 Tryd.underlying24 hf0
    simp only at hx
    rw [hx] at hL
    simp only [q0, Value.cells, List.drop, List.take] at h0
    obtain ⟨v, ks, e0, hr, hk⟩ := open_rows (cells := kc) (Good := fun p => Row w w.heap.size 5 p.1.vals.length p.2 (p.1.vals.flatMap V.cells) ∧ p.1.Ok ∧ ∀ v ∈ p.1.vals, v.Far) Tryd.underlying22 (by kernel_rfl) (show 0 < 2 by decide) (fun _ => rfl) (fun n cs x hl hx hw => open_key_cells hl hx hw) h0 (hL.part Tryd.underlying24 (i := 0) rfl (d := y0.1) rfl)
    simp only [List.cons.injEq, and_true] at e0
    subst e0
    obtain ⟨A, c, e9, h1, h2, _⟩ := id hr
    subst e9
    refine ⟨ks.map (·.1), A, ks.length, c, ks.map (·.2), rfl, ⟨?_, by simp, fun q hq => ?_⟩, by simp, Nat.le_trans h1 h2, fun q hq => ?_, fun q hq => ?_⟩
    · rw [zip_fs]
      simpa using hr
    · rw [zip_fs] at hq
      exact (hk q hq).1
    · rw [List.mem_map] at hq
      obtain ⟨x, hx, rfl⟩ := hq
      exact (hk x hx).2.1
    · rw [List.mem_map] at hq
      obtain ⟨x, hx, rfl⟩ := hq
      exact (hk x hx).2.2
set_option maxRecDepth 100000 in
theorem open_val {H : Type} {enc : TypeId × Value → H} {w : World} {base : Nat} {spare : Nat → Bool} {held : Bool} {r : Reach} {b0 : Nat} {v : Value} {d : DataW H} {p : List MemPlace}
    (hv : Value.okWide Tryd.prog w r b0 28 v) (h : DataW.Trod enc Tryd.prog w base spare held 28 v d p) (hL : Lite Tryd.prog 28 d) :
    ∃ x : V, v = x.v ∧ x.Ok ∧ x.Far := by
  have q3 : Tryd.prog.cellsOf 28 = 5 := by kernel_rfl
  obtain ⟨cs, rfl, hsz⟩ := okWide_struct Tryd.underlying28 hv
  obtain ⟨fuel, hf0⟩ := h
  obtain ⟨l⟩ := cs
  have hl3 : l.length = 5 := hsz.trans q3
  obtain ⟨x, e, ho, hf⟩ := open_val_cells (x := (d, p)) hl3 hf0 hL
  subst e
  exact ⟨x, rfl, ho, hf⟩
end Hv
end Go.Proofs.YteacncdpjbcinaaDoor
