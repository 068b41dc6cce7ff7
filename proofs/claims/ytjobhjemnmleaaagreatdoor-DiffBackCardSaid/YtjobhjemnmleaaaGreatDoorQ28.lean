/- A Source among a row's arguments, opened. -/
import Derived.Test.YtjobhjemnmleaaaGreatDoorQ27
set_option maxRecDepth 100000
set_option maxHeartbeats 1000000
namespace Go.Proofs.YtjobhjemnmleaaaGreatDoor
open Go.Deep
open Go.ChangeShapes Go.WideShapes Go.ChangeAt Go.RowKit Go.Joins
theorem list11 {α : Type} {l : List α} (h : l.length = 11) : ∃ c0 c1 c2 c3 c4 c5 c6 c7 c8 c9 c10, l = [c0, c1, c2, c3, c4, c5, c6, c7, c8, c9, c10] := by
 match l, h with
 | [c0, c1, c2, c3, c4, c5, c6, c7, c8, c9, c10], _ => exact ⟨c0, c1, c2, c3, c4, c5, c6, c7, c8, c9, c10, rfl⟩
theorem list13 {α : Type} {l : List α} (h : l.length = 13) : ∃ c0 c1 c2 c3 c4 c5 c6 c7 c8 c9 c10 c11 c12, l = [c0, c1, c2, c3, c4, c5, c6, c7, c8, c9, c10, c11, c12] := by
 match l, h with
 | [c0, c1, c2, c3, c4, c5, c6, c7, c8, c9, c10, c11, c12], _ => exact ⟨c0, c1, c2, c3, c4, c5, c6, c7, c8, c9, c10, c11, c12, rfl⟩
theorem open_rule_cells {H : Type} {enc : TypeId × Value → H} {w : World} {base : Nat} {spare : Nat → Bool} {held : Bool} {fuel : Nat} {cs : List Value} {x : DataW H × List MemPlace} (hl : cs.length = 11)
  (h : DataW.trod enc Tryz.prog w base spare held fuel 112 cs = some x) : ∃ r : Ru.R, cs = r.cells ∧ 0 ≤ r.c ∧ r.nm.size ≤ maxLen ∧ r.lt.size ≤ maxLen := by
 have q0 : Tryz.prog.cellsOf 3 = 1 := by kernel_rfl
 have q1 : Tryz.prog.cellsOf 110 = 3 := by kernel_rfl
 have q2 : Tryz.prog.cellsOf 107 = 2 := by kernel_rfl
 have q3 : Tryz.prog.cellsOf 108 = 1 := by kernel_rfl
 have q4 : Tryz.prog.cellsOf 2 = 1 := by kernel_rfl
 have q5 : Tryz.prog.cellsOf 105 = 1 := by kernel_rfl
 have q6 : Tryz.prog.cellsOf 9 = 1 := by kernel_rfl
 obtain ⟨c0, c1, c2, c3, c4, c5, c6, c7, c8, c9, c10, rfl⟩ := list11 hl;obtain ⟨y0, y1, y2, y3, y4, y5, y6, y7, n, h0, h1, h2, h3, h4, h5, h6, h7⟩ := trod_struct8 Tryz.underlying112 h;simp only [q0, q1, q2, q4, q6, List.drop, List.take] at h0 h1 h2 h3 h4 h5 h6 h7;obtain ⟨a0, a1, a2, n2, _, _, g0, g1, g2⟩ := trod_struct3 Tryz.underlying110 h4;obtain ⟨b0', b1', n3, _, _, f0, f1⟩ := trod_struct2 Tryz.underlying107 h5;simp only [q0, q3, q4, q5, List.drop, List.take] at g0 g1 g2 f0 f1;obtain ⟨nm, e0, _, wn⟩ := DataW.trod_string Tryz.underlying9 h0;obtain ⟨fr, e1, _, _⟩ := DataW.trod_int Tryz.underlying3 h1;obtain ⟨tt, e2, _, _⟩ := DataW.trod_int Tryz.underlying3 h2;obtain ⟨mo, e3, _, _⟩ := DataW.trod_int Tryz.underlying3 h3;obtain ⟨k, e4, _, _⟩ := DataW.trod_int Tryz.underlying108 g0;obtain ⟨nn, e5, _, _⟩ := DataW.trod_int Tryz.underlying3 g1;obtain ⟨dd, e6, _, _⟩ := DataW.trod_int Tryz.underlying3 g2;obtain ⟨s, e7, _, _⟩ := DataW.trod_int Tryz.underlying2 f0;obtain ⟨c, e8, _, wc⟩ := DataW.trod_int Tryz.underlying105 f1;obtain ⟨sv, e9, _, _⟩ := DataW.trod_int Tryz.underlying2 h6;obtain ⟨lt, e10, _, wl⟩ := DataW.trod_string Tryz.underlying9 h7;simp only [List.cons.injEq, and_true] at e0 e1 e2 e3 e4 e5 e6 e7 e8 e9 e10;subst e0 e1 e2 e3 e4 e5 e6 e7 e8 e9 e10;exact ⟨⟨nm, fr, tt, mo, k, nn, dd, s, c, sv, lt⟩, rfl, byte_nonneg wc, wn, wl⟩
theorem open_era_cells {H : Type} {enc : TypeId × Value → H} {w : World} {base : Nat} {spare : Nat → Bool} {held : Bool} {fuel : Nat} {cs : List Value} {x : DataW H × List MemPlace} (hl : cs.length = 13)
  (h : DataW.trod enc Tryz.prog w base spare held fuel 191 cs = some x) : ∃ e : Er.E, cs = e.cells ∧ 0 ≤ e.u.c ∧ e.ru.size ≤ maxLen ∧ e.fm.size ≤ maxLen := by
 have q7 : Tryz.prog.cellsOf 188 = 7 := by kernel_rfl
 have q0 : Tryz.prog.cellsOf 3 = 1 := by kernel_rfl
 have q1 : Tryz.prog.cellsOf 110 = 3 := by kernel_rfl
 have q2 : Tryz.prog.cellsOf 107 = 2 := by kernel_rfl
 have q3 : Tryz.prog.cellsOf 108 = 1 := by kernel_rfl
 have q4 : Tryz.prog.cellsOf 2 = 1 := by kernel_rfl
 have q5 : Tryz.prog.cellsOf 105 = 1 := by kernel_rfl
 have q6 : Tryz.prog.cellsOf 9 = 1 := by kernel_rfl
 have q8 : Tryz.prog.cellsOf 4 = 1 := by kernel_rfl
 have q9 : Tryz.prog.cellsOf 189 = 1 := by kernel_rfl
 obtain ⟨c0, c1, c2, c3, c4, c5, c6, c7, c8, c9, c10, c11, c12, rfl⟩ := list13 hl;obtain ⟨y0, y1, y2, y3, y4, y5, y6, n, h0, h1, h2, h3, h4, h5, h6⟩ := trod_struct7 Tryz.underlying191 h;simp only [q4, q6, q7, q8, q9, List.drop, List.take] at h0 h1 h2 h3 h4 h5 h6;obtain ⟨z0, z1, z2, z3, n1, _, _, i0, i1, i2, i3⟩ := trod_struct4 Tryz.underlying188 h6;simp only [q0, q1, q2, List.drop, List.take] at i0 i1 i2 i3;obtain ⟨a0, a1, a2, n2, _, _, g0, g1, g2⟩ := trod_struct3 Tryz.underlying110 i2;obtain ⟨b0', b1', n3, _, _, f0, f1⟩ := trod_struct2 Tryz.underlying107 i3;simp only [q0, q3, q4, q5, List.drop, List.take] at g0 g1 g2 f0 f1;obtain ⟨std, e0, _, _⟩ := DataW.trod_int Tryz.underlying2 h0;obtain ⟨k, e1, _, _⟩ := DataW.trod_int Tryz.underlying189 h1;obtain ⟨sv, e2, _, _⟩ := DataW.trod_int Tryz.underlying2 h2;obtain ⟨ru, e3, _, wr⟩ := DataW.trod_string Tryz.underlying9 h3;obtain ⟨fm, e4, _, wf⟩ := DataW.trod_string Tryz.underlying9 h4;obtain ⟨en, e5, _⟩ := DataW.trod_bool Tryz.underlying4 h5;obtain ⟨y, e6, _, _⟩ := DataW.trod_int Tryz.underlying3 i0;obtain ⟨m, e7, _, _⟩ := DataW.trod_int Tryz.underlying3 i1;obtain ⟨dk, e8, _, _⟩ := DataW.trod_int Tryz.underlying108 g0;obtain ⟨dn, e9, _, _⟩ := DataW.trod_int Tryz.underlying3 g1;obtain ⟨dd, e10, _, _⟩ := DataW.trod_int Tryz.underlying3 g2;obtain ⟨s, e11, _, _⟩ := DataW.trod_int Tryz.underlying2 f0;obtain ⟨c, e12, _, wc⟩ := DataW.trod_int Tryz.underlying105 f1;simp only [List.cons.injEq, and_true] at e0 e1 e2 e3 e4 e5 e6 e7 e8 e9 e10 e11 e12
 subst e0 e1 e2 e3 e4 e5 e6 e7 e8 e9 e10 e11 e12;exact ⟨⟨std, k, sv, ru, fm, en, ⟨y, m, dk, dn, dd, s, c⟩⟩, rfl, byte_nonneg wc, wr, wf⟩
theorem list_lt {α : Type} {p : Nat → α → Prop} : ∀ n : Nat, (∀ i, i < n → ∃ a, p i a) → ∃ xs : List α, xs.length = n ∧ ∀ i a, xs[i]? = some a → p i a
 | 0, _ => ⟨[], rfl, fun i a h => by simp at h⟩
 | n + 1, h => by
  obtain ⟨xs, h1, h2⟩ := list_lt n fun i hi => h i (by omega)
  obtain ⟨a, ha⟩ := h n (by omega);refine ⟨xs ++ [a], by simp [h1], fun i b hb => ?_⟩;rcases Nat.lt_or_ge i n with hi | hi
  ·rw [List.getElem?_append_left (by omega)] at hb;exact h2 i b hb
  ·rw [List.getElem?_append_right (by omega)] at hb;have h3 : i - xs.length < 1 := by
    have := (List.getElem?_eq_some_iff.1 hb).1;simpa using this
   have h4 : i = n := by omega
   subst h4;rw [show i - xs.length = 0 by omega] at hb;simp only [List.getElem?_cons_zero, Option.some.injEq] at hb;rw [← hb];exact ha
theorem cells_flat {α : Type} {cells : α → List Value} {m : Nat} {w : World} {A : Addr} (hm : ∀ a, (cells a).length = m) : ∀ (xs : List α) (o : Nat), (∀ i a, xs[i]? = some a → ∀ k u, (cells a)[k]? = some u → w.cell? (A.add (o + (i * m + k))) = some u) →
  ∀ j u, (xs.flatMap cells)[j]? = some u → w.cell? (A.add (o + j)) = some u
 | [], o, h, j, u, hj => by simp at hj
 | a :: xs, o, h, j, u, hj => by
  rw [List.flatMap_cons] at hj;rcases Nat.lt_or_ge j m with hlt | hge
  ·rw [List.getElem?_append_left (by rw [hm]; exact hlt)] at hj;have := h 0 a rfl j u hj
   rwa [Nat.zero_mul, Nat.zero_add] at this
  ·rw [List.getElem?_append_right (by rw [hm]; exact hge), hm] at hj;have := cells_flat hm xs (o + m) (fun i b hb k v hv => by
    have := h (i + 1) b (by simpa using hb) k v hv
    rwa [show o + ((i + 1) * m + k) = o + m + (i * m + k) by rw [Nat.add_mul]; omega] at this) (j - m) u hj
   rwa [show o + m + (j - m) = o + j by omega] at this
theorem open_rows {H : Type} {enc : TypeId × Value → H} {P : Program} {w : World} {base : Nat} {spare : Nat → Bool} {held : Bool} {fuel : Nat} {cs : List Value} {x : DataW H × List MemPlace} {t e : TypeId} {m : Nat} {α : Type} {cells : α → List Value} {Good : α → Prop}
  (ht : P.underlying t = some (.slice e)) (hc : P.cellsOf e = m) (hm0 : 0 < m) (hm : ∀ a, (cells a).length = m)
  (hel : ∀ n cs x, cs.length = m → DataW.trod enc P w base spare held n e cs = some x → ∃ a, cs = cells a ∧ Good a)
  (h : DataW.trod enc P w base spare held fuel t cs = some x) : ∃ (v : Value) (xs : List α), cs = [v] ∧ Src.RowR w w.heap.size m xs.length v (xs.flatMap cells) ∧ ∀ a ∈ xs, Good a := by
 rcases open_slice ht h with ⟨rfl, _⟩ | ⟨A, len, cap, k, n, D, Pl, rfl, hb, hl, hcm, hk, _, hx⟩
 ·exact ⟨_, [], rfl, ⟨none, 0, rfl, Nat.le_refl _, by decide, ⟨by simp, fun h => absurd h (by simp)⟩⟩, fun a ha => by cases ha⟩
 ·have hlk : len ≤ k := by rw [hk]; split <;> omega
  obtain ⟨xs, h1, h2⟩ := list_lt (p := fun i a => w.cells? base (A.add (i * m)) m = some (cells a) ∧ Good a) len (fun i hi => by
   obtain ⟨cs', c1, c2⟩ := hx i (by omega);rw [hc] at c1;obtain ⟨a, rfl, ha⟩ := hel n cs' _ (World.cells?_some c1).2.1 c2;exact ⟨a, c1, ha⟩)
  refine ⟨_, xs, rfl, ⟨some A, cap, by rw [h1], by omega, hcm, ⟨?_, fun hn => ⟨A, rfl, ?_, ?_⟩⟩⟩, fun a ha => ?_⟩
  ·clear h1 h2
   induction xs with
   | nil => simp
   | cons a l ih => rw [List.flatMap_cons, List.length_append, hm, ih, List.length_cons, Nat.add_mul]; omega
  ·have h3 := (h2 0 xs[0] (List.getElem?_eq_getElem hn)).1;have h4 := World.cells?_block h3 hm0
   rwa [block_of_add] at h4
  ·intro j u hj;have := cells_flat (w := w) (A := A) hm xs 0 (fun i a hi k v hv => by
    have h3 := World.cells?_some (h2 i a hi).1;have h4 : k < m := by rw [← hm a]; exact (List.getElem?_eq_some_iff.1 hv).1
    have h5 := h3.2.2 k h4;rw [add_add] at h5;rw [Nat.zero_add, h5, hv]) j u hj
   rwa [Nat.zero_add] at this
  ·obtain ⟨i, hi, e⟩ := List.getElem_of_mem ha;exact (h2 i a (by rw [List.getElem?_eq_getElem hi, e])).2
namespace Src
def WideR (r : Ru.R) : Prop := 0 ≤ r.c ∧ r.nm.size ≤ maxLen ∧ r.lt.size ≤ maxLen
def WideE (e : Er.E) : Prop := 0 ≤ e.u.c ∧ e.ru.size ≤ maxLen ∧ e.fm.size ≤ maxLen
structure Wide (s : S) : Prop where
 rules : ∀ r ∈ s.rules, WideR r
 zones : ∀ z ∈ s.zones, z.1.length ≤ maxLen ∧ ∀ e ∈ z.2, WideE e
 links : ∀ k ∈ s.links, k.1.length ≤ maxLen ∧ k.2.length ≤ maxLen
 op : s.op = false
end Src
theorem list2 {α : Type} {l : List α} (h : l.length = 2) : ∃ a b, l = [a, b] := by
 match l, h with
 | [a, b], _ => exact ⟨a, b, rfl⟩
theorem txt_of (s : ByteArray) : ∃ t : Src.Txt, s = Src.bts t ∧ t.length = s.size := ⟨tl s, rfl, tl_length s⟩
theorem open_eras {H : Type} {enc : TypeId × Value → H} {w : World} {base : Nat} {spare : Nat → Bool} {held : Bool} {fuel : Nat} {cs : List Value} {x : DataW H × List MemPlace}
  (h : DataW.trod enc Tryz.prog w base spare held fuel 115 cs = some x) : ∃ (v : Value) (es : List Er.E), cs = [v] ∧ Src.RowR w w.heap.size 13 es.length v (es.flatMap Er.E.cells) ∧ ∀ e ∈ es, Src.WideE e :=
 open_rows Tryz.underlying115 (by kernel_rfl) (by decide) (fun _ => rfl) (fun n cs x hl hx => open_era_cells hl hx) h
theorem open_zone_cells {H : Type} {enc : TypeId × Value → H} {w : World} {base : Nat} {spare : Nat → Bool} {held : Bool} {fuel : Nat} {cs : List Value} {x : DataW H × List MemPlace} (hl : cs.length = 2)
  (h : DataW.trod enc Tryz.prog w base spare held fuel 117 cs = some x) : ∃ z : (Src.Txt × List Er.E) × Value, cs = Src.zc z ∧ Src.RowR w w.heap.size 13 z.1.2.length z.2 (z.1.2.flatMap Er.E.cells) ∧ z.1.1.length ≤ maxLen ∧ ∀ e ∈ z.1.2, Src.WideE e := by
 have q0 : Tryz.prog.cellsOf 9 = 1 := by kernel_rfl
 have q1 : Tryz.prog.cellsOf 115 = 1 := by kernel_rfl
 obtain ⟨c0, c1, rfl⟩ := list2 hl;obtain ⟨y0, y1, n, _, _, h0, h1⟩ := trod_struct2 Tryz.underlying117 h;simp only [q0, q1, List.drop, List.take] at h0 h1;obtain ⟨nm, e0, _, wn⟩ := DataW.trod_string Tryz.underlying9 h0;obtain ⟨v, es, e1, hr, he⟩ := open_eras h1;simp only [List.cons.injEq, and_true] at e0 e1;subst e0 e1;obtain ⟨t, rfl, ht⟩ := txt_of nm;exact ⟨((t, es), c1), rfl, hr, by show t.length ≤ maxLen; rw [ht]; exact wn, he⟩
theorem open_link_cells {H : Type} {enc : TypeId × Value → H} {w : World} {base : Nat} {spare : Nat → Bool} {held : Bool} {fuel : Nat} {cs : List Value} {x : DataW H × List MemPlace} (hl : cs.length = 2)
  (h : DataW.trod enc Tryz.prog w base spare held fuel 114 cs = some x) : ∃ k : Src.Txt × Src.Txt, cs = Src.lc k ∧ k.1.length ≤ maxLen ∧ k.2.length ≤ maxLen := by
 have q0 : Tryz.prog.cellsOf 9 = 1 := by kernel_rfl
 obtain ⟨c0, c1, rfl⟩ := list2 hl;obtain ⟨y0, y1, n, _, _, h0, h1⟩ := trod_struct2 Tryz.underlying114 h;simp only [q0, List.drop, List.take] at h0 h1;obtain ⟨a, e0, _, wa⟩ := DataW.trod_string Tryz.underlying9 h0;obtain ⟨b, e1, _, wb⟩ := DataW.trod_string Tryz.underlying9 h1;simp only [List.cons.injEq, and_true] at e0 e1;subst e0 e1;obtain ⟨ta, rfl, hta⟩ := txt_of a;obtain ⟨tb, rfl, htb⟩ := txt_of b;exact ⟨(ta, tb), rfl, by show ta.length ≤ maxLen; rw [hta]; exact wa, by show tb.length ≤ maxLen; rw [htb]; exact wb⟩
theorem zip_fst_snd {α β : Type} : ∀ l : List (α × β), (l.map (·.1)).zip (l.map (·.2)) = l
 | [] => rfl
 | x :: l => by simp [zip_fst_snd l]
theorem open_source {H : Type} {enc : TypeId × Value → H} {w : World} {base : Nat} {spare : Nat → Bool} {held : Bool} {r : Reach} {b0 : Nat} {v : Value} {d : DataW H} {p : List MemPlace}
  (hv : Value.okWide Tryz.prog w r b0 26 v) (h : DataW.Trod enc Tryz.prog w base spare held 26 v d p) : ∃ s rv zv lv evs, v = .agg #[rv, zv, lv] ∧ Src.SrcR w w.heap.size s rv zv lv evs ∧ Src.Wide s := by
 have q3 : Tryz.prog.cellsOf 26 = 3 := by kernel_rfl
 have q0 : Tryz.prog.cellsOf 22 = 1 := by kernel_rfl
 have q1 : Tryz.prog.cellsOf 23 = 1 := by kernel_rfl
 have q2 : Tryz.prog.cellsOf 24 = 1 := by kernel_rfl
 obtain ⟨cs, rfl, hsz⟩ := okWide_struct Tryz.underlying26 hv;obtain ⟨fuel, hf⟩ := h;obtain ⟨l⟩ := cs;have hl3 : l.length = 3 := hsz.trans q3
 match l, hl3 with
 | [c0, c1, c2], _ =>
  obtain ⟨y0, y1, y2, n, _, _, h0, h1, h2⟩ := trod_struct3 Tryz.underlying26 hf;simp only [q0, q1, q2, Value.cells, List.drop, List.take] at h0 h1 h2;obtain ⟨rv, rs, e0, hr0, hr1⟩ := open_rows (cells := Ru.R.cells) (Good := Src.WideR) Tryz.underlying22 (by kernel_rfl) (show 0 < 11 by decide) (fun _ => rfl) (fun n cs x hl hx => open_rule_cells hl hx) h0;obtain ⟨zv, zs, e1, hz0, hz1⟩ := open_rows (cells := Src.zc) (Good := fun z => Src.RowR w w.heap.size 13 z.1.2.length z.2 (z.1.2.flatMap Er.E.cells) ∧ z.1.1.length ≤ maxLen ∧ ∀ e ∈ z.1.2, Src.WideE e) Tryz.underlying23 (by kernel_rfl) (show 0 < 2 by decide) (fun _ => rfl) (fun n cs x hl hx => open_zone_cells hl hx) h1;obtain ⟨lv, ks, e2, hk0, hk1⟩ := open_rows (cells := Src.lc) (Good := fun k => k.1.length ≤ maxLen ∧ k.2.length ≤ maxLen) Tryz.underlying24 (by kernel_rfl) (show 0 < 2 by decide) (fun _ => rfl) (fun n cs x hl hx => open_link_cells hl hx) h2;simp only [List.cons.injEq, and_true] at e0 e1 e2;subst e0 e1 e2;refine ⟨⟨rs, zs.map (·.1), ks, false⟩, c0, c1, c2, zs.map (·.2), rfl, ⟨hr0, ?_, hk0, by simp, fun q hq => ?_⟩, ⟨hr1, fun z hz => ?_, hk1, rfl⟩⟩
  ·rw [zip_fst_snd];simpa using hz0
  ·rw [zip_fst_snd] at hq;exact (hz1 q hq).1
  ·rw [List.mem_map] at hz;obtain ⟨q, hq, rfl⟩ := hz;exact ⟨(hz1 q hq).2.1, (hz1 q hq).2.2⟩
end Go.Proofs.YtjobhjemnmleaaaGreatDoor
namespace Go.Proofs.YtjobhjemnmleaaaGreatDoor
open Go.RowKit
theorem list_next {α : Type} {l m : List α} {k : Nat} {a : α} (h : l.take k = m.take k) (h1 : l[k]? = some a) (h2 : m[k]? = some a) : l.take (k + 1) = m.take (k + 1) := by
 rw [List.take_add_one, List.take_add_one, h, h1, h2]
theorem refTexts_any (A A' : Option Addr) (n n' c c' : Nat) (ss ts : List ByteArray) (w : World) (hn : n ≤ maxLen) (hn' : n' ≤ maxLen) (hr : Reads w w.heap.size 1 A n (ss.map Value.string)) (hr' : Reads w w.heap.size 1 A' n' (ts.map Value.string)) :
  Calls Tryz.prog 48 #[.slice A n c, .slice A' n' c'] w fun e w' => e = .returned (.bool (decide (ss = ts))) ∧ Drew w w' := by
 unfold maxLen at hn hn';have h1 : ss.length = n := by have := hr.1; simpa using this
 have h2 : ts.length = n' := by have := hr'.1; simpa using this
 by_cases he : n = n'
 ·subst he;have q0 : ((n : Int) != (n : Int)) = false := by simp
  have H1 := Lib.hid h1;have H2 := Lib.hid h2;have HR := Lib.hid hr;have HR' := Lib.hid hr';clear h1 h2 hr hr';go_enter Tryz.func48, Tryz.ntmps48
  go_wp2;go_loopw [13] (fun i wr => ∃ k : Nat, k ≤ n ∧ i = .int .i64 k ∧ Hid (Drew w wr) ∧ Hid (ss.take k = ts.take k)) (fun i _ => n - (intOf i).toNat)
  case atStart => exact ⟨0, Nat.zero_le _, rfl, Drew.refl w, rfl⟩
  case round =>
   obtain ⟨k, hk, rfl, HD, HE⟩ := hrel
   by_cases hlt : k < n
   ·obtain ⟨ad, x, rfl, hx, hcell⟩ : ∃ ad nm, A = some ad ∧ Hid (ss[k]? = some nm) ∧ wr.cell? (ad.add k) = some (.string nm) := reads_str (HR.out.of_drew HD.out) hlt;obtain ⟨ad', y, rfl, hy, hcell'⟩ : ∃ ad nm, A' = some ad ∧ Hid (ts[k]? = some nm) ∧ wr.cell? (ad.add k) = some (.string nm) := reads_str (HR'.out.of_drew HD.out) hlt;have q1 : (0 : Int) ≤ (k : Int) := by omega
    have q2 : (k : Int) < (n : Int) := by omega
    by_cases hxy : x = y
    ·subst hxy;have HN := Lib.hid (list_next HE.out hx.out hy.out);go_wp2;go_quiet (fail)
     go_wp2;go_roundw
     case rel => exact ⟨k + 1, by omega, by go_num, by first | exact HD.out | exact HD.out.drewN _, HN⟩
     case measure => simp [intOf]; omega
    ·have qe : (x.toList == y.toList) = false := by
      rw [beq_eq_false_iff_ne];intro e;apply hxy;rw [ByteArray.toList_eq, ByteArray.toList_eq] at e;apply ByteArray.ext;exact Array.ext' e
     have qe' : ¬ x.toList = y.toList := by simpa using qe
     have HN : Hid (decide (ss = ts) = false) := by
      show decide (ss = ts) = false
      apply decide_eq_false;intro e;apply hxy;have a := hx.out;rw [e, hy.out] at a;exact (Option.some.inj a).symm
     clear hxy;go_wp2;go_quiet (fail)
     go_wp2;go_ret
     exact ⟨ret_bool (by rw [HN.out]), by first | exact HD.out | exact HD.out.drewN _⟩
   ·obtain rfl : k = n := by omega
    have HN : Hid (decide (ss = ts) = true) := by
     show decide (ss = ts) = true
     apply decide_eq_true;have e := HE.out;rw [List.take_of_length_le (by have := H1.out; omega), List.take_of_length_le (by have := H2.out; omega)] at e;exact e
    go_wp2;go_ret
    exact ⟨ret_bool (by rw [HN.out]), HD.out⟩
 ·have q0 : ((n : Int) != (n' : Int)) = true := by simp; omega
  have HN : Hid (decide (ss = ts) = false) := by
   show decide (ss = ts) = false
   apply decide_eq_false;intro e;apply he;rw [← h1, ← h2, e]
  clear h1 h2 hr hr' he;go_enter Tryz.func48, Tryz.ntmps48
  go_wp2;go_ret
  exact ⟨ret_bool (by rw [HN.out]), Drew.refl w⟩
instance : DecidableEq Mo.U := fun a b => decidable_of_iff (a.y = b.y ∧ a.m = b.m ∧ a.k = b.k ∧ a.n = b.n ∧ a.d = b.d ∧ a.s = b.s ∧ a.c = b.c) (by cases a; cases b; simp)
namespace Lv
end Lv
end Go.Proofs.YtjobhjemnmleaaaGreatDoor
namespace Go.Proofs.YtjobhjemnmleaaaGreatDoor
open Go.RowKit
namespace Src
theorem name_len {t : Txt} (h : Ru.name t = true) : t.length ≤ 64 := by
 unfold Ru.name at h;simp only [Bool.and_eq_true, decide_eq_true_eq] at h;exact h.1.2
end Src
end Go.Proofs.YtjobhjemnmleaaaGreatDoor
