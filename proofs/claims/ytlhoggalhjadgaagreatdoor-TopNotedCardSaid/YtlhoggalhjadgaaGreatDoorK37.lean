/- A Source among a row's arguments, opened. -/
import Derived.Test.YtlhoggalhjadgaaGreatDoorK36
import Derived.Test.YtlhoggalhjadgaaGreatDoorK28
import Derived.Test.YtlhoggalhjadgaaGreatDoorK34
import Derived.Test.YtlhoggalhjadgaaGreatDoorK30

namespace Go.Proofs.YtlhoggalhjadgaaGreatDoor
open Go.Deep
open Go.ChangeShapes Go.WideShapes Go.ChangeAt Go.RowKit Go.Joins
theorem list11 {α : Type} {l : List α} (h : l.length = 11) : ∃ c0 c1 c2 c3 c4 c5 c6 c7 c8 c9 c10, l = [c0, c1, c2, c3, c4, c5, c6, c7, c8, c9, c10] := by
  match l, h with
  | [c0, c1, c2, c3, c4, c5, c6, c7, c8, c9, c10], _ => exact ⟨c0, c1, c2, c3, c4, c5, c6, c7, c8, c9, c10, rfl⟩
theorem list13 {α : Type} {l : List α} (h : l.length = 13) : ∃ c0 c1 c2 c3 c4 c5 c6 c7 c8 c9 c10 c11 c12, l = [c0, c1, c2, c3, c4, c5, c6, c7, c8, c9, c10, c11, c12] := by
  match l, h with
  | [c0, c1, c2, c3, c4, c5, c6, c7, c8, c9, c10, c11, c12], _ => exact ⟨c0, c1, c2, c3, c4, c5, c6, c7, c8, c9, c10, c11, c12, rfl⟩
set_option maxRecDepth 100000 in
theorem open_rule_cells {H : Type} {enc : TypeId × Value → H} {w : World} {base : Nat} {spare : Nat → Bool} {held : Bool} {fuel : Nat} {cs : List Value} {x : DataW H × List MemPlace} (hl : cs.length = 11)
    (h : DataW.trod enc Tryz.prog w base spare held fuel 47 cs = some x) : ∃ r : Ru.R, cs = r.cells ∧ 0 ≤ r.c ∧ r.nm.size ≤ maxLen ∧ r.lt.size ≤ maxLen := by
  have q0 : Tryz.prog.cellsOf 3 = 1 := by kernel_rfl
  have q1 : Tryz.prog.cellsOf 42 = 3 := by kernel_rfl
  have q2 : Tryz.prog.cellsOf 45 = 2 := by kernel_rfl
  have q3 : Tryz.prog.cellsOf 40 = 1 := by kernel_rfl
  have q4 : Tryz.prog.cellsOf 2 = 1 := by kernel_rfl
  have q5 : Tryz.prog.cellsOf 43 = 1 := by kernel_rfl
  have q6 : Tryz.prog.cellsOf 9 = 1 := by kernel_rfl
  obtain ⟨c0, c1, c2, c3, c4, c5, c6, c7, c8, c9, c10, rfl⟩ := list11 hl
  obtain ⟨y0, y1, y2, y3, y4, y5, y6, y7, n, h0, h1, h2, h3, h4, h5, h6, h7⟩ := trod_struct8 Tryz.underlying47 h
  simp only [q0, q1, q2, q4, q6, List.drop, List.take] at h0 h1 h2 h3 h4 h5 h6 h7
  obtain ⟨a0, a1, a2, n2, _, _, g0, g1, g2⟩ := trod_struct3 Tryz.underlying42 h4
  obtain ⟨b0', b1', n3, _, _, f0, f1⟩ := trod_struct2 Tryz.underlying45 h5
  simp only [q0, q3, q4, q5, List.drop, List.take] at g0 g1 g2 f0 f1
  obtain ⟨nm, e0, _, wn⟩ := DataW.trod_string Tryz.underlying9 h0
  obtain ⟨fr, e1, _, _⟩ := DataW.trod_int Tryz.underlying3 h1
  obtain ⟨tt, e2, _, _⟩ := DataW.trod_int Tryz.underlying3 h2
  obtain ⟨mo, e3, _, _⟩ := DataW.trod_int Tryz.underlying3 h3
  obtain ⟨k, e4, _, _⟩ := DataW.trod_int Tryz.underlying40 g0
  obtain ⟨nn, e5, _, _⟩ := DataW.trod_int Tryz.underlying3 g1
  obtain ⟨dd, e6, _, _⟩ := DataW.trod_int Tryz.underlying3 g2
  obtain ⟨s, e7, _, _⟩ := DataW.trod_int Tryz.underlying2 f0
  obtain ⟨c, e8, _, wc⟩ := DataW.trod_int Tryz.underlying43 f1
  obtain ⟨sv, e9, _, _⟩ := DataW.trod_int Tryz.underlying2 h6
  obtain ⟨lt, e10, _, wl⟩ := DataW.trod_string Tryz.underlying9 h7
  simp only [List.cons.injEq, and_true] at e0 e1 e2 e3 e4 e5 e6 e7 e8 e9 e10
  subst e0 e1 e2 e3 e4 e5 e6 e7 e8 e9 e10
  exact ⟨⟨nm, fr, tt, mo, k, nn, dd, s, c, sv, lt⟩, rfl, byte_nonneg wc, wn, wl⟩
set_option maxRecDepth 100000 in
theorem open_era_cells {H : Type} {enc : TypeId × Value → H} {w : World} {base : Nat} {spare : Nat → Bool} {held : Bool} {fuel : Nat} {cs : List Value} {x : DataW H × List MemPlace} (hl : cs.length = 13)
    (h : DataW.trod enc Tryz.prog w base spare held fuel 62 cs = some x) : ∃ e : Er.E, cs = e.cells ∧ 0 ≤ e.u.c ∧ e.ru.size ≤ maxLen ∧ e.fm.size ≤ maxLen := by
  have q7 : Tryz.prog.cellsOf 60 = 7 := by kernel_rfl
  have q0 : Tryz.prog.cellsOf 3 = 1 := by kernel_rfl
  have q1 : Tryz.prog.cellsOf 42 = 3 := by kernel_rfl
  have q2 : Tryz.prog.cellsOf 45 = 2 := by kernel_rfl
  have q3 : Tryz.prog.cellsOf 40 = 1 := by kernel_rfl
  have q4 : Tryz.prog.cellsOf 2 = 1 := by kernel_rfl
  have q5 : Tryz.prog.cellsOf 43 = 1 := by kernel_rfl
  have q6 : Tryz.prog.cellsOf 9 = 1 := by kernel_rfl
  have q8 : Tryz.prog.cellsOf 4 = 1 := by kernel_rfl
  have q9 : Tryz.prog.cellsOf 58 = 1 := by kernel_rfl
  obtain ⟨c0, c1, c2, c3, c4, c5, c6, c7, c8, c9, c10, c11, c12, rfl⟩ := list13 hl
  obtain ⟨y0, y1, y2, y3, y4, y5, y6, n, h0, h1, h2, h3, h4, h5, h6⟩ := trod_struct7 Tryz.underlying62 h
  simp only [q4, q6, q7, q8, q9, List.drop, List.take] at h0 h1 h2 h3 h4 h5 h6
  obtain ⟨z0, z1, z2, z3, n1, _, _, i0, i1, i2, i3⟩ := trod_struct4 Tryz.underlying60 h6
  simp only [q0, q1, q2, List.drop, List.take] at i0 i1 i2 i3
  obtain ⟨a0, a1, a2, n2, _, _, g0, g1, g2⟩ := trod_struct3 Tryz.underlying42 i2
  obtain ⟨b0', b1', n3, _, _, f0, f1⟩ := trod_struct2 Tryz.underlying45 i3
  simp only [q0, q3, q4, q5, List.drop, List.take] at g0 g1 g2 f0 f1
  obtain ⟨std, e0, _, _⟩ := DataW.trod_int Tryz.underlying2 h0
  obtain ⟨k, e1, _, _⟩ := DataW.trod_int Tryz.underlying58 h1
  obtain ⟨sv, e2, _, _⟩ := DataW.trod_int Tryz.underlying2 h2
  obtain ⟨ru, e3, _, wr⟩ := DataW.trod_string Tryz.underlying9 h3
  obtain ⟨fm, e4, _, wf⟩ := DataW.trod_string Tryz.underlying9 h4
  obtain ⟨en, e5, _⟩ := DataW.trod_bool Tryz.underlying4 h5
  obtain ⟨y, e6, _, _⟩ := DataW.trod_int Tryz.underlying3 i0
  obtain ⟨m, e7, _, _⟩ := DataW.trod_int Tryz.underlying3 i1
  obtain ⟨dk, e8, _, _⟩ := DataW.trod_int Tryz.underlying40 g0
  obtain ⟨dn, e9, _, _⟩ := DataW.trod_int Tryz.underlying3 g1
  obtain ⟨dd, e10, _, _⟩ := DataW.trod_int Tryz.underlying3 g2
  obtain ⟨s, e11, _, _⟩ := DataW.trod_int Tryz.underlying2 f0
  obtain ⟨c, e12, _, wc⟩ := DataW.trod_int Tryz.underlying43 f1
  simp only [List.cons.injEq, and_true] at e0 e1 e2 e3 e4 e5 e6 e7 e8 e9 e10 e11 e12
  subst e0 e1 e2 e3 e4 e5 e6 e7 e8 e9 e10 e11 e12
  exact ⟨⟨std, k, sv, ru, fm, en, ⟨y, m, dk, dn, dd, s, c⟩⟩, rfl, byte_nonneg wc, wr, wf⟩
theorem list_lt {α : Type} {p : Nat → α → Prop} : ∀ n : Nat, (∀ i, i < n → ∃ a, p i a) → ∃ xs : List α, xs.length = n ∧ ∀ i a, xs[i]? = some a → p i a
  | 0, _ => ⟨[], rfl, fun i a h => by simp at h⟩
  | n + 1, h => by
    obtain ⟨xs, h1, h2⟩ := list_lt n fun i hi => h i (by omega)
    obtain ⟨a, ha⟩ := h n (by omega)
    refine ⟨xs ++ [a], by simp [h1], fun i b hb => ?_⟩
    rcases Nat.lt_or_ge i n with hi | hi
    · rw [List.getElem?_append_left (by omega)] at hb
      exact h2 i b hb
    · rw [List.getElem?_append_right (by omega)] at hb
      have h3 : i - xs.length < 1 := by
        have := (List.getElem?_eq_some_iff.1 hb).1
        simpa using this
      have h4 : i = n := by omega
      subst h4
      rw [show i - xs.length = 0 by omega] at hb
      simp only [List.getElem?_cons_zero, Option.some.injEq] at hb
      rw [← hb]
      exact ha
theorem cells_flat {α : Type} {cells : α → List Value} {m : Nat} {w : World} {A : Addr} (hm : ∀ a, (cells a).length = m) : ∀ (xs : List α) (o : Nat), (∀ i a, xs[i]? = some a → ∀ k u, (cells a)[k]? = some u → w.cell? (A.add (o + (i * m + k))) = some u) →
    ∀ j u, (xs.flatMap cells)[j]? = some u → w.cell? (A.add (o + j)) = some u
  | [], o, h, j, u, hj => by simp at hj
  | a :: xs, o, h, j, u, hj => by
    rw [List.flatMap_cons] at hj
    rcases Nat.lt_or_ge j m with hlt | hge
    · rw [List.getElem?_append_left (by rw [hm]; exact hlt)] at hj
      have := h 0 a rfl j u hj
      rwa [Nat.zero_mul, Nat.zero_add] at this
    · rw [List.getElem?_append_right (by rw [hm]; exact hge), hm] at hj
      have := cells_flat hm xs (o + m) (fun i b hb k v hv => by
        have := h (i + 1) b (by simpa using hb) k v hv
        rwa [show o + ((i + 1) * m + k) = o + m + (i * m + k) by rw [Nat.add_mul]; omega] at this) (j - m) u hj
      rwa [show o + m + (j - m) = o + j by omega] at this
/-- A slice of records, opened: what each of its elements is. -/
theorem open_rows {H : Type} {enc : TypeId × Value → H} {P : Program} {w : World} {base : Nat} {spare : Nat → Bool} {held : Bool} {fuel : Nat} {cs : List Value} {x : DataW H × List MemPlace} {t e : TypeId} {m : Nat} {α : Type} {cells : α → List Value} {Good : α → Prop}
    (ht : P.underlying t = some (.slice e)) (hc : P.cellsOf e = m) (hm0 : 0 < m) (hm : ∀ a, (cells a).length = m)
    (hel : ∀ n cs x, cs.length = m → DataW.trod enc P w base spare held n e cs = some x → ∃ a, cs = cells a ∧ Good a)
    (h : DataW.trod enc P w base spare held fuel t cs = some x) : ∃ (v : Value) (xs : List α), cs = [v] ∧ Src.RowR w w.heap.size m xs.length v (xs.flatMap cells) ∧ ∀ a ∈ xs, Good a := by
  rcases open_slice ht h with ⟨rfl, _⟩ | ⟨A, len, cap, k, n, D, Pl, rfl, hb, hl, hcm, hk, _, hx⟩
  · exact ⟨_, [], rfl, ⟨none, 0, rfl, Nat.le_refl _, by decide, ⟨by simp, fun h => absurd h (by simp)⟩⟩, fun a ha => by cases ha⟩
  · have hlk : len ≤ k := by rw [hk]; split <;> omega
    obtain ⟨xs, h1, h2⟩ := list_lt (p := fun i a => w.cells? base (A.add (i * m)) m = some (cells a) ∧ Good a) len (fun i hi => by
      obtain ⟨cs', c1, c2⟩ := hx i (by omega)
      rw [hc] at c1
      obtain ⟨a, rfl, ha⟩ := hel n cs' _ (World.cells?_some c1).2.1 c2
      exact ⟨a, c1, ha⟩)
    refine ⟨_, xs, rfl, ⟨some A, cap, by rw [h1], by omega, hcm, ⟨?_, fun hn => ⟨A, rfl, ?_, ?_⟩⟩⟩, fun a ha => ?_⟩
    · clear h1 h2
      induction xs with
      | nil => simp
      | cons a l ih => rw [List.flatMap_cons, List.length_append, hm, ih, List.length_cons, Nat.add_mul]; omega
    · have h3 := (h2 0 xs[0] (List.getElem?_eq_getElem hn)).1
      have h4 := World.cells?_block h3 hm0
      rwa [block_of_add] at h4
    · intro j u hj
      have := cells_flat (w := w) (A := A) hm xs 0 (fun i a hi k v hv => by
        have h3 := World.cells?_some (h2 i a hi).1
        have h4 : k < m := by rw [← hm a]; exact (List.getElem?_eq_some_iff.1 hv).1
        have h5 := h3.2.2 k h4
        rw [add_add] at h5
        rw [Nat.zero_add, h5, hv]) j u hj
      rwa [Nat.zero_add] at this
    · obtain ⟨i, hi, e⟩ := List.getElem_of_mem ha
      exact (h2 i a (by rw [List.getElem?_eq_getElem hi, e])).2
namespace Src
def WideR (r : Ru.R) : Prop := 0 ≤ r.c ∧ r.nm.size ≤ maxLen ∧ r.lt.size ≤ maxLen
def WideE (e : Er.E) : Prop := 0 ≤ e.u.c ∧ e.ru.size ≤ maxLen ∧ e.fm.size ≤ maxLen
structure Wide (s : S) : Prop where
  rules : ∀ r ∈ s.rules, WideR r
  zones : ∀ z ∈ s.zones, z.1.length ≤ maxLen ∧ ∀ e ∈ z.2, WideE e
  links : ∀ k ∈ s.links, k.1.length ≤ maxLen ∧ k.2.length ≤ maxLen
  op : s.op = false
end Src
theorem list2 {α : Type} {l : List α} (h : l.length = 2) : ∃ a b, l = [a, b] := by
  match l, h with
  | [a, b], _ => exact ⟨a, b, rfl⟩
theorem txt_of (s : ByteArray) : ∃ t : Src.Txt, s = Src.bts t ∧ t.length = s.size := ⟨tl s, rfl, tl_length s⟩
theorem open_eras {H : Type} {enc : TypeId × Value → H} {w : World} {base : Nat} {spare : Nat → Bool} {held : Bool} {fuel : Nat} {cs : List Value} {x : DataW H × List MemPlace}
    (h : DataW.trod enc Tryz.prog w base spare held fuel 51 cs = some x) : ∃ (v : Value) (es : List Er.E), cs = [v] ∧ Src.RowR w w.heap.size 13 es.length v (es.flatMap Er.E.cells) ∧ ∀ e ∈ es, Src.WideE e :=
  open_rows Tryz.underlying51 (by kernel_rfl) (by decide) (fun _ => rfl) (fun n cs x hl hx => open_era_cells hl hx) h
theorem open_zone_cells {H : Type} {enc : TypeId × Value → H} {w : World} {base : Nat} {spare : Nat → Bool} {held : Bool} {fuel : Nat} {cs : List Value} {x : DataW H × List MemPlace} (hl : cs.length = 2)
    (h : DataW.trod enc Tryz.prog w base spare held fuel 53 cs = some x) : ∃ z : (Src.Txt × List Er.E) × Value, cs = Src.zc z ∧ Src.RowR w w.heap.size 13 z.1.2.length z.2 (z.1.2.flatMap Er.E.cells) ∧ z.1.1.length ≤ maxLen ∧ ∀ e ∈ z.1.2, Src.WideE e := by
  have q0 : Tryz.prog.cellsOf 9 = 1 := by kernel_rfl
  have q1 : Tryz.prog.cellsOf 51 = 1 := by kernel_rfl
  obtain ⟨c0, c1, rfl⟩ := list2 hl
  obtain ⟨y0, y1, n, _, _, h0, h1⟩ := trod_struct2 Tryz.underlying53 h
  simp only [q0, q1, List.drop, List.take] at h0 h1
  obtain ⟨nm, e0, _, wn⟩ := DataW.trod_string Tryz.underlying9 h0
  obtain ⟨v, es, e1, hr, he⟩ := open_eras h1
  simp only [List.cons.injEq, and_true] at e0 e1
  subst e0 e1
  obtain ⟨t, rfl, ht⟩ := txt_of nm
  exact ⟨((t, es), c1), rfl, hr, by show t.length ≤ maxLen; rw [ht]; exact wn, he⟩
theorem open_link_cells {H : Type} {enc : TypeId × Value → H} {w : World} {base : Nat} {spare : Nat → Bool} {held : Bool} {fuel : Nat} {cs : List Value} {x : DataW H × List MemPlace} (hl : cs.length = 2)
    (h : DataW.trod enc Tryz.prog w base spare held fuel 56 cs = some x) : ∃ k : Src.Txt × Src.Txt, cs = Src.lc k ∧ k.1.length ≤ maxLen ∧ k.2.length ≤ maxLen := by
  have q0 : Tryz.prog.cellsOf 9 = 1 := by kernel_rfl
  obtain ⟨c0, c1, rfl⟩ := list2 hl
  obtain ⟨y0, y1, n, _, _, h0, h1⟩ := trod_struct2 Tryz.underlying56 h
  simp only [q0, List.drop, List.take] at h0 h1
  obtain ⟨a, e0, _, wa⟩ := DataW.trod_string Tryz.underlying9 h0
  obtain ⟨b, e1, _, wb⟩ := DataW.trod_string Tryz.underlying9 h1
  simp only [List.cons.injEq, and_true] at e0 e1
  subst e0 e1
  obtain ⟨ta, rfl, hta⟩ := txt_of a
  obtain ⟨tb, rfl, htb⟩ := txt_of b
  exact ⟨(ta, tb), rfl, by show ta.length ≤ maxLen; rw [hta]; exact wa, by show tb.length ≤ maxLen; rw [htb]; exact wb⟩
theorem zip_fst_snd {α β : Type} : ∀ l : List (α × β), (l.map (·.1)).zip (l.map (·.2)) = l
  | [] => rfl
  | x :: l => by simp [zip_fst_snd l]
set_option maxRecDepth 100000 in
theorem open_source {H : Type} {enc : TypeId × Value → H} {w : World} {base : Nat} {spare : Nat → Bool} {held : Bool} {r : Reach} {b0 : Nat} {v : Value} {d : DataW H} {p : List MemPlace}
    (hv : Value.okWide Tryz.prog w r b0 26 v) (h : DataW.Trod enc Tryz.prog w base spare held 26 v d p) : ∃ s rv zv lv evs, v = .agg #[rv, zv, lv] ∧ Src.SrcR w w.heap.size s rv zv lv evs ∧ Src.Wide s := by
  have q3 : Tryz.prog.cellsOf 26 = 3 := by kernel_rfl
  have q0 : Tryz.prog.cellsOf 22 = 1 := by kernel_rfl
  have q1 : Tryz.prog.cellsOf 23 = 1 := by kernel_rfl
  have q2 : Tryz.prog.cellsOf 24 = 1 := by kernel_rfl
  obtain ⟨cs, rfl, hsz⟩ := okWide_struct Tryz.underlying26 hv
  obtain ⟨fuel, hf⟩ := h
  obtain ⟨l⟩ := cs
  have hl3 : l.length = 3 := hsz.trans q3
  match l, hl3 with
  | [c0, c1, c2], _ =>
    obtain ⟨y0, y1, y2, n, _, _, h0, h1, h2⟩ := trod_struct3 Tryz.underlying26 hf
    simp only [q0, q1, q2, Value.cells, List.drop, List.take] at h0 h1 h2
    obtain ⟨rv, rs, e0, hr0, hr1⟩ := open_rows (cells := Ru.R.cells) (Good := Src.WideR) Tryz.underlying22 (by kernel_rfl) (show 0 < 11 by decide) (fun _ => rfl) (fun n cs x hl hx => open_rule_cells hl hx) h0
    obtain ⟨zv, zs, e1, hz0, hz1⟩ := open_rows (cells := Src.zc) (Good := fun z => Src.RowR w w.heap.size 13 z.1.2.length z.2 (z.1.2.flatMap Er.E.cells) ∧ z.1.1.length ≤ maxLen ∧ ∀ e ∈ z.1.2, Src.WideE e) Tryz.underlying23 (by kernel_rfl) (show 0 < 2 by decide) (fun _ => rfl) (fun n cs x hl hx => open_zone_cells hl hx) h1
    obtain ⟨lv, ks, e2, hk0, hk1⟩ := open_rows (cells := Src.lc) (Good := fun k => k.1.length ≤ maxLen ∧ k.2.length ≤ maxLen) Tryz.underlying24 (by kernel_rfl) (show 0 < 2 by decide) (fun _ => rfl) (fun n cs x hl hx => open_link_cells hl hx) h2
    simp only [List.cons.injEq, and_true] at e0 e1 e2
    subst e0 e1 e2
    refine ⟨⟨rs, zs.map (·.1), ks, false⟩, c0, c1, c2, zs.map (·.2), rfl, ⟨hr0, ?_, hk0, by simp, fun q hq => ?_⟩, ⟨hr1, fun z hz => ?_, hk1, rfl⟩⟩
    · rw [zip_fst_snd]
      simpa using hz0
    · rw [zip_fst_snd] at hq
      exact (hz1 q hq).1
    · rw [List.mem_map] at hz
      obtain ⟨q, hq, rfl⟩ := hz
      exact ⟨(hz1 q hq).2.1, (hz1 q hq).2.2⟩
end Go.Proofs.YtlhoggalhjadgaaGreatDoor

/- solsticelaw11.Small: 0, or 1 and the source is small. -/
namespace Go.Proofs.YtlhoggalhjadgaaGreatDoor
open Go.RowKit

namespace Src
def SmE (e : Er.E) : Prop := e.ru.size ≤ 1000 ∧ e.fm.size ≤ 1000
def SmZ (z : Txt × List Er.E) : Prop := z.2.length ≤ 12 ∧ z.1.length ≤ 1000 ∧ ∀ e ∈ z.2, SmE e
def SmR (r : Ru.R) : Prop := r.nm.size ≤ 1000 ∧ r.lt.size ≤ 1000
def SmL (k : Txt × Txt) : Prop := k.1.length ≤ 1000 ∧ k.2.length ≤ 1000
structure Few (s : S) : Prop where
  nr : s.rules.length ≤ 40
  nz : s.zones.length ≤ 12
  nl : s.links.length ≤ 20
  rules : ∀ r ∈ s.rules, SmR r
  zones : ∀ z ∈ s.zones, SmZ z
  links : ∀ k ∈ s.links, SmL k
theorem take_all {α : Type} {P : α → Prop} {l : List α} {k : Nat} {x : α} (h : ∀ a ∈ l.take k, P a) (hx : l[k]? = some x) (hp : P x) : ∀ a ∈ l.take (k + 1), P a := by
  rw [List.take_add_one, hx]
  intro a ha
  rcases List.mem_append.1 ha with ha | ha
  · exact h a ha
  · have e : a = x := by simpa using ha
    rw [e]; exact hp
theorem bts_size (t : Txt) : (bts t).size = t.length := rfl
end Src
def SRel {α : Type} (P : α → Prop) (l : List α) (n : Nat) (w0 : World) (i : Value) (wr : World) : Prop :=
  ∃ k : Nat, k ≤ n ∧ i = .int .i64 k ∧ Hid (∀ a ∈ l.take k, P a) ∧ Hid (Below w0.heap.size w0 wr)
set_option maxHeartbeats 4000000 in
set_option maxRecDepth 100000 in
theorem few_any (s : Src.S) (rv zv lv : Value) (evs : List Value) (w : World) (hR : Src.SrcR w w.heap.size s rv zv lv evs) (hw : Src.Wide s) :
    Calls Tryz.prog 7 #[.agg #[rv, zv, lv]] w fun e w' => (e = .returned (.int .i64 0) ∨ (e = .returned (.int .i64 1) ∧ Src.Few s)) ∧ Below w.heap.size w w' := by
  have hwr := hw.rules
  have hwz := hw.zones
  have hwl := hw.links
  clear hw
  obtain ⟨rules, zones, links, op⟩ := s
  obtain ⟨⟨rA, rc, rfl, hr1, hr2, hr3⟩, ⟨zA, zc, rfl, hz1, hz2, hz3⟩, ⟨lA, lc, rfl, hl1, hl2, hl3⟩, hlen, hers⟩ := hR
  simp only at hr1 hr3 hz1 hz3 hl1 hl3 hlen hers hwr hwz hwl ⊢
  obtain ⟨nr, hnr⟩ : ∃ n, rules.length = n := ⟨_, rfl⟩
  obtain ⟨nz, hnz⟩ : ∃ n, zones.length = n := ⟨_, rfl⟩
  obtain ⟨nl, hnl⟩ : ∃ n, links.length = n := ⟨_, rfl⟩
  have hzl : (zones.zip evs).length = nz := by rw [List.length_zip, hlen, hnz]; omega
  rw [hnr] at hr1 hr3 ⊢
  rw [hnz] at hz1 hz3 ⊢
  rw [hnl] at hl1 hl3 ⊢
  unfold maxLen at hr2 hz2 hl2
  have HNr := Lib.hid hnr
  have HNz := Lib.hid hnz
  have HNl := Lib.hid hnl
  have HZl := Lib.hid hzl
  have HRr := Lib.hid hr3
  have HRz := Lib.hid hz3
  have HRl := Lib.hid hl3
  have HEr := Lib.hid hers
  have HWr := Lib.hid hwr
  have HWz := Lib.hid hwz
  have HWl := Lib.hid hwl
  have HB0 := Lib.hid ((Below.refl w.heap.size w).alloc (Nat.le_refl _) (.cells #[.slice rA nr rc, .slice zA nz zc, .slice lA nl lc] 26))
  have HA0 := Lib.hid (At.new w #[.slice rA nr rc, .slice zA nz zc, .slice lA nl lc] 26)
  obtain ⟨w0, hw0⟩ : ∃ x, w.alloc (.cells #[.slice rA nr rc, .slice zA nz zc, .slice lA nl lc] 26) = x := ⟨_, rfl⟩
  obtain ⟨h, hh⟩ : ∃ h, w.heap.size = h := ⟨_, rfl⟩
  rw [hw0] at HB0 HA0
  have HH := Lib.hid hh
  clear hnr hnz hnl hzl hr3 hz3 hl3 hers hwr hwz hwl hlen
  obtain ⟨c0, c1, c2, _⟩ := (show At w0 h [.slice rA nr rc, .slice zA nz zc, .slice lA nl lc] by rw [← hh]; exact HA0.out).three
  rw [hh] at HA0
  go_enter Tryz.func7, Tryz.ntmps7
  by_cases q1 : (40 : Int) < (nr : Int)
  · go_wp2
    go_ret
    exact ⟨.inl rfl, by first | exact HB0.out | (rw [← hh]; exact HB0.out)⟩
  by_cases q2 : (12 : Int) < (nz : Int)
  · go_wp2
    go_ret
    exact ⟨.inl rfl, by first | exact HB0.out | (rw [← hh]; exact HB0.out)⟩
  by_cases q5 : (20 : Int) < (nl : Int)
  · go_wp2
    go_ret
    exact ⟨.inl rfl, by first | exact HB0.out | (rw [← hh]; exact HB0.out)⟩
  go_wp2
  clear c0 c1 c2
  go_loopw [30] (fun i wr => SRel Src.SmZ zones nz w0 i wr) (fun i _ => nz - (intOf i).toNat)
  case atStart => exact ⟨0, Nat.zero_le _, rfl, (fun a ha => by simp at ha), Below.refl _ _⟩
  case round =>
    obtain ⟨k, hk, rfl, HPk, HB⟩ := hrel
    have HBr := Lib.hid (HB0.out.trans (HB.out.mono HB0.out.size))
    by_cases hlt : k < nz
    · have q3 : (0 : Int) ≤ (k : Int) := by omega
      have q4 : (k : Int) < (nz : Int) := by omega
      obtain ⟨ad, x, rfl, hab, Hx, HL0⟩ := Ix.reads_cells (enc := Src.zc) (m := 2) (fun _ => rfl) HZl.out (HRz.out.below HBr.out) hlt
      obtain ⟨z, ev⟩ := x
      have hxz : zones[k]? = some z := (List.getElem?_zip_eq_some.1 Hx.out).1
      have hwx := HWz.out z (List.mem_of_getElem? hxz)
      obtain ⟨eA, ec, he, hne, hem, hre⟩ := HEr.out (z, ev) (List.mem_of_getElem? Hx.out)
      simp only at he hne hre
      subst he
      obtain ⟨en0, hen⟩ : ∃ n, z.2.length = n := ⟨_, rfl⟩
      obtain ⟨xn, hxn⟩ : ∃ y, Src.bts z.1 = y := ⟨_, rfl⟩
      have hzn : xn.size = z.1.length := by rw [← hxn]; rfl
      have hs1 : xn.size ≤ maxLen := by rw [hzn]; exact hwx.1
      unfold maxLen at hs1 hem
      rw [hen] at hne hre
      have x0 : wr.cell? (ad.add (k * 2)) = some (.string xn) := by rw [← hxn]; exact HL0.out 0 _ rfl
      have x1 : wr.cell? ⟨(ad.add (k * 2)).block, (ad.add (k * 2)).off + 1, none⟩ = some (.slice eA en0 ec) := by rw [← hen]; exact HL0.out 1 _ rfl
      have HXz := Lib.hid hxz
      have HZn := Lib.hid hzn
      have HEn := Lib.hid hen
      have HRe := Lib.hid hre
      have HWe := Lib.hid hwx.2
      obtain ⟨g, hg⟩ : ∃ g, wr.heap.size = g := ⟨_, rfl⟩
      obtain ⟨w3, hw3⟩ : ∃ x, wr.alloc (.cells #[.string xn, .slice eA en0 ec] 53) = x := ⟨_, rfl⟩
      have HT := Lib.hid (show At w3 g [.string xn, .slice eA en0 ec] by rw [← hw3, ← hg]; exact At.new wr #[.string xn, .slice eA en0 ec] 53)
      have HBa := Lib.hid (show Below w0.heap.size w0 w3 by rw [← hw3]; exact HB.out.alloc HB.out.size _)
      replace HBr := Lib.hid (show Below w.heap.size w w3 by rw [← hw3]; exact HBr.out.alloc HBr.out.size _)
      obtain ⟨t0, t1, _⟩ := HT.out.two
      clear hwx hxn hxz hzn hre hen
      by_cases p1 : (12 : Int) < (en0 : Int)
      · go_wp2
        go_ret
        exact ⟨.inl rfl, by first | exact HBr.out | (rw [← hh]; exact HBr.out)⟩
      by_cases p2 : (1000 : Int) < (xn.size : Int)
      · go_wp2
        go_ret
        exact ⟨.inl rfl, by first | exact HBr.out | (rw [← hh]; exact HBr.out)⟩
      go_wp2
      clear t0 t1 x0 x1
      go_loopw [47] (fun i wr => SRel Src.SmE z.2 en0 w0 i wr) (fun i _ => en0 - (intOf i).toNat)
      case atStart => exact ⟨0, Nat.zero_le _, rfl, (fun a ha => by simp at ha), HBa.out⟩
      case round =>
        obtain ⟨j, hk, rfl, HPj, HB⟩ := hrel
        have HBr := Lib.hid (HB0.out.trans (HB.out.mono HB0.out.size))
        by_cases hlt : j < en0
        · have q3 : (0 : Int) ≤ (j : Int) := by omega
          have q4 : (j : Int) < (en0 : Int) := by omega
          obtain ⟨ad2, x, rfl, hab2, Hx2, HL2⟩ := Ix.reads_cells (enc := Er.E.cells) (m := 13) (fun _ => rfl) HEn.out (HRe.out.below HBr.out) hlt
          have hwx := HWe.out x (List.mem_of_getElem? Hx2.out)
          obtain ⟨std, ek, esv, ru, fm, en, ⟨y, m, dk, dn, dd, sc, cc⟩⟩ := x
          have hs1 : ru.size ≤ maxLen := hwx.2.1
          have hs2 : fm.size ≤ maxLen := hwx.2.2
          unfold maxLen at hs1 hs2
          have yy0 : wr.cell? (ad2.add (j * 13)) = some (.int .i64 std) := HL2.out 0 _ rfl
          have yy1 : wr.cell? ⟨(ad2.add (j * 13)).block, (ad2.add (j * 13)).off + 1, none⟩ = some (.int .u8 ek) := HL2.out 1 _ rfl
          have yy2 : wr.cell? ⟨(ad2.add (j * 13)).block, (ad2.add (j * 13)).off + 2, none⟩ = some (.int .i64 esv) := HL2.out 2 _ rfl
          have yy3 : wr.cell? ⟨(ad2.add (j * 13)).block, (ad2.add (j * 13)).off + 3, none⟩ = some (.string ru) := HL2.out 3 _ rfl
          have yy4 : wr.cell? ⟨(ad2.add (j * 13)).block, (ad2.add (j * 13)).off + 4, none⟩ = some (.string fm) := HL2.out 4 _ rfl
          have yy5 : wr.cell? ⟨(ad2.add (j * 13)).block, (ad2.add (j * 13)).off + 5, none⟩ = some (.bool en) := HL2.out 5 _ rfl
          have yy6 : wr.cell? ⟨(ad2.add (j * 13)).block, (ad2.add (j * 13)).off + 6, none⟩ = some (.int .i64 y) := HL2.out 6 _ rfl
          have yy7 : wr.cell? ⟨(ad2.add (j * 13)).block, (ad2.add (j * 13)).off + 7, none⟩ = some (.int .i64 m) := HL2.out 7 _ rfl
          have yy8 : wr.cell? ⟨(ad2.add (j * 13)).block, (ad2.add (j * 13)).off + 8, none⟩ = some (.int .u8 dk) := HL2.out 8 _ rfl
          have yy9 : wr.cell? ⟨(ad2.add (j * 13)).block, (ad2.add (j * 13)).off + 9, none⟩ = some (.int .i64 dn) := HL2.out 9 _ rfl
          have yy10 : wr.cell? ⟨(ad2.add (j * 13)).block, (ad2.add (j * 13)).off + 10, none⟩ = some (.int .i64 dd) := HL2.out 10 _ rfl
          have yy11 : wr.cell? ⟨(ad2.add (j * 13)).block, (ad2.add (j * 13)).off + 11, none⟩ = some (.int .i64 sc) := HL2.out 11 _ rfl
          have yy12 : wr.cell? ⟨(ad2.add (j * 13)).block, (ad2.add (j * 13)).off + 12, none⟩ = some (.int .u8 cc) := HL2.out 12 _ rfl
          have HBa := Lib.hid (HB.out.alloc HB.out.size (.cells #[.int .i64 std, .int .u8 ek, .int .i64 esv, .string ru, .string fm, .bool en, .int .i64 y, .int .i64 m, .int .u8 dk, .int .i64 dn, .int .i64 dd, .int .i64 sc, .int .u8 cc] 62))
          replace HBr := Lib.hid (HBr.out.alloc HBr.out.size (.cells #[.int .i64 std, .int .u8 ek, .int .i64 esv, .string ru, .string fm, .bool en, .int .i64 y, .int .i64 m, .int .u8 dk, .int .i64 dn, .int .i64 dd, .int .i64 sc, .int .u8 cc] 62))
          clear hwx
          by_cases p3 : (1000 : Int) < (ru.size : Int)
          · go_wp2
            go_ret
            exact ⟨.inl rfl, by first | exact HBr.out | (rw [← hh]; exact HBr.out)⟩
          by_cases p4 : (1000 : Int) < (fm.size : Int)
          · go_wp2
            go_ret
            exact ⟨.inl rfl, by first | exact HBr.out | (rw [← hh]; exact HBr.out)⟩
          have HP2 := Lib.hid (Src.take_all HPj.out Hx2.out (show Src.SmE ⟨std, ek, esv, ru, fm, en, ⟨y, m, dk, dn, dd, sc, cc⟩⟩ from ⟨by show ru.size ≤ 1000; omega, by show fm.size ≤ 1000; omega⟩))
          go_wp2
          go_roundw
          case rel => exact ⟨j + 1, by omega, by go_num, HP2.out, HBa.out⟩
          case measure => simp [intOf]; omega
        · have q4 : ¬ (j : Int) < (en0 : Int) := by omega
          have hkn : en0 = j := by omega
          subst hkn
          have hall := HPj.out
          rw [List.take_of_length_le (by rw [HEn.out]; exact Nat.le_refl _)] at hall
          have HP2 := Lib.hid (Src.take_all HPk.out HXz.out (show Src.SmZ z from ⟨by rw [HEn.out]; omega, by rw [← HZn.out]; omega, hall⟩))
          clear hall
          go_wp2
          go_roundw
          case rel => exact ⟨k + 1, by omega, by go_num, HP2.out, HB.out⟩
          case measure => simp [intOf]; omega
    · have q4 : ¬ (k : Int) < (nz : Int) := by omega
      have hkn : nz = k := by omega
      subst hkn
      have hall := HPk.out
      rw [List.take_of_length_le (by rw [HNz.out]; exact Nat.le_refl _)] at hall
      have HAz := Lib.hid hall
      clear hall
      obtain ⟨c0, c1, c2, _⟩ := (HA0.out.below HB.out HA0.out.lt).three
      go_wp2
      clear c0 c1 c2
      go_loopw [66] (fun i wr => SRel Src.SmR rules nr w0 i wr) (fun i _ => nr - (intOf i).toNat)
      case atStart => exact ⟨0, Nat.zero_le _, rfl, (fun a ha => by simp at ha), HB.out⟩
      case round =>
        obtain ⟨k, hk, rfl, HPk, HB⟩ := hrel
        have HBr := Lib.hid (HB0.out.trans (HB.out.mono HB0.out.size))
        by_cases hlt : k < nr
        · have q3 : (0 : Int) ≤ (k : Int) := by omega
          have q4 : (k : Int) < (nr : Int) := by omega
          obtain ⟨ad, x, rfl, hab, Hx, HL0⟩ := Ix.reads_cells (enc := Ru.R.cells) (m := 11) (fun _ => rfl) HNr.out (HRr.out.below HBr.out) hlt
          have hwx := HWr.out x (List.mem_of_getElem? Hx.out)
          obtain ⟨nm, fr, tt, mo, rk, rn, rd, rs, rc0, sv, lt⟩ := x
          have hs1 : nm.size ≤ maxLen := hwx.2.1
          have hs2 : lt.size ≤ maxLen := hwx.2.2
          unfold maxLen at hs1 hs2
          have x0 : wr.cell? (ad.add (k * 11)) = some (.string nm) := HL0.out 0 _ rfl
          have x1 : wr.cell? ⟨(ad.add (k * 11)).block, (ad.add (k * 11)).off + 1, none⟩ = some (.int .i64 fr) := HL0.out 1 _ rfl
          have x2 : wr.cell? ⟨(ad.add (k * 11)).block, (ad.add (k * 11)).off + 2, none⟩ = some (.int .i64 tt) := HL0.out 2 _ rfl
          have x3 : wr.cell? ⟨(ad.add (k * 11)).block, (ad.add (k * 11)).off + 3, none⟩ = some (.int .i64 mo) := HL0.out 3 _ rfl
          have x4 : wr.cell? ⟨(ad.add (k * 11)).block, (ad.add (k * 11)).off + 4, none⟩ = some (.int .u8 rk) := HL0.out 4 _ rfl
          have x5 : wr.cell? ⟨(ad.add (k * 11)).block, (ad.add (k * 11)).off + 5, none⟩ = some (.int .i64 rn) := HL0.out 5 _ rfl
          have x6 : wr.cell? ⟨(ad.add (k * 11)).block, (ad.add (k * 11)).off + 6, none⟩ = some (.int .i64 rd) := HL0.out 6 _ rfl
          have x7 : wr.cell? ⟨(ad.add (k * 11)).block, (ad.add (k * 11)).off + 7, none⟩ = some (.int .i64 rs) := HL0.out 7 _ rfl
          have x8 : wr.cell? ⟨(ad.add (k * 11)).block, (ad.add (k * 11)).off + 8, none⟩ = some (.int .u8 rc0) := HL0.out 8 _ rfl
          have x9 : wr.cell? ⟨(ad.add (k * 11)).block, (ad.add (k * 11)).off + 9, none⟩ = some (.int .i64 sv) := HL0.out 9 _ rfl
          have x10 : wr.cell? ⟨(ad.add (k * 11)).block, (ad.add (k * 11)).off + 10, none⟩ = some (.string lt) := HL0.out 10 _ rfl
          have HT := Lib.hid (At.new wr #[.string nm, .int .i64 fr, .int .i64 tt, .int .i64 mo, .int .u8 rk, .int .i64 rn, .int .i64 rd, .int .i64 rs, .int .u8 rc0, .int .i64 sv, .string lt] 47)
          have HBa := Lib.hid (HB.out.alloc HB.out.size (.cells #[.string nm, .int .i64 fr, .int .i64 tt, .int .i64 mo, .int .u8 rk, .int .i64 rn, .int .i64 rd, .int .i64 rs, .int .u8 rc0, .int .i64 sv, .string lt] 47))
          replace HBr := Lib.hid (HBr.out.alloc HBr.out.size (.cells #[.string nm, .int .i64 fr, .int .i64 tt, .int .i64 mo, .int .u8 rk, .int .i64 rn, .int .i64 rd, .int .i64 rs, .int .u8 rc0, .int .i64 sv, .string lt] 47))
          clear hwx
          by_cases p1 : (1000 : Int) < (nm.size : Int)
          · go_wp2
            go_ret
            exact ⟨.inl rfl, by first | exact HBr.out | (rw [← hh]; exact HBr.out)⟩
          by_cases p2 : (1000 : Int) < (lt.size : Int)
          · go_wp2
            go_ret
            exact ⟨.inl rfl, by first | exact HBr.out | (rw [← hh]; exact HBr.out)⟩
          have HP2 := Lib.hid (Src.take_all HPk.out Hx.out (show Src.SmR ⟨nm, fr, tt, mo, rk, rn, rd, rs, rc0, sv, lt⟩ from ⟨by show nm.size ≤ 1000; omega, by show lt.size ≤ 1000; omega⟩))
          go_wp2
          go_roundw
          case rel => exact ⟨k + 1, by omega, by go_num, HP2.out, HBa.out⟩
          case measure => simp [intOf]; omega
        · have q4 : ¬ (k : Int) < (nr : Int) := by omega
          have hkn : nr = k := by omega
          subst hkn
          have hall := HPk.out
          rw [List.take_of_length_le (by rw [HNr.out]; exact Nat.le_refl _)] at hall
          have HAr := Lib.hid hall
          clear hall
          obtain ⟨c0, c1, c2, _⟩ := (HA0.out.below HB.out HA0.out.lt).three
          go_wp2
          clear c0 c1 c2
          go_loopw [84] (fun i wr => SRel Src.SmL links nl w0 i wr) (fun i _ => nl - (intOf i).toNat)
          case atStart => exact ⟨0, Nat.zero_le _, rfl, (fun a ha => by simp at ha), HB.out⟩
          case round =>
            obtain ⟨k, hk, rfl, HPk, HB⟩ := hrel
            have HBr := Lib.hid (HB0.out.trans (HB.out.mono HB0.out.size))
            by_cases hlt : k < nl
            · have q3 : (0 : Int) ≤ (k : Int) := by omega
              have q4 : (k : Int) < (nl : Int) := by omega
              obtain ⟨ad, x, rfl, hab, Hx, HL0⟩ := Ix.reads_cells (enc := Src.lc) (m := 2) (fun _ => rfl) HNl.out (HRl.out.below HBr.out) hlt
              have hwx := HWl.out x (List.mem_of_getElem? Hx.out)
              obtain ⟨xa, hxa⟩ : ∃ y, Src.bts x.1 = y := ⟨_, rfl⟩
              obtain ⟨xb, hxb⟩ : ∃ y, Src.bts x.2 = y := ⟨_, rfl⟩
              have hza : xa.size = x.1.length := by rw [← hxa]; rfl
              have hzb : xb.size = x.2.length := by rw [← hxb]; rfl
              have hs1 : xa.size ≤ maxLen := by rw [hza]; exact hwx.1
              have hs2 : xb.size ≤ maxLen := by rw [hzb]; exact hwx.2
              unfold maxLen at hs1 hs2
              have x0 : wr.cell? (ad.add (k * 2)) = some (.string xa) := by rw [← hxa]; exact HL0.out 0 _ rfl
              have x1 : wr.cell? ⟨(ad.add (k * 2)).block, (ad.add (k * 2)).off + 1, none⟩ = some (.string xb) := by rw [← hxb]; exact HL0.out 1 _ rfl
              have HBa := Lib.hid (HB.out.alloc HB.out.size (.cells #[.string xa, .string xb] 56))
              replace HBr := Lib.hid (HBr.out.alloc HBr.out.size (.cells #[.string xa, .string xb] 56))
              have HZa := Lib.hid hza
              have HZb := Lib.hid hzb
              clear hwx hxa hxb hza hzb
              by_cases p1 : (1000 : Int) < (xa.size : Int)
              · go_wp2
                go_ret
                exact ⟨.inl rfl, by first | exact HBr.out | (rw [← hh]; exact HBr.out)⟩
              by_cases p2 : (1000 : Int) < (xb.size : Int)
              · go_wp2
                go_ret
                exact ⟨.inl rfl, by first | exact HBr.out | (rw [← hh]; exact HBr.out)⟩
              have HP2 := Lib.hid (Src.take_all HPk.out Hx.out (show Src.SmL x from ⟨by rw [← HZa.out]; omega, by rw [← HZb.out]; omega⟩))
              go_wp2
              go_roundw
              case rel => exact ⟨k + 1, by omega, by go_num, HP2.out, HBa.out⟩
              case measure => simp [intOf]; omega
            · have q4 : ¬ (k : Int) < (nl : Int) := by omega
              have hkn : nl = k := by omega
              subst hkn
              have hall := HPk.out
              rw [List.take_of_length_le (by rw [HNl.out]; exact Nat.le_refl _)] at hall
              have HF := Lib.hid (show Src.Few ⟨rules, zones, links, op⟩ from ⟨by show rules.length ≤ 40; rw [HNr.out]; omega, by show zones.length ≤ 12; rw [HNz.out]; omega, by show links.length ≤ 20; rw [HNl.out]; omega, HAr.out, HAz.out, hall⟩)
              clear hall
              go_wp2
              go_ret
              exact ⟨.inr ⟨rfl, HF.out⟩, by first | exact HBr.out | (rw [← hh]; exact HBr.out)⟩
end Go.Proofs.YtlhoggalhjadgaaGreatDoor

/- What source.Check calls right is right, and small sources have short texts. -/
namespace Go.Proofs.YtlhoggalhjadgaaGreatDoor
open Go.RowKit

namespace Pr
open Go.Proofs.YtlhoggalhjadgaaGreatDoor.Src
theorem good_ok {e : Er.E} (h : e.good = true) : e.Ok := by
  by_cases ho : e.Ok
  · exact ho
  · unfold Er.E.good at h
    rw [Er.chk_bad e ho] at h
    exact absurd h (by decide)
theorem erasB_inv : ∀ es : List Er.E, es ≠ [] → erasB es = true → (∀ e ∈ es, e.Ok) ∧ ∃ l e, es = l ++ [e] ∧ (∀ x ∈ l, x.en = true) ∧ e.en = false
  | [], hn, _ => absurd rfl hn
  | [e], _, h => by
    unfold erasB at h
    rw [Bool.and_eq_true, Bool.and_eq_true] at h
    obtain ⟨h1, h2, _⟩ := h
    refine ⟨fun x hx => ?_, [], e, rfl, fun x hx => (by cases hx), ?_⟩
    · rw [List.mem_singleton] at hx; rw [hx]; exact good_ok h1
    · revert h2
      cases e.en <;> simp
  | e :: y :: l, _, h => by
    unfold erasB at h
    rw [Bool.and_eq_true, Bool.and_eq_true] at h
    obtain ⟨h1, h2, h3⟩ := h
    obtain ⟨i1, l', e', i2, i3, i4⟩ := erasB_inv (y :: l) (by simp) h3
    refine ⟨fun x hx => ?_, e :: l', e', by rw [i2]; rfl, fun x hx => ?_, i4⟩
    · rcases List.mem_cons.1 hx with hx | hx
      · rw [hx]; exact good_ok h1
      · exact i1 x hx
    · rcases List.mem_cons.1 hx with hx | hx
      · rw [hx]
        revert h2
        cases e.en <;> simp
      · exact i3 x hx
theorem zoneB_inv {z : Txt × List Er.E} (h : zoneB z = true) (hw : ∀ e ∈ z.2, 0 ≤ e.u.c) : Base own RkE z ∧ Done own z := by
  unfold zoneB at h
  rw [Bool.and_eq_true, Bool.and_eq_true, Bool.and_eq_true, decide_eq_true_eq, decide_eq_true_eq] at h
  obtain ⟨h1, h2, h3, h4⟩ := h
  obtain ⟨i1, l, e, i2, i3, i4⟩ := erasB_inv z.2 (by intro e; rw [e] at h2; simp at h2) h4
  exact ⟨⟨h1, h3, fun e he => ⟨i1 e he, hw e he⟩⟩, l, e, i2, i3, i4⟩
theorem zones_of : ∀ zs : List (Txt × List Er.E), (∀ z ∈ zs, Base own RkE z ∧ Done own z) → ZonesOk own RkE false zs
  | [], _ => rfl
  | [z], h => by
    have := h z (by simp)
    exact ⟨this.1, by rw [if_neg (by decide)]; exact this.2⟩
  | z :: y :: l, h => by
    have := h z (by simp)
    exact ⟨this.1, this.2, zones_of (y :: l) fun x hx => h x (List.mem_cons_of_mem _ hx)⟩
theorem srcB_rk {s : S} (h : srcB s = true) (hw : Wide s) (hl : Lims s) : Rk s := by
  unfold srcB at h
  rw [Bool.and_eq_true, Bool.and_eq_true] at h
  obtain ⟨h1, h2, h3⟩ := h
  refine ⟨⟨hl.rules, fun r hr => ⟨(Ru.R.good_iff r).1 (List.all_eq_true.1 h1 r hr), (hw.rules r hr).1⟩⟩, ⟨hl.zones, ?_⟩, ⟨hl.links, fun k hk => ?_⟩⟩
  · rw [hw.op]
    exact zones_of _ fun z hz => zoneB_inv (List.all_eq_true.1 h2 z hz) fun e he => ((hw.zones z hz).2 e he).1
  · have := List.all_eq_true.1 h3 k hk
    unfold linkB at this
    rw [Bool.and_eq_true] at this
    exact this
theorem few_lims {s : S} (h : Few s) : Lims s := ⟨by have := h.nr; omega, by have := h.nz; omega, by have := h.nl; omega⟩
theorem few_sm {s : S} (h : Few s) : Sm s := by
  refine ⟨fun r hr => ?_, fun z hz => ?_, fun k hk => ?_⟩
  · have := h.rules r hr; unfold SmR at this; exact ⟨by omega, by omega⟩
  · obtain ⟨_, a, b⟩ := h.zones z hz
    refine ⟨by omega, fun e he => ?_⟩
    have := b e he
    unfold SmE at this
    unfold maxLen
    exact ⟨by omega, by omega⟩
  · have := h.links k hk; unfold SmL at this; exact ⟨by omega, by omega⟩
theorem nw_eras_le : ∀ es : List Er.E, nw (ofEras es) ≤ 7 * es.length
  | [] => Nat.le_refl _
  | e :: es => by
    have h1 := nw_eras_le es
    have h2 := (texts_le e).2
    show e.texts.length + nw (ofEras es) ≤ _
    rw [List.length_cons]
    omega
theorem nz_small (z : Txt × List Er.E) : nz z ≤ 2 + 7 * z.2.length := by
  unfold nz ofZone
  split
  · show 0 ≤ _; omega
  · rename_i e es he
    have h1 := nw_eras_le es
    have h2 := (texts_le e).2
    rw [he]
    show e.texts.length + 1 + 1 + nw (ofEras es) ≤ _
    rw [List.length_cons]
    omega
theorem nzs_small : ∀ zs : List (Txt × List Er.E), (∀ z ∈ zs, z.2.length ≤ 12) → nzs zs ≤ 86 * zs.length
  | [], _ => Nat.le_refl _
  | z :: zs, h => by
    have h1 := nzs_small zs fun x hx => h x (List.mem_cons_of_mem _ hx)
    have h2 := nz_small z
    have h3 := h z List.mem_cons_self
    show nz z + nzs zs ≤ _
    rw [List.length_cons]
    omega
theorem few_ns {s : S} (h : Few s) : ns s ≤ 1492 := by
  have h1 := nzs_small s.zones fun z hz => (h.zones z hz).1
  have h2 := h.nr
  have h3 := h.nz
  have h4 := h.nl
  unfold ns
  omega
theorem few_text {s : S} (h : Few s) (hr : Rk s) (ho : s.op = false) : (text s).length ≤ 100000 := by
  have h1 := flat_len (lns s) (lns_ok hr ho)
  have h2 := few_ns h
  rw [nw_lns] at h1
  have h3 : (text s).length = ((lns s).flatMap ltn).length := rfl
  omega
end Pr
end Go.Proofs.YtlhoggalhjadgaaGreatDoor
