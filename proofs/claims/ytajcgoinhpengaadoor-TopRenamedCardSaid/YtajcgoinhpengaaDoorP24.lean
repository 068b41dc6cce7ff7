/- An Until among a row's arguments, opened: its seven cells. -/
import Derived.Test.YtajcgoinhpengaaDoorP07
import Derived.ProofKit
import Derived.OpenShut
import Derived.Lib.SmallJoins
import Derived.SliceStrings
import Derived.Deep.RegionHeld
import Derived.Deep.Strs
import Derived.Test.YtajcgoinhpengaaDoorP10
import Derived.Lib.LaidTab
import Derived.Test.YtajcgoinhpengaaDoorP16
import Derived.Test.YtajcgoinhpengaaDoorP17
import Derived.Test.YtajcgoinhpengaaDoorP08
import Derived.Deep.QuietTactic
import Derived.BigQuiet
import Derived.Test.YtajcgoinhpengaaDoorP05

namespace Go.Proofs.YtajcgoinhpengaaDoor
open Go.Deep
open Go.ChangeShapes Go.WideShapes Go.ChangeAt Go.RowKit Go.Joins
theorem byte_nonneg {c : Int} (h : (Lit.int .u8 c).wf = true) : 0 ≤ c := by
  have : 0 ≤ c ∧ c ≤ 255 := by simpa [Lit.wf, IntKind.min, IntKind.max, IntKind.signed, IntKind.bits] using h
  exact this.1
theorem array7 {α : Type} {cs : Array α} (h : cs.size = 7) : ∃ c0 c1 c2 c3 c4 c5 c6, cs = #[c0, c1, c2, c3, c4, c5, c6] := by
  obtain ⟨l⟩ := cs
  match l, h with
  | [c0, c1, c2, c3, c4, c5, c6], _ => exact ⟨c0, c1, c2, c3, c4, c5, c6, rfl⟩
set_option maxRecDepth 100000 in
theorem open_until {H : Type} {enc : TypeId × Value → H} {w : World} {base : Nat} {spare : Nat → Bool} {held : Bool} {r : Reach} {b0 : Nat} {v : Value} {d : DataW H} {p : List MemPlace}
    (hv : Value.okWide Tryd.prog w r b0 63 v) (h : DataW.Trod enc Tryd.prog w base spare held 63 v d p) : ∃ u : Mo.U, v = u.v ∧ 0 ≤ u.c := by
  have q7 : Tryd.prog.cellsOf 63 = 7 := by kernel_rfl
  have q0 : Tryd.prog.cellsOf 3 = 1 := by kernel_rfl
  have q1 : Tryd.prog.cellsOf 58 = 3 := by kernel_rfl
  have q2 : Tryd.prog.cellsOf 61 = 2 := by kernel_rfl
  have q3 : Tryd.prog.cellsOf 56 = 1 := by kernel_rfl
  have q4 : Tryd.prog.cellsOf 2 = 1 := by kernel_rfl
  have q5 : Tryd.prog.cellsOf 59 = 1 := by kernel_rfl
  obtain ⟨cs, rfl, hsz⟩ := okWide_struct Tryd.underlying63 hv
  obtain ⟨c0, c1, c2, c3, c4, c5, c6, rfl⟩ := array7 (hsz.trans q7)
  obtain ⟨fuel, hf⟩ := h
  obtain ⟨y0, y1, y2, y3, n, hx, _, h0, h1, h2, h3⟩ := trod_struct4 Tryd.underlying63 hf
  simp only [q0, q1, q2, Value.cells, List.drop, List.take] at h0 h1 h2 h3
  obtain ⟨a0, a1, a2, n2, _, _, g0, g1, g2⟩ := trod_struct3 Tryd.underlying58 h2
  obtain ⟨b0', b1', n3, _, _, f0, f1⟩ := trod_struct2 Tryd.underlying61 h3
  simp only [q0, q3, q4, q5, List.drop, List.take] at g0 g1 g2 f0 f1
  obtain ⟨y, e0, _, _⟩ := DataW.trod_int Tryd.underlying3 h0
  obtain ⟨m, e1, _, _⟩ := DataW.trod_int Tryd.underlying3 h1
  obtain ⟨k, e2, _, _⟩ := DataW.trod_int Tryd.underlying56 g0
  obtain ⟨nn, e3, _, _⟩ := DataW.trod_int Tryd.underlying3 g1
  obtain ⟨dd, e4, _, _⟩ := DataW.trod_int Tryd.underlying3 g2
  obtain ⟨s, e5, _, _⟩ := DataW.trod_int Tryd.underlying2 f0
  obtain ⟨c, e6, _, wc⟩ := DataW.trod_int Tryd.underlying59 f1
  simp only [List.cons.injEq, and_true] at e0 e1 e2 e3 e4 e5 e6
  subst e0 e1 e2 e3 e4 e5 e6
  exact ⟨⟨y, m, k, nn, dd, s, c⟩, rfl, byte_nonneg wc⟩
set_option maxRecDepth 100000 in
theorem open_strs {H : Type} {enc : TypeId × Value → H} {w : World} {base : Nat} {spare : Nat → Bool} {held : Bool} {r : Reach} {b0 : Nat} {v : Value} {d : DataW H} {p : List MemPlace}
    (hv : Value.okWide Tryd.prog w r b0 34 v) (h : DataW.Trod enc Tryd.prog w base spare held 34 v d p) :
    ∃ (A : Option Addr) (ln lc : Nat) (ss : List ByteArray), v = .slice A ln lc ∧ ln ≤ lc ∧ lc ≤ maxLen ∧ Reads w w.heap.size 1 A ln (ss.map Value.string) ∧ ∀ t ∈ ss, t.size ≤ maxLen := by
  have q0 : Tryd.prog.cellsOf 9 = 1 := by kernel_rfl
  obtain ⟨a0, ln, lc, rfl⟩ := okWide_slice Tryd.underlying34 hv
  obtain ⟨fuel, hf⟩ := h
  rcases open_strings Tryd.underlying34 Tryd.underlying9 q0 hf with ⟨hcs, _⟩ | ⟨a, ln', lc', ss, hcs, _, hl, hm, hz, _, hcell, hsz⟩
  · simp only [Value.cells, List.cons.injEq, Value.slice.injEq, and_true] at hcs
    obtain ⟨rfl, rfl, rfl⟩ := hcs
    exact ⟨none, 0, 0, [], rfl, Nat.le_refl _, Nat.zero_le _, Reads.none_, fun t ht => by cases ht⟩
  · simp only [Value.cells, List.cons.injEq, Value.slice.injEq, and_true] at hcs
    obtain ⟨rfl, rfl, rfl⟩ := hcs
    have hle : ln ≤ ss.length := by rw [hz]; split <;> omega
    refine ⟨some a, ln, lc, ss.take ln, rfl, hl, hm, ⟨by simp; omega, fun hn => ⟨a, rfl, World.block_lt_of_cell? w (a.add 0) (hcell 0 (by omega)), fun j u hj => ?_⟩⟩, fun t ht => hsz t (List.mem_of_mem_take ht)⟩
    have hj' : j < ln := by
      have := (List.getElem?_eq_some_iff.1 hj).1
      simp at this
      omega
    rw [List.getElem?_map, List.getElem?_take_of_lt hj', List.getElem?_eq_getElem (by omega)] at hj
    obtain rfl : Value.string ss[j] = u := by simpa using hj
    rw [hcell j (by omega)]
    simp [List.getD, List.getElem?_eq_getElem (show j < ss.length by omega)]
end Go.Proofs.YtajcgoinhpengaaDoor

/- A Rule, and an Era, among a row's arguments, opened; a listed table of strings. -/
namespace Go.Proofs.YtajcgoinhpengaaDoor
open Go.Deep
open Go.ChangeShapes Go.WideShapes Go.ChangeAt Go.RowKit Go.Joins
section
variable {H : Type} {enc : TypeId × Value → H} {P : Program} {w : World} {base : Nat} {spare : Nat → Bool} {held : Bool}
theorem trod_struct8 {t : TypeId} {f0 f1 f2 f3 f4 f5 f6 f7 : Field} {fuel : Nat} {cs : List Value} {x : DataW H × List MemPlace} (ht : P.underlying t = some (.struct #[f0, f1, f2, f3, f4, f5, f6, f7])) (h : DataW.trod enc P w base spare held fuel t cs = some x) :
    ∃ y0 y1 y2 y3 y4 y5 y6 y7 n, DataW.trod enc P w base spare held n f0.type ((cs.drop f0.offset).take (P.cellsOf f0.type)) = some y0 ∧
      DataW.trod enc P w base spare held n f1.type ((cs.drop f1.offset).take (P.cellsOf f1.type)) = some y1 ∧ DataW.trod enc P w base spare held n f2.type ((cs.drop f2.offset).take (P.cellsOf f2.type)) = some y2 ∧
      DataW.trod enc P w base spare held n f3.type ((cs.drop f3.offset).take (P.cellsOf f3.type)) = some y3 ∧ DataW.trod enc P w base spare held n f4.type ((cs.drop f4.offset).take (P.cellsOf f4.type)) = some y4 ∧
      DataW.trod enc P w base spare held n f5.type ((cs.drop f5.offset).take (P.cellsOf f5.type)) = some y5 ∧ DataW.trod enc P w base spare held n f6.type ((cs.drop f6.offset).take (P.cellsOf f6.type)) = some y6 ∧
      DataW.trod enc P w base spare held n f7.type ((cs.drop f7.offset).take (P.cellsOf f7.type)) = some y7 := by
  obtain ⟨xs, n, _, rfl, hl, hlen, hf⟩ := DataW.trod_struct ht h
  match xs, hlen with
  | [y0, y1, y2, y3, y4, y5, y6, y7], _ => exact ⟨y0, y1, y2, y3, y4, y5, y6, y7, n, by simpa using hf 0 f0 rfl, by simpa using hf 1 f1 rfl, by simpa using hf 2 f2 rfl, by simpa using hf 3 f3 rfl, by simpa using hf 4 f4 rfl, by simpa using hf 5 f5 rfl, by simpa using hf 6 f6 rfl, by simpa using hf 7 f7 rfl⟩
theorem trod_struct7 {t : TypeId} {f0 f1 f2 f3 f4 f5 f6 : Field} {fuel : Nat} {cs : List Value} {x : DataW H × List MemPlace} (ht : P.underlying t = some (.struct #[f0, f1, f2, f3, f4, f5, f6])) (h : DataW.trod enc P w base spare held fuel t cs = some x) :
    ∃ y0 y1 y2 y3 y4 y5 y6 n, DataW.trod enc P w base spare held n f0.type ((cs.drop f0.offset).take (P.cellsOf f0.type)) = some y0 ∧
      DataW.trod enc P w base spare held n f1.type ((cs.drop f1.offset).take (P.cellsOf f1.type)) = some y1 ∧ DataW.trod enc P w base spare held n f2.type ((cs.drop f2.offset).take (P.cellsOf f2.type)) = some y2 ∧
      DataW.trod enc P w base spare held n f3.type ((cs.drop f3.offset).take (P.cellsOf f3.type)) = some y3 ∧ DataW.trod enc P w base spare held n f4.type ((cs.drop f4.offset).take (P.cellsOf f4.type)) = some y4 ∧
      DataW.trod enc P w base spare held n f5.type ((cs.drop f5.offset).take (P.cellsOf f5.type)) = some y5 ∧ DataW.trod enc P w base spare held n f6.type ((cs.drop f6.offset).take (P.cellsOf f6.type)) = some y6 := by
  obtain ⟨xs, n, _, rfl, hl, hlen, hf⟩ := DataW.trod_struct ht h
  match xs, hlen with
  | [y0, y1, y2, y3, y4, y5, y6], _ => exact ⟨y0, y1, y2, y3, y4, y5, y6, n, by simpa using hf 0 f0 rfl, by simpa using hf 1 f1 rfl, by simpa using hf 2 f2 rfl, by simpa using hf 3 f3 rfl, by simpa using hf 4 f4 rfl, by simpa using hf 5 f5 rfl, by simpa using hf 6 f6 rfl⟩
end
theorem array11 {α : Type} {cs : Array α} (h : cs.size = 11) : ∃ c0 c1 c2 c3 c4 c5 c6 c7 c8 c9 c10, cs = #[c0, c1, c2, c3, c4, c5, c6, c7, c8, c9, c10] := by
  obtain ⟨l⟩ := cs
  match l, h with
  | [c0, c1, c2, c3, c4, c5, c6, c7, c8, c9, c10], _ => exact ⟨c0, c1, c2, c3, c4, c5, c6, c7, c8, c9, c10, rfl⟩
theorem array13 {α : Type} {cs : Array α} (h : cs.size = 13) : ∃ c0 c1 c2 c3 c4 c5 c6 c7 c8 c9 c10 c11 c12, cs = #[c0, c1, c2, c3, c4, c5, c6, c7, c8, c9, c10, c11, c12] := by
  obtain ⟨l⟩ := cs
  match l, h with
  | [c0, c1, c2, c3, c4, c5, c6, c7, c8, c9, c10, c11, c12], _ => exact ⟨c0, c1, c2, c3, c4, c5, c6, c7, c8, c9, c10, c11, c12, rfl⟩
set_option maxRecDepth 100000 in
theorem open_rule {H : Type} {enc : TypeId × Value → H} {w : World} {base : Nat} {spare : Nat → Bool} {held : Bool} {r : Reach} {b0 : Nat} {v : Value} {d : DataW H} {p : List MemPlace}
    (hv : Value.okWide Tryd.prog w r b0 67 v) (h : DataW.Trod enc Tryd.prog w base spare held 67 v d p) : ∃ r : Ru.R, v = r.v ∧ 0 ≤ r.c ∧ r.nm.size ≤ maxLen ∧ r.lt.size ≤ maxLen := by
  have q11 : Tryd.prog.cellsOf 67 = 11 := by kernel_rfl
  have q0 : Tryd.prog.cellsOf 3 = 1 := by kernel_rfl
  have q1 : Tryd.prog.cellsOf 58 = 3 := by kernel_rfl
  have q2 : Tryd.prog.cellsOf 61 = 2 := by kernel_rfl
  have q3 : Tryd.prog.cellsOf 56 = 1 := by kernel_rfl
  have q4 : Tryd.prog.cellsOf 2 = 1 := by kernel_rfl
  have q5 : Tryd.prog.cellsOf 59 = 1 := by kernel_rfl
  have q6 : Tryd.prog.cellsOf 9 = 1 := by kernel_rfl
  obtain ⟨cs, rfl, hsz⟩ := okWide_struct Tryd.underlying67 hv
  obtain ⟨c0, c1, c2, c3, c4, c5, c6, c7, c8, c9, c10, rfl⟩ := array11 (hsz.trans q11)
  obtain ⟨fuel, hf⟩ := h
  obtain ⟨y0, y1, y2, y3, y4, y5, y6, y7, n, h0, h1, h2, h3, h4, h5, h6, h7⟩ := trod_struct8 Tryd.underlying67 hf
  simp only [q0, q1, q2, q4, q6, Value.cells, List.drop, List.take] at h0 h1 h2 h3 h4 h5 h6 h7
  obtain ⟨a0, a1, a2, n2, _, _, g0, g1, g2⟩ := trod_struct3 Tryd.underlying58 h4
  obtain ⟨b0', b1', n3, _, _, f0, f1⟩ := trod_struct2 Tryd.underlying61 h5
  simp only [q0, q3, q4, q5, List.drop, List.take] at g0 g1 g2 f0 f1
  obtain ⟨nm, e0, _, wn⟩ := DataW.trod_string Tryd.underlying9 h0
  obtain ⟨fr, e1, _, _⟩ := DataW.trod_int Tryd.underlying3 h1
  obtain ⟨tt, e2, _, _⟩ := DataW.trod_int Tryd.underlying3 h2
  obtain ⟨mo, e3, _, _⟩ := DataW.trod_int Tryd.underlying3 h3
  obtain ⟨k, e4, _, _⟩ := DataW.trod_int Tryd.underlying56 g0
  obtain ⟨nn, e5, _, _⟩ := DataW.trod_int Tryd.underlying3 g1
  obtain ⟨dd, e6, _, _⟩ := DataW.trod_int Tryd.underlying3 g2
  obtain ⟨s, e7, _, _⟩ := DataW.trod_int Tryd.underlying2 f0
  obtain ⟨c, e8, _, wc⟩ := DataW.trod_int Tryd.underlying59 f1
  obtain ⟨sv, e9, _, _⟩ := DataW.trod_int Tryd.underlying2 h6
  obtain ⟨lt, e10, _, wl⟩ := DataW.trod_string Tryd.underlying9 h7
  simp only [List.cons.injEq, and_true] at e0 e1 e2 e3 e4 e5 e6 e7 e8 e9 e10
  subst e0 e1 e2 e3 e4 e5 e6 e7 e8 e9 e10
  exact ⟨⟨nm, fr, tt, mo, k, nn, dd, s, c, sv, lt⟩, rfl, byte_nonneg wc, wn, wl⟩
set_option maxRecDepth 100000 in
theorem open_era {H : Type} {enc : TypeId × Value → H} {w : World} {base : Nat} {spare : Nat → Bool} {held : Bool} {r : Reach} {b0 : Nat} {v : Value} {d : DataW H} {p : List MemPlace}
    (hv : Value.okWide Tryd.prog w r b0 65 v) (h : DataW.Trod enc Tryd.prog w base spare held 65 v d p) : ∃ e : Er.E, v = e.v ∧ 0 ≤ e.u.c ∧ e.ru.size ≤ maxLen ∧ e.fm.size ≤ maxLen := by
  have q13 : Tryd.prog.cellsOf 65 = 13 := by kernel_rfl
  have q7 : Tryd.prog.cellsOf 63 = 7 := by kernel_rfl
  have q0 : Tryd.prog.cellsOf 3 = 1 := by kernel_rfl
  have q1 : Tryd.prog.cellsOf 58 = 3 := by kernel_rfl
  have q2 : Tryd.prog.cellsOf 61 = 2 := by kernel_rfl
  have q3 : Tryd.prog.cellsOf 56 = 1 := by kernel_rfl
  have q4 : Tryd.prog.cellsOf 2 = 1 := by kernel_rfl
  have q5 : Tryd.prog.cellsOf 59 = 1 := by kernel_rfl
  have q6 : Tryd.prog.cellsOf 9 = 1 := by kernel_rfl
  have q8 : Tryd.prog.cellsOf 4 = 1 := by kernel_rfl
  have q9 : Tryd.prog.cellsOf 55 = 1 := by kernel_rfl
  obtain ⟨cs, rfl, hsz⟩ := okWide_struct Tryd.underlying65 hv
  obtain ⟨c0, c1, c2, c3, c4, c5, c6, c7, c8, c9, c10, c11, c12, rfl⟩ := array13 (hsz.trans q13)
  obtain ⟨fuel, hf⟩ := h
  obtain ⟨y0, y1, y2, y3, y4, y5, y6, n, h0, h1, h2, h3, h4, h5, h6⟩ := trod_struct7 Tryd.underlying65 hf
  simp only [q4, q6, q7, q8, q9, Value.cells, List.drop, List.take] at h0 h1 h2 h3 h4 h5 h6
  obtain ⟨z0, z1, z2, z3, n1, _, _, i0, i1, i2, i3⟩ := trod_struct4 Tryd.underlying63 h6
  simp only [q0, q1, q2, List.drop, List.take] at i0 i1 i2 i3
  obtain ⟨a0, a1, a2, n2, _, _, g0, g1, g2⟩ := trod_struct3 Tryd.underlying58 i2
  obtain ⟨b0', b1', n3, _, _, f0, f1⟩ := trod_struct2 Tryd.underlying61 i3
  simp only [q0, q3, q4, q5, List.drop, List.take] at g0 g1 g2 f0 f1
  obtain ⟨std, e0, _, _⟩ := DataW.trod_int Tryd.underlying2 h0
  obtain ⟨k, e1, _, _⟩ := DataW.trod_int Tryd.underlying55 h1
  obtain ⟨sv, e2, _, _⟩ := DataW.trod_int Tryd.underlying2 h2
  obtain ⟨ru, e3, _, wr⟩ := DataW.trod_string Tryd.underlying9 h3
  obtain ⟨fm, e4, _, wf⟩ := DataW.trod_string Tryd.underlying9 h4
  obtain ⟨en, e5, _⟩ := DataW.trod_bool Tryd.underlying4 h5
  obtain ⟨y, e6, _, _⟩ := DataW.trod_int Tryd.underlying3 i0
  obtain ⟨m, e7, _, _⟩ := DataW.trod_int Tryd.underlying3 i1
  obtain ⟨dk, e8, _, _⟩ := DataW.trod_int Tryd.underlying56 g0
  obtain ⟨dn, e9, _, _⟩ := DataW.trod_int Tryd.underlying3 g1
  obtain ⟨dd, e10, _, _⟩ := DataW.trod_int Tryd.underlying3 g2
  obtain ⟨s, e11, _, _⟩ := DataW.trod_int Tryd.underlying2 f0
  obtain ⟨c, e12, _, wc⟩ := DataW.trod_int Tryd.underlying59 f1
  simp only [List.cons.injEq, and_true] at e0 e1 e2 e3 e4 e5 e6 e7 e8 e9 e10 e11 e12
  subst e0 e1 e2 e3 e4 e5 e6 e7 e8 e9 e10 e11 e12
  exact ⟨⟨std, k, sv, ru, fm, en, ⟨y, m, dk, dn, dd, s, c⟩⟩, rfl, byte_nonneg wc, wr, wf⟩
/-- A listed table of strings: what its cells hold. -/
theorem strs_of_head {P : Program} {W : World} {name : String} {ls : List (List UInt8)} {rest : List (String × DataW Unit)} {g : Nat} {t e : TypeId} {n : Nat}
    (hg : P.globalNamed name = some g) (hty : (P.globals[g]?).map (·.type) = some t) (ht : P.underlying t = some (.array n e)) (he : P.underlying e = some .string) (hce : P.cellsOf e = 1) (hct : P.cellsOf t = n)
    (h : laidMet P ((name, .agg (ls.map fun l => .lit (.string l))) :: rest) W) : ∀ i l, ls[i]? = some l → W.cell? ⟨g, i, none⟩ = some (.string ⟨l.toArray⟩) := by
  obtain ⟨ps, ⟨g', t', cs, fuel, p, q, hg', ht', hvar, hd, _, _⟩, _⟩ := h
  obtain rfl := Option.some.inj (hg.symm.trans hg')
  obtain rfl := Option.some.inj (hty.symm.trans ht')
  obtain ⟨xs, m, rfl, hx, hl, hxl, hel⟩ := DataW.trod_array ht hd
  intro i l hi
  have hmap : xs.map (·.1) = ls.map fun l => (DataW.lit (.string l)) := by
    have := congrArg Prod.fst hx
    simpa using this.symm
  have hn : i < n := by
    have h1 := congrArg List.length hmap
    have h2 := (List.getElem?_eq_some_iff.1 hi).1
    simp only [List.length_map] at h1
    omega
  have hE := hel i hn
  rw [hce, Nat.mul_one, List.getElem?_eq_getElem (by omega)] at hE
  obtain ⟨s, hc, hd', _⟩ := DataW.trod_string he hE
  have h2 : (xs.map (·.1))[i]? = some xs[i].1 := by simp [List.getElem?_eq_getElem (show i < xs.length by omega)]
  rw [hmap, List.getElem?_map, hi, Option.map_some, hd'] at h2
  simp only [Option.some.injEq, DataW.lit.injEq, Lit.string.injEq] at h2
  have h3 : cs[i]? = some (.string s) := by
    have := congrArg (·[0]?) hc
    simpa [List.getElem?_take, List.getElem?_drop] using this
  have := World.var?_cell hg hvar i
  rw [this]
  rw [h2]
  exact h3
end Go.Proofs.YtajcgoinhpengaaDoor

/- A Source among a row's arguments, opened. -/
namespace Go.Proofs.YtajcgoinhpengaaDoor
open Go.Deep
open Go.ChangeShapes Go.WideShapes Go.ChangeAt Go.RowKit Go.Joins
theorem list11 {α : Type} {l : List α} (h : l.length = 11) : ∃ c0 c1 c2 c3 c4 c5 c6 c7 c8 c9 c10, l = [c0, c1, c2, c3, c4, c5, c6, c7, c8, c9, c10] := by
  match l, h with
  | [c0, c1, c2, c3, c4, c5, c6, c7, c8, c9, c10], _ => exact ⟨c0, c1, c2, c3, c4, c5, c6, c7, c8, c9, c10, rfl⟩
theorem list13 {α : Type} {l : List α} (h : l.length = 13) : ∃ c0 c1 c2 c3 c4 c5 c6 c7 c8 c9 c10 c11 c12, l = [c0, c1, c2, c3, c4, c5, c6, c7, c8, c9, c10, c11, c12] := by
  match l, h with
  | [c0, c1, c2, c3, c4, c5, c6, c7, c8, c9, c10, c11, c12], _ => exact ⟨c0, c1, c2, c3, c4, c5, c6, c7, c8, c9, c10, c11, c12, rfl⟩
set_option maxRecDepth 100000 in
theorem open_rule_cells {H : Type} {enc : TypeId × Value → H} {w : World} {base : Nat} {spare : Nat → Bool} {held : Bool} {fuel : Nat} {cs : List Value} {x : DataW H × List MemPlace} (hl : cs.length = 11)
    (h : DataW.trod enc Tryd.prog w base spare held fuel 67 cs = some x) : ∃ r : Ru.R, cs = r.cells ∧ 0 ≤ r.c ∧ r.nm.size ≤ maxLen ∧ r.lt.size ≤ maxLen := by
  have q0 : Tryd.prog.cellsOf 3 = 1 := by kernel_rfl
  have q1 : Tryd.prog.cellsOf 58 = 3 := by kernel_rfl
  have q2 : Tryd.prog.cellsOf 61 = 2 := by kernel_rfl
  have q3 : Tryd.prog.cellsOf 56 = 1 := by kernel_rfl
  have q4 : Tryd.prog.cellsOf 2 = 1 := by kernel_rfl
  have q5 : Tryd.prog.cellsOf 59 = 1 := by kernel_rfl
  have q6 : Tryd.prog.cellsOf 9 = 1 := by kernel_rfl
  obtain ⟨c0, c1, c2, c3, c4, c5, c6, c7, c8, c9, c10, rfl⟩ := list11 hl
  obtain ⟨y0, y1, y2, y3, y4, y5, y6, y7, n, h0, h1, h2, h3, h4, h5, h6, h7⟩ := trod_struct8 Tryd.underlying67 h
  simp only [q0, q1, q2, q4, q6, List.drop, List.take] at h0 h1 h2 h3 h4 h5 h6 h7
  obtain ⟨a0, a1, a2, n2, _, _, g0, g1, g2⟩ := trod_struct3 Tryd.underlying58 h4
  obtain ⟨b0', b1', n3, _, _, f0, f1⟩ := trod_struct2 Tryd.underlying61 h5
  simp only [q0, q3, q4, q5, List.drop, List.take] at g0 g1 g2 f0 f1
  obtain ⟨nm, e0, _, wn⟩ := DataW.trod_string Tryd.underlying9 h0
  obtain ⟨fr, e1, _, _⟩ := DataW.trod_int Tryd.underlying3 h1
  obtain ⟨tt, e2, _, _⟩ := DataW.trod_int Tryd.underlying3 h2
  obtain ⟨mo, e3, _, _⟩ := DataW.trod_int Tryd.underlying3 h3
  obtain ⟨k, e4, _, _⟩ := DataW.trod_int Tryd.underlying56 g0
  obtain ⟨nn, e5, _, _⟩ := DataW.trod_int Tryd.underlying3 g1
  obtain ⟨dd, e6, _, _⟩ := DataW.trod_int Tryd.underlying3 g2
  obtain ⟨s, e7, _, _⟩ := DataW.trod_int Tryd.underlying2 f0
  obtain ⟨c, e8, _, wc⟩ := DataW.trod_int Tryd.underlying59 f1
  obtain ⟨sv, e9, _, _⟩ := DataW.trod_int Tryd.underlying2 h6
  obtain ⟨lt, e10, _, wl⟩ := DataW.trod_string Tryd.underlying9 h7
  simp only [List.cons.injEq, and_true] at e0 e1 e2 e3 e4 e5 e6 e7 e8 e9 e10
  subst e0 e1 e2 e3 e4 e5 e6 e7 e8 e9 e10
  exact ⟨⟨nm, fr, tt, mo, k, nn, dd, s, c, sv, lt⟩, rfl, byte_nonneg wc, wn, wl⟩
set_option maxRecDepth 100000 in
theorem open_era_cells {H : Type} {enc : TypeId × Value → H} {w : World} {base : Nat} {spare : Nat → Bool} {held : Bool} {fuel : Nat} {cs : List Value} {x : DataW H × List MemPlace} (hl : cs.length = 13)
    (h : DataW.trod enc Tryd.prog w base spare held fuel 65 cs = some x) : ∃ e : Er.E, cs = e.cells ∧ 0 ≤ e.u.c ∧ e.ru.size ≤ maxLen ∧ e.fm.size ≤ maxLen := by
  have q7 : Tryd.prog.cellsOf 63 = 7 := by kernel_rfl
  have q0 : Tryd.prog.cellsOf 3 = 1 := by kernel_rfl
  have q1 : Tryd.prog.cellsOf 58 = 3 := by kernel_rfl
  have q2 : Tryd.prog.cellsOf 61 = 2 := by kernel_rfl
  have q3 : Tryd.prog.cellsOf 56 = 1 := by kernel_rfl
  have q4 : Tryd.prog.cellsOf 2 = 1 := by kernel_rfl
  have q5 : Tryd.prog.cellsOf 59 = 1 := by kernel_rfl
  have q6 : Tryd.prog.cellsOf 9 = 1 := by kernel_rfl
  have q8 : Tryd.prog.cellsOf 4 = 1 := by kernel_rfl
  have q9 : Tryd.prog.cellsOf 55 = 1 := by kernel_rfl
  obtain ⟨c0, c1, c2, c3, c4, c5, c6, c7, c8, c9, c10, c11, c12, rfl⟩ := list13 hl
  obtain ⟨y0, y1, y2, y3, y4, y5, y6, n, h0, h1, h2, h3, h4, h5, h6⟩ := trod_struct7 Tryd.underlying65 h
  simp only [q4, q6, q7, q8, q9, List.drop, List.take] at h0 h1 h2 h3 h4 h5 h6
  obtain ⟨z0, z1, z2, z3, n1, _, _, i0, i1, i2, i3⟩ := trod_struct4 Tryd.underlying63 h6
  simp only [q0, q1, q2, List.drop, List.take] at i0 i1 i2 i3
  obtain ⟨a0, a1, a2, n2, _, _, g0, g1, g2⟩ := trod_struct3 Tryd.underlying58 i2
  obtain ⟨b0', b1', n3, _, _, f0, f1⟩ := trod_struct2 Tryd.underlying61 i3
  simp only [q0, q3, q4, q5, List.drop, List.take] at g0 g1 g2 f0 f1
  obtain ⟨std, e0, _, _⟩ := DataW.trod_int Tryd.underlying2 h0
  obtain ⟨k, e1, _, _⟩ := DataW.trod_int Tryd.underlying55 h1
  obtain ⟨sv, e2, _, _⟩ := DataW.trod_int Tryd.underlying2 h2
  obtain ⟨ru, e3, _, wr⟩ := DataW.trod_string Tryd.underlying9 h3
  obtain ⟨fm, e4, _, wf⟩ := DataW.trod_string Tryd.underlying9 h4
  obtain ⟨en, e5, _⟩ := DataW.trod_bool Tryd.underlying4 h5
  obtain ⟨y, e6, _, _⟩ := DataW.trod_int Tryd.underlying3 i0
  obtain ⟨m, e7, _, _⟩ := DataW.trod_int Tryd.underlying3 i1
  obtain ⟨dk, e8, _, _⟩ := DataW.trod_int Tryd.underlying56 g0
  obtain ⟨dn, e9, _, _⟩ := DataW.trod_int Tryd.underlying3 g1
  obtain ⟨dd, e10, _, _⟩ := DataW.trod_int Tryd.underlying3 g2
  obtain ⟨s, e11, _, _⟩ := DataW.trod_int Tryd.underlying2 f0
  obtain ⟨c, e12, _, wc⟩ := DataW.trod_int Tryd.underlying59 f1
  simp only [List.cons.injEq, and_true] at e0 e1 e2 e3 e4 e5 e6 e7 e8 e9 e10 e11 e12
  subst e0 e1 e2 e3 e4 e5 e6 e7 e8 e9 e10 e11 e12
  exact ⟨⟨std, k, sv, ru, fm, en, ⟨y, m, dk, dn, dd, s, c⟩⟩, rfl, byte_nonneg wc, wr, wf⟩
theorem list_lt {α : Type} {p : Nat → α → Prop} : ∀ n : Nat, (∀ i, i < n → ∃ a, p i a) → ∃ xs : List α, xs.length = n ∧ ∀ i a, xs[i]? = some a → p i a
  | 0, _ => ⟨[], rfl, fun i a h => by simp at h⟩
  | n + 1, h => by
    obtain ⟨xs, h1, h2⟩ := list_lt n fun i hi => h i (by omega)
    obtain ⟨a, ha⟩ := h n (by omega)
    refine ⟨xs ++ [a], by simp [h1], fun i b hb => ?_⟩
    rcases Nat.lt_or_ge i n with hi | hi
    · rw [List.getElem?_append_left (by omega)] at hb
      exact h2 i b hb
    · rw [List.getElem?_append_right (by omega)] at hb
      have h3 : i - xs.length < 1 := by
        have := (List.getElem?_eq_some_iff.1 hb).1
        simpa using this
      have h4 : i = n := by omega
      subst h4
      rw [show i - xs.length = 0 by omega] at hb
      simp only [List.getElem?_cons_zero, Option.some.injEq] at hb
      rw [← hb]
      exact ha
theorem cells_flat {α : Type} {cells : α → List Value} {m : Nat} {w : World} {A : Addr} (hm : ∀ a, (cells a).length = m) : ∀ (xs : List α) (o : Nat), (∀ i a, xs[i]? = some a → ∀ k u, (cells a)[k]? = some u → w.cell? (A.add (o + (i * m + k))) = some u) →
    ∀ j u, (xs.flatMap cells)[j]? = some u → w.cell? (A.add (o + j)) = some u
  | [], o, h, j, u, hj => by simp at hj
  | a :: xs, o, h, j, u, hj => by
    rw [List.flatMap_cons] at hj
    rcases Nat.lt_or_ge j m with hlt | hge
    · rw [List.getElem?_append_left (by rw [hm]; exact hlt)] at hj
      have := h 0 a rfl j u hj
      rwa [Nat.zero_mul, Nat.zero_add] at this
    · rw [List.getElem?_append_right (by rw [hm]; exact hge), hm] at hj
      have := cells_flat hm xs (o + m) (fun i b hb k v hv => by
        have := h (i + 1) b (by simpa using hb) k v hv
        rwa [show o + ((i + 1) * m + k) = o + m + (i * m + k) by rw [Nat.add_mul]; omega] at this) (j - m) u hj
      rwa [show o + m + (j - m) = o + j by omega] at this
/-- A slice of records, opened: what each of its elements is. -/
theorem open_rows {H : Type} {enc : TypeId × Value → H} {P : Program} {w : World} {base : Nat} {spare : Nat → Bool} {held : Bool} {fuel : Nat} {cs : List Value} {x : DataW H × List MemPlace} {t e : TypeId} {m : Nat} {α : Type} {cells : α → List Value} {Good : α → Prop}
    (ht : P.underlying t = some (.slice e)) (hc : P.cellsOf e = m) (hm0 : 0 < m) (hm : ∀ a, (cells a).length = m)
    (hel : ∀ n cs x, cs.length = m → DataW.trod enc P w base spare held n e cs = some x → ∃ a, cs = cells a ∧ Good a)
    (h : DataW.trod enc P w base spare held fuel t cs = some x) : ∃ (v : Value) (xs : List α), cs = [v] ∧ Src.RowR w w.heap.size m xs.length v (xs.flatMap cells) ∧ ∀ a ∈ xs, Good a := by
  rcases open_slice ht h with ⟨rfl, _⟩ | ⟨A, len, cap, k, n, D, Pl, rfl, hb, hl, hcm, hk, _, hx⟩
  · exact ⟨_, [], rfl, ⟨none, 0, rfl, Nat.le_refl _, by decide, ⟨by simp, fun h => absurd h (by simp)⟩⟩, fun a ha => by cases ha⟩
  · have hlk : len ≤ k := by rw [hk]; split <;> omega
    obtain ⟨xs, h1, h2⟩ := list_lt (p := fun i a => w.cells? base (A.add (i * m)) m = some (cells a) ∧ Good a) len (fun i hi => by
      obtain ⟨cs', c1, c2⟩ := hx i (by omega)
      rw [hc] at c1
      obtain ⟨a, rfl, ha⟩ := hel n cs' _ (World.cells?_some c1).2.1 c2
      exact ⟨a, c1, ha⟩)
    refine ⟨_, xs, rfl, ⟨some A, cap, by rw [h1], by omega, hcm, ⟨?_, fun hn => ⟨A, rfl, ?_, ?_⟩⟩⟩, fun a ha => ?_⟩
    · clear h1 h2
      induction xs with
      | nil => simp
      | cons a l ih => rw [List.flatMap_cons, List.length_append, hm, ih, List.length_cons, Nat.add_mul]; omega
    · have h3 := (h2 0 xs[0] (List.getElem?_eq_getElem hn)).1
      have h4 := World.cells?_block h3 hm0
      rwa [block_of_add] at h4
    · intro j u hj
      have := cells_flat (w := w) (A := A) hm xs 0 (fun i a hi k v hv => by
        have h3 := World.cells?_some (h2 i a hi).1
        have h4 : k < m := by rw [← hm a]; exact (List.getElem?_eq_some_iff.1 hv).1
        have h5 := h3.2.2 k h4
        rw [add_add] at h5
        rw [Nat.zero_add, h5, hv]) j u hj
      rwa [Nat.zero_add] at this
    · obtain ⟨i, hi, e⟩ := List.getElem_of_mem ha
      exact (h2 i a (by rw [List.getElem?_eq_getElem hi, e])).2
namespace Src
def WideR (r : Ru.R) : Prop := 0 ≤ r.c ∧ r.nm.size ≤ maxLen ∧ r.lt.size ≤ maxLen
def WideE (e : Er.E) : Prop := 0 ≤ e.u.c ∧ e.ru.size ≤ maxLen ∧ e.fm.size ≤ maxLen
structure Wide (s : S) : Prop where
  rules : ∀ r ∈ s.rules, WideR r
  zones : ∀ z ∈ s.zones, z.1.length ≤ maxLen ∧ ∀ e ∈ z.2, WideE e
  links : ∀ k ∈ s.links, k.1.length ≤ maxLen ∧ k.2.length ≤ maxLen
  op : s.op = false
end Src
theorem list2 {α : Type} {l : List α} (h : l.length = 2) : ∃ a b, l = [a, b] := by
  match l, h with
  | [a, b], _ => exact ⟨a, b, rfl⟩
theorem txt_of (s : ByteArray) : ∃ t : Src.Txt, s = Src.bts t ∧ t.length = s.size := ⟨tl s, rfl, tl_length s⟩
theorem open_eras {H : Type} {enc : TypeId × Value → H} {w : World} {base : Nat} {spare : Nat → Bool} {held : Bool} {fuel : Nat} {cs : List Value} {x : DataW H × List MemPlace}
    (h : DataW.trod enc Tryd.prog w base spare held fuel 52 cs = some x) : ∃ (v : Value) (es : List Er.E), cs = [v] ∧ Src.RowR w w.heap.size 13 es.length v (es.flatMap Er.E.cells) ∧ ∀ e ∈ es, Src.WideE e :=
  open_rows Tryd.underlying52 (by kernel_rfl) (by decide) (fun _ => rfl) (fun n cs x hl hx => open_era_cells hl hx) h
theorem open_zone_cells {H : Type} {enc : TypeId × Value → H} {w : World} {base : Nat} {spare : Nat → Bool} {held : Bool} {fuel : Nat} {cs : List Value} {x : DataW H × List MemPlace} (hl : cs.length = 2)
    (h : DataW.trod enc Tryd.prog w base spare held fuel 54 cs = some x) : ∃ z : (Src.Txt × List Er.E) × Value, cs = Src.zc z ∧ Src.RowR w w.heap.size 13 z.1.2.length z.2 (z.1.2.flatMap Er.E.cells) ∧ z.1.1.length ≤ maxLen ∧ ∀ e ∈ z.1.2, Src.WideE e := by
  have q0 : Tryd.prog.cellsOf 9 = 1 := by kernel_rfl
  have q1 : Tryd.prog.cellsOf 52 = 1 := by kernel_rfl
  obtain ⟨c0, c1, rfl⟩ := list2 hl
  obtain ⟨y0, y1, n, _, _, h0, h1⟩ := trod_struct2 Tryd.underlying54 h
  simp only [q0, q1, List.drop, List.take] at h0 h1
  obtain ⟨nm, e0, _, wn⟩ := DataW.trod_string Tryd.underlying9 h0
  obtain ⟨v, es, e1, hr, he⟩ := open_eras h1
  simp only [List.cons.injEq, and_true] at e0 e1
  subst e0 e1
  obtain ⟨t, rfl, ht⟩ := txt_of nm
  exact ⟨((t, es), c1), rfl, hr, by show t.length ≤ maxLen; rw [ht]; exact wn, he⟩
theorem open_link_cells {H : Type} {enc : TypeId × Value → H} {w : World} {base : Nat} {spare : Nat → Bool} {held : Bool} {fuel : Nat} {cs : List Value} {x : DataW H × List MemPlace} (hl : cs.length = 2)
    (h : DataW.trod enc Tryd.prog w base spare held fuel 48 cs = some x) : ∃ k : Src.Txt × Src.Txt, cs = Src.lc k ∧ k.1.length ≤ maxLen ∧ k.2.length ≤ maxLen := by
  have q0 : Tryd.prog.cellsOf 9 = 1 := by kernel_rfl
  obtain ⟨c0, c1, rfl⟩ := list2 hl
  obtain ⟨y0, y1, n, _, _, h0, h1⟩ := trod_struct2 Tryd.underlying48 h
  simp only [q0, List.drop, List.take] at h0 h1
  obtain ⟨a, e0, _, wa⟩ := DataW.trod_string Tryd.underlying9 h0
  obtain ⟨b, e1, _, wb⟩ := DataW.trod_string Tryd.underlying9 h1
  simp only [List.cons.injEq, and_true] at e0 e1
  subst e0 e1
  obtain ⟨ta, rfl, hta⟩ := txt_of a
  obtain ⟨tb, rfl, htb⟩ := txt_of b
  exact ⟨(ta, tb), rfl, by show ta.length ≤ maxLen; rw [hta]; exact wa, by show tb.length ≤ maxLen; rw [htb]; exact wb⟩
theorem zip_fst_snd {α β : Type} : ∀ l : List (α × β), (l.map (·.1)).zip (l.map (·.2)) = l
  | [] => rfl
  | x :: l => by simp [zip_fst_snd l]
set_option maxRecDepth 100000 in
theorem open_source {H : Type} {enc : TypeId × Value → H} {w : World} {base : Nat} {spare : Nat → Bool} {held : Bool} {r : Reach} {b0 : Nat} {v : Value} {d : DataW H} {p : List MemPlace}
    (hv : Value.okWide Tryd.prog w r b0 27 v) (h : DataW.Trod enc Tryd.prog w base spare held 27 v d p) : ∃ s rv zv lv evs, v = .agg #[rv, zv, lv] ∧ Src.SrcR w w.heap.size s rv zv lv evs ∧ Src.Wide s := by
  have q3 : Tryd.prog.cellsOf 27 = 3 := by kernel_rfl
  have q0 : Tryd.prog.cellsOf 23 = 1 := by kernel_rfl
  have q1 : Tryd.prog.cellsOf 24 = 1 := by kernel_rfl
  have q2 : Tryd.prog.cellsOf 25 = 1 := by kernel_rfl
  obtain ⟨cs, rfl, hsz⟩ := okWide_struct Tryd.underlying27 hv
  obtain ⟨fuel, hf⟩ := h
  obtain ⟨l⟩ := cs
  have hl3 : l.length = 3 := hsz.trans q3
  match l, hl3 with
  | [c0, c1, c2], _ =>
    obtain ⟨y0, y1, y2, n, _, _, h0, h1, h2⟩ := trod_struct3 Tryd.underlying27 hf
    simp only [q0, q1, q2, Value.cells, List.drop, List.take] at h0 h1 h2
    obtain ⟨rv, rs, e0, hr0, hr1⟩ := open_rows (cells := Ru.R.cells) (Good := Src.WideR) Tryd.underlying23 (by kernel_rfl) (show 0 < 11 by decide) (fun _ => rfl) (fun n cs x hl hx => open_rule_cells hl hx) h0
    obtain ⟨zv, zs, e1, hz0, hz1⟩ := open_rows (cells := Src.zc) (Good := fun z => Src.RowR w w.heap.size 13 z.1.2.length z.2 (z.1.2.flatMap Er.E.cells) ∧ z.1.1.length ≤ maxLen ∧ ∀ e ∈ z.1.2, Src.WideE e) Tryd.underlying24 (by kernel_rfl) (show 0 < 2 by decide) (fun _ => rfl) (fun n cs x hl hx => open_zone_cells hl hx) h1
    obtain ⟨lv, ks, e2, hk0, hk1⟩ := open_rows (cells := Src.lc) (Good := fun k => k.1.length ≤ maxLen ∧ k.2.length ≤ maxLen) Tryd.underlying25 (by kernel_rfl) (show 0 < 2 by decide) (fun _ => rfl) (fun n cs x hl hx => open_link_cells hl hx) h2
    simp only [List.cons.injEq, and_true] at e0 e1 e2
    subst e0 e1 e2
    refine ⟨⟨rs, zs.map (·.1), ks, false⟩, c0, c1, c2, zs.map (·.2), rfl, ⟨hr0, ?_, hk0, by simp, fun q hq => ?_⟩, ⟨hr1, fun z hz => ?_, hk1, rfl⟩⟩
    · rw [zip_fst_snd]
      simpa using hz0
    · rw [zip_fst_snd] at hq
      exact (hz1 q hq).1
    · rw [List.mem_map] at hz
      obtain ⟨q, hq, rfl⟩ := hz
      exact ⟨(hz1 q hq).2.1, (hz1 q hq).2.2⟩
end Go.Proofs.YtajcgoinhpengaaDoor

/- source.Rules. -/
namespace Go.Proofs.YtajcgoinhpengaaDoor
open Go.RowKit

theorem reads_cells_at (w : World) (g : Nat) (cs : Array Value) (m : Nat) (t : TypeId) (hg : g = w.heap.size) (hm : cs.size = m) : Reads (w.alloc (.cells cs t)) (w.alloc (.cells cs t)).heap.size m (some ⟨g, 0, none⟩) 1 cs.toList := by
  subst hg
  refine ⟨by simpa using hm, fun _ => ⟨_, rfl, by simp, fun j u hu => cells_new w cs t j u hu⟩⟩
namespace Src
def ofName (name : ByteArray) (l : List Ru.R) : List Ru.R := l.filter fun r => decide (r.nm = name)
theorem ofName_yes {name : ByteArray} {l : List Ru.R} {k : Nat} {r : Ru.R} (h : l[k]? = some r) (hn : r.nm = name) : ofName name (l.take (k + 1)) = ofName name (l.take k) ++ [r] := by
  unfold ofName
  rw [List.take_add_one, h]
  simp [hn]
theorem ofName_no {name : ByteArray} {l : List Ru.R} {k : Nat} {r : Ru.R} (h : l[k]? = some r) (hn : ¬ r.nm = name) : ofName name (l.take (k + 1)) = ofName name (l.take k) := by
  unfold ofName
  rw [List.take_add_one, h]
  simp [hn]
theorem ofName_le (name : ByteArray) (l : List Ru.R) (k : Nat) : (ofName name (l.take k)).length ≤ k := by
  unfold ofName
  exact Nat.le_trans (List.length_filter_le _ _) (by simp; omega)
def RRel (W0 : World) (name : ByteArray) (l : List Ru.R) (n : Nat) (v i : Value) (wr : World) : Prop :=
  ∃ k : Nat, k ≤ n ∧ i = .int .i64 k ∧ Hid (wr.ownsRow W0.heap.size 67 11 v (ofName name (l.take k)).length ((ofName name (l.take k)).flatMap Ru.R.cells)) ∧ Hid (Below W0.heap.size W0 wr)
end Src
end Go.Proofs.YtajcgoinhpengaaDoor

/- The contract of the reference's Texts: whether two lists of texts are one. -/
namespace Go.Proofs.YtajcgoinhpengaaDoor
open Go.RowKit

theorem list_next {α : Type} {l m : List α} {k : Nat} {a : α} (h : l.take k = m.take k) (h1 : l[k]? = some a) (h2 : m[k]? = some a) : l.take (k + 1) = m.take (k + 1) := by
  rw [List.take_add_one, List.take_add_one, h, h1, h2]
set_option maxHeartbeats 1000000 in
theorem refTexts_any (A A' : Option Addr) (n n' c c' : Nat) (ss ts : List ByteArray) (w : World) (hn : n ≤ maxLen) (hn' : n' ≤ maxLen) (hr : Reads w w.heap.size 1 A n (ss.map Value.string)) (hr' : Reads w w.heap.size 1 A' n' (ts.map Value.string)) :
    Calls Tryd.prog 18 #[.slice A n c, .slice A' n' c'] w fun e w' => e = .returned (.bool (decide (ss = ts))) ∧ Drew w w' := by
  unfold maxLen at hn hn'
  have h1 : ss.length = n := by have := hr.1; simpa using this
  have h2 : ts.length = n' := by have := hr'.1; simpa using this
  by_cases he : n = n'
  · subst he
    have q0 : ((n : Int) != (n : Int)) = false := by simp
    have H1 := Lib.hid h1
    have H2 := Lib.hid h2
    have HR := Lib.hid hr
    have HR' := Lib.hid hr'
    clear h1 h2 hr hr'
    go_enter Tryd.func18, Tryd.ntmps18
    go_wp2
    go_loopw [13] (fun i wr => ∃ k : Nat, k ≤ n ∧ i = .int .i64 k ∧ Hid (Drew w wr) ∧ Hid (ss.take k = ts.take k)) (fun i _ => n - (intOf i).toNat)
    case atStart => exact ⟨0, Nat.zero_le _, rfl, Drew.refl w, rfl⟩
    case round =>
      obtain ⟨k, hk, rfl, HD, HE⟩ := hrel
      by_cases hlt : k < n
      · obtain ⟨ad, x, rfl, hx, hcell⟩ : ∃ ad nm, A = some ad ∧ Hid (ss[k]? = some nm) ∧ wr.cell? (ad.add k) = some (.string nm) := reads_str (HR.out.of_drew HD.out) hlt
        obtain ⟨ad', y, rfl, hy, hcell'⟩ : ∃ ad nm, A' = some ad ∧ Hid (ts[k]? = some nm) ∧ wr.cell? (ad.add k) = some (.string nm) := reads_str (HR'.out.of_drew HD.out) hlt
        have q1 : (0 : Int) ≤ (k : Int) := by omega
        have q2 : (k : Int) < (n : Int) := by omega
        by_cases hxy : x = y
        · subst hxy
          have HN := Lib.hid (list_next HE.out hx.out hy.out)
          go_wp2
          go_quiet (fail)
          go_wp2
          go_roundw
          case rel => exact ⟨k + 1, by omega, by go_num, by first | exact HD.out | exact HD.out.drewN _, HN⟩
          case measure => simp [intOf]; omega
        · have qe : (x.toList == y.toList) = false := by
            rw [beq_eq_false_iff_ne]
            intro e
            apply hxy
            rw [ByteArray.toList_eq, ByteArray.toList_eq] at e
            apply ByteArray.ext
            exact Array.ext' e
          have qe' : ¬ x.toList = y.toList := by simpa using qe
          have HN : Hid (decide (ss = ts) = false) := by
            show decide (ss = ts) = false
            apply decide_eq_false
            intro e
            apply hxy
            have a := hx.out
            rw [e, hy.out] at a
            exact (Option.some.inj a).symm
          clear hxy
          go_wp2
          go_quiet (fail)
          go_wp2
          go_ret
          exact ⟨ret_bool (by rw [HN.out]), by first | exact HD.out | exact HD.out.drewN _⟩
      · obtain rfl : k = n := by omega
        have HN : Hid (decide (ss = ts) = true) := by
          show decide (ss = ts) = true
          apply decide_eq_true
          have e := HE.out
          rw [List.take_of_length_le (by have := H1.out; omega), List.take_of_length_le (by have := H2.out; omega)] at e
          exact e
        go_wp2
        go_ret
        exact ⟨ret_bool (by rw [HN.out]), HD.out⟩
  · have q0 : ((n : Int) != (n' : Int)) = true := by simp; omega
    have HN : Hid (decide (ss = ts) = false) := by
      show decide (ss = ts) = false
      apply decide_eq_false
      intro e
      apply he
      rw [← h1, ← h2, e]
    clear h1 h2 hr hr' he
    go_enter Tryd.func18, Tryd.ntmps18
    go_wp2
    go_ret
    exact ⟨ret_bool (by rw [HN.out]), Drew.refl w⟩
end Go.Proofs.YtajcgoinhpengaaDoor

/- The statements' own 'lives' of package moment. -/
namespace Go.Proofs.YtajcgoinhpengaaDoor
open Go.RowKit

instance : DecidableEq Mo.U := fun a b => decidable_of_iff (a.y = b.y ∧ a.m = b.m ∧ a.k = b.k ∧ a.n = b.n ∧ a.d = b.d ∧ a.s = b.s ∧ a.c = b.c) (by cases a; cases b; simp)
theorem itoa_1999 : Lib.itoa 1999 = [49, 57, 57, 57] := by
  unfold Lib.itoa
  rw [if_neg (by decide)]
  rw [Lib.decDigits, dif_neg (by decide), Lib.decDigits, dif_neg (by decide), Lib.decDigits, dif_neg (by decide), Lib.decDigits, dif_pos (by decide)]
  rfl
def Mo.uOct : Mo.U := ⟨1999, 10, 0, 1, 0, 0, 0⟩
theorem oct_ok : Mo.uOct.Ok := ⟨⟨by decide +kernel, by decide +kernel, by decide +kernel, by decide +kernel⟩, by decide +kernel, by decide +kernel⟩
theorem texts_oct : Mo.uOct.texts = [⟨#[49, 57, 57, 57]⟩, ⟨#[79, 99, 116]⟩] := by
  have e1 : (⟨(Mo.text 0 0).toArray⟩ : ByteArray) = Mo.u3 := by unfold Mo.text; rw [text_eq]; decide +kernel
  have e2 : (⟨(Dy.text 0 1 0).toArray⟩ : ByteArray) = Mo.u2 := by decide +kernel
  have e3 : ¬ textOf Months (10 - 1) = Mo.u1 := by decide +kernel
  have hc : Mo.uOct.count = 2 := by
    unfold Mo.U.count Mo.uOct
    rw [if_pos e1, if_pos e2, if_neg e3]
  unfold Mo.U.texts
  rw [hc]
  unfold Mo.U.full Mo.uOct
  simp only [itoa_1999]
  decide +kernel
theorem reads_at (w : World) (g : Nat) (l : List ByteArray) (t : TypeId) (hg : g = w.heap.size) : Reads (w.alloc (.cells (strCells l) t)) (w.alloc (.cells (strCells l) t)).heap.size 1 (some ⟨g, 0, none⟩) l.length (l.map Value.string) := by
  subst hg
  exact reads_new w l t
theorem texts_yes (A A' : Option Addr) (n n' c c' : Nat) (ss ts : List ByteArray) (w : World) (hn : n ≤ maxLen) (hn' : n' ≤ maxLen) (hr : Reads w w.heap.size 1 A n (ss.map Value.string)) (hr' : Reads w w.heap.size 1 A' n' (ts.map Value.string)) (h : ss = ts) :
    Calls Tryd.prog 18 #[.slice A n c, .slice A' n' c'] w fun e w' => e = .returned (.bool true) ∧ Below w.heap.size w w' :=
  (calls_bool (refTexts_any A A' n n' c c' ss ts w hn hn' hr hr') (by rw [h]; simp)).mono fun _ _ ⟨a, d⟩ => ⟨a, d.below _⟩

end Go.Proofs.YtajcgoinhpengaaDoor
