/- The walk of the law SourceRight: every way is a case of the two texts' reading. -/
import Derived.Test.YtmobejhfajnbhaaDoorK47
import Derived.Test.YtmobejhfajnbhaaDoorK45
import Derived.Test.YtmobejhfajnbhaaDoorK15
import Derived.ProofKit
import Derived.OpenShut
import Derived.Lib.SmallJoins
import Derived.SliceStrings
import Derived.Deep.RegionHeld
import Derived.Deep.Strs
import Derived.Test.YtmobejhfajnbhaaDoorK22
import Derived.Lib.LaidTab
import Derived.Test.YtmobejhfajnbhaaDoorCards
import Derived.Test.YtmobejhfajnbhaaDoorTie
import Derived.ShutString
import Derived.ChangeOld
import Derived.LaidMore
import Derived.Stop.LaidErr
import Derived.Deep.DeepHandedRow
import Derived.SizedLaws
namespace Go.Proofs.YtmobejhfajnbhaaDoor
open Go.RowKit

theorem sourceRight_any (a b : ByteArray) (w : World) (hW : Wq w) (ha : a.size ≤ 140737488355328) (hb : b.size ≤ 140737488355328) :
    Calls Tryd.prog 5 #[.string a, .string b] w fun e w' => e = .returned (.bool true) ∧ Below w.heap.size w w' := by
  rcases Nat.lt_or_ge 8192 (a.size + b.size) with hl | hl
  · exact sourceRight_long a b w hW ha hb hl
  · cases hp : Src.parse Src.own (tl a) with
    | bad l c y => exact sourceRight_bad a b w hW hl l c y hp
    | ok x =>
      cases hq : Src.parse Src.own (tl b) with
      | bad l c y => exact sourceRight_half a b w hW hl x l c y hp hq
      | ok x2 => exact sourceRight_both a b w hW hl x x2 hp hq
end Go.Proofs.YtmobejhfajnbhaaDoor
/- An Until among a row's arguments, opened: its seven cells. -/
namespace Go.Proofs.YtmobejhfajnbhaaDoor
open Go.Deep
open Go.ChangeShapes Go.WideShapes Go.ChangeAt Go.RowKit Go.Joins
theorem byte_nonneg {c : Int} (h : (Lit.int .u8 c).wf = true) : 0 ≤ c := by
  have : 0 ≤ c ∧ c ≤ 255 := by simpa [Lit.wf, IntKind.min, IntKind.max, IntKind.signed, IntKind.bits] using h
  exact this.1
theorem array7 {α : Type} {cs : Array α} (h : cs.size = 7) : ∃ c0 c1 c2 c3 c4 c5 c6, cs = #[c0, c1, c2, c3, c4, c5, c6] := by
  obtain ⟨l⟩ := cs
  match l, h with
  | [c0, c1, c2, c3, c4, c5, c6], _ => exact ⟨c0, c1, c2, c3, c4, c5, c6, rfl⟩
set_option maxRecDepth 100000 in
theorem open_until {H : Type} {enc : TypeId × Value → H} {w : World} {base : Nat} {spare : Nat → Bool} {held : Bool} {r : Reach} {b0 : Nat} {v : Value} {d : DataW H} {p : List MemPlace}
    (hv : Value.okWide Tryd.prog w r b0 48 v) (h : DataW.Trod enc Tryd.prog w base spare held 48 v d p) : ∃ u : Mo.U, v = u.v ∧ 0 ≤ u.c := by
  have q7 : Tryd.prog.cellsOf 48 = 7 := by kernel_rfl
  have q0 : Tryd.prog.cellsOf 3 = 1 := by kernel_rfl
  have q1 : Tryd.prog.cellsOf 29 = 3 := by kernel_rfl
  have q2 : Tryd.prog.cellsOf 32 = 2 := by kernel_rfl
  have q3 : Tryd.prog.cellsOf 27 = 1 := by kernel_rfl
  have q4 : Tryd.prog.cellsOf 2 = 1 := by kernel_rfl
  have q5 : Tryd.prog.cellsOf 30 = 1 := by kernel_rfl
  obtain ⟨cs, rfl, hsz⟩ := okWide_struct Tryd.underlying48 hv
  obtain ⟨c0, c1, c2, c3, c4, c5, c6, rfl⟩ := array7 (hsz.trans q7)
  obtain ⟨fuel, hf⟩ := h
  obtain ⟨y0, y1, y2, y3, n, hx, _, h0, h1, h2, h3⟩ := trod_struct4 Tryd.underlying48 hf
  simp only [q0, q1, q2, Value.cells, List.drop, List.take] at h0 h1 h2 h3
  obtain ⟨a0, a1, a2, n2, _, _, g0, g1, g2⟩ := trod_struct3 Tryd.underlying29 h2
  obtain ⟨b0', b1', n3, _, _, f0, f1⟩ := trod_struct2 Tryd.underlying32 h3
  simp only [q0, q3, q4, q5, List.drop, List.take] at g0 g1 g2 f0 f1
  obtain ⟨y, e0, _, _⟩ := DataW.trod_int Tryd.underlying3 h0
  obtain ⟨m, e1, _, _⟩ := DataW.trod_int Tryd.underlying3 h1
  obtain ⟨k, e2, _, _⟩ := DataW.trod_int Tryd.underlying27 g0
  obtain ⟨nn, e3, _, _⟩ := DataW.trod_int Tryd.underlying3 g1
  obtain ⟨dd, e4, _, _⟩ := DataW.trod_int Tryd.underlying3 g2
  obtain ⟨s, e5, _, _⟩ := DataW.trod_int Tryd.underlying2 f0
  obtain ⟨c, e6, _, wc⟩ := DataW.trod_int Tryd.underlying30 f1
  simp only [List.cons.injEq, and_true] at e0 e1 e2 e3 e4 e5 e6
  subst e0 e1 e2 e3 e4 e5 e6
  exact ⟨⟨y, m, k, nn, dd, s, c⟩, rfl, byte_nonneg wc⟩
set_option maxRecDepth 100000 in
theorem open_strs {H : Type} {enc : TypeId × Value → H} {w : World} {base : Nat} {spare : Nat → Bool} {held : Bool} {r : Reach} {b0 : Nat} {v : Value} {d : DataW H} {p : List MemPlace}
    (hv : Value.okWide Tryd.prog w r b0 41 v) (h : DataW.Trod enc Tryd.prog w base spare held 41 v d p) :
    ∃ (A : Option Addr) (ln lc : Nat) (ss : List ByteArray), v = .slice A ln lc ∧ ln ≤ lc ∧ lc ≤ maxLen ∧ Reads w w.heap.size 1 A ln (ss.map Value.string) ∧ ∀ t ∈ ss, t.size ≤ maxLen := by
  have q0 : Tryd.prog.cellsOf 9 = 1 := by kernel_rfl
  obtain ⟨a0, ln, lc, rfl⟩ := okWide_slice Tryd.underlying41 hv
  obtain ⟨fuel, hf⟩ := h
  rcases open_strings Tryd.underlying41 Tryd.underlying9 q0 hf with ⟨hcs, _⟩ | ⟨a, ln', lc', ss, hcs, _, hl, hm, hz, _, hcell, hsz⟩
  · simp only [Value.cells, List.cons.injEq, Value.slice.injEq, and_true] at hcs
    obtain ⟨rfl, rfl, rfl⟩ := hcs
    exact ⟨none, 0, 0, [], rfl, Nat.le_refl _, Nat.zero_le _, Reads.none_, fun t ht => by cases ht⟩
  · simp only [Value.cells, List.cons.injEq, Value.slice.injEq, and_true] at hcs
    obtain ⟨rfl, rfl, rfl⟩ := hcs
    have hle : ln ≤ ss.length := by rw [hz]; split <;> omega
    refine ⟨some a, ln, lc, ss.take ln, rfl, hl, hm, ⟨by simp; omega, fun hn => ⟨a, rfl, World.block_lt_of_cell? w (a.add 0) (hcell 0 (by omega)), fun j u hj => ?_⟩⟩, fun t ht => hsz t (List.mem_of_mem_take ht)⟩
    have hj' : j < ln := by
      have := (List.getElem?_eq_some_iff.1 hj).1
      simp at this
      omega
    rw [List.getElem?_map, List.getElem?_take_of_lt hj', List.getElem?_eq_getElem (by omega)] at hj
    obtain rfl : Value.string ss[j] = u := by simpa using hj
    rw [hcell j (by omega)]
    simp [List.getD, List.getElem?_eq_getElem (show j < ss.length by omega)]
end Go.Proofs.YtmobejhfajnbhaaDoor
/- A Rule, and an Era, among a row's arguments, opened; a listed table of strings. -/
namespace Go.Proofs.YtmobejhfajnbhaaDoor
open Go.Deep
open Go.ChangeShapes Go.WideShapes Go.ChangeAt Go.RowKit Go.Joins
section
variable {H : Type} {enc : TypeId × Value → H} {P : Program} {w : World} {base : Nat} {spare : Nat → Bool} {held : Bool}
theorem trod_struct8 {t : TypeId} {f0 f1 f2 f3 f4 f5 f6 f7 : Field} {fuel : Nat} {cs : List Value} {x : DataW H × List MemPlace} (ht : P.underlying t = some (.struct #[f0, f1, f2, f3, f4, f5, f6, f7])) (h : DataW.trod enc P w base spare held fuel t cs = some x) :
    ∃ y0 y1 y2 y3 y4 y5 y6 y7 n, DataW.trod enc P w base spare held n f0.type ((cs.drop f0.offset).take (P.cellsOf f0.type)) = some y0 ∧
      DataW.trod enc P w base spare held n f1.type ((cs.drop f1.offset).take (P.cellsOf f1.type)) = some y1 ∧ DataW.trod enc P w base spare held n f2.type ((cs.drop f2.offset).take (P.cellsOf f2.type)) = some y2 ∧
      DataW.trod enc P w base spare held n f3.type ((cs.drop f3.offset).take (P.cellsOf f3.type)) = some y3 ∧ DataW.trod enc P w base spare held n f4.type ((cs.drop f4.offset).take (P.cellsOf f4.type)) = some y4 ∧
      DataW.trod enc P w base spare held n f5.type ((cs.drop f5.offset).take (P.cellsOf f5.type)) = some y5 ∧ DataW.trod enc P w base spare held n f6.type ((cs.drop f6.offset).take (P.cellsOf f6.type)) = some y6 ∧
      DataW.trod enc P w base spare held n f7.type ((cs.drop f7.offset).take (P.cellsOf f7.type)) = some y7 := by
  obtain ⟨xs, n, _, rfl, hl, hlen, hf⟩ := DataW.trod_struct ht h
  match xs, hlen with
  | [y0, y1, y2, y3, y4, y5, y6, y7], _ => exact ⟨y0, y1, y2, y3, y4, y5, y6, y7, n, by simpa using hf 0 f0 rfl, by simpa using hf 1 f1 rfl, by simpa using hf 2 f2 rfl, by simpa using hf 3 f3 rfl, by simpa using hf 4 f4 rfl, by simpa using hf 5 f5 rfl, by simpa using hf 6 f6 rfl, by simpa using hf 7 f7 rfl⟩
theorem trod_struct7 {t : TypeId} {f0 f1 f2 f3 f4 f5 f6 : Field} {fuel : Nat} {cs : List Value} {x : DataW H × List MemPlace} (ht : P.underlying t = some (.struct #[f0, f1, f2, f3, f4, f5, f6])) (h : DataW.trod enc P w base spare held fuel t cs = some x) :
    ∃ y0 y1 y2 y3 y4 y5 y6 n, DataW.trod enc P w base spare held n f0.type ((cs.drop f0.offset).take (P.cellsOf f0.type)) = some y0 ∧
      DataW.trod enc P w base spare held n f1.type ((cs.drop f1.offset).take (P.cellsOf f1.type)) = some y1 ∧ DataW.trod enc P w base spare held n f2.type ((cs.drop f2.offset).take (P.cellsOf f2.type)) = some y2 ∧
      DataW.trod enc P w base spare held n f3.type ((cs.drop f3.offset).take (P.cellsOf f3.type)) = some y3 ∧ DataW.trod enc P w base spare held n f4.type ((cs.drop f4.offset).take (P.cellsOf f4.type)) = some y4 ∧
      DataW.trod enc P w base spare held n f5.type ((cs.drop f5.offset).take (P.cellsOf f5.type)) = some y5 ∧ DataW.trod enc P w base spare held n f6.type ((cs.drop f6.offset).take (P.cellsOf f6.type)) = some y6 := by
  obtain ⟨xs, n, _, rfl, hl, hlen, hf⟩ := DataW.trod_struct ht h
  match xs, hlen with
  | [y0, y1, y2, y3, y4, y5, y6], _ => exact ⟨y0, y1, y2, y3, y4, y5, y6, n, by simpa using hf 0 f0 rfl, by simpa using hf 1 f1 rfl, by simpa using hf 2 f2 rfl, by simpa using hf 3 f3 rfl, by simpa using hf 4 f4 rfl, by simpa using hf 5 f5 rfl, by simpa using hf 6 f6 rfl⟩
end
theorem array11 {α : Type} {cs : Array α} (h : cs.size = 11) : ∃ c0 c1 c2 c3 c4 c5 c6 c7 c8 c9 c10, cs = #[c0, c1, c2, c3, c4, c5, c6, c7, c8, c9, c10] := by
  obtain ⟨l⟩ := cs
  match l, h with
  | [c0, c1, c2, c3, c4, c5, c6, c7, c8, c9, c10], _ => exact ⟨c0, c1, c2, c3, c4, c5, c6, c7, c8, c9, c10, rfl⟩
theorem array13 {α : Type} {cs : Array α} (h : cs.size = 13) : ∃ c0 c1 c2 c3 c4 c5 c6 c7 c8 c9 c10 c11 c12, cs = #[c0, c1, c2, c3, c4, c5, c6, c7, c8, c9, c10, c11, c12] := by
  obtain ⟨l⟩ := cs
  match l, h with
  | [c0, c1, c2, c3, c4, c5, c6, c7, c8, c9, c10, c11, c12], _ => exact ⟨c0, c1, c2, c3, c4, c5, c6, c7, c8, c9, c10, c11, c12, rfl⟩
set_option maxRecDepth 100000 in
theorem open_rule {H : Type} {enc : TypeId × Value → H} {w : World} {base : Nat} {spare : Nat → Bool} {held : Bool} {r : Reach} {b0 : Nat} {v : Value} {d : DataW H} {p : List MemPlace}
    (hv : Value.okWide Tryd.prog w r b0 34 v) (h : DataW.Trod enc Tryd.prog w base spare held 34 v d p) : ∃ r : Ru.R, v = r.v ∧ 0 ≤ r.c ∧ r.nm.size ≤ maxLen ∧ r.lt.size ≤ maxLen := by
  have q11 : Tryd.prog.cellsOf 34 = 11 := by kernel_rfl
  have q0 : Tryd.prog.cellsOf 3 = 1 := by kernel_rfl
  have q1 : Tryd.prog.cellsOf 29 = 3 := by kernel_rfl
  have q2 : Tryd.prog.cellsOf 32 = 2 := by kernel_rfl
  have q3 : Tryd.prog.cellsOf 27 = 1 := by kernel_rfl
  have q4 : Tryd.prog.cellsOf 2 = 1 := by kernel_rfl
  have q5 : Tryd.prog.cellsOf 30 = 1 := by kernel_rfl
  have q6 : Tryd.prog.cellsOf 9 = 1 := by kernel_rfl
  obtain ⟨cs, rfl, hsz⟩ := okWide_struct Tryd.underlying34 hv
  obtain ⟨c0, c1, c2, c3, c4, c5, c6, c7, c8, c9, c10, rfl⟩ := array11 (hsz.trans q11)
  obtain ⟨fuel, hf⟩ := h
  obtain ⟨y0, y1, y2, y3, y4, y5, y6, y7, n, h0, h1, h2, h3, h4, h5, h6, h7⟩ := trod_struct8 Tryd.underlying34 hf
  simp only [q0, q1, q2, q4, q6, Value.cells, List.drop, List.take] at h0 h1 h2 h3 h4 h5 h6 h7
  obtain ⟨a0, a1, a2, n2, _, _, g0, g1, g2⟩ := trod_struct3 Tryd.underlying29 h4
  obtain ⟨b0', b1', n3, _, _, f0, f1⟩ := trod_struct2 Tryd.underlying32 h5
  simp only [q0, q3, q4, q5, List.drop, List.take] at g0 g1 g2 f0 f1
  obtain ⟨nm, e0, _, wn⟩ := DataW.trod_string Tryd.underlying9 h0
  obtain ⟨fr, e1, _, _⟩ := DataW.trod_int Tryd.underlying3 h1
  obtain ⟨tt, e2, _, _⟩ := DataW.trod_int Tryd.underlying3 h2
  obtain ⟨mo, e3, _, _⟩ := DataW.trod_int Tryd.underlying3 h3
  obtain ⟨k, e4, _, _⟩ := DataW.trod_int Tryd.underlying27 g0
  obtain ⟨nn, e5, _, _⟩ := DataW.trod_int Tryd.underlying3 g1
  obtain ⟨dd, e6, _, _⟩ := DataW.trod_int Tryd.underlying3 g2
  obtain ⟨s, e7, _, _⟩ := DataW.trod_int Tryd.underlying2 f0
  obtain ⟨c, e8, _, wc⟩ := DataW.trod_int Tryd.underlying30 f1
  obtain ⟨sv, e9, _, _⟩ := DataW.trod_int Tryd.underlying2 h6
  obtain ⟨lt, e10, _, wl⟩ := DataW.trod_string Tryd.underlying9 h7
  simp only [List.cons.injEq, and_true] at e0 e1 e2 e3 e4 e5 e6 e7 e8 e9 e10
  subst e0 e1 e2 e3 e4 e5 e6 e7 e8 e9 e10
  exact ⟨⟨nm, fr, tt, mo, k, nn, dd, s, c, sv, lt⟩, rfl, byte_nonneg wc, wn, wl⟩
set_option maxRecDepth 100000 in
theorem open_era {H : Type} {enc : TypeId × Value → H} {w : World} {base : Nat} {spare : Nat → Bool} {held : Bool} {r : Reach} {b0 : Nat} {v : Value} {d : DataW H} {p : List MemPlace}
    (hv : Value.okWide Tryd.prog w r b0 50 v) (h : DataW.Trod enc Tryd.prog w base spare held 50 v d p) : ∃ e : Er.E, v = e.v ∧ 0 ≤ e.u.c ∧ e.ru.size ≤ maxLen ∧ e.fm.size ≤ maxLen := by
  have q13 : Tryd.prog.cellsOf 50 = 13 := by kernel_rfl
  have q7 : Tryd.prog.cellsOf 48 = 7 := by kernel_rfl
  have q0 : Tryd.prog.cellsOf 3 = 1 := by kernel_rfl
  have q1 : Tryd.prog.cellsOf 29 = 3 := by kernel_rfl
  have q2 : Tryd.prog.cellsOf 32 = 2 := by kernel_rfl
  have q3 : Tryd.prog.cellsOf 27 = 1 := by kernel_rfl
  have q4 : Tryd.prog.cellsOf 2 = 1 := by kernel_rfl
  have q5 : Tryd.prog.cellsOf 30 = 1 := by kernel_rfl
  have q6 : Tryd.prog.cellsOf 9 = 1 := by kernel_rfl
  have q8 : Tryd.prog.cellsOf 4 = 1 := by kernel_rfl
  have q9 : Tryd.prog.cellsOf 46 = 1 := by kernel_rfl
  obtain ⟨cs, rfl, hsz⟩ := okWide_struct Tryd.underlying50 hv
  obtain ⟨c0, c1, c2, c3, c4, c5, c6, c7, c8, c9, c10, c11, c12, rfl⟩ := array13 (hsz.trans q13)
  obtain ⟨fuel, hf⟩ := h
  obtain ⟨y0, y1, y2, y3, y4, y5, y6, n, h0, h1, h2, h3, h4, h5, h6⟩ := trod_struct7 Tryd.underlying50 hf
  simp only [q4, q6, q7, q8, q9, Value.cells, List.drop, List.take] at h0 h1 h2 h3 h4 h5 h6
  obtain ⟨z0, z1, z2, z3, n1, _, _, i0, i1, i2, i3⟩ := trod_struct4 Tryd.underlying48 h6
  simp only [q0, q1, q2, List.drop, List.take] at i0 i1 i2 i3
  obtain ⟨a0, a1, a2, n2, _, _, g0, g1, g2⟩ := trod_struct3 Tryd.underlying29 i2
  obtain ⟨b0', b1', n3, _, _, f0, f1⟩ := trod_struct2 Tryd.underlying32 i3
  simp only [q0, q3, q4, q5, List.drop, List.take] at g0 g1 g2 f0 f1
  obtain ⟨std, e0, _, _⟩ := DataW.trod_int Tryd.underlying2 h0
  obtain ⟨k, e1, _, _⟩ := DataW.trod_int Tryd.underlying46 h1
  obtain ⟨sv, e2, _, _⟩ := DataW.trod_int Tryd.underlying2 h2
  obtain ⟨ru, e3, _, wr⟩ := DataW.trod_string Tryd.underlying9 h3
  obtain ⟨fm, e4, _, wf⟩ := DataW.trod_string Tryd.underlying9 h4
  obtain ⟨en, e5, _⟩ := DataW.trod_bool Tryd.underlying4 h5
  obtain ⟨y, e6, _, _⟩ := DataW.trod_int Tryd.underlying3 i0
  obtain ⟨m, e7, _, _⟩ := DataW.trod_int Tryd.underlying3 i1
  obtain ⟨dk, e8, _, _⟩ := DataW.trod_int Tryd.underlying27 g0
  obtain ⟨dn, e9, _, _⟩ := DataW.trod_int Tryd.underlying3 g1
  obtain ⟨dd, e10, _, _⟩ := DataW.trod_int Tryd.underlying3 g2
  obtain ⟨s, e11, _, _⟩ := DataW.trod_int Tryd.underlying2 f0
  obtain ⟨c, e12, _, wc⟩ := DataW.trod_int Tryd.underlying30 f1
  simp only [List.cons.injEq, and_true] at e0 e1 e2 e3 e4 e5 e6 e7 e8 e9 e10 e11 e12
  subst e0 e1 e2 e3 e4 e5 e6 e7 e8 e9 e10 e11 e12
  exact ⟨⟨std, k, sv, ru, fm, en, ⟨y, m, dk, dn, dd, s, c⟩⟩, rfl, byte_nonneg wc, wr, wf⟩
/-- A listed table of strings: what its cells hold. -/
theorem strs_of_head {P : Program} {W : World} {name : String} {ls : List (List UInt8)} {rest : List (String × DataW Unit)} {g : Nat} {t e : TypeId} {n : Nat}
    (hg : P.globalNamed name = some g) (hty : (P.globals[g]?).map (·.type) = some t) (ht : P.underlying t = some (.array n e)) (he : P.underlying e = some .string) (hce : P.cellsOf e = 1) (hct : P.cellsOf t = n)
    (h : laidMet P ((name, .agg (ls.map fun l => .lit (.string l))) :: rest) W) : ∀ i l, ls[i]? = some l → W.cell? ⟨g, i, none⟩ = some (.string ⟨l.toArray⟩) := by
  obtain ⟨ps, ⟨g', t', cs, fuel, p, q, hg', ht', hvar, hd, _, _⟩, _⟩ := h
  obtain rfl := Option.some.inj (hg.symm.trans hg')
  obtain rfl := Option.some.inj (hty.symm.trans ht')
  obtain ⟨xs, m, rfl, hx, hl, hxl, hel⟩ := DataW.trod_array ht hd
  intro i l hi
  have hmap : xs.map (·.1) = ls.map fun l => (DataW.lit (.string l)) := by
    have := congrArg Prod.fst hx
    simpa using this.symm
  have hn : i < n := by
    have h1 := congrArg List.length hmap
    have h2 := (List.getElem?_eq_some_iff.1 hi).1
    simp only [List.length_map] at h1
    omega
  have hE := hel i hn
  rw [hce, Nat.mul_one, List.getElem?_eq_getElem (by omega)] at hE
  obtain ⟨s, hc, hd', _⟩ := DataW.trod_string he hE
  have h2 : (xs.map (·.1))[i]? = some xs[i].1 := by simp [List.getElem?_eq_getElem (show i < xs.length by omega)]
  rw [hmap, List.getElem?_map, hi, Option.map_some, hd'] at h2
  simp only [Option.some.injEq, DataW.lit.injEq, Lit.string.injEq] at h2
  have h3 : cs[i]? = some (.string s) := by
    have := congrArg (·[0]?) hc
    simpa [List.getElem?_take, List.getElem?_drop] using this
  have := World.var?_cell hg hvar i
  rw [this]
  rw [h2]
  exact h3
end Go.Proofs.YtmobejhfajnbhaaDoor
/-
  SourceRight: whatever comes in, the law returns true and each argument reads as it did.
  Conditions: the listed package-level tables read as the program's text lays them (the card ties them to it).
-/
namespace Go.Proofs.YtmobejhfajnbhaaDoor.sourceRight
open Go.ChangeShapes Go.WideShapes Go.ChangeAt Go.RowKit Go.Joins
open Go.ChangeMaps (open_string shut_string)

theorem u8_nonneg {c : Int} (h : (Lit.int .u8 c).wf = true) : 0 ≤ c := by
  have : 0 ≤ c ∧ c ≤ 255 := by simpa [Lit.wf, IntKind.min, IntKind.max, IntKind.signed, IntKind.bits] using h
  exact this.1
theorem own : ownKnob Tryd.prog.godebug = none := by kernel_rfl
theorem laidOut : laidOutB Tryd.prog = true := by kernel_rfl
theorem g_places : Tryd.prog.globalNamed "solstice/abbr.places" = some 2 := by kernel_rfl
theorem t_places : (Tryd.prog.globals[2]?).map (·.type) = some 226 := by kernel_rfl
theorem g_parts : Tryd.prog.globalNamed "solstice/clock.parts" = some 1 := by kernel_rfl
theorem t_parts : (Tryd.prog.globals[1]?).map (·.type) = some 184 := by kernel_rfl

/-- What the program's variables hold where the call begins. -/
theorem wo_of {W : World} (h : laidMetH Tryd.prog Rows.sourceRightRow.laid W) (hS : W.ShapedOpen Tryd.prog) : Wq W := by
  have h0 : laidMet Tryd.prog Rows.sourceRightRow.laid W := h
  have h1 := h0.tail
  have h2 := h1.tail
  have x_parts : Lib.TabIs Tryd.prog W "solstice/clock.parts" .i64 [3600, 60, 1] := Lib.tabIs_of_head g_parts t_parts Tryd.underlying184 Tryd.underlying2 (by kernel_rfl) (by kernel_rfl) h2
  have x_places := strs_of_head (ls := [[37, 115], [37, 122]]) g_places t_places Tryd.underlying226 Tryd.underlying9 (by kernel_rfl) (by kernel_rfl) h1
  exact ⟨⟨x_parts.cell g_parts 0 (by decide), x_parts.cell g_parts 1 (by decide), x_parts.cell g_parts 2 (by decide), Tryd.laysM145.s1_3 W hS⟩, ⟨x_places 0 _ rfl, x_places 1 _ rfl, Tryd.laysM145.s1_3 W hS⟩⟩

noncomputable def laidWorld (os : Os) : World :=
  { World.doorLaid Tryd.prog 4000 os with heap := (World.doorLaid Tryd.prog 4000 os).heap.modify 10 fun
      | .cells _ t frozen => .cells ((Go.Pinned.utf8FirstZ.map fun (z : Nat) => Value.int .u8 (Int.ofNat z)).toArray) t frozen
      | o => o }
theorem laid_met (os : Os) : laidMet Tryd.prog Rows.sourceRightRow.laid ((laidWorld os).forCall (fun _ _ => 0) ⟨#[], #[.string ⟨#[]⟩, .string ⟨#[]⟩], []⟩).memory :=
  laidMet_of_run' 8 (by kernel_rfl) (by kernel_rfl)
theorem reads (os : Os) {H : Type} (enc : TypeId × Value → H) : ∃ places, DataW.whole enc Tryd.prog ((laidWorld os).forCall (fun _ _ => 0) ⟨#[], #[.string ⟨#[]⟩, .string ⟨#[]⟩], []⟩).memory Tryd.f5.params.toList Rows.sourceRightSpec.vars false #[Value.string ⟨#[]⟩, .string ⟨#[]⟩].toList 8 = some ([.lit (.string []), .lit (.string [])], [], places) :=
  ⟨[], by kernel_rfl⟩

set_option maxRecDepth 100000 in
set_option maxHeartbeats 4000000 in
theorem contract (H : Type) (enc : TypeId × Value → H) (W : World) (base : Nat) (args : Array Value) (ds gs : List (DataW H)) (before : List MemPlace)
    (hval : ∀ (j : Nat) t v, Tryd.f5.params[j]? = some t → args[j]? = some v → Value.okWide Tryd.prog W .any base t v)
    (hW : DataW.Whole enc Tryd.prog Tryd.f5.params.toList Rows.sourceRightSpec.vars false W args.toList ds gs before) (hL : laidMetH Tryd.prog Rows.sourceRightRow.laid W) (hS : W.ShapedOpen Tryd.prog) (hz : (DataW.weightsEach Tryd.prog (Tryd.f5.params.toList ++ (OpenSpec.ofChange Rows.sourceRightSpec).bare.plain.varTypes Tryd.prog) (ds ++ gs)).all (· ≤ reachBytes) = true) :
    Calls Tryd.prog 5 args W fun e W' => ∃ v, e = .returned v ∧ Rows.sourceRightSpec.post enc Tryd.prog Tryd.f5 false true false false W args v W' := by
  have hW' := hW
  obtain ⟨p, q, hA0, hV, rfl, hfz, hnd⟩ := hW
  have hA : DataW.TrodAll enc Tryd.prog W 0 (fun _ => true) true Tryd.f5.params.toList args.toList ds p := hA0
  rw [Tryd.params5] at hA hval
  obtain ⟨v0, vs0, d0, ds0, p0, q0, hargs, rfl, rfl, h0, r0⟩ := trodAll_cons hA
  obtain ⟨v1, vs1, d1, ds1, p1, q1, rfl, rfl, rfl, h1, r1⟩ := trodAll_cons r0
  obtain ⟨rfl, rfl, rfl⟩ := trodAll_nil r1
  obtain rfl : args = #[v0, v1] := by cases args; simp_all
  obtain ⟨rfl, rfl⟩ := trodVars_none hV
  obtain ⟨a, rfl, rfl, rfl, wa⟩ := open_string Tryd.underlying9 (hval 0 9 v0 rfl rfl) h0
  obtain ⟨b, rfl, rfl, rfl, wb⟩ := open_string Tryd.underlying9 (hval 1 9 v1 rfl rfl) h1
  have sz0 : a.size ≤ 140737488355328 := by
    have := Go.sized_string hz (j := 0) (t := 9) (bytes := a.data.toList) rfl rfl
    rw [Array.length_toList] at this
    exact Nat.le_trans this (by decide)
  have sz1 : b.size ≤ 140737488355328 := by
    have := Go.sized_string hz (j := 1) (t := 9) (bytes := b.data.toList) rfl rfl
    rw [Array.length_toList] at this
    exact Nat.le_trans this (by decide)
  clear hA0
  refine (sourceRight_any a b W (wo_of hL hS) sz0 sz1).mono fun e W' ⟨he, bel⟩ => ?_
  subst he
  exact ⟨_, rfl, _, _, _, [], _, [], hW', trodAll_mk1 (shut_bool Tryd.underlying4 _), (trodAll_cons_mk (shut_string Tryd.underlying9 wa) (trodAll_cons_mk (shut_string Tryd.underlying9 wb) trodAll_mk0)), rfl, bel.frame _, fun h => by cases h⟩

set_option maxRecDepth 100000 in
theorem lifted (os : Os) (started : os.Started) (H : Type) (enc : TypeId × Value → H) (F : Stop.Interp) :
    ReturnsInHanded {} Tryd.checked os 5 .any ((OpenSpec.ofChange Rows.sourceRightSpec).preRow enc Tryd.prog Tryd.f5 Rows.sourceRightRow.domain false Rows.sourceRightRow.laid) (((OpenSpec.ofChange Rows.sourceRightSpec).at F).post enc Tryd.prog Tryd.f5 false true false false) := by
  obtain ⟨places, hx⟩ := reads os enc
  refine returnsInHanded_of_row (C := Tryd.checked) (s := OpenSpec.ofChange Rows.sourceRightSpec) own started (by kernel_rfl) Tryd.func5
    (witness_row_at (enc := enc) (C := Tryd.checked) false (laidWorld os) #[.string ⟨#[]⟩, .string ⟨#[]⟩] rfl (by kernel_rfl) (by kernel_rfl) (by kernel_rfl)
      (OpenSpec.preRow_of_cond 8 hx (by kernel_rfl) (fun k hk => by cases hk) (by kernel_rfl) (laid_met os))) ?_
  intro W base args ds gs before hval hW _ _ hz hL hS _
  exact contract H enc W base args ds gs before hval hW hL hS hz

theorem said : Rows.SourceRightSaid :=
  OpenClaim.holds_of_cond 5 Tryd.f5 rfl rfl rfl rfl rfl rfl rfl ⟨rfl, rfl, rfl, rfl, rfl⟩ rfl rfl rfl rfl rfl (by kernel_rfl) Tryd.func5 (by kernel_rfl)
    (of_decide_eq_true (by kernel_rfl)) (by unfold Func.isWrapper; first | (rw [if_pos (by decide +kernel)]; kernel_rfl) | (rw [if_neg (by decide +kernel)]; exact ⟨rfl, rfl⟩))
    (fun os started H enc _ F => by rw [OpenClaim.pre_eq_preRow]; exact lifted os started H enc F)

/-- No parameter wants a stand-in; the program's own looks are off. -/
theorem plain (f : FuncId) (fn : Func) (hf : Tryd.pinned.checked.prog.funcNamed "solstice/solsticelaw11.SourceRight" = some f) (hfn : Tryd.pinned.checked.prog.funcs[f]? = some fn) :
    true = Tryd.pinned.checked.prog.looks [] ∧ ∀ (j : Nat) t, fn.params[j]? = some t → Tryd.pinned.checked.prog.wantsStandIn t = false := by
  obtain rfl : f = 5 := Option.some.inj ((show Tryd.prog.funcNamed "solstice/solsticelaw11.SourceRight" = some 5 by kernel_rfl).symm.trans hf) |>.symm
  obtain rfl : fn = Tryd.f5 := (Option.some.inj (Tryd.func5.symm.trans hfn)).symm
  refine ⟨by kernel_rfl, fun j t ht => ?_⟩
  rw [Tryd.params5] at ht
  have hm : t ∈ [9] := by
    have := Array.mem_of_getElem? ht
    simp at this ⊢
    omega
  simp only [List.mem_cons, List.not_mem_nil, or_false] at hm
  subst hm
  exact (show Tryd.prog.wantsStandIn 9 = false by kernel_rfl)

/-- The statement: the tied card. -/
theorem card : Rows.SourceRightCardSaid :=
  Claim7.holds_tied_plain_at .later [] _ _ _ _ said (fun _ h => by cases h) (by kernel_rfl) (fun _ h => by cases h) sourceRight_row_tie rfl ⟨rfl, rfl⟩ (by kernel_rfl) rfl plain (by kernel_rfl)
end Go.Proofs.YtmobejhfajnbhaaDoor.sourceRight
