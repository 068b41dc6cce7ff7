/- A Rule, and an Era, among a row's arguments, opened; a listed table of strings. -/
import Derived.Test.YtokimlfbfbfenaaDoorOpenUntil
import Derived.Test.YtokimlfbfbfenaaDoorErDef
import Derived.Lib.LaidTab
namespace Go.Proofs.YtokimlfbfbfenaaDoor
open Go.Deep
open Go.ChangeShapes Go.WideShapes Go.ChangeAt Go.RowKit Go.Joins
section
variable {H : Type} {enc : TypeId × Value → H} {P : Program} {w : World} {base : Nat} {spare : Nat → Bool} {held : Bool}
theorem trod_struct8 {t : TypeId} {f0 f1 f2 f3 f4 f5 f6 f7 : Field} {fuel : Nat} {cs : List Value} {x : DataW H × List MemPlace} (ht : P.underlying t = some (.struct #[f0, f1, f2, f3, f4, f5, f6, f7])) (h : DataW.trod enc P w base spare held fuel t cs = some x) :
    ∃ y0 y1 y2 y3 y4 y5 y6 y7 n, DataW.trod enc P w base spare held n f0.type ((cs.drop f0.offset).take (P.cellsOf f0.type)) = some y0 ∧
      DataW.trod enc P w base spare held n f1.type ((cs.drop f1.offset).take (P.cellsOf f1.type)) = some y1 ∧ DataW.trod enc P w base spare held n f2.type ((cs.drop f2.offset).take (P.cellsOf f2.type)) = some y2 ∧
      DataW.trod enc P w base spare held n f3.type ((cs.drop f3.offset).take (P.cellsOf f3.type)) = some y3 ∧ DataW.trod enc P w base spare held n f4.type ((cs.drop f4.offset).take (P.cellsOf f4.type)) = some y4 ∧
      DataW.trod enc P w base spare held n f5.type ((cs.drop f5.offset).take (P.cellsOf f5.type)) = some y5 ∧ DataW.trod enc P w base spare held n f6.type ((cs.drop f6.offset).take (P.cellsOf f6.type)) = some y6 ∧
      DataW.trod enc P w base spare held n f7.type ((cs.drop f7.offset).take (P.cellsOf f7.type)) = some y7 := by
  obtain ⟨xs, n, _, rfl, hl, hlen, hf⟩ := DataW.trod_struct ht h
  match xs, hlen with
  | [y0, y1, y2, y3, y4, y5, y6, y7], _ => exact ⟨y0, y1, y2, y3, y4, y5, y6, y7, n, by simpa using hf 0 f0 rfl, by simpa using hf 1 f1 rfl, by simpa using hf 2 f2 rfl, by simpa using hf 3 f3 rfl, by simpa using hf 4 f4 rfl, by simpa using hf 5 f5 rfl, by simpa using hf 6 f6 rfl, by simpa using hf 7 f7 rfl⟩
theorem trod_struct7 {t : TypeId} {f0 f1 f2 f3 f4 f5 f6 : Field} {fuel : Nat} {cs : List Value} {x : DataW H × List MemPlace} (ht : P.underlying t = some (.struct #[f0, f1, f2, f3, f4, f5, f6])) (h : DataW.trod enc P w base spare held fuel t cs = some x) :
    ∃ y0 y1 y2 y3 y4 y5 y6 n, DataW.trod enc P w base spare held n f0.type ((cs.drop f0.offset).take (P.cellsOf f0.type)) = some y0 ∧
      DataW.trod enc P w base spare held n f1.type ((cs.drop f1.offset).take (P.cellsOf f1.type)) = some y1 ∧ DataW.trod enc P w base spare held n f2.type ((cs.drop f2.offset).take (P.cellsOf f2.type)) = some y2 ∧
      DataW.trod enc P w base spare held n f3.type ((cs.drop f3.offset).take (P.cellsOf f3.type)) = some y3 ∧ DataW.trod enc P w base spare held n f4.type ((cs.drop f4.offset).take (P.cellsOf f4.type)) = some y4 ∧
      DataW.trod enc P w base spare held n f5.type ((cs.drop f5.offset).take (P.cellsOf f5.type)) = some y5 ∧ DataW.trod enc P w base spare held n f6.type ((cs.drop f6.offset).take (P.cellsOf f6.type)) = some y6 := by
  obtain ⟨xs, n, _, rfl, hl, hlen, hf⟩ := DataW.trod_struct ht h
  match xs, hlen with
  | [y0, y1, y2, y3, y4, y5, y6], _ => exact ⟨y0, y1, y2, y3, y4, y5, y6, n, by simpa using hf 0 f0 rfl, by simpa using hf 1 f1 rfl, by simpa using hf 2 f2 rfl, by simpa using hf 3 f3 rfl, by simpa using hf 4 f4 rfl, by simpa using hf 5 f5 rfl, by simpa using hf 6 f6 rfl⟩
end
theorem array11 {α : Type} {cs : Array α} (h : cs.size = 11) : ∃ c0 c1 c2 c3 c4 c5 c6 c7 c8 c9 c10, cs = #[c0, c1, c2, c3, c4, c5, c6, c7, c8, c9, c10] := by
  obtain ⟨l⟩ := cs
  match l, h with
  | [c0, c1, c2, c3, c4, c5, c6, c7, c8, c9, c10], _ => exact ⟨c0, c1, c2, c3, c4, c5, c6, c7, c8, c9, c10, rfl⟩
theorem array13 {α : Type} {cs : Array α} (h : cs.size = 13) : ∃ c0 c1 c2 c3 c4 c5 c6 c7 c8 c9 c10 c11 c12, cs = #[c0, c1, c2, c3, c4, c5, c6, c7, c8, c9, c10, c11, c12] := by
  obtain ⟨l⟩ := cs
  match l, h with
  | [c0, c1, c2, c3, c4, c5, c6, c7, c8, c9, c10, c11, c12], _ => exact ⟨c0, c1, c2, c3, c4, c5, c6, c7, c8, c9, c10, c11, c12, rfl⟩
set_option maxRecDepth 100000 in
theorem open_rule {H : Type} {enc : TypeId × Value → H} {w : World} {base : Nat} {spare : Nat → Bool} {held : Bool} {r : Reach} {b0 : Nat} {v : Value} {d : DataW H} {p : List MemPlace}
    (hv : Value.okWide Tryd.prog w r b0 34 v) (h : DataW.Trod enc Tryd.prog w base spare held 34 v d p) : ∃ r : Ru.R, v = r.v ∧ 0 ≤ r.c ∧ r.nm.size ≤ maxLen ∧ r.lt.size ≤ maxLen := by
  have q11 : Tryd.prog.cellsOf 34 = 11 := by kernel_rfl
  have q0 : Tryd.prog.cellsOf 3 = 1 := by kernel_rfl
  have q1 : Tryd.prog.cellsOf 29 = 3 := by kernel_rfl
  have q2 : Tryd.prog.cellsOf 32 = 2 := by kernel_rfl
  have q3 : Tryd.prog.cellsOf 27 = 1 := by kernel_rfl
  have q4 : Tryd.prog.cellsOf 2 = 1 := by kernel_rfl
  have q5 : Tryd.prog.cellsOf 30 = 1 := by kernel_rfl
  have q6 : Tryd.prog.cellsOf 9 = 1 := by kernel_rfl
  obtain ⟨cs, rfl, hsz⟩ := okWide_struct Tryd.underlying34 hv
  obtain ⟨c0, c1, c2, c3, c4, c5, c6, c7, c8, c9, c10, rfl⟩ := array11 (hsz.trans q11)
  obtain ⟨fuel, hf⟩ := h
  obtain ⟨y0, y1, y2, y3, y4, y5, y6, y7, n, h0, h1, h2, h3, h4, h5, h6, h7⟩ := trod_struct8 Tryd.underlying34 hf
  simp only [q0, q1, q2, q4, q6, Value.cells, List.drop, List.take] at h0 h1 h2 h3 h4 h5 h6 h7
  obtain ⟨a0, a1, a2, n2, _, _, g0, g1, g2⟩ := trod_struct3 Tryd.underlying29 h4
  obtain ⟨b0', b1', n3, _, _, f0, f1⟩ := trod_struct2 Tryd.underlying32 h5
  simp only [q0, q3, q4, q5, List.drop, List.take] at g0 g1 g2 f0 f1
  obtain ⟨nm, e0, _, wn⟩ := DataW.trod_string Tryd.underlying9 h0
  obtain ⟨fr, e1, _, _⟩ := DataW.trod_int Tryd.underlying3 h1
  obtain ⟨tt, e2, _, _⟩ := DataW.trod_int Tryd.underlying3 h2
  obtain ⟨mo, e3, _, _⟩ := DataW.trod_int Tryd.underlying3 h3
  obtain ⟨k, e4, _, _⟩ := DataW.trod_int Tryd.underlying27 g0
  obtain ⟨nn, e5, _, _⟩ := DataW.trod_int Tryd.underlying3 g1
  obtain ⟨dd, e6, _, _⟩ := DataW.trod_int Tryd.underlying3 g2
  obtain ⟨s, e7, _, _⟩ := DataW.trod_int Tryd.underlying2 f0
  obtain ⟨c, e8, _, wc⟩ := DataW.trod_int Tryd.underlying30 f1
  obtain ⟨sv, e9, _, _⟩ := DataW.trod_int Tryd.underlying2 h6
  obtain ⟨lt, e10, _, wl⟩ := DataW.trod_string Tryd.underlying9 h7
  simp only [List.cons.injEq, and_true] at e0 e1 e2 e3 e4 e5 e6 e7 e8 e9 e10
  subst e0 e1 e2 e3 e4 e5 e6 e7 e8 e9 e10
  exact ⟨⟨nm, fr, tt, mo, k, nn, dd, s, c, sv, lt⟩, rfl, byte_nonneg wc, wn, wl⟩
set_option maxRecDepth 100000 in
theorem open_era {H : Type} {enc : TypeId × Value → H} {w : World} {base : Nat} {spare : Nat → Bool} {held : Bool} {r : Reach} {b0 : Nat} {v : Value} {d : DataW H} {p : List MemPlace}
    (hv : Value.okWide Tryd.prog w r b0 50 v) (h : DataW.Trod enc Tryd.prog w base spare held 50 v d p) : ∃ e : Er.E, v = e.v ∧ 0 ≤ e.u.c ∧ e.ru.size ≤ maxLen ∧ e.fm.size ≤ maxLen := by
  have q13 : Tryd.prog.cellsOf 50 = 13 := by kernel_rfl
  have q7 : Tryd.prog.cellsOf 48 = 7 := by kernel_rfl
  have q0 : Tryd.prog.cellsOf 3 = 1 := by kernel_rfl
  have q1 : Tryd.prog.cellsOf 29 = 3 := by kernel_rfl
  have q2 : Tryd.prog.cellsOf 32 = 2 := by kernel_rfl
  have q3 : Tryd.prog.cellsOf 27 = 1 := by kernel_rfl
  have q4 : Tryd.prog.cellsOf 2 = 1 := by kernel_rfl
  have q5 : Tryd.prog.cellsOf 30 = 1 := by kernel_rfl
  have q6 : Tryd.prog.cellsOf 9 = 1 := by kernel_rfl
  have q8 : Tryd.prog.cellsOf 4 = 1 := by kernel_rfl
  have q9 : Tryd.prog.cellsOf 46 = 1 := by kernel_rfl
  obtain ⟨cs, rfl, hsz⟩ := okWide_struct Tryd.underlying50 hv
  obtain ⟨c0, c1, c2, c3, c4, c5, c6, c7, c8, c9, c10, c11, c12, rfl⟩ := array13 (hsz.trans q13)
  obtain ⟨fuel, hf⟩ := h
  obtain ⟨y0, y1, y2, y3, y4, y5, y6, n, h0, h1, h2, h3, h4, h5, h6⟩ := trod_struct7 Tryd.underlying50 hf
  simp only [q4, q6, q7, q8, q9, Value.cells, List.drop, List.take] at h0 h1 h2 h3 h4 h5 h6
  obtain ⟨z0, z1, z2, z3, n1, _, _, i0, i1, i2, i3⟩ := trod_struct4 Tryd.underlying48 h6
  simp only [q0, q1, q2, List.drop, List.take] at i0 i1 i2 i3
  obtain ⟨a0, a1, a2, n2, _, _, g0, g1, g2⟩ := trod_struct3 Tryd.underlying29 i2
  obtain ⟨b0', b1', n3, _, _, f0, f1⟩ := trod_struct2 Tryd.underlying32 i3
  simp only [q0, q3, q4, q5, List.drop, List.take] at g0 g1 g2 f0 f1
  obtain ⟨std, e0, _, _⟩ := DataW.trod_int Tryd.underlying2 h0
  obtain ⟨k, e1, _, _⟩ := DataW.trod_int Tryd.underlying46 h1
  obtain ⟨sv, e2, _, _⟩ := DataW.trod_int Tryd.underlying2 h2
  obtain ⟨ru, e3, _, wr⟩ := DataW.trod_string Tryd.underlying9 h3
  obtain ⟨fm, e4, _, wf⟩ := DataW.trod_string Tryd.underlying9 h4
  obtain ⟨en, e5, _⟩ := DataW.trod_bool Tryd.underlying4 h5
  obtain ⟨y, e6, _, _⟩ := DataW.trod_int Tryd.underlying3 i0
  obtain ⟨m, e7, _, _⟩ := DataW.trod_int Tryd.underlying3 i1
  obtain ⟨dk, e8, _, _⟩ := DataW.trod_int Tryd.underlying27 g0
  obtain ⟨dn, e9, _, _⟩ := DataW.trod_int Tryd.underlying3 g1
  obtain ⟨dd, e10, _, _⟩ := DataW.trod_int Tryd.underlying3 g2
  obtain ⟨s, e11, _, _⟩ := DataW.trod_int Tryd.underlying2 f0
  obtain ⟨c, e12, _, wc⟩ := DataW.trod_int Tryd.underlying30 f1
  simp only [List.cons.injEq, and_true] at e0 e1 e2 e3 e4 e5 e6 e7 e8 e9 e10 e11 e12
  subst e0 e1 e2 e3 e4 e5 e6 e7 e8 e9 e10 e11 e12
  exact ⟨⟨std, k, sv, ru, fm, en, ⟨y, m, dk, dn, dd, s, c⟩⟩, rfl, byte_nonneg wc, wr, wf⟩
/-- A listed table of strings: what its cells hold. -/
theorem strs_of_head {P : Program} {W : World} {name : String} {ls : List (List UInt8)} {rest : List (String × DataW Unit)} {g : Nat} {t e : TypeId} {n : Nat}
    (hg : P.globalNamed name = some g) (hty : (P.globals[g]?).map (·.type) = some t) (ht : P.underlying t = some (.array n e)) (he : P.underlying e = some .string) (hce : P.cellsOf e = 1) (hct : P.cellsOf t = n)
    (h : laidMet P ((name, .agg (ls.map fun l => .lit (.string l))) :: rest) W) : ∀ i l, ls[i]? = some l → W.cell? ⟨g, i, none⟩ = some (.string ⟨l.toArray⟩) := by
  obtain ⟨ps, ⟨g', t', cs, fuel, p, q, hg', ht', hvar, hd, _, _⟩, _⟩ := h
  obtain rfl := Option.some.inj (hg.symm.trans hg')
  obtain rfl := Option.some.inj (hty.symm.trans ht')
  obtain ⟨xs, m, rfl, hx, hl, hxl, hel⟩ := DataW.trod_array ht hd
  intro i l hi
  have hmap : xs.map (·.1) = ls.map fun l => (DataW.lit (.string l)) := by
    have := congrArg Prod.fst hx
    simpa using this.symm
  have hn : i < n := by
    have h1 := congrArg List.length hmap
    have h2 := (List.getElem?_eq_some_iff.1 hi).1
    simp only [List.length_map] at h1
    omega
  have hE := hel i hn
  rw [hce, Nat.mul_one, List.getElem?_eq_getElem (by omega)] at hE
  obtain ⟨s, hc, hd', _⟩ := DataW.trod_string he hE
  have h2 : (xs.map (·.1))[i]? = some xs[i].1 := by simp [List.getElem?_eq_getElem (show i < xs.length by omega)]
  rw [hmap, List.getElem?_map, hi, Option.map_some, hd'] at h2
  simp only [Option.some.injEq, DataW.lit.injEq, Lit.string.injEq] at h2
  have h3 : cs[i]? = some (.string s) := by
    have := congrArg (·[0]?) hc
    simpa [List.getElem?_take, List.getElem?_drop] using this
  have := World.var?_cell hg hvar i
  rw [this]
  rw [h2]
  exact h3
end Go.Proofs.YtokimlfbfbfenaaDoor
