/- An Until among a row's arguments, opened: its seven cells. -/
import Derived.Test.YtokimlfbfbfenaaDoorUntil
import Derived.ProofKit
import Derived.OpenShut
import Derived.Lib.SmallJoins
import Derived.SliceStrings
import Derived.Deep.RegionHeld
import Derived.Deep.Strs
namespace Go.Proofs.YtokimlfbfbfenaaDoor
open Go.Deep
open Go.ChangeShapes Go.WideShapes Go.ChangeAt Go.RowKit Go.Joins
theorem byte_nonneg {c : Int} (h : (Lit.int .u8 c).wf = true) : 0 ≤ c := by
  have : 0 ≤ c ∧ c ≤ 255 := by simpa [Lit.wf, IntKind.min, IntKind.max, IntKind.signed, IntKind.bits] using h
  exact this.1
theorem array7 {α : Type} {cs : Array α} (h : cs.size = 7) : ∃ c0 c1 c2 c3 c4 c5 c6, cs = #[c0, c1, c2, c3, c4, c5, c6] := by
  obtain ⟨l⟩ := cs
  match l, h with
  | [c0, c1, c2, c3, c4, c5, c6], _ => exact ⟨c0, c1, c2, c3, c4, c5, c6, rfl⟩
set_option maxRecDepth 100000 in
theorem open_until {H : Type} {enc : TypeId × Value → H} {w : World} {base : Nat} {spare : Nat → Bool} {held : Bool} {r : Reach} {b0 : Nat} {v : Value} {d : DataW H} {p : List MemPlace}
    (hv : Value.okWide Tryd.prog w r b0 48 v) (h : DataW.Trod enc Tryd.prog w base spare held 48 v d p) : ∃ u : Mo.U, v = u.v ∧ 0 ≤ u.c := by
  have q7 : Tryd.prog.cellsOf 48 = 7 := by kernel_rfl
  have q0 : Tryd.prog.cellsOf 3 = 1 := by kernel_rfl
  have q1 : Tryd.prog.cellsOf 29 = 3 := by kernel_rfl
  have q2 : Tryd.prog.cellsOf 32 = 2 := by kernel_rfl
  have q3 : Tryd.prog.cellsOf 27 = 1 := by kernel_rfl
  have q4 : Tryd.prog.cellsOf 2 = 1 := by kernel_rfl
  have q5 : Tryd.prog.cellsOf 30 = 1 := by kernel_rfl
  obtain ⟨cs, rfl, hsz⟩ := okWide_struct Tryd.underlying48 hv
  obtain ⟨c0, c1, c2, c3, c4, c5, c6, rfl⟩ := array7 (hsz.trans q7)
  obtain ⟨fuel, hf⟩ := h
  obtain ⟨y0, y1, y2, y3, n, hx, _, h0, h1, h2, h3⟩ := trod_struct4 Tryd.underlying48 hf
  simp only [q0, q1, q2, Value.cells, List.drop, List.take] at h0 h1 h2 h3
  obtain ⟨a0, a1, a2, n2, _, _, g0, g1, g2⟩ := trod_struct3 Tryd.underlying29 h2
  obtain ⟨b0', b1', n3, _, _, f0, f1⟩ := trod_struct2 Tryd.underlying32 h3
  simp only [q0, q3, q4, q5, List.drop, List.take] at g0 g1 g2 f0 f1
  obtain ⟨y, e0, _, _⟩ := DataW.trod_int Tryd.underlying3 h0
  obtain ⟨m, e1, _, _⟩ := DataW.trod_int Tryd.underlying3 h1
  obtain ⟨k, e2, _, _⟩ := DataW.trod_int Tryd.underlying27 g0
  obtain ⟨nn, e3, _, _⟩ := DataW.trod_int Tryd.underlying3 g1
  obtain ⟨dd, e4, _, _⟩ := DataW.trod_int Tryd.underlying3 g2
  obtain ⟨s, e5, _, _⟩ := DataW.trod_int Tryd.underlying2 f0
  obtain ⟨c, e6, _, wc⟩ := DataW.trod_int Tryd.underlying30 f1
  simp only [List.cons.injEq, and_true] at e0 e1 e2 e3 e4 e5 e6
  subst e0 e1 e2 e3 e4 e5 e6
  exact ⟨⟨y, m, k, nn, dd, s, c⟩, rfl, byte_nonneg wc⟩
set_option maxRecDepth 100000 in
theorem open_strs {H : Type} {enc : TypeId × Value → H} {w : World} {base : Nat} {spare : Nat → Bool} {held : Bool} {r : Reach} {b0 : Nat} {v : Value} {d : DataW H} {p : List MemPlace}
    (hv : Value.okWide Tryd.prog w r b0 41 v) (h : DataW.Trod enc Tryd.prog w base spare held 41 v d p) :
    ∃ (A : Option Addr) (ln lc : Nat) (ss : List ByteArray), v = .slice A ln lc ∧ ln ≤ lc ∧ lc ≤ maxLen ∧ Reads w w.heap.size 1 A ln (ss.map Value.string) ∧ ∀ t ∈ ss, t.size ≤ maxLen := by
  have q0 : Tryd.prog.cellsOf 9 = 1 := by kernel_rfl
  obtain ⟨a0, ln, lc, rfl⟩ := okWide_slice Tryd.underlying41 hv
  obtain ⟨fuel, hf⟩ := h
  rcases open_strings Tryd.underlying41 Tryd.underlying9 q0 hf with ⟨hcs, _⟩ | ⟨a, ln', lc', ss, hcs, _, hl, hm, hz, _, hcell, hsz⟩
  · simp only [Value.cells, List.cons.injEq, Value.slice.injEq, and_true] at hcs
    obtain ⟨rfl, rfl, rfl⟩ := hcs
    exact ⟨none, 0, 0, [], rfl, Nat.le_refl _, Nat.zero_le _, Reads.none_, fun t ht => by cases ht⟩
  · simp only [Value.cells, List.cons.injEq, Value.slice.injEq, and_true] at hcs
    obtain ⟨rfl, rfl, rfl⟩ := hcs
    have hle : ln ≤ ss.length := by rw [hz]; split <;> omega
    refine ⟨some a, ln, lc, ss.take ln, rfl, hl, hm, ⟨by simp; omega, fun hn => ⟨a, rfl, World.block_lt_of_cell? w (a.add 0) (hcell 0 (by omega)), fun j u hj => ?_⟩⟩, fun t ht => hsz t (List.mem_of_mem_take ht)⟩
    have hj' : j < ln := by
      have := (List.getElem?_eq_some_iff.1 hj).1
      simp at this
      omega
    rw [List.getElem?_map, List.getElem?_take_of_lt hj', List.getElem?_eq_getElem (by omega)] at hj
    obtain rfl : Value.string ss[j] = u := by simpa using hj
    rw [hcell j (by omega)]
    simp [List.getD, List.getElem?_eq_getElem (show j < ss.length by omega)]
end Go.Proofs.YtokimlfbfbfenaaDoor
