/- A chart among a row's arguments, opened. -/
import Derived.Test.YtjbgmbhifnihaaaDoorP30
import Derived.Test.YtjbgmbhifnihaaaDoorP31
import Derived.Shelf.Vars
import Derived.Test.YtjbgmbhifnihaaaDoorCards
import Derived.Test.YtjbgmbhifnihaaaDoorTie
import Derived.Test.YtjbgmbhifnihaaaDoorP32
import Derived.ProofKit
import Derived.OpenShut
import Derived.ShutString
import Derived.ChangeOld
import Derived.LaidMore
import Derived.Stop.LaidErr
import Derived.Deep.DeepHandedRow
import Derived.Lib.LaidTab
import Derived.Lib.SmallJoins

namespace Go.Proofs.YtjbgmbhifnihaaaDoor
open Go.Deep
open Go.ChangeShapes Go.WideShapes Go.ChangeAt Go.RowKit Go.Joins
theorem entries_three {α : Type} {l : List α} (h : l.length = 3) : ∃ a b c, l = [a, b, c] := by
  match l, h with
  | [a, b, c], _ => exact ⟨a, b, c, rfl⟩
theorem flat_one (l : List ByteArray) : l.flatMap (fun s => [Value.string s]) = l.map Value.string := by
  induction l with
  | nil => rfl
  | cons a l ih => rw [List.flatMap_cons, ih]; rfl
theorem open_names_cells {H : Type} {enc : TypeId × Value → H} {w : World} {base : Nat} {spare : Nat → Bool} {held : Bool} {fuel : Nat} {cs : List Value} {x : DataW H × List MemPlace}
    (h : DataW.trod enc Tryd.prog w base spare held fuel 9 cs = some x) : ∃ s : ByteArray, cs = [.string s] ∧ s.size ≤ maxLen := by
  obtain ⟨nm, e0, _, wn⟩ := DataW.trod_string Tryd.underlying9 h
  exact ⟨nm, e0, wn⟩
theorem open_names {H : Type} {enc : TypeId × Value → H} {w : World} {base : Nat} {spare : Nat → Bool} {held : Bool} {fuel : Nat} {cs : List Value} {x : DataW H × List MemPlace}
    (h : DataW.trod enc Tryd.prog w base spare held fuel 43 cs = some x) : ∃ (v : Value) (zs : List ByteArray), cs = [v] ∧ Src.RowR w w.heap.size 1 zs.length v (zs.map Value.string) ∧ ∀ z ∈ zs, z.size ≤ maxLen := by
  obtain ⟨v, zs, e, hr, hz⟩ := open_rows (cells := fun s : ByteArray => [Value.string s]) (Good := fun s => s.size ≤ maxLen) Tryd.underlying43 (by kernel_rfl) (show 0 < 1 by decide) (fun _ => rfl) (fun n cs x _ hx => open_names_cells hx) h
  rw [flat_one] at hr
  exact ⟨v, zs, e, hr, hz⟩
theorem open_ent_cells {H : Type} {enc : TypeId × Value → H} {w : World} {base : Nat} {spare : Nat → Bool} {held : Bool} {fuel : Nat} {cs : List Value} {x : DataW H × List MemPlace} (hl : cs.length = 3)
    (h : DataW.trod enc Tryd.prog w base spare held fuel 52 cs = some x) : ∃ p : Ca.E × Value, cs = Ca.ec p ∧ Src.RowR w w.heap.size 1 p.1.zones.length p.2 (p.1.zones.map Value.string) ∧ p.1.key.size ≤ maxLen ∧ p.1.terr.size ≤ maxLen ∧ ∀ z ∈ p.1.zones, z.size ≤ maxLen := by
  have q0 : Tryd.prog.cellsOf 9 = 1 := by kernel_rfl
  have q1 : Tryd.prog.cellsOf 43 = 1 := by kernel_rfl
  obtain ⟨c0, c1, c2, rfl⟩ := entries_three hl
  obtain ⟨y0, y1, y2, n, _, _, h0, h1, h2⟩ := trod_struct3 Tryd.underlying52 h
  simp only [q0, q1, List.drop, List.take] at h0 h1 h2
  obtain ⟨k, e0, _, wk⟩ := DataW.trod_string Tryd.underlying9 h0
  obtain ⟨t, e1, _, wt⟩ := DataW.trod_string Tryd.underlying9 h1
  obtain ⟨v, zs, e2, hr, hz⟩ := open_names h2
  simp only [List.cons.injEq, and_true] at e0 e1 e2
  subst e0 e1 e2
  exact ⟨(⟨k, t, zs⟩, c2), rfl, hr, wk, wt, hz⟩
set_option maxRecDepth 100000 in
theorem open_ents {H : Type} {enc : TypeId × Value → H} {w : World} {base : Nat} {spare : Nat → Bool} {held : Bool} {r : Reach} {b0 : Nat} {v : Value} {d : DataW H} {p : List MemPlace}
    (hv : Value.okWide Tryd.prog w r b0 44 v) (h : DataW.Trod enc Tryd.prog w base spare held 44 v d p) :
    ∃ (l : List Ca.E) (A : Option Addr) (n c : Nat) (evs : List Value), v = .slice A n c ∧ Ca.EntR w w.heap.size l (.slice A n c) evs ∧ l.length = n ∧ Ca.Wide l := by
  obtain ⟨a0, ln, lc, rfl⟩ := okWide_slice Tryd.underlying44 hv
  obtain ⟨fuel, hf⟩ := h
  obtain ⟨v, xs, e, hr, hx⟩ := open_rows (cells := Ca.ec) (Good := fun p => Src.RowR w w.heap.size 1 p.1.zones.length p.2 (p.1.zones.map Value.string) ∧ p.1.key.size ≤ maxLen ∧ p.1.terr.size ≤ maxLen ∧ ∀ z ∈ p.1.zones, z.size ≤ maxLen) Tryd.underlying44 (by kernel_rfl) (show 0 < 3 by decide) (fun _ => rfl) (fun n cs x hl hx => open_ent_cells hl hx) hf
  simp only [Value.cells, List.cons.injEq, and_true] at e
  subst e
  obtain ⟨A', c', e9, _⟩ := id hr
  injection e9 with e91 e92 e93
  refine ⟨xs.map (·.1), a0, ln, lc, xs.map (·.2), rfl, ⟨?_, by simp, fun q hq => ?_⟩, by rw [List.length_map]; exact e92.symm, ⟨fun z hz => ?_⟩⟩
  · rw [zip_fst_snd]
    simpa using hr
  · rw [zip_fst_snd] at hq
    exact (hx q hq).1
  · rw [List.mem_map] at hz
    obtain ⟨q, hq, rfl⟩ := hz
    exact (hx q hq).2
end Go.Proofs.YtjbgmbhifnihaaaDoor

/-
  TopMarked: whatever comes in, the law returns true and each argument reads as it did.
  Conditions: the listed package-level tables read as the program's text lays them (the card ties them to it).
-/
namespace Go.Proofs.YtjbgmbhifnihaaaDoor.topMarked
open Go.ChangeShapes Go.WideShapes Go.ChangeAt Go.RowKit Go.Joins
open Go.ChangeMaps (open_string shut_string)

theorem u8_nonneg {c : Int} (h : (Lit.int .u8 c).wf = true) : 0 ≤ c := by
  have : 0 ≤ c ∧ c ≤ 255 := by simpa [Lit.wf, IntKind.min, IntKind.max, IntKind.signed, IntKind.bits] using h
  exact this.1
theorem own : ownKnob Tryd.prog.godebug = none := by kernel_rfl
theorem laidOut : laidOutB Tryd.prog = true := by kernel_rfl

/-- What the program's variables hold where the call begins. -/
theorem wo_of {W : World} (h : laidMetH Tryd.prog Rows.topMarkedRow.laid W) (hS : W.ShapedOpen Tryd.prog) : Wl W := by
  have h0 : laidMet Tryd.prog Rows.topMarkedRow.laid W := h
  exact ⟨(Go.Proofs.cell_of_shapedOpen_int (g := 0) (zero := #[.int .i64 0]) (t := 3) hS (of_decide_eq_true (by kernel_rfl)) (by kernel_rfl) rfl (by kernel_rfl) (by kernel_rfl) Tryd.underlying3)⟩

noncomputable def laidWorld (os : Os) : World :=
  { World.doorLaid Tryd.prog 4000 os with heap := (World.doorLaid Tryd.prog 4000 os).heap.modify 1 fun
      | .cells _ t frozen => .cells ((Go.Pinned.utf8FirstZ.map fun (z : Nat) => Value.int .u8 (Int.ofNat z)).toArray) t frozen
      | o => o }
theorem laid_met (os : Os) : laidMet Tryd.prog Rows.topMarkedRow.laid ((laidWorld os).forCall (fun _ _ => 0) ⟨#[], #[.slice none 0 0], []⟩).memory :=
  laidMet_of_run' 8 (by kernel_rfl) (by kernel_rfl)
theorem reads (os : Os) {H : Type} (enc : TypeId × Value → H) : ∃ places, DataW.whole enc Tryd.prog ((laidWorld os).forCall (fun _ _ => 0) ⟨#[], #[.slice none 0 0], []⟩).memory Tryd.f6.params.toList Rows.topMarkedSpec.vars false #[Value.slice none 0 0].toList 8 = some ([.nil], [], places) :=
  ⟨[], by kernel_rfl⟩

set_option maxRecDepth 100000 in
set_option maxHeartbeats 4000000 in
theorem contract (H : Type) (enc : TypeId × Value → H) (W : World) (base : Nat) (args : Array Value) (ds gs : List (DataW H)) (before : List MemPlace)
    (hval : ∀ (j : Nat) t v, Tryd.f6.params[j]? = some t → args[j]? = some v → Value.okWide Tryd.prog W .any base t v)
    (hW : DataW.Whole enc Tryd.prog Tryd.f6.params.toList Rows.topMarkedSpec.vars false W args.toList ds gs before) (hL : laidMetH Tryd.prog Rows.topMarkedRow.laid W) (hS : W.ShapedOpen Tryd.prog) :
    Calls Tryd.prog 6 args W fun e W' => ∃ v, e = .returned v ∧ Rows.topMarkedSpec.post enc Tryd.prog Tryd.f6 false true false false W args v W' := by
  have hW' := hW
  obtain ⟨p, q, hA0, hV, rfl, hfz, hnd⟩ := hW
  have hA : DataW.TrodAll enc Tryd.prog W 0 (fun _ => true) true Tryd.f6.params.toList args.toList ds p := hA0
  rw [Tryd.params6] at hA hval
  obtain ⟨v0, vs0, d0, ds0, p0, q0, hargs, rfl, rfl, h0, r0⟩ := trodAll_cons hA
  obtain ⟨rfl, rfl, rfl⟩ := trodAll_nil r0
  obtain rfl : args = #[v0] := by cases args; simp_all
  obtain ⟨rfl, rfl⟩ := trodVars_none hV
  have k0 := h0
  have lt0 : ∀ x ∈ p0, x.block < W.heap.size := by obtain ⟨m, hm⟩ := k0; exact DataW.trod_lt m _ _ _ hm
  obtain ⟨l0, A0, n0, c0, evl0, rfl, hel0, hll0, hlw0⟩ := open_ents (hval 0 44 v0 rfl rfl) h0
  clear hA0
  refine (topMarked_row l0 A0 n0 c0 evl0 W (wo_of hL hS) hel0 hll0 hlw0).mono fun e W' ⟨he, bel⟩ => ?_
  subst he
  exact ⟨_, rfl, _, _, _, [], _, [], hW', trodAll_mk1 (shut_bool Tryd.underlying4 _), (trodAll_cons_mk (Below.trod laidOut (by kernel_rfl) (of_decide_eq_true (by kernel_rfl)) k0 bel lt0) trodAll_mk0), rfl, bel.frame _, fun h => by cases h⟩

set_option maxRecDepth 100000 in
theorem lifted (os : Os) (started : os.Started) (H : Type) (enc : TypeId × Value → H) (F : Stop.Interp) :
    ReturnsInHanded {} Tryd.checked os 6 .any ((OpenSpec.ofChange Rows.topMarkedSpec).preRow enc Tryd.prog Tryd.f6 Rows.topMarkedRow.domain false Rows.topMarkedRow.laid) (((OpenSpec.ofChange Rows.topMarkedSpec).at F).post enc Tryd.prog Tryd.f6 false true false false) := by
  obtain ⟨places, hx⟩ := reads os enc
  refine returnsInHanded_of_row (C := Tryd.checked) (s := OpenSpec.ofChange Rows.topMarkedSpec) own started (by kernel_rfl) Tryd.func6
    (witness_row_at (enc := enc) (C := Tryd.checked) false (laidWorld os) #[.slice none 0 0] rfl (by kernel_rfl) (by kernel_rfl) (by kernel_rfl)
      (OpenSpec.preRow_of_cond 8 hx (by kernel_rfl) (fun k hk => by cases hk) (by kernel_rfl) (laid_met os))) ?_
  intro W base args ds gs before hval hW _ _ _ hL hS _
  exact contract H enc W base args ds gs before hval hW hL hS

theorem said : Rows.TopMarkedSaid :=
  OpenClaim.holds_of_cond 6 Tryd.f6 rfl rfl rfl rfl rfl rfl rfl ⟨rfl, rfl, rfl, rfl, rfl⟩ rfl rfl rfl rfl rfl (by kernel_rfl) Tryd.func6 (by kernel_rfl)
    (of_decide_eq_true (by kernel_rfl)) (by unfold Func.isWrapper; first | (rw [if_pos (by decide +kernel)]; kernel_rfl) | (rw [if_neg (by decide +kernel)]; exact ⟨rfl, rfl⟩))
    (fun os started H enc _ F => by rw [OpenClaim.pre_eq_preRow]; exact lifted os started H enc F)

/-- No parameter wants a stand-in; the program's own looks are off. -/
theorem plain (f : FuncId) (fn : Func) (hf : Tryd.pinned.checked.prog.funcNamed "solstice/solsticetop.TopMarked" = some f) (hfn : Tryd.pinned.checked.prog.funcs[f]? = some fn) :
    false = Tryd.pinned.checked.prog.looks [] ∧ ∀ (j : Nat) t, fn.params[j]? = some t → Tryd.pinned.checked.prog.wantsStandIn t = false := by
  obtain rfl : f = 6 := Option.some.inj ((show Tryd.prog.funcNamed "solstice/solsticetop.TopMarked" = some 6 by kernel_rfl).symm.trans hf) |>.symm
  obtain rfl : fn = Tryd.f6 := (Option.some.inj (Tryd.func6.symm.trans hfn)).symm
  refine ⟨by kernel_rfl, fun j t ht => ?_⟩
  rw [Tryd.params6] at ht
  have hm : t ∈ [44] := by
    have := Array.mem_of_getElem? ht
    simp at this ⊢
    omega
  simp only [List.mem_cons, List.not_mem_nil, or_false] at hm
  subst hm
  exact (show Tryd.prog.wantsStandIn 44 = false by kernel_rfl)

/-- The statement: the tied card. -/
theorem card : Rows.TopMarkedCardSaid :=
  Claim7.holds_tied_plain_at .later [] _ _ _ _ said (fun _ h => by cases h) (by kernel_rfl) (fun _ h => by cases h) topMarked_row_tie rfl ⟨rfl, rfl⟩ (by kernel_rfl) rfl plain (by kernel_rfl)
end Go.Proofs.YtjbgmbhifnihaaaDoor.topMarked
