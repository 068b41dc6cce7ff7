/- A Zone among a row's arguments, opened; the walk of ValidEach as the row's end asks for it. -/
import Derived.Test.YtfobllagmakjdaaDoorK26
import Derived.Test.YtfobllagmakjdaaDoorK34
import Derived.Shelf.Vars
import Derived.Test.YtfobllagmakjdaaDoorCards
import Derived.Test.YtfobllagmakjdaaDoorTie
import Derived.ProofKit
import Derived.OpenShut
import Derived.ShutString
import Derived.ChangeOld
import Derived.LaidMore
import Derived.Stop.LaidErr
import Derived.Deep.DeepHandedRow
import Derived.Lib.LaidTab
import Derived.Lib.SmallJoins
namespace Go.Proofs.YtfobllagmakjdaaDoor
open Go.Deep
open Go.ChangeShapes Go.WideShapes Go.ChangeAt Go.RowKit Go.Joins
set_option maxRecDepth 100000 in
theorem open_zone {H : Type} {enc : TypeId × Value → H} {w : World} {base : Nat} {spare : Nat → Bool} {held : Bool} {r : Reach} {b0 : Nat} {v : Value} {d : DataW H} {p : List MemPlace}
    (hv : Value.okWide Tryd.prog w r b0 37 v) (h : DataW.Trod enc Tryd.prog w base spare held 37 v d p) :
    ∃ (z : Src.Txt × List Er.E) (ev : Value), v = .agg #[.string (Src.bts z.1), ev] ∧ Src.RowR w w.heap.size 13 z.2.length ev (z.2.flatMap Er.E.cells) ∧ z.1.length ≤ maxLen ∧ ∀ e ∈ z.2, Src.WideE e := by
  have q3 : Tryd.prog.cellsOf 37 = 2 := by kernel_rfl
  obtain ⟨cs, rfl, hsz⟩ := okWide_struct Tryd.underlying37 hv
  obtain ⟨fuel, hf⟩ := h
  obtain ⟨l⟩ := cs
  have hl : l.length = 2 := hsz.trans q3
  obtain ⟨z, e, h1, h2, h3⟩ := open_zone_cells (cs := l) hl hf
  subst e
  exact ⟨z.1, z.2, rfl, h1, h2, h3⟩
theorem validEach_row (s : Src.S) (rv zv lv : Value) (evs : List Value) (r : Ru.R) (z : Src.Txt × List Er.E) (ev : Value) (w : World) (hT : Wo w ∧ Wa w) (hR : Src.SrcR w w.heap.size s rv zv lv evs) (hw : Src.Wide s)
    (h0 : 0 ≤ r.c) (h1 : r.nm.size ≤ maxLen) (h2 : r.lt.size ≤ maxLen) (hz : Src.RowR w w.heap.size 13 z.2.length ev (z.2.flatMap Er.E.cells)) (h3 : z.1.length ≤ maxLen) (h4 : ∀ e ∈ z.2, Src.WideE e) :
    Calls Tryd.prog 3 #[.agg #[rv, zv, lv], r.v, .agg #[.string (Src.bts z.1), ev]] w fun e w' => e = .returned (.bool true) ∧ Below w.heap.size w w' :=
  validEach_any s rv zv lv evs r z ev w hR hw hz ⟨fun x hx => by rw [List.mem_singleton.1 hx]; exact ⟨h0, h1, h2⟩, fun x hx => by rw [List.mem_singleton.1 hx]; exact ⟨h3, h4⟩, fun x hx => (by cases hx), rfl⟩ hT.1 hT.2
end Go.Proofs.YtfobllagmakjdaaDoor
/-
  ValidEach: whatever comes in, the law returns true and each argument reads as it did.
  Conditions: the listed package-level tables read as the program's text lays them (the card ties them to it).
-/
namespace Go.Proofs.YtfobllagmakjdaaDoor.validEach
open Go.ChangeShapes Go.WideShapes Go.ChangeAt Go.RowKit Go.Joins
open Go.ChangeMaps (open_string shut_string)

theorem u8_nonneg {c : Int} (h : (Lit.int .u8 c).wf = true) : 0 ≤ c := by
  have : 0 ≤ c ∧ c ≤ 255 := by simpa [Lit.wf, IntKind.min, IntKind.max, IntKind.signed, IntKind.bits] using h
  exact this.1
theorem own : ownKnob Tryd.prog.godebug = none := by kernel_rfl
theorem laidOut : laidOutB Tryd.prog = true := by kernel_rfl
theorem g_places : Tryd.prog.globalNamed "solstice/abbr.places" = some 1 := by kernel_rfl
theorem t_places : (Tryd.prog.globals[1]?).map (·.type) = some 123 := by kernel_rfl
theorem g_lens : Tryd.prog.globalNamed "solstice/civil.lengths" = some 0 := by kernel_rfl
theorem t_lens : (Tryd.prog.globals[0]?).map (·.type) = some 120 := by kernel_rfl

/-- What the program's variables hold where the call begins. -/
theorem wo_of {W : World} (h : laidMetH Tryd.prog Rows.validEachRow.laid W) (hS : W.ShapedOpen Tryd.prog) : Wo W ∧ Wa W := by
  have h0 : laidMet Tryd.prog Rows.validEachRow.laid W := h
  have h1 := h0.tail
  have x_lens : Lib.TabIs Tryd.prog W "solstice/civil.lengths" .i64 Cv.lens := Lib.tabIs_of_head g_lens t_lens Tryd.underlying120 Tryd.underlying3 (by kernel_rfl) (by kernel_rfl) h0
  have x_places := strs_of_head (ls := [[37, 115], [37, 122]]) (rest := []) g_places t_places Tryd.underlying123 Tryd.underlying9 (by kernel_rfl) (by kernel_rfl) h1
  exact ⟨⟨fun k hk => x_lens.cell g_lens k hk, (Go.Proofs.cell_of_shapedOpen_int (g := 2) (zero := #[.int .i64 0]) (t := 3) hS (of_decide_eq_true (by kernel_rfl)) (by kernel_rfl) rfl (by kernel_rfl) (by kernel_rfl) Tryd.underlying3)⟩, ⟨x_places 0 _ rfl, x_places 1 _ rfl, (Go.Proofs.cell_of_shapedOpen_int (g := 2) (zero := #[.int .i64 0]) (t := 3) hS (of_decide_eq_true (by kernel_rfl)) (by kernel_rfl) rfl (by kernel_rfl) (by kernel_rfl) Tryd.underlying3)⟩⟩

noncomputable def laidWorld (os : Os) : World := World.doorLaid Tryd.prog 4000 os
theorem laid_met (os : Os) : laidMet Tryd.prog Rows.validEachRow.laid ((laidWorld os).forCall (fun _ _ => 0) ⟨#[], #[.agg #[.slice none 0 0, .slice none 0 0, .slice none 0 0], .agg #[.string ⟨#[]⟩, .int .i64 0, .int .i64 0, .int .i64 0, .int .u8 0, .int .i64 0, .int .i64 0, .int .i64 0, .int .u8 0, .int .i64 0, .string ⟨#[]⟩], .agg #[.string ⟨#[]⟩, .slice none 0 0]], []⟩).memory :=
  laidMet_of_run' 8 (by kernel_rfl) (by kernel_rfl)
theorem reads (os : Os) {H : Type} (enc : TypeId × Value → H) : ∃ places, DataW.whole enc Tryd.prog ((laidWorld os).forCall (fun _ _ => 0) ⟨#[], #[.agg #[.slice none 0 0, .slice none 0 0, .slice none 0 0], .agg #[.string ⟨#[]⟩, .int .i64 0, .int .i64 0, .int .i64 0, .int .u8 0, .int .i64 0, .int .i64 0, .int .i64 0, .int .u8 0, .int .i64 0, .string ⟨#[]⟩], .agg #[.string ⟨#[]⟩, .slice none 0 0]], []⟩).memory Tryd.f3.params.toList Rows.validEachSpec.vars false #[Value.agg #[.slice none 0 0, .slice none 0 0, .slice none 0 0], .agg #[.string ⟨#[]⟩, .int .i64 0, .int .i64 0, .int .i64 0, .int .u8 0, .int .i64 0, .int .i64 0, .int .i64 0, .int .u8 0, .int .i64 0, .string ⟨#[]⟩], .agg #[.string ⟨#[]⟩, .slice none 0 0]].toList 8 = some ([.agg [.nil, .nil, .nil], .agg [.lit (.string []), .lit (.int .i64 0), .lit (.int .i64 0), .lit (.int .i64 0), .agg [.lit (.int .u8 0), .lit (.int .i64 0), .lit (.int .i64 0)], .agg [.lit (.int .i64 0), .lit (.int .u8 0)], .lit (.int .i64 0), .lit (.string [])], .agg [.lit (.string []), .nil]], [], places) :=
  ⟨[], by kernel_rfl⟩

set_option maxRecDepth 100000 in
set_option maxHeartbeats 4000000 in
theorem contract (H : Type) (enc : TypeId × Value → H) (W : World) (base : Nat) (args : Array Value) (ds gs : List (DataW H)) (before : List MemPlace)
    (hval : ∀ (j : Nat) t v, Tryd.f3.params[j]? = some t → args[j]? = some v → Value.okWide Tryd.prog W .any base t v)
    (hW : DataW.Whole enc Tryd.prog Tryd.f3.params.toList Rows.validEachSpec.vars false W args.toList ds gs before) (hL : laidMetH Tryd.prog Rows.validEachRow.laid W) (hS : W.ShapedOpen Tryd.prog) :
    Calls Tryd.prog 3 args W fun e W' => ∃ v, e = .returned v ∧ Rows.validEachSpec.post enc Tryd.prog Tryd.f3 false true false false W args v W' := by
  have hW' := hW
  obtain ⟨p, q, hA0, hV, rfl, hfz, hnd⟩ := hW
  have hA : DataW.TrodAll enc Tryd.prog W 0 (fun _ => true) true Tryd.f3.params.toList args.toList ds p := hA0
  rw [Tryd.params3] at hA hval
  obtain ⟨v0, vs0, d0, ds0, p0, q0, hargs, rfl, rfl, h0, r0⟩ := trodAll_cons hA
  obtain ⟨v1, vs1, d1, ds1, p1, q1, rfl, rfl, rfl, h1, r1⟩ := trodAll_cons r0
  obtain ⟨v2, vs2, d2, ds2, p2, q2, rfl, rfl, rfl, h2, r2⟩ := trodAll_cons r1
  obtain ⟨rfl, rfl, rfl⟩ := trodAll_nil r2
  obtain rfl : args = #[v0, v1, v2] := by cases args; simp_all
  obtain ⟨rfl, rfl⟩ := trodVars_none hV
  have k0 := h0
  have lt0 : ∀ x ∈ p0, x.block < W.heap.size := by obtain ⟨m, hm⟩ := k0; exact DataW.trod_lt m _ _ _ hm
  obtain ⟨s0, rv0, zv0, lv0, evs0, rfl, hsr0, hsw0⟩ := open_source (hval 0 26 v0 rfl rfl) h0
  have k1 := h1
  have lt1 : ∀ x ∈ p1, x.block < W.heap.size := by obtain ⟨m, hm⟩ := k1; exact DataW.trod_lt m _ _ _ hm
  obtain ⟨r, rfl, hrc, hrn, hrl⟩ := open_rule (hval 1 34 v1 rfl rfl) h1
  have k2 := h2
  have lt2 : ∀ x ∈ p2, x.block < W.heap.size := by obtain ⟨m, hm⟩ := k2; exact DataW.trod_lt m _ _ _ hm
  obtain ⟨z2, ev2, rfl, hzr2, hzl2, hze2⟩ := open_zone (hval 2 37 v2 rfl rfl) h2
  clear hA0
  refine (validEach_row s0 rv0 zv0 lv0 evs0 r z2 ev2 W (wo_of hL hS) hsr0 hsw0 hrc hrn hrl hzr2 hzl2 hze2).mono fun e W' ⟨he, bel⟩ => ?_
  subst he
  exact ⟨_, rfl, _, _, _, [], _, [], hW', trodAll_mk1 (shut_bool Tryd.underlying4 _), (trodAll_cons_mk (Below.trod laidOut (by kernel_rfl) (of_decide_eq_true (by kernel_rfl)) k0 bel lt0) (trodAll_cons_mk (Below.trod laidOut (by kernel_rfl) (of_decide_eq_true (by kernel_rfl)) k1 bel lt1) (trodAll_cons_mk (Below.trod laidOut (by kernel_rfl) (of_decide_eq_true (by kernel_rfl)) k2 bel lt2) trodAll_mk0))), rfl, bel.frame _, fun h => by cases h⟩

set_option maxRecDepth 100000 in
theorem lifted (os : Os) (started : os.Started) (H : Type) (enc : TypeId × Value → H) (F : Stop.Interp) :
    ReturnsInHanded {} Tryd.checked os 3 .any ((OpenSpec.ofChange Rows.validEachSpec).preRow enc Tryd.prog Tryd.f3 Rows.validEachRow.domain false Rows.validEachRow.laid) (((OpenSpec.ofChange Rows.validEachSpec).at F).post enc Tryd.prog Tryd.f3 false true false false) := by
  obtain ⟨places, hx⟩ := reads os enc
  refine returnsInHanded_of_row (C := Tryd.checked) (s := OpenSpec.ofChange Rows.validEachSpec) own started (by kernel_rfl) Tryd.func3
    (witness_row_at (enc := enc) (C := Tryd.checked) false (laidWorld os) #[.agg #[.slice none 0 0, .slice none 0 0, .slice none 0 0], .agg #[.string ⟨#[]⟩, .int .i64 0, .int .i64 0, .int .i64 0, .int .u8 0, .int .i64 0, .int .i64 0, .int .i64 0, .int .u8 0, .int .i64 0, .string ⟨#[]⟩], .agg #[.string ⟨#[]⟩, .slice none 0 0]] rfl (by kernel_rfl) (by kernel_rfl) (by kernel_rfl)
      (OpenSpec.preRow_of_cond 8 hx (by kernel_rfl) (fun k hk => by cases hk) (by kernel_rfl) (laid_met os))) ?_
  intro W base args ds gs before hval hW _ _ _ hL hS _
  exact contract H enc W base args ds gs before hval hW hL hS

theorem said : Rows.ValidEachSaid :=
  OpenClaim.holds_of_cond 3 Tryd.f3 rfl rfl rfl rfl rfl rfl rfl ⟨rfl, rfl, rfl, rfl, rfl⟩ rfl rfl rfl rfl rfl (by kernel_rfl) Tryd.func3 (by kernel_rfl)
    (of_decide_eq_true (by kernel_rfl)) (by unfold Func.isWrapper; first | (rw [if_pos (by decide +kernel)]; kernel_rfl) | (rw [if_neg (by decide +kernel)]; exact ⟨rfl, rfl⟩))
    (fun os started H enc _ F => by rw [OpenClaim.pre_eq_preRow]; exact lifted os started H enc F)

/-- No parameter wants a stand-in; the program's own looks are off. -/
theorem plain (f : FuncId) (fn : Func) (hf : Tryd.pinned.checked.prog.funcNamed "solstice/solsticelaw14.ValidEach" = some f) (hfn : Tryd.pinned.checked.prog.funcs[f]? = some fn) :
    false = Tryd.pinned.checked.prog.looks [] ∧ ∀ (j : Nat) t, fn.params[j]? = some t → Tryd.pinned.checked.prog.wantsStandIn t = false := by
  obtain rfl : f = 3 := Option.some.inj ((show Tryd.prog.funcNamed "solstice/solsticelaw14.ValidEach" = some 3 by kernel_rfl).symm.trans hf) |>.symm
  obtain rfl : fn = Tryd.f3 := (Option.some.inj (Tryd.func3.symm.trans hfn)).symm
  refine ⟨by kernel_rfl, fun j t ht => ?_⟩
  rw [Tryd.params3] at ht
  have hm : t ∈ [26, 34, 37] := by
    have := Array.mem_of_getElem? ht
    simp at this ⊢
    omega
  simp only [List.mem_cons, List.not_mem_nil, or_false] at hm
  rcases hm with rfl | rfl | rfl
  · exact (show Tryd.prog.wantsStandIn 26 = false by kernel_rfl)
  · exact (show Tryd.prog.wantsStandIn 34 = false by kernel_rfl)
  · exact (show Tryd.prog.wantsStandIn 37 = false by kernel_rfl)

/-- The statement: the tied card. -/
theorem card : Rows.ValidEachCardSaid :=
  Claim7.holds_tied_plain_at .later [] _ _ _ _ said (fun _ h => by cases h) (by kernel_rfl) (fun _ h => by cases h) validEach_row_tie rfl ⟨rfl, rfl⟩ (by kernel_rfl) rfl plain (by kernel_rfl)
end Go.Proofs.YtfobllagmakjdaaDoor.validEach
