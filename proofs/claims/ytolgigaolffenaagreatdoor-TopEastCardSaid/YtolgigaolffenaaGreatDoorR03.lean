/- TopEast at a row's arguments. -/
import Derived.Test.YtolgigaolffenaaGreatDoorQ01
import Derived.Test.YtolgigaolffenaaGreatDoorQ02
import Derived.Test.YtolgigaolffenaaGreatDoorQ03
import Derived.Test.YtolgigaolffenaaGreatDoorQ04
import Derived.Test.YtolgigaolffenaaGreatDoorQ05
import Derived.Test.YtolgigaolffenaaGreatDoorQ06
import Derived.Test.YtolgigaolffenaaGreatDoorQ07
import Derived.Test.YtolgigaolffenaaGreatDoorQ08
import Derived.Test.YtolgigaolffenaaGreatDoorQ09
import Derived.Test.YtolgigaolffenaaGreatDoorQ10
import Derived.Test.YtolgigaolffenaaGreatDoorQ11
import Derived.Test.YtolgigaolffenaaGreatDoorQ12
import Derived.Test.YtolgigaolffenaaGreatDoorQ13
import Derived.Test.YtolgigaolffenaaGreatDoorQ14
import Derived.Test.YtolgigaolffenaaGreatDoorQ15
import Derived.Test.YtolgigaolffenaaGreatDoorQ16
import Derived.Test.YtolgigaolffenaaGreatDoorQ17
import Derived.Test.YtolgigaolffenaaGreatDoorQ18
import Derived.Test.YtolgigaolffenaaGreatDoorQ19
import Derived.Test.YtolgigaolffenaaGreatDoorQ20
import Derived.Test.YtolgigaolffenaaGreatDoorQ21
import Derived.Test.YtolgigaolffenaaGreatDoorQ22
import Derived.Test.YtolgigaolffenaaGreatDoorQ23
import Derived.Test.YtolgigaolffenaaGreatDoorQ24
import Derived.Test.YtolgigaolffenaaGreatDoorQ25
import Derived.Test.YtolgigaolffenaaGreatDoorQ26
import Derived.Test.YtolgigaolffenaaGreatDoorQ27
import Derived.Test.YtolgigaolffenaaGreatDoorQ28
import Derived.Test.YtolgigaolffenaaGreatDoorQ29
import Derived.Test.YtolgigaolffenaaGreatDoorQ30
import Derived.Test.YtolgigaolffenaaGreatDoorQ31
import Derived.Test.YtolgigaolffenaaGreatDoorQ32
import Derived.Test.YtolgigaolffenaaGreatDoorQ33
import Derived.Test.YtolgigaolffenaaGreatDoorQ34
import Derived.Test.YtolgigaolffenaaGreatDoorQ35
import Derived.Test.YtolgigaolffenaaGreatDoorQ36
import Derived.Test.YtolgigaolffenaaGreatDoorQ37
import Derived.Test.YtolgigaolffenaaGreatDoorQ38
import Derived.Test.YtolgigaolffenaaGreatDoorQ39
import Derived.Test.YtolgigaolffenaaGreatDoorQa01
import Derived.Test.YtolgigaolffenaaGreatDoorR02
import Derived.Test.YtolgigaolffenaaGreatDoorCards
import Derived.Test.YtolgigaolffenaaGreatDoorTie
import Derived.ProofKit
import Derived.OpenShut
import Derived.ShutString
import Derived.ChangeOld
import Derived.LaidMore
import Derived.Stop.LaidErr
import Derived.Deep.DeepHandedRow
import Derived.Lib.LaidTab
import Derived.Lib.SmallJoins

namespace Go.Proofs.YtolgigaolffenaaGreatDoor
open Go.RowKit

theorem topEast_row (s : Src.S) (rv zv lv : Value) (evs : List Value) (z more lo hi : Int) (w : World) (hT : Wo w ∧ Wa w) (hR : Src.SrcR w w.heap.size s rv zv lv evs) (hw : Src.Wide s) (hz : (Lit.int .i64 z).wf = true) (hmore : (Lit.int .i64 more).wf = true) (hlo : (Lit.int .i64 lo).wf = true) (hhi : (Lit.int .i64 hi).wf = true) :
    Calls Tryz.prog 5 #[.agg #[rv, zv, lv], .int .i64 z, .int .i64 more, .int .i64 lo, .int .i64 hi] w fun e w' => e = .returned (.bool true) ∧ Below w.heap.size w w' :=
  topEast_any s z more lo hi rv zv lv evs w hR hw hT.1 hT.2 (by have := i64_range hz; omega) (by have := i64_range hlo; omega) (by have := i64_range hhi; omega) (by have := i64_range hmore; omega)
end Go.Proofs.YtolgigaolffenaaGreatDoor

/-
  TopEast: whatever comes in, the law returns true and each argument reads as it did.
  Conditions: the listed package-level tables read as the program's text lays them (the card ties them to it).
-/
namespace Go.Proofs.YtolgigaolffenaaGreatDoor.topEast
open Go.ChangeShapes Go.WideShapes Go.ChangeAt Go.RowKit Go.Joins
open Go.ChangeMaps (open_string shut_string)

theorem own : ownKnob Tryz.prog.godebug = none := by kernel_rfl
theorem laidOut : laidOutB Tryz.prog = true := by kernel_rfl
theorem g_places : Tryz.prog.globalNamed "solstice/abbr.places" = some 1 := by kernel_rfl
theorem t_places : (Tryz.prog.globals[1]?).map (·.type) = some 272 := by kernel_rfl
theorem g_lens : Tryz.prog.globalNamed "solstice/civil.lengths" = some 0 := by kernel_rfl
theorem t_lens : (Tryz.prog.globals[0]?).map (·.type) = some 222 := by kernel_rfl

theorem wo_of {W : World} (h : laidMetH Tryz.prog Rows.topEastRow.laid W) (hS : W.ShapedOpen Tryz.prog) : Wo W ∧ Wa W := by
  have h0 : laidMet Tryz.prog Rows.topEastRow.laid W := h
  have h1 := h0.tail
  have x_lens : Lib.TabIs Tryz.prog W "solstice/civil.lengths" .i64 Cv.lens := Lib.tabIs_of_head g_lens t_lens Tryz.underlying222 Tryz.underlying3 (by kernel_rfl) (by kernel_rfl) h0
  have x_places := strs_of_head (ls := [[37, 115], [37, 122]]) (rest := []) g_places t_places Tryz.underlying272 Tryz.underlying9 (by kernel_rfl) (by kernel_rfl) h1
  exact ⟨⟨fun k hk => x_lens.cell g_lens k hk, Tryz.laysM145.s1_3 W hS⟩, ⟨x_places 0 _ rfl, x_places 1 _ rfl, Tryz.laysM145.s1_3 W hS⟩⟩

noncomputable def laidWorld (os : Os) : World := World.doorLaid Tryz.prog 4000 os
theorem laid_met (os : Os) : laidMet Tryz.prog Rows.topEastRow.laid ((laidWorld os).forCall (fun _ _ => 0) ⟨#[], #[.agg #[.slice none 0 0, .slice none 0 0, .slice none 0 0], .int .i64 0, .int .i64 0, .int .i64 0, .int .i64 0], []⟩).memory :=
  laidMet_of_run' 8 (by kernel_rfl) (by kernel_rfl)
theorem reads (os : Os) {H : Type} (enc : TypeId × Value → H) : ∃ places, DataW.whole enc Tryz.prog ((laidWorld os).forCall (fun _ _ => 0) ⟨#[], #[.agg #[.slice none 0 0, .slice none 0 0, .slice none 0 0], .int .i64 0, .int .i64 0, .int .i64 0, .int .i64 0], []⟩).memory Tryz.f5.params.toList Rows.topEastSpec.vars false #[Value.agg #[.slice none 0 0, .slice none 0 0, .slice none 0 0], .int .i64 0, .int .i64 0, .int .i64 0, .int .i64 0].toList 8 = some ([.agg [.nil, .nil, .nil], .lit (.int .i64 0), .lit (.int .i64 0), .lit (.int .i64 0), .lit (.int .i64 0)], [], places) :=
  ⟨[], by kernel_rfl⟩

set_option maxRecDepth 100000 in
set_option maxHeartbeats 4000000 in
theorem contract (H : Type) (enc : TypeId × Value → H) (W : World) (base : Nat) (args : Array Value) (ds gs : List (DataW H)) (before : List MemPlace)
    (hval : ∀ (j : Nat) t v, Tryz.f5.params[j]? = some t → args[j]? = some v → Value.okWide Tryz.prog W .any base t v)
    (hW : DataW.Whole enc Tryz.prog Tryz.f5.params.toList Rows.topEastSpec.vars false W args.toList ds gs before) (hL : laidMetH Tryz.prog Rows.topEastRow.laid W) (hS : W.ShapedOpen Tryz.prog) :
    Calls Tryz.prog 5 args W fun e W' => ∃ v, e = .returned v ∧ Rows.topEastSpec.post enc Tryz.prog Tryz.f5 false true false false W args v W' := by
  have hW' := hW
  obtain ⟨p, q, hA0, hV, rfl, hfz, hnd⟩ := hW
  have hA : DataW.TrodAll enc Tryz.prog W 0 (fun _ => true) true Tryz.f5.params.toList args.toList ds p := hA0
  rw [Tryz.params5] at hA hval
  obtain ⟨v0, vs0, d0, ds0, p0, q0, hargs, rfl, rfl, h0, r0⟩ := trodAll_cons hA
  obtain ⟨v1, vs1, d1, ds1, p1, q1, rfl, rfl, rfl, h1, r1⟩ := trodAll_cons r0
  obtain ⟨v2, vs2, d2, ds2, p2, q2, rfl, rfl, rfl, h2, r2⟩ := trodAll_cons r1
  obtain ⟨v3, vs3, d3, ds3, p3, q3, rfl, rfl, rfl, h3, r3⟩ := trodAll_cons r2
  obtain ⟨v4, vs4, d4, ds4, p4, q4, rfl, rfl, rfl, h4, r4⟩ := trodAll_cons r3
  obtain ⟨rfl, rfl, rfl⟩ := trodAll_nil r4
  obtain rfl : args = #[v0, v1, v2, v3, v4] := by cases args; simp_all
  obtain ⟨rfl, rfl⟩ := trodVars_none hV
  have k0 := h0
  have lt0 : ∀ x ∈ p0, x.block < W.heap.size := by obtain ⟨m, hm⟩ := k0; exact DataW.trod_lt m _ _ _ hm
  obtain ⟨s0, rv0, zv0, lv0, evs0, rfl, hsr0, hsw0⟩ := open_source (hval 0 26 v0 rfl rfl) h0
  obtain ⟨z, rfl, rfl, rfl, wz⟩ := open_int Tryz.underlying3 (hval 1 3 v1 rfl rfl) h1
  obtain ⟨more, rfl, rfl, rfl, wmore⟩ := open_int Tryz.underlying2 (hval 2 2 v2 rfl rfl) h2
  obtain ⟨lo, rfl, rfl, rfl, wlo⟩ := open_int Tryz.underlying3 (hval 3 3 v3 rfl rfl) h3
  obtain ⟨hi, rfl, rfl, rfl, whi⟩ := open_int Tryz.underlying3 (hval 4 3 v4 rfl rfl) h4
  clear hA0
  refine (topEast_row s0 rv0 zv0 lv0 evs0 z more lo hi W (wo_of hL hS) hsr0 hsw0 wz wmore wlo whi).mono fun e W' ⟨he, bel⟩ => ?_
  subst he
  exact ⟨_, rfl, _, _, _, [], _, [], hW', trodAll_mk1 (shut_bool Tryz.underlying4 _), (trodAll_cons_mk (Below.trod laidOut (by kernel_rfl) (of_decide_eq_true (by kernel_rfl)) k0 bel lt0) (trodAll_cons_mk (shut_int Tryz.underlying3 wz) (trodAll_cons_mk (shut_int Tryz.underlying2 wmore) (trodAll_cons_mk (shut_int Tryz.underlying3 wlo) (trodAll_cons_mk (shut_int Tryz.underlying3 whi) trodAll_mk0))))), rfl, bel.frame _, fun h => by cases h⟩

set_option maxRecDepth 100000 in
theorem lifted (os : Os) (started : os.Started) (H : Type) (enc : TypeId × Value → H) (F : Stop.Interp) :
    ReturnsInHanded {} Tryz.checked os 5 .any ((OpenSpec.ofChange Rows.topEastSpec).preRow enc Tryz.prog Tryz.f5 Rows.topEastRow.domain false Rows.topEastRow.laid) (((OpenSpec.ofChange Rows.topEastSpec).at F).post enc Tryz.prog Tryz.f5 false true false false) := by
  obtain ⟨places, hx⟩ := reads os enc
  refine returnsInHanded_of_row (C := Tryz.checked) (s := OpenSpec.ofChange Rows.topEastSpec) own started (by kernel_rfl) Tryz.func5
    (witness_row_at (enc := enc) (C := Tryz.checked) false (laidWorld os) #[.agg #[.slice none 0 0, .slice none 0 0, .slice none 0 0], .int .i64 0, .int .i64 0, .int .i64 0, .int .i64 0] rfl (by kernel_rfl) (by kernel_rfl) (by kernel_rfl)
      (OpenSpec.preRow_of_cond 8 hx (by kernel_rfl) (fun k hk => by cases hk) (by kernel_rfl) (laid_met os))) ?_
  intro W base args ds gs before hval hW _ _ _ hL hS _
  exact contract H enc W base args ds gs before hval hW hL hS

theorem said : Rows.TopEastSaid :=
  OpenClaim.holds_of_cond 5 Tryz.f5 rfl rfl rfl rfl rfl rfl rfl ⟨rfl, rfl, rfl, rfl, rfl⟩ rfl rfl rfl rfl rfl (by kernel_rfl) Tryz.func5 (by kernel_rfl)
    (of_decide_eq_true (by kernel_rfl)) (by unfold Func.isWrapper; first | (rw [if_pos (by decide +kernel)]; kernel_rfl) | (rw [if_neg (by decide +kernel)]; exact ⟨rfl, rfl⟩))
    (fun os started H enc _ F => by rw [OpenClaim.pre_eq_preRow]; exact lifted os started H enc F)

theorem plain (f : FuncId) (fn : Func) (hf : Tryz.pinned.checked.prog.funcNamed "solstice/solsticetop.TopEast" = some f) (hfn : Tryz.pinned.checked.prog.funcs[f]? = some fn) :
    false = Tryz.pinned.checked.prog.looks [] ∧ ∀ (j : Nat) t, fn.params[j]? = some t → Tryz.pinned.checked.prog.wantsStandIn t = false := by
  obtain rfl : f = 5 := Option.some.inj ((show Tryz.prog.funcNamed "solstice/solsticetop.TopEast" = some 5 by kernel_rfl).symm.trans hf) |>.symm
  obtain rfl : fn = Tryz.f5 := (Option.some.inj (Tryz.func5.symm.trans hfn)).symm
  refine ⟨by kernel_rfl, fun j t ht => ?_⟩
  rw [Tryz.params5] at ht
  have hm : t ∈ [26, 3, 2] := by
    have := Array.mem_of_getElem? ht
    simp at this ⊢
    first | omega | (rcases this with h | h | h | h <;> simp [h]) | (rcases this with h | h | h <;> simp [h]) | (rcases this with h | h | h | h | h <;> simp [h])
  simp only [List.mem_cons, List.not_mem_nil, or_false] at hm
  rcases hm with rfl | rfl | rfl
  · exact (show Tryz.prog.wantsStandIn 26 = false by kernel_rfl)
  · exact (show Tryz.prog.wantsStandIn 3 = false by kernel_rfl)
  · exact (show Tryz.prog.wantsStandIn 2 = false by kernel_rfl)

theorem card : Rows.TopEastCardSaid :=
  Claim7.holds_tied_plain_at .later [] _ _ _ _ said (fun _ h => by cases h) (by kernel_rfl) (fun _ h => by cases h) topEast_row_tie rfl ⟨rfl, rfl⟩ (by kernel_rfl) rfl plain (by kernel_rfl)
end Go.Proofs.YtolgigaolffenaaGreatDoor.topEast
