/- DiffBack: the law as it stands in memory: the contract, lifted. -/
import Derived.Test.YtjobhjemnmleaaaGreatDoorCards
import Derived.Test.YtjobhjemnmleaaaGreatDoorTie
import Derived.Test.YtjobhjemnmleaaaGreatDoorQ50
import Derived.ShutString
import Derived.ChangeOld
import Derived.LaidMore
import Derived.Stop.LaidErr
import Derived.Deep.DeepHandedRow
set_option maxRecDepth 100000
set_option maxHeartbeats 40000000
namespace Go.Proofs.YtjobhjemnmleaaaGreatDoor.diffBack
open Go.ChangeShapes Go.WideShapes Go.ChangeAt Go.RowKit Go.Joins
open Go.ChangeMaps (open_string shut_string)
theorem own : ownKnob Tryz.prog.godebug = none := by kernel_rfl
theorem laidOut : laidOutB Tryz.prog = true := by kernel_rfl
theorem g_places : Tryz.prog.globalNamed "solstice/abbr.places" = some 1 := by kernel_rfl
theorem t_places : (Tryz.prog.globals[1]?).map (·.type) = some 336 := by kernel_rfl
theorem g_lens : Tryz.prog.globalNamed "solstice/civil.lengths" = some 0 := by kernel_rfl
theorem t_lens : (Tryz.prog.globals[0]?).map (·.type) = some 323 := by kernel_rfl
theorem wo_of {W : World} (h : laidMetH Tryz.prog Rows.diffBackRow.laid W) (hS : W.ShapedOpen Tryz.prog) : Wo W ∧ Wa W := by
 have h0 : laidMet Tryz.prog Rows.diffBackRow.laid W := h;have h1 := h0.tail;have x_lens : Lib.TabIs Tryz.prog W "solstice/civil.lengths" .i64 Cv.lens := Lib.tabIs_of_head g_lens t_lens Tryz.underlying323 Tryz.underlying3 (by kernel_rfl) (by kernel_rfl) h0;have x_places := strs_of_head (ls := [[37, 115], [37, 122]]) (rest := []) g_places t_places Tryz.underlying336 Tryz.underlying9 (by kernel_rfl) (by kernel_rfl) h1;exact ⟨⟨fun k hk => x_lens.cell g_lens k hk, Tryz.laysM145.s1_3 W hS⟩, ⟨x_places 0 _ rfl, x_places 1 _ rfl, Tryz.laysM145.s1_3 W hS⟩⟩
noncomputable def laidWorld (os : Os) : World := World.doorLaid Tryz.prog 4000 os
theorem laid_met (os : Os) : laidMet Tryz.prog Rows.diffBackRow.laid ((laidWorld os).forCall (fun _ _ => 0) ⟨#[], #[.agg #[.slice none 0 0, .slice none 0 0, .slice none 0 0], .agg #[.slice none 0 0, .slice none 0 0, .slice none 0 0], .int .i64 0, .int .i64 0, .int .i64 0], []⟩).memory :=
 laidMet_of_run' 8 (by kernel_rfl) (by kernel_rfl)
theorem reads (os : Os) {H : Type} (enc : TypeId × Value → H) : ∃ places, DataW.whole enc Tryz.prog ((laidWorld os).forCall (fun _ _ => 0) ⟨#[], #[.agg #[.slice none 0 0, .slice none 0 0, .slice none 0 0], .agg #[.slice none 0 0, .slice none 0 0, .slice none 0 0], .int .i64 0, .int .i64 0, .int .i64 0], []⟩).memory Tryz.f3.params.toList Rows.diffBackSpec.vars false #[Value.agg #[.slice none 0 0, .slice none 0 0, .slice none 0 0], .agg #[.slice none 0 0, .slice none 0 0, .slice none 0 0], .int .i64 0, .int .i64 0, .int .i64 0].toList 8 = some ([.agg [.nil, .nil, .nil], .agg [.nil, .nil, .nil], .lit (.int .i64 0), .lit (.int .i64 0), .lit (.int .i64 0)], [], places) :=
 ⟨[], by kernel_rfl⟩
theorem contract (H : Type) (enc : TypeId × Value → H) (W : World) (base : Nat) (args : Array Value) (ds gs : List (DataW H)) (before : List MemPlace)
  (hval : ∀ (j : Nat) t v, Tryz.f3.params[j]? = some t → args[j]? = some v → Value.okWide Tryz.prog W .any base t v)
  (hW : DataW.Whole enc Tryz.prog Tryz.f3.params.toList Rows.diffBackSpec.vars false W args.toList ds gs before) (hL : laidMetH Tryz.prog Rows.diffBackRow.laid W) (hS : W.ShapedOpen Tryz.prog) :
  Calls Tryz.prog 3 args W fun e W' => ∃ v, e = .returned v ∧ Rows.diffBackSpec.post enc Tryz.prog Tryz.f3 false true false false W args v W' := by
 have hW' := hW;obtain ⟨p, q, hA0, hV, rfl, hfz, hnd⟩ := hW;have hA : DataW.TrodAll enc Tryz.prog W 0 (fun _ => true) true Tryz.f3.params.toList args.toList ds p := hA0;rw [Tryz.params3] at hA hval;obtain ⟨v0, vs0, d0, ds0, p0, q0, hargs, rfl, rfl, h0, r0⟩ := trodAll_cons hA;obtain ⟨v1, vs1, d1, ds1, p1, q1, rfl, rfl, rfl, h1, r1⟩ := trodAll_cons r0;obtain ⟨v2, vs2, d2, ds2, p2, q2, rfl, rfl, rfl, h2, r2⟩ := trodAll_cons r1;obtain ⟨v3, vs3, d3, ds3, p3, q3, rfl, rfl, rfl, h3, r3⟩ := trodAll_cons r2;obtain ⟨v4, vs4, d4, ds4, p4, q4, rfl, rfl, rfl, h4, r4⟩ := trodAll_cons r3;obtain ⟨rfl, rfl, rfl⟩ := trodAll_nil r4;obtain rfl : args = #[v0, v1, v2, v3, v4] := by cases args; simp_all
 obtain ⟨rfl, rfl⟩ := trodVars_none hV;have k0 := h0;have lt0 : ∀ x ∈ p0, x.block < W.heap.size := by obtain ⟨m, hm⟩ := k0; exact DataW.trod_lt m _ _ _ hm
 obtain ⟨s0, rv0, zv0, lv0, evs0, rfl, hsr0, hsw0⟩ := open_source (hval 0 26 v0 rfl rfl) h0;have k1 := h1;have lt1 : ∀ x ∈ p1, x.block < W.heap.size := by obtain ⟨m, hm⟩ := k1; exact DataW.trod_lt m _ _ _ hm
 obtain ⟨s1, rv1, zv1, lv1, evs1, rfl, hsr1, hsw1⟩ := open_source (hval 1 26 v1 rfl rfl) h1;obtain ⟨lo, rfl, rfl, rfl, wlo⟩ := open_int Tryz.underlying3 (hval 2 3 v2 rfl rfl) h2;obtain ⟨hi, rfl, rfl, rfl, whi⟩ := open_int Tryz.underlying3 (hval 3 3 v3 rfl rfl) h3;obtain ⟨t, rfl, rfl, rfl, wt⟩ := open_int Tryz.underlying2 (hval 4 2 v4 rfl rfl) h4;clear hA0;refine (diffBack_row s0 rv0 zv0 lv0 evs0 s1 rv1 zv1 lv1 evs1 lo hi t W (wo_of hL hS) hsr0 hsw0 hsr1 hsw1 wlo whi wt).mono fun e W' ⟨he, bel⟩ => ?_
 subst he;exact ⟨_, rfl, _, _, _, [], _, [], hW', trodAll_mk1 (shut_bool Tryz.underlying4 _), (trodAll_cons_mk (Below.trod laidOut (by kernel_rfl) (of_decide_eq_true (by kernel_rfl)) k0 bel lt0) (trodAll_cons_mk (Below.trod laidOut (by kernel_rfl) (of_decide_eq_true (by kernel_rfl)) k1 bel lt1) (trodAll_cons_mk (shut_int Tryz.underlying3 wlo) (trodAll_cons_mk (shut_int Tryz.underlying3 whi) (trodAll_cons_mk (shut_int Tryz.underlying2 wt) trodAll_mk0))))), rfl, bel.frame _, fun h => by cases h⟩
theorem lifted (os : Os) (started : os.Started) (H : Type) (enc : TypeId × Value → H) (F : Stop.Interp) :
  ReturnsInHanded {} Tryz.checked os 3 .any ((OpenSpec.ofChange Rows.diffBackSpec).preRow enc Tryz.prog Tryz.f3 Rows.diffBackRow.domain false Rows.diffBackRow.laid) (((OpenSpec.ofChange Rows.diffBackSpec).at F).post enc Tryz.prog Tryz.f3 false true false false) := by
 obtain ⟨places, hx⟩ := reads os enc;refine returnsInHanded_of_row (C := Tryz.checked) (s := OpenSpec.ofChange Rows.diffBackSpec) own started (by kernel_rfl) Tryz.func3
  (witness_row_at (enc := enc) (C := Tryz.checked) false (laidWorld os) #[.agg #[.slice none 0 0, .slice none 0 0, .slice none 0 0], .agg #[.slice none 0 0, .slice none 0 0, .slice none 0 0], .int .i64 0, .int .i64 0, .int .i64 0] rfl (by kernel_rfl) (by kernel_rfl) (by kernel_rfl)
   (OpenSpec.preRow_of_cond 8 hx (by kernel_rfl) (fun k hk => by cases hk) (by kernel_rfl) (laid_met os))) ?_
 intro W base args ds gs before hval hW _ _ _ hL hS _;exact contract H enc W base args ds gs before hval hW hL hS
theorem closed_and {a b : Bool} (ha : a = true) (hb : b = true) : (a && b) = true := by rw [ha, hb]; rfl
theorem closed : joinedFacts Tryz.prog 3 Tryz.f3 (OpenSpec.ofChange Rows.diffBackSpec).bare Rows.diffBackRow = true := by
 unfold joinedFacts
 repeat' with_reducible refine closed_and ?_ ?_
 all_goals as_aux_lemma => kernel_rfl
theorem said : Rows.DiffBackSaid :=
 OpenClaim.holds_of_cond 3 Tryz.f3 rfl rfl rfl rfl rfl rfl rfl ⟨rfl, rfl, rfl, rfl, rfl⟩ rfl rfl rfl rfl rfl (by kernel_rfl) Tryz.func3 closed
  (of_decide_eq_true (by kernel_rfl)) (by unfold Func.isWrapper; first | (rw [if_pos (by decide +kernel)]; kernel_rfl) | (rw [if_neg (by decide +kernel)]; exact ⟨rfl, rfl⟩))
  (fun os started H enc _ F => by rw [OpenClaim.pre_eq_preRow]; exact lifted os started H enc F)
theorem plain (f : FuncId) (fn : Func) (hf : Tryz.pinned.checked.prog.funcNamed "solstice/solsticelaw46.DiffBack" = some f) (hfn : Tryz.pinned.checked.prog.funcs[f]? = some fn) :
  false = Tryz.pinned.checked.prog.looks [] ∧ ∀ (j : Nat) t, fn.params[j]? = some t → Tryz.pinned.checked.prog.wantsStandIn t = false := by
 obtain rfl : f = 3 := Option.some.inj ((show Tryz.prog.funcNamed "solstice/solsticelaw46.DiffBack" = some 3 by kernel_rfl).symm.trans hf) |>.symm;obtain rfl : fn = Tryz.f3 := (Option.some.inj (Tryz.func3.symm.trans hfn)).symm;refine ⟨by kernel_rfl, fun j t ht => ?_⟩;rw [Tryz.params3] at ht;have hm : t ∈ [26, 3, 2] := by
  have := Array.mem_of_getElem? ht;simp at this ⊢
  first | omega | (rcases this with h | h | h | h <;> simp [h]) | (rcases this with h | h | h <;> simp [h]) | (rcases this with h | h | h | h | h <;> simp [h])
 simp only [List.mem_cons, List.not_mem_nil, or_false] at hm;rcases hm with rfl | rfl | rfl
 ·exact (show Tryz.prog.wantsStandIn 26 = false by kernel_rfl)
 ·exact (show Tryz.prog.wantsStandIn 3 = false by kernel_rfl)
 ·exact (show Tryz.prog.wantsStandIn 2 = false by kernel_rfl)
theorem card : Rows.DiffBackCardSaid :=
 Claim7.holds_tied_plain_at .later [] _ _ _ _ said (fun _ h => by cases h) (by kernel_rfl) (fun _ h => by cases h) diffBack_row_tie rfl ⟨rfl, rfl⟩ (by kernel_rfl) rfl plain (by kernel_rfl)
end Go.Proofs.YtjobhjemnmleaaaGreatDoor.diffBack
