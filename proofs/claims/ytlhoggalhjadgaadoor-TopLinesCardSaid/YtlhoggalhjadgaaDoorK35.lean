/- A Rule, and an Era, among a row's arguments, opened: their strings obey the form's reach. -/
import Derived.Test.YtlhoggalhjadgaaDoorK34
import Derived.SizedLaws
import Derived.Test.YtlhoggalhjadgaaDoorCards
import Derived.Test.YtlhoggalhjadgaaDoorTie
import Derived.ProofKit
import Derived.OpenShut
import Derived.ShutString
import Derived.ChangeOld
import Derived.LaidMore
import Derived.Stop.LaidErr
import Derived.Deep.DeepHandedRow
import Derived.Lib.LaidTab
import Derived.Lib.SmallJoins
namespace Go.Proofs.YtlhoggalhjadgaaDoor
open Go.ChangeShapes Go.WideShapes Go.ChangeAt Go.RowKit Go.Joins
theorem field_sized {H : Type} {enc : TypeId × Value → H} {P : Program} {w : World} {base : Nat} {spare : Nat → Bool} {held : Bool} {fuel : Nat} {t : TypeId} {fs : Array Field} {cs : List Value} {x : DataW H × List MemPlace} {ts : List TypeId} {ds : List (DataW H)} {j i : Nat} {f : Field} {s : ByteArray}
    (ht : P.underlying t = some (.struct fs)) (h : DataW.trod enc P w base spare held fuel t cs = some x) (hz : (DataW.weightsEach P ts ds).all (· ≤ reachBytes) = true) (hj : ts[j]? = some t) (hd : ds[j]? = some x.1)
    (hi : fs[i]? = some f) (hs : P.underlying f.type = some .string) (hc : (cs.drop f.offset).take (P.cellsOf f.type) = [.string s]) : s.size ≤ 140737488355328 := by
  obtain ⟨xs, n, _, rfl, _, hlen, hf⟩ := DataW.trod_struct ht h
  have hE := hf i f hi
  have hlt : i < xs.length := by rw [hlen]; exact (Array.getElem?_eq_some_iff.1 hi).1
  rw [hc, List.getElem?_eq_getElem hlt] at hE
  obtain ⟨s', e1, e2, _⟩ := DataW.trod_string hs hE
  obtain rfl : s = s' := by simpa using e1
  have hx : (xs.map (·.1))[i]? = some (.lit (.string s.data.toList)) := by rw [List.getElem?_map, List.getElem?_eq_getElem hlt, e2]; rfl
  have hty : (fs.toList.map (·.type))[i]? = some f.type := by rw [List.getElem?_map, Array.getElem?_toList, hi]; rfl
  have hm : s.data.toList.length ∈ DataW.weights P t (.agg (xs.map (·.1)) : DataW H) := by
    unfold DataW.weights
    rw [ht]
    exact DataW.weights_mem_each hty hx _ (by simp [DataW.weights])
  have := of_decide_eq_true (List.all_eq_true.1 hz _ (DataW.weights_mem_each hj hd _ hm))
  rw [Array.length_toList] at this
  exact Nat.le_trans this (by decide)
set_option maxRecDepth 100000 in
theorem rule_sized {H : Type} {enc : TypeId × Value → H} {w : World} {base : Nat} {spare : Nat → Bool} {held : Bool} {r : Ru.R} {d : DataW H} {p : List MemPlace} {ts : List TypeId} {ds : List (DataW H)} {j : Nat}
    (h : DataW.Trod enc Tryd.prog w base spare held 29 r.v d p) (hz : (DataW.weightsEach Tryd.prog ts ds).all (· ≤ reachBytes) = true) (hj : ts[j]? = some 29) (hd : ds[j]? = some d) : r.nm.size ≤ 140737488355328 ∧ r.lt.size ≤ 140737488355328 := by
  have q6 : Tryd.prog.cellsOf 9 = 1 := by kernel_rfl
  obtain ⟨fuel, hf⟩ := h
  exact ⟨field_sized Tryd.underlying29 hf hz hj hd (i := 0) rfl Tryd.underlying9 (by show List.take (Tryd.prog.cellsOf 9) _ = _; rw [q6]; rfl), field_sized Tryd.underlying29 hf hz hj hd (i := 7) rfl Tryd.underlying9 (by show List.take (Tryd.prog.cellsOf 9) _ = _; rw [q6]; rfl)⟩
set_option maxRecDepth 100000 in
theorem era_sized {H : Type} {enc : TypeId × Value → H} {w : World} {base : Nat} {spare : Nat → Bool} {held : Bool} {e : Er.E} {d : DataW H} {p : List MemPlace} {ts : List TypeId} {ds : List (DataW H)} {j : Nat}
    (h : DataW.Trod enc Tryd.prog w base spare held 34 e.v d p) (hz : (DataW.weightsEach Tryd.prog ts ds).all (· ≤ reachBytes) = true) (hj : ts[j]? = some 34) (hd : ds[j]? = some d) : e.ru.size ≤ 140737488355328 ∧ e.fm.size ≤ 140737488355328 := by
  have q6 : Tryd.prog.cellsOf 9 = 1 := by kernel_rfl
  obtain ⟨fuel, hf⟩ := h
  exact ⟨field_sized Tryd.underlying34 hf hz hj hd (i := 3) rfl Tryd.underlying9 (by show List.take (Tryd.prog.cellsOf 9) _ = _; rw [q6]; rfl), field_sized Tryd.underlying34 hf hz hj hd (i := 4) rfl Tryd.underlying9 (by show List.take (Tryd.prog.cellsOf 9) _ = _; rw [q6]; rfl)⟩
end Go.Proofs.YtlhoggalhjadgaaDoor
/-
  TopLines: whatever comes in, the law returns true and each argument reads as it did.
  Conditions: the listed package-level tables read as the program's text lays them (the card ties them to it).
-/
namespace Go.Proofs.YtlhoggalhjadgaaDoor.topLines
open Go.ChangeShapes Go.WideShapes Go.ChangeAt Go.RowKit Go.Joins
open Go.ChangeMaps (open_string shut_string)

theorem u8_nonneg {c : Int} (h : (Lit.int .u8 c).wf = true) : 0 ≤ c := by
  have : 0 ≤ c ∧ c ≤ 255 := by simpa [Lit.wf, IntKind.min, IntKind.max, IntKind.signed, IntKind.bits] using h
  exact this.1
theorem own : ownKnob Tryd.prog.godebug = none := by kernel_rfl
theorem laidOut : laidOutB Tryd.prog = true := by kernel_rfl
theorem g_places : Tryd.prog.globalNamed "solstice/abbr.places" = some 1 := by kernel_rfl
theorem t_places : (Tryd.prog.globals[1]?).map (·.type) = some 118 := by kernel_rfl
theorem g_pow : Tryd.prog.globalNamed "internal/strconv.uint64pow10" = some 2 := by kernel_rfl
theorem t_pow : (Tryd.prog.globals[2]?).map (·.type) = some 133 := by kernel_rfl
theorem g_parts : Tryd.prog.globalNamed "solstice/clock.parts" = some 0 := by kernel_rfl
theorem t_parts : (Tryd.prog.globals[0]?).map (·.type) = some 78 := by kernel_rfl

/-- What the program's variables hold where the call begins. -/
theorem wo_of {W : World} (h : laidMetH Tryd.prog Rows.topLinesRow.laid W) (hS : W.ShapedOpen Tryd.prog) : We W := by
  have h0 : laidMet Tryd.prog Rows.topLinesRow.laid W := h
  have h1 := h0.tail
  have h2 := h1.tail
  have h3 := h2.tail
  have h4 := h3.tail
  have h5 := h4.tail
  have x_pow : Lib.TabIs Tryd.prog W "internal/strconv.uint64pow10" .u64 Lib.pow10Tab := Lib.tabIs_of_head g_pow t_pow Tryd.underlying133 Tryd.underlying122 (by kernel_rfl) (by kernel_rfl) h2
  have x_parts : Lib.TabIs Tryd.prog W "solstice/clock.parts" .i64 [3600, 60, 1] := Lib.tabIs_of_head g_parts t_parts Tryd.underlying78 Tryd.underlying2 (by kernel_rfl) (by kernel_rfl) h5
  have x_places := strs_of_head (ls := [[37, 115], [37, 122]]) g_places t_places Tryd.underlying118 Tryd.underlying9 (by kernel_rfl) (by kernel_rfl) h4
  exact ⟨⟨x_parts.cell g_parts 0 (by decide), x_parts.cell g_parts 1 (by decide), x_parts.cell g_parts 2 (by decide), Tryd.laysM145.s1_3 W hS, x_pow⟩, ⟨x_places 0 _ rfl, x_places 1 _ rfl, Tryd.laysM145.s1_3 W hS⟩⟩

noncomputable def laidWorld (os : Os) : World :=
  { World.doorLaid Tryd.prog 4000 os with heap := (World.doorLaid Tryd.prog 4000 os).heap.modify 6 fun
      | .cells _ t frozen => .cells ((Go.Pinned.utf8FirstZ.map fun (z : Nat) => Value.int .u8 (Int.ofNat z)).toArray) t frozen
      | o => o }
theorem laid_met (os : Os) : laidMet Tryd.prog Rows.topLinesRow.laid ((laidWorld os).forCall (fun _ _ => 0) ⟨#[], #[.agg #[.string ⟨#[]⟩, .int .i64 0, .int .i64 0, .int .i64 0, .int .u8 0, .int .i64 0, .int .i64 0, .int .i64 0, .int .u8 0, .int .i64 0, .string ⟨#[]⟩], .agg #[.int .i64 0, .int .u8 0, .int .i64 0, .string ⟨#[]⟩, .string ⟨#[]⟩, .bool false, .int .i64 0, .int .i64 0, .int .u8 0, .int .i64 0, .int .i64 0, .int .i64 0, .int .u8 0]], []⟩).memory :=
  laidMet_of_run' 8 (by kernel_rfl) (by kernel_rfl)
theorem reads (os : Os) {H : Type} (enc : TypeId × Value → H) : ∃ places, DataW.whole enc Tryd.prog ((laidWorld os).forCall (fun _ _ => 0) ⟨#[], #[.agg #[.string ⟨#[]⟩, .int .i64 0, .int .i64 0, .int .i64 0, .int .u8 0, .int .i64 0, .int .i64 0, .int .i64 0, .int .u8 0, .int .i64 0, .string ⟨#[]⟩], .agg #[.int .i64 0, .int .u8 0, .int .i64 0, .string ⟨#[]⟩, .string ⟨#[]⟩, .bool false, .int .i64 0, .int .i64 0, .int .u8 0, .int .i64 0, .int .i64 0, .int .i64 0, .int .u8 0]], []⟩).memory Tryd.f3.params.toList Rows.topLinesSpec.vars false #[Value.agg #[.string ⟨#[]⟩, .int .i64 0, .int .i64 0, .int .i64 0, .int .u8 0, .int .i64 0, .int .i64 0, .int .i64 0, .int .u8 0, .int .i64 0, .string ⟨#[]⟩], .agg #[.int .i64 0, .int .u8 0, .int .i64 0, .string ⟨#[]⟩, .string ⟨#[]⟩, .bool false, .int .i64 0, .int .i64 0, .int .u8 0, .int .i64 0, .int .i64 0, .int .i64 0, .int .u8 0]].toList 8 = some ([.agg [.lit (.string []), .lit (.int .i64 0), .lit (.int .i64 0), .lit (.int .i64 0), .agg [.lit (.int .u8 0), .lit (.int .i64 0), .lit (.int .i64 0)], .agg [.lit (.int .i64 0), .lit (.int .u8 0)], .lit (.int .i64 0), .lit (.string [])], .agg [.lit (.int .i64 0), .lit (.int .u8 0), .lit (.int .i64 0), .lit (.string []), .lit (.string []), .lit (.bool false), .agg [.lit (.int .i64 0), .lit (.int .i64 0), .agg [.lit (.int .u8 0), .lit (.int .i64 0), .lit (.int .i64 0)], .agg [.lit (.int .i64 0), .lit (.int .u8 0)]]]], [], places) :=
  ⟨[], by kernel_rfl⟩

set_option maxRecDepth 100000 in
set_option maxHeartbeats 4000000 in
theorem contract (H : Type) (enc : TypeId × Value → H) (W : World) (base : Nat) (args : Array Value) (ds gs : List (DataW H)) (before : List MemPlace)
    (hval : ∀ (j : Nat) t v, Tryd.f3.params[j]? = some t → args[j]? = some v → Value.okWide Tryd.prog W .any base t v)
    (hW : DataW.Whole enc Tryd.prog Tryd.f3.params.toList Rows.topLinesSpec.vars false W args.toList ds gs before) (hL : laidMetH Tryd.prog Rows.topLinesRow.laid W) (hS : W.ShapedOpen Tryd.prog) (hz : (DataW.weightsEach Tryd.prog (Tryd.f3.params.toList ++ (OpenSpec.ofChange Rows.topLinesSpec).bare.plain.varTypes Tryd.prog) (ds ++ gs)).all (· ≤ reachBytes) = true) :
    Calls Tryd.prog 3 args W fun e W' => ∃ v, e = .returned v ∧ Rows.topLinesSpec.post enc Tryd.prog Tryd.f3 false true false false W args v W' := by
  have hW' := hW
  obtain ⟨p, q, hA0, hV, rfl, hfz, hnd⟩ := hW
  have hA : DataW.TrodAll enc Tryd.prog W 0 (fun _ => true) true Tryd.f3.params.toList args.toList ds p := hA0
  rw [Tryd.params3] at hA hval
  obtain ⟨v0, vs0, d0, ds0, p0, q0, hargs, rfl, rfl, h0, r0⟩ := trodAll_cons hA
  obtain ⟨v1, vs1, d1, ds1, p1, q1, rfl, rfl, rfl, h1, r1⟩ := trodAll_cons r0
  obtain ⟨rfl, rfl, rfl⟩ := trodAll_nil r1
  obtain rfl : args = #[v0, v1] := by cases args; simp_all
  obtain ⟨rfl, rfl⟩ := trodVars_none hV
  have k0 := h0
  have lt0 : ∀ x ∈ p0, x.block < W.heap.size := by obtain ⟨m, hm⟩ := k0; exact DataW.trod_lt m _ _ _ hm
  obtain ⟨r, rfl, hrc, hrn, hrl⟩ := open_rule (hval 0 29 v0 rfl rfl) h0
  have k1 := h1
  have lt1 : ∀ x ∈ p1, x.block < W.heap.size := by obtain ⟨m, hm⟩ := k1; exact DataW.trod_lt m _ _ _ hm
  obtain ⟨er, rfl, hec, hen, hel⟩ := open_era (hval 1 34 v1 rfl rfl) h1
  obtain ⟨sz0a, sz0b⟩ := rule_sized k0 hz (j := 0) rfl rfl
  obtain ⟨sz1a, sz1b⟩ := era_sized k1 hz (j := 1) rfl rfl
  clear hA0
  refine (topLines_any r er W (wo_of hL hS) hrc hec sz0a sz0b sz1a sz1b).mono fun e W' ⟨he, bel⟩ => ?_
  subst he
  exact ⟨_, rfl, _, _, _, [], _, [], hW', trodAll_mk1 (shut_bool Tryd.underlying4 _), (trodAll_cons_mk (Below.trod laidOut (by kernel_rfl) (of_decide_eq_true (by kernel_rfl)) k0 bel lt0) (trodAll_cons_mk (Below.trod laidOut (by kernel_rfl) (of_decide_eq_true (by kernel_rfl)) k1 bel lt1) trodAll_mk0)), rfl, bel.frame _, fun h => by cases h⟩

set_option maxRecDepth 100000 in
theorem lifted (os : Os) (started : os.Started) (H : Type) (enc : TypeId × Value → H) (F : Stop.Interp) :
    ReturnsInHanded {} Tryd.checked os 3 .any ((OpenSpec.ofChange Rows.topLinesSpec).preRow enc Tryd.prog Tryd.f3 Rows.topLinesRow.domain false Rows.topLinesRow.laid) (((OpenSpec.ofChange Rows.topLinesSpec).at F).post enc Tryd.prog Tryd.f3 false true false false) := by
  obtain ⟨places, hx⟩ := reads os enc
  refine returnsInHanded_of_row (C := Tryd.checked) (s := OpenSpec.ofChange Rows.topLinesSpec) own started (by kernel_rfl) Tryd.func3
    (witness_row_at (enc := enc) (C := Tryd.checked) false (laidWorld os) #[.agg #[.string ⟨#[]⟩, .int .i64 0, .int .i64 0, .int .i64 0, .int .u8 0, .int .i64 0, .int .i64 0, .int .i64 0, .int .u8 0, .int .i64 0, .string ⟨#[]⟩], .agg #[.int .i64 0, .int .u8 0, .int .i64 0, .string ⟨#[]⟩, .string ⟨#[]⟩, .bool false, .int .i64 0, .int .i64 0, .int .u8 0, .int .i64 0, .int .i64 0, .int .i64 0, .int .u8 0]] rfl (by kernel_rfl) (by kernel_rfl) (by kernel_rfl)
      (OpenSpec.preRow_of_cond 8 hx (by kernel_rfl) (fun k hk => by cases hk) (by kernel_rfl) (laid_met os))) ?_
  intro W base args ds gs before hval hW _ _ hz hL hS _
  exact contract H enc W base args ds gs before hval hW hL hS hz

theorem said : Rows.TopLinesSaid :=
  OpenClaim.holds_of_cond 3 Tryd.f3 rfl rfl rfl rfl rfl rfl rfl ⟨rfl, rfl, rfl, rfl, rfl⟩ rfl rfl rfl rfl rfl (by kernel_rfl) Tryd.func3 (by kernel_rfl)
    (of_decide_eq_true (by kernel_rfl)) (by unfold Func.isWrapper; first | (rw [if_pos (by decide +kernel)]; kernel_rfl) | (rw [if_neg (by decide +kernel)]; exact ⟨rfl, rfl⟩))
    (fun os started H enc _ F => by rw [OpenClaim.pre_eq_preRow]; exact lifted os started H enc F)

/-- No parameter wants a stand-in; the program's own looks are off. -/
theorem plain (f : FuncId) (fn : Func) (hf : Tryd.pinned.checked.prog.funcNamed "solstice/solsticetop.TopLines" = some f) (hfn : Tryd.pinned.checked.prog.funcs[f]? = some fn) :
    false = Tryd.pinned.checked.prog.looks [] ∧ ∀ (j : Nat) t, fn.params[j]? = some t → Tryd.pinned.checked.prog.wantsStandIn t = false := by
  obtain rfl : f = 3 := Option.some.inj ((show Tryd.prog.funcNamed "solstice/solsticetop.TopLines" = some 3 by kernel_rfl).symm.trans hf) |>.symm
  obtain rfl : fn = Tryd.f3 := (Option.some.inj (Tryd.func3.symm.trans hfn)).symm
  refine ⟨by kernel_rfl, fun j t ht => ?_⟩
  rw [Tryd.params3] at ht
  have hm : t ∈ [29, 34] := by
    have := Array.mem_of_getElem? ht
    simp at this ⊢
    omega
  simp only [List.mem_cons, List.not_mem_nil, or_false] at hm
  rcases hm with rfl | rfl
  · exact (show Tryd.prog.wantsStandIn 29 = false by kernel_rfl)
  · exact (show Tryd.prog.wantsStandIn 34 = false by kernel_rfl)

/-- The statement: the tied card. -/
theorem card : Rows.TopLinesCardSaid :=
  Claim7.holds_tied_plain_at .later [] _ _ _ _ said (fun _ h => by cases h) (by kernel_rfl) (fun _ h => by cases h) topLines_row_tie rfl ⟨rfl, rfl⟩ (by kernel_rfl) rfl plain (by kernel_rfl)
end Go.Proofs.YtlhoggalhjadgaaDoor.topLines
