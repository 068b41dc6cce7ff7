/- top 16: the law TopWrapped, walked. -/
import Derived.Test.YthmhadgbhakdlaaDoorP32
import Derived.Test.YthmhadgbhakdlaaDoorP29
import Derived.Test.YthmhadgbhakdlaaDoorP30
import Derived.Shelf.Vars
import Derived.Test.YthmhadgbhakdlaaDoorCards
import Derived.Test.YthmhadgbhakdlaaDoorTie
import Derived.ProofKit
import Derived.OpenShut
import Derived.ShutString
import Derived.ChangeOld
import Derived.LaidMore
import Derived.Stop.LaidErr
import Derived.Deep.DeepHandedRow
import Derived.Lib.LaidTab
import Derived.Lib.SmallJoins

namespace Go.Proofs.YthmhadgbhakdlaaDoor
open Go.RowKit

namespace Mk
theorem add3 {a b c : Txt} (h : a ++ b = c) (hl : a.length + b.length ≤ 9000000000000000000) (W : World) : (Op.stringOp .add (bts a) (bts b)).run Tryd.prog W = .ok (.string (bts c)) W := by
  rw [← h]
  exact add_bts a b hl W
end Mk
set_option maxHeartbeats 8000000 in
set_option maxRecDepth 100000 in
theorem topWrapped_any (l : List Ca.E) (A : Option Addr) (n c : Nat) (evs : List Value) (more : ByteArray) (w : World) (hR : Ca.EntR w w.heap.size l (.slice A n c) evs) (hl : l.length = n) (hWd : Ca.Wide l) (hms : more.size ≤ maxLen) (hW : Wl w) :
    Calls Tryd.prog 3 #[.slice A n c, .string more] w fun e w' => e = .returned (.bool true) ∧ Below w.heap.size w w' := by
  unfold maxLen at hms
  have HLv := Lib.hid (begins16_any w hW)
  have HW := Lib.hid hW
  have HR := Lib.hid hR
  have HL := Lib.hid hl
  have HTx := Lib.hid (fun W (hb : Below w.heap.size w W) => chartText_wide l A n c evs W ((HR.out.below hb).more hb.size) hl hWd)
  have HSm := Lib.hid (fun W (hb : Below w.heap.size w W) => small32_any l A n c evs W ((HR.out.below hb).more hb.size) hl hWd)
  clear hW hR hl hWd
  go_enter Tryd.func3, Tryd.ntmps3
  go_wp2_with fail
  refine HLv.out.mono ?_
  rintro e w1 ⟨rfl, hb⟩
  have HB1 := Lib.hid hb
  clear hb
  go_wp2_with fail
  refine (HTx.out _ HB1.out).mono ?_
  rintro e w2 ⟨hcase, hb⟩
  have HB2 := Lib.hid (below_then HB1.out hb)
  clear hb
  rcases hcase with ⟨hchk, rfl⟩ | ⟨v, hv, rfl⟩
  rotate_left
  · have g0 : (v == 0) = false := by rw [beq_eq_false_iff_ne]; exact hv
    have g1 : (v != 0) = true := by rw [bne, g0]; rfl
    clear hv
    go_wp2_with fail
    refine (HSm.out _ HB2.out).mono ?_
    rintro e w3 ⟨hcs, hb⟩
    have HB3 := Lib.hid (below_then HB2.out hb)
    clear hb
    rcases hcs with rfl | ⟨rfl, _⟩
    all_goals
      go_wp2
      go_ret
      exact ⟨rfl, HB3.out⟩
  have HEn : Hid (∀ e ∈ l, Mk.EnR e) := fun e he => Mk.right_en (Mk.chk_right hchk e he)
  have HCk := Lib.hid hchk
  clear hchk
  obtain ⟨X0, hX0⟩ : ∃ X, Mk.bts (Mk.ctext l) = X := ⟨_, rfl⟩
  rw [hX0]
  have HX0 := Lib.hid hX0
  clear hX0
  go_wp2_with fail
  refine (HSm.out _ HB2.out).mono ?_
  rintro e w3 ⟨hcs, hb⟩
  have HB3 := Lib.hid (below_then HB2.out hb)
  clear hb
  rcases hcs with rfl | ⟨rfl, hfew⟩
  · go_wp2
    go_ret
    exact ⟨rfl, HB3.out⟩
  have HFw := Lib.hid hfew.n
  clear hfew HSm HTx HLv
  by_cases hm : more.size ≤ 1000
  rotate_left
  · have q0 : (1000 : Int) < (more.size : Int) := by omega
    go_wp2
    go_ret
    exact ⟨rfl, HB3.out⟩
  have q0 : ¬ (1000 : Int) < (more.size : Int) := by omega
  by_cases hfn : Te.right more = true ∧ ∀ b ∈ tl more, Mk.low b = false
  rotate_left
  · have HE := Lib.hid (fun W => Mk.esc_no more (by omega) hfn W)
    clear hfn
    go_wp2_with fail
    refine (HE.out _).mono ?_
    rintro e w4 ⟨rfl, hb⟩
    have HB4 := Lib.hid (below_then HB3.out hb)
    clear hb
    go_wp2
    go_ret
    exact ⟨rfl, HB4.out⟩
  have HE := Lib.hid (fun W => Mk.esc_ok more ⟨by omega, hfn.1, hfn.2⟩ W)
  have hgd : Mk.Gd (tl more) := ⟨(Mk.rt_iff more).1 hfn.1, hfn.2⟩
  have hml : (tl more).length ≤ 1000 := by rw [tl_length]; exact hm
  obtain ⟨T, htk, hmp⟩ := Mk.tokens_wrapC (tl more) (l.map Mk.en) (by
    intro e he
    obtain ⟨x, hx, rfl⟩ := List.mem_map.1 he
    exact (HEn.out x hx).ok)
  have hfine := Mk.wrap_fine hgd hml HEn.out HFw.out
  have hcl := Mk.ctext_len HEn.out HFw.out
  have hel := (Mk.esc_len (tl more)).2
  obtain ⟨V, hV⟩ : ∃ V, Mk.esc (tl more) = V := ⟨_, rfl⟩
  rw [hV] at HE htk hfine hel
  have hVl : V.length ≤ 10000 := by omega
  have hwt := Mk.wrap_text V l
  obtain ⟨X1, hX1⟩ : ∃ X, Mk.bts (Mk.W1 ++ V) = X := ⟨_, rfl⟩
  obtain ⟨X2, hX2⟩ : ∃ X, Mk.bts (Mk.W1 ++ V ++ Mk.W2) = X := ⟨_, rfl⟩
  obtain ⟨X3, hX3⟩ : ∃ X, Mk.bts (Mk.W1 ++ V ++ Mk.W2 ++ V) = X := ⟨_, rfl⟩
  obtain ⟨X4, hX4⟩ : ∃ X, Mk.bts (Mk.W1 ++ V ++ Mk.W2 ++ V ++ Mk.ctext l) = X := ⟨_, rfl⟩
  obtain ⟨X5, hX5⟩ : ∃ X, Mk.bts (Mk.W1 ++ V ++ Mk.W2 ++ V ++ Mk.ctext l ++ Mk.W3) = X := ⟨_, rfl⟩
  obtain ⟨X6, hX6⟩ : ∃ X, Mk.bts (Mk.W1 ++ V ++ Mk.W2 ++ V ++ Mk.ctext l ++ Mk.W3 ++ V) = X := ⟨_, rfl⟩
  obtain ⟨X7, hX7⟩ : ∃ X, Mk.bts (Mk.W1 ++ V ++ Mk.W2 ++ V ++ Mk.ctext l ++ Mk.W3 ++ V ++ Mk.W4) = X := ⟨_, rfl⟩
  obtain ⟨E, hEb⟩ : ∃ X, Mk.bts V = X := ⟨_, rfl⟩
  rw [hEb] at HE
  have k1 : Mk.W1.length = 22 := rfl
  have k2 : Mk.W2.length = 2 := rfl
  have k3 : Mk.W3.length = 14 := rfl
  have k4 : Mk.W4.length = 4 := rfl
  have sm1 : ∀ W, (Op.stringOp .add ⟨#[60, 63, 120, 63, 62, 60, 33, 45, 45, 32, 121, 32, 45, 45, 62, 10, 60, 97, 32, 98, 61, 34]⟩ E).run Tryd.prog W = .ok (.string X1) W := fun W => by rw [← hX1, ← hEb]; exact Mk.add_bts Mk.W1 V (by omega) W
  have sm2 : ∀ W, (Op.stringOp .add X1 ⟨#[34, 62]⟩).run Tryd.prog W = .ok (.string X2) W := fun W => by rw [← hX1, ← hX2]; exact Mk.add_bts _ Mk.W2 (by simp only [List.length_append]; omega) W
  have sm3 : ∀ W, (Op.stringOp .add X2 E).run Tryd.prog W = .ok (.string X3) W := fun W => by rw [← hX2, ← hX3, ← hEb]; exact Mk.add_bts _ V (by simp only [List.length_append]; omega) W
  have sm4 : ∀ W, (Op.stringOp .add X3 X0).run Tryd.prog W = .ok (.string X4) W := fun W => by rw [← hX3, ← hX4, ← HX0.out]; exact Mk.add_bts _ (Mk.ctext l) (by simp only [List.length_append]; omega) W
  have sm5 : ∀ W, (Op.stringOp .add X4 ⟨#[60, 109, 97, 112, 115, 32, 107, 101, 121, 61, 39, 39, 47, 62]⟩).run Tryd.prog W = .ok (.string X5) W := fun W => by rw [← hX4, ← hX5]; exact Mk.add_bts _ Mk.W3 (by simp only [List.length_append]; omega) W
  have sm6 : ∀ W, (Op.stringOp .add X5 E).run Tryd.prog W = .ok (.string X6) W := fun W => by rw [← hX5, ← hX6, ← hEb]; exact Mk.add_bts _ V (by simp only [List.length_append]; omega) W
  have sm7 : ∀ W, (Op.stringOp .add X6 ⟨#[60, 47, 97, 62]⟩).run Tryd.prog W = .ok (.string X7) W := fun W => by rw [← hX6, ← hX7]; exact Mk.add_bts _ Mk.W4 (by simp only [List.length_append]; omega) W
  have HX7 : Hid (X7 = Mk.bts (Mk.wrapC V (l.map Mk.en))) := by
    show _ = _
    rw [← hX7, hwt]
  have HFi : Hid (Mk.Fine X7) := by show Mk.Fine _; rw [HX7.out]; exact hfine
  have HTk : Hid (Mk.tokens (tl X7) = .inr ⟨T, [], true⟩) := by show _ = _; rw [HX7.out, Mk.tl_bts]; exact htk
  have HMp : Hid (Mk.mapsOf (⟨T, [], true⟩ : Mk.S).toks = l.map fun e => Mk.enAts (Mk.en e)) := by
    show Mk.mapsOf T = _
    rw [hmp, List.map_map]
    rfl
  have HP := Lib.hid (fun W hw => chartParse_maps X7 _ l HFi.out HTk.out HMp.out HCk.out HFw.out W hw)
  have hE := Mk.flt_zero
  have hn40 : n ≤ 40 := by rw [← HL.out]; exact HFw.out
  clear hfn hgd hml hfine hcl hel hV hVl hwt hX1 hX2 hX3 hX4 hX5 hX6 hX7 hEb k1 k2 k3 k4 htk hmp
  go_wp2_with fail
  refine (HE.out _).mono ?_
  rintro e w4 ⟨rfl, hb⟩
  have HB4 := Lib.hid (below_then HB3.out hb)
  clear hb
  go_wp2_with fail
  refine (HP.out _ (HW.out.below HB4.out)).mono ?_
  rintro e w5 ⟨⟨lv, evx, rfl, hr5⟩, hb⟩
  have HB5 := Lib.hid (below_then HB4.out hb)
  have HR5 := Lib.hid hr5
  obtain ⟨A5, c5, rfl, _⟩ := hr5.row
  rw [HL.out] at HR5 ⊢
  have HBf := Lib.hid (HB5.out.alloc HB5.out.size (.cells #[.int .i64 0, .int .i64 0, .int .i64 0] 30))
  have HS := Lib.hid (chartSame_self l A5 A n c5 c evx evs (w5.alloc (.cells #[.int .i64 0, .int .i64 0, .int .i64 0] 30)) (HR5.out.call (Mk.below_new _ _)) ((HR.out.below HBf.out).more HBf.out.size) HL.out (by omega) (fun e he => by have := (Mk.right_few' (Mk.chk_right HCk.out e he)).2; unfold maxLen; omega))
  clear hb hr5
  go_wp2_with fail
  refine HS.out.mono ?_
  rintro e w6 ⟨rfl, hb⟩
  have HB6 := Lib.hid (below_then HBf.out hb)
  clear hb
  go_wp2
  go_ret
  exact ⟨rfl, HB6.out⟩
theorem topWrapped_row (l : List Ca.E) (A : Option Addr) (n c : Nat) (evs : List Value) (more : ByteArray) (w : World) (hW : Wl w) (hR : Ca.EntR w w.heap.size l (.slice A n c) evs) (hl : l.length = n) (hWd : Ca.Wide l) (hms : more.size ≤ maxLen) :
    Calls Tryd.prog 3 #[.slice A n c, .string more] w fun e w' => e = .returned (.bool true) ∧ Below w.heap.size w w' := topWrapped_any l A n c evs more w hR hl hWd hms hW
end Go.Proofs.YthmhadgbhakdlaaDoor

/- A chart among a row's arguments, opened. -/
namespace Go.Proofs.YthmhadgbhakdlaaDoor
open Go.Deep
open Go.ChangeShapes Go.WideShapes Go.ChangeAt Go.RowKit Go.Joins
theorem entries_three {α : Type} {l : List α} (h : l.length = 3) : ∃ a b c, l = [a, b, c] := by
  match l, h with
  | [a, b, c], _ => exact ⟨a, b, c, rfl⟩
theorem flat_one (l : List ByteArray) : l.flatMap (fun s => [Value.string s]) = l.map Value.string := by
  induction l with
  | nil => rfl
  | cons a l ih => rw [List.flatMap_cons, ih]; rfl
theorem open_names_cells {H : Type} {enc : TypeId × Value → H} {w : World} {base : Nat} {spare : Nat → Bool} {held : Bool} {fuel : Nat} {cs : List Value} {x : DataW H × List MemPlace}
    (h : DataW.trod enc Tryd.prog w base spare held fuel 9 cs = some x) : ∃ s : ByteArray, cs = [.string s] ∧ s.size ≤ maxLen := by
  obtain ⟨nm, e0, _, wn⟩ := DataW.trod_string Tryd.underlying9 h
  exact ⟨nm, e0, wn⟩
theorem open_names {H : Type} {enc : TypeId × Value → H} {w : World} {base : Nat} {spare : Nat → Bool} {held : Bool} {fuel : Nat} {cs : List Value} {x : DataW H × List MemPlace}
    (h : DataW.trod enc Tryd.prog w base spare held fuel 47 cs = some x) : ∃ (v : Value) (zs : List ByteArray), cs = [v] ∧ Src.RowR w w.heap.size 1 zs.length v (zs.map Value.string) ∧ ∀ z ∈ zs, z.size ≤ maxLen := by
  obtain ⟨v, zs, e, hr, hz⟩ := open_rows (cells := fun s : ByteArray => [Value.string s]) (Good := fun s => s.size ≤ maxLen) Tryd.underlying47 (by kernel_rfl) (show 0 < 1 by decide) (fun _ => rfl) (fun n cs x _ hx => open_names_cells hx) h
  rw [flat_one] at hr
  exact ⟨v, zs, e, hr, hz⟩
theorem open_ent_cells {H : Type} {enc : TypeId × Value → H} {w : World} {base : Nat} {spare : Nat → Bool} {held : Bool} {fuel : Nat} {cs : List Value} {x : DataW H × List MemPlace} (hl : cs.length = 3)
    (h : DataW.trod enc Tryd.prog w base spare held fuel 49 cs = some x) : ∃ p : Ca.E × Value, cs = Ca.ec p ∧ Src.RowR w w.heap.size 1 p.1.zones.length p.2 (p.1.zones.map Value.string) ∧ p.1.key.size ≤ maxLen ∧ p.1.terr.size ≤ maxLen ∧ ∀ z ∈ p.1.zones, z.size ≤ maxLen := by
  have q0 : Tryd.prog.cellsOf 9 = 1 := by kernel_rfl
  have q1 : Tryd.prog.cellsOf 47 = 1 := by kernel_rfl
  obtain ⟨c0, c1, c2, rfl⟩ := entries_three hl
  obtain ⟨y0, y1, y2, n, _, _, h0, h1, h2⟩ := trod_struct3 Tryd.underlying49 h
  simp only [q0, q1, List.drop, List.take] at h0 h1 h2
  obtain ⟨k, e0, _, wk⟩ := DataW.trod_string Tryd.underlying9 h0
  obtain ⟨t, e1, _, wt⟩ := DataW.trod_string Tryd.underlying9 h1
  obtain ⟨v, zs, e2, hr, hz⟩ := open_names h2
  simp only [List.cons.injEq, and_true] at e0 e1 e2
  subst e0 e1 e2
  exact ⟨(⟨k, t, zs⟩, c2), rfl, hr, wk, wt, hz⟩
set_option maxRecDepth 100000 in
theorem open_ents {H : Type} {enc : TypeId × Value → H} {w : World} {base : Nat} {spare : Nat → Bool} {held : Bool} {r : Reach} {b0 : Nat} {v : Value} {d : DataW H} {p : List MemPlace}
    (hv : Value.okWide Tryd.prog w r b0 22 v) (h : DataW.Trod enc Tryd.prog w base spare held 22 v d p) :
    ∃ (l : List Ca.E) (A : Option Addr) (n c : Nat) (evs : List Value), v = .slice A n c ∧ Ca.EntR w w.heap.size l (.slice A n c) evs ∧ l.length = n ∧ Ca.Wide l := by
  obtain ⟨a0, ln, lc, rfl⟩ := okWide_slice Tryd.underlying22 hv
  obtain ⟨fuel, hf⟩ := h
  obtain ⟨v, xs, e, hr, hx⟩ := open_rows (cells := Ca.ec) (Good := fun p => Src.RowR w w.heap.size 1 p.1.zones.length p.2 (p.1.zones.map Value.string) ∧ p.1.key.size ≤ maxLen ∧ p.1.terr.size ≤ maxLen ∧ ∀ z ∈ p.1.zones, z.size ≤ maxLen) Tryd.underlying22 (by kernel_rfl) (show 0 < 3 by decide) (fun _ => rfl) (fun n cs x hl hx => open_ent_cells hl hx) hf
  simp only [Value.cells, List.cons.injEq, and_true] at e
  subst e
  obtain ⟨A', c', e9, _⟩ := id hr
  injection e9 with e91 e92 e93
  refine ⟨xs.map (·.1), a0, ln, lc, xs.map (·.2), rfl, ⟨?_, by simp, fun q hq => ?_⟩, by rw [List.length_map]; exact e92.symm, ⟨fun z hz => ?_⟩⟩
  · rw [zip_fst_snd]
    simpa using hr
  · rw [zip_fst_snd] at hq
    exact (hx q hq).1
  · rw [List.mem_map] at hz
    obtain ⟨q, hq, rfl⟩ := hz
    exact (hx q hq).2
end Go.Proofs.YthmhadgbhakdlaaDoor

/-
  TopWrapped: whatever comes in, the law returns true and each argument reads as it did.
  Conditions: the listed package-level tables read as the program's text lays them (the card ties them to it).
-/
namespace Go.Proofs.YthmhadgbhakdlaaDoor.topWrapped
open Go.ChangeShapes Go.WideShapes Go.ChangeAt Go.RowKit Go.Joins
open Go.ChangeMaps (open_string shut_string)

theorem u8_nonneg {c : Int} (h : (Lit.int .u8 c).wf = true) : 0 ≤ c := by
  have : 0 ≤ c ∧ c ≤ 255 := by simpa [Lit.wf, IntKind.min, IntKind.max, IntKind.signed, IntKind.bits] using h
  exact this.1
theorem own : ownKnob Tryd.prog.godebug = none := by kernel_rfl
theorem laidOut : laidOutB Tryd.prog = true := by kernel_rfl

/-- What the program's variables hold where the call begins. -/
theorem wo_of {W : World} (h : laidMetH Tryd.prog Rows.topWrappedRow.laid W) (hS : W.ShapedOpen Tryd.prog) : Wl W := by
  have h0 : laidMet Tryd.prog Rows.topWrappedRow.laid W := h
  exact ⟨(Go.Proofs.cell_of_shapedOpen_int (g := 0) (zero := #[.int .i64 0]) (t := 3) hS (of_decide_eq_true (by kernel_rfl)) (by kernel_rfl) rfl (by kernel_rfl) (by kernel_rfl) Tryd.underlying3)⟩

noncomputable def laidWorld (os : Os) : World :=
  { World.doorLaid Tryd.prog 4000 os with heap := (World.doorLaid Tryd.prog 4000 os).heap.modify 1 fun
      | .cells _ t frozen => .cells ((Go.Pinned.utf8FirstZ.map fun (z : Nat) => Value.int .u8 (Int.ofNat z)).toArray) t frozen
      | o => o }
theorem laid_met (os : Os) : laidMet Tryd.prog Rows.topWrappedRow.laid ((laidWorld os).forCall (fun _ _ => 0) ⟨#[], #[.slice none 0 0, .string ⟨#[]⟩], []⟩).memory :=
  laidMet_of_run' 8 (by kernel_rfl) (by kernel_rfl)
theorem reads (os : Os) {H : Type} (enc : TypeId × Value → H) : ∃ places, DataW.whole enc Tryd.prog ((laidWorld os).forCall (fun _ _ => 0) ⟨#[], #[.slice none 0 0, .string ⟨#[]⟩], []⟩).memory Tryd.f3.params.toList Rows.topWrappedSpec.vars false #[Value.slice none 0 0, .string ⟨#[]⟩].toList 8 = some ([.nil, .lit (.string [])], [], places) :=
  ⟨[], by kernel_rfl⟩

set_option maxRecDepth 100000 in
set_option maxHeartbeats 4000000 in
theorem contract (H : Type) (enc : TypeId × Value → H) (W : World) (base : Nat) (args : Array Value) (ds gs : List (DataW H)) (before : List MemPlace)
    (hval : ∀ (j : Nat) t v, Tryd.f3.params[j]? = some t → args[j]? = some v → Value.okWide Tryd.prog W .any base t v)
    (hW : DataW.Whole enc Tryd.prog Tryd.f3.params.toList Rows.topWrappedSpec.vars false W args.toList ds gs before) (hL : laidMetH Tryd.prog Rows.topWrappedRow.laid W) (hS : W.ShapedOpen Tryd.prog) :
    Calls Tryd.prog 3 args W fun e W' => ∃ v, e = .returned v ∧ Rows.topWrappedSpec.post enc Tryd.prog Tryd.f3 false true false false W args v W' := by
  have hW' := hW
  obtain ⟨p, q, hA0, hV, rfl, hfz, hnd⟩ := hW
  have hA : DataW.TrodAll enc Tryd.prog W 0 (fun _ => true) true Tryd.f3.params.toList args.toList ds p := hA0
  rw [Tryd.params3] at hA hval
  obtain ⟨v0, vs0, d0, ds0, p0, q0, hargs, rfl, rfl, h0, r0⟩ := trodAll_cons hA
  obtain ⟨v1, vs1, d1, ds1, p1, q1, rfl, rfl, rfl, h1, r1⟩ := trodAll_cons r0
  obtain ⟨rfl, rfl, rfl⟩ := trodAll_nil r1
  obtain rfl : args = #[v0, v1] := by cases args; simp_all
  obtain ⟨rfl, rfl⟩ := trodVars_none hV
  have k0 := h0
  have lt0 : ∀ x ∈ p0, x.block < W.heap.size := by obtain ⟨m, hm⟩ := k0; exact DataW.trod_lt m _ _ _ hm
  obtain ⟨l0, A0, n0, c0, evl0, rfl, hel0, hll0, hlw0⟩ := open_ents (hval 0 22 v0 rfl rfl) h0
  obtain ⟨more, rfl, rfl, rfl, wmore⟩ := open_string Tryd.underlying9 (hval 1 9 v1 rfl rfl) h1
  clear hA0
  refine (topWrapped_row l0 A0 n0 c0 evl0 more W (wo_of hL hS) hel0 hll0 hlw0 wmore).mono fun e W' ⟨he, bel⟩ => ?_
  subst he
  exact ⟨_, rfl, _, _, _, [], _, [], hW', trodAll_mk1 (shut_bool Tryd.underlying4 _), (trodAll_cons_mk (Below.trod laidOut (by kernel_rfl) (of_decide_eq_true (by kernel_rfl)) k0 bel lt0) (trodAll_cons_mk (shut_string Tryd.underlying9 wmore) trodAll_mk0)), rfl, bel.frame _, fun h => by cases h⟩

set_option maxRecDepth 100000 in
theorem lifted (os : Os) (started : os.Started) (H : Type) (enc : TypeId × Value → H) (F : Stop.Interp) :
    ReturnsInHanded {} Tryd.checked os 3 .any ((OpenSpec.ofChange Rows.topWrappedSpec).preRow enc Tryd.prog Tryd.f3 Rows.topWrappedRow.domain false Rows.topWrappedRow.laid) (((OpenSpec.ofChange Rows.topWrappedSpec).at F).post enc Tryd.prog Tryd.f3 false true false false) := by
  obtain ⟨places, hx⟩ := reads os enc
  refine returnsInHanded_of_row (C := Tryd.checked) (s := OpenSpec.ofChange Rows.topWrappedSpec) own started (by kernel_rfl) Tryd.func3
    (witness_row_at (enc := enc) (C := Tryd.checked) false (laidWorld os) #[.slice none 0 0, .string ⟨#[]⟩] rfl (by kernel_rfl) (by kernel_rfl) (by kernel_rfl)
      (OpenSpec.preRow_of_cond 8 hx (by kernel_rfl) (fun k hk => by cases hk) (by kernel_rfl) (laid_met os))) ?_
  intro W base args ds gs before hval hW _ _ _ hL hS _
  exact contract H enc W base args ds gs before hval hW hL hS

theorem said : Rows.TopWrappedSaid :=
  OpenClaim.holds_of_cond 3 Tryd.f3 rfl rfl rfl rfl rfl rfl rfl ⟨rfl, rfl, rfl, rfl, rfl⟩ rfl rfl rfl rfl rfl (by kernel_rfl) Tryd.func3 (by kernel_rfl)
    (of_decide_eq_true (by kernel_rfl)) (by unfold Func.isWrapper; first | (rw [if_pos (by decide +kernel)]; kernel_rfl) | (rw [if_neg (by decide +kernel)]; exact ⟨rfl, rfl⟩))
    (fun os started H enc _ F => by rw [OpenClaim.pre_eq_preRow]; exact lifted os started H enc F)

/-- No parameter wants a stand-in; the program's own looks are off. -/
theorem plain (f : FuncId) (fn : Func) (hf : Tryd.pinned.checked.prog.funcNamed "solstice/solsticetop.TopWrapped" = some f) (hfn : Tryd.pinned.checked.prog.funcs[f]? = some fn) :
    false = Tryd.pinned.checked.prog.looks [] ∧ ∀ (j : Nat) t, fn.params[j]? = some t → Tryd.pinned.checked.prog.wantsStandIn t = false := by
  obtain rfl : f = 3 := Option.some.inj ((show Tryd.prog.funcNamed "solstice/solsticetop.TopWrapped" = some 3 by kernel_rfl).symm.trans hf) |>.symm
  obtain rfl : fn = Tryd.f3 := (Option.some.inj (Tryd.func3.symm.trans hfn)).symm
  refine ⟨by kernel_rfl, fun j t ht => ?_⟩
  rw [Tryd.params3] at ht
  have hm : t ∈ [22, 9] := by
    have := Array.mem_of_getElem? ht
    simp at this ⊢
    omega
  simp only [List.mem_cons, List.not_mem_nil, or_false] at hm
  rcases hm with rfl | rfl
  · exact (show Tryd.prog.wantsStandIn 22 = false by kernel_rfl)
  · exact (show Tryd.prog.wantsStandIn 9 = false by kernel_rfl)

/-- The statement: the tied card. -/
theorem card : Rows.TopWrappedCardSaid :=
  Claim7.holds_tied_plain_at .later [] _ _ _ _ said (fun _ h => by cases h) (by kernel_rfl) (fun _ h => by cases h) topWrapped_row_tie rfl ⟨rfl, rfl⟩ (by kernel_rfl) rfl plain (by kernel_rfl)
end Go.Proofs.YthmhadgbhakdlaaDoor.topWrapped
