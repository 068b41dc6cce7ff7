/- The walk of the law PrintBack. -/
import Derived.Test.YtlhoggalhjadgaaGreatDoorK35
import Derived.Test.YtlhoggalhjadgaaGreatDoorK37
import Derived.Test.YtlhoggalhjadgaaGreatDoorK36
import Derived.Test.YtlhoggalhjadgaaGreatDoorK31
import Derived.Test.YtlhoggalhjadgaaGreatDoorCards
import Derived.Test.YtlhoggalhjadgaaGreatDoorTie
import Derived.ProofKit
import Derived.OpenShut
import Derived.ShutString
import Derived.ChangeOld
import Derived.LaidMore
import Derived.Stop.LaidErr
import Derived.Deep.DeepHandedRow
import Derived.Lib.LaidTab
import Derived.Lib.SmallJoins

namespace Go.Proofs.YtlhoggalhjadgaaGreatDoor
open Go.RowKit

namespace Src
theorem SrcR.two {w : World} {s : S} {rv zv lv : Value} {evs : List Value} (h : SrcR w w.heap.size s rv zv lv evs) (c d : Array Value) (t u : TypeId) : SrcR ((w.alloc (.cells c t)).alloc (.cells d u)) ((w.alloc (.cells c t)).alloc (.cells d u)).heap.size s rv zv lv evs :=
  h.call (((Below.refl w.heap.size w).alloc (Nat.le_refl _) _).alloc (by simp) _)
theorem same_self (s : S) : sameB s s = true := (sameB_iff s s).2 ⟨rfl, rfl, rfl⟩
end Src
/-- What the law keeps: the box of the source, and the source. -/
def BRel (w : World) (s : Src.S) (rv zv lv : Value) (evs : List Value) (wx : World) : Prop :=
  Hid (At wx w.heap.size [rv, zv, lv]) ∧ Hid (Src.SrcR wx wx.heap.size s rv zv lv evs) ∧ Hid (Below w.heap.size w wx)
theorem We.q {w : World} (h : We w) : Wq w := ⟨h.c.p, h.a⟩
set_option maxHeartbeats 8000000 in
set_option maxRecDepth 100000 in
theorem printBack_any (s : Src.S) (rv zv lv : Value) (evs : List Value) (tx : ByteArray) (w : World) (hW : We w) (hR : Src.SrcR w w.heap.size s rv zv lv evs) (hw : Src.Wide s) (ht : tx.size ≤ maxLen) :
    Calls Tryz.prog 3 #[.agg #[rv, zv, lv], .string tx] w fun e w' => e = .returned (.bool true) ∧ Below w.heap.size w w' := by
  have hop := hw.op
  have hrk := fun (hf : Src.Few s) (hb : Src.srcB s = true) => Pr.srcB_rk hb hw (Pr.few_lims hf)
  have HL := Lib.hid fun W hw => lives12 W hw
  have HSm := Lib.hid fun W hr => few_any s rv zv lv evs W hr hw
  have HPT := Lib.hid fun (hf : Src.Few s) W hw hr => prText_both s rv zv lv evs W hw hr (Pr.few_lims hf) (Pr.few_sm hf) hop (fun hb => ⟨hrk hf hb, by have := Pr.few_text hf (hrk hf hb) hop; omega⟩)
  have HCk := Lib.hid fun (hf : Src.Few s) W hw hr => srcCheck_any s rv zv lv evs W hw hr (Pr.few_lims hf) (Pr.few_sm hf)
  have HPs := Lib.hid fun (hf : Src.Few s) (hb : Src.srcB s = true) W hw => Lv.call_ok (t := Src.bts (Pr.text s)) (s := s) (by rw [Pr.tl_bts]; exact Pr.parse_text s (hrk hf hb) hop (by have := Pr.few_text hf (hrk hf hb) hop; omega)) W hw (by have := Pr.few_text hf (hrk hf hb) hop; rw [Src.bts_size]; unfold maxLen; omega)
  have HSs := Lib.hid fun rv' zv' lv' evs' W hr hr' => srcSame_any s s rv' zv' lv' rv zv lv evs' evs W hr hr'
  rw [Src.same_self] at HSs
  have HPx := Lib.hid fun W hw => srcParse_any tx W hw ht
  have HW := Lib.hid hW
  have HA0 := Lib.hid (At.new w #[rv, zv, lv] 26)
  have HB0 := Lib.hid ((Below.refl w.heap.size w).alloc (Nat.le_refl _) (.cells #[rv, zv, lv] 26))
  have HR0 := Lib.hid ((hR.below HB0.out).more HB0.out.size)
  obtain ⟨h, hh⟩ : ∃ h, w.heap.size = h := ⟨_, rfl⟩
  clear hrk hop hW hw hR ht
  go_enter Tryz.func3, Tryz.ntmps3
  go_wp2_with fail
  refine (HL.out _ (HW.out.below HB0.out)).mono ?_
  rintro e w1 ⟨rfl, hb⟩
  have HA1 := Lib.hid (HA0.out.call hb)
  have HR1 := Lib.hid (HR0.out.call hb)
  have HB1 := Lib.hid (below_then HB0.out hb)
  clear hb HA0 HB0 HR0
  rw [hh] at HA1
  have HH := Lib.hid hh
  clear hh
  obtain ⟨a0, a1, a2, _⟩ := HA1.out.three
  go_wp2_with fail
  refine (HSm.out _ HR1.out).mono ?_
  rintro e w2 ⟨he, hb⟩
  have HA2 := Lib.hid (HA1.out.call hb)
  have HR2 := Lib.hid (HR1.out.call hb)
  have HB2 := Lib.hid (below_then HB1.out hb)
  clear hb HA1 HR1 HB1 a0 a1 a2
  rcases he with rfl | ⟨rfl, hfew⟩
  · go_wp2
    go_ret
    exact ⟨rfl, HB2.out⟩
  have HFw := Lib.hid hfew
  clear hfew
  by_cases q1 : (16384 : Int) < (tx.size : Int)
  · go_wp2
    go_ret
    exact ⟨rfl, HB2.out⟩
  have hq2 : tx.size ≤ 16384 := by omega
  obtain ⟨a0, a1, a2, _⟩ := HA2.out.three
  go_wp2_with fail
  refine (HPT.out HFw.out _ (HW.out.below HB2.out) HR2.out).mono ?_
  rintro e w3 ⟨T, Y, rfl, hb, hcase⟩
  have HCase := Lib.hid hcase
  have HA3 := Lib.hid (HA2.out.call hb)
  have HR3 := Lib.hid (HR2.out.call hb)
  have HB3 := Lib.hid (below_then HB2.out hb)
  clear hb HA2 HR2 HB2 a0 a1 a2 hcase
  obtain ⟨a0, a1, a2, _⟩ := HA3.out.three
  have hck := HCk.out HFw.out w3 (HW.out.below HB3.out).a HR3.out
  rw [show (if Src.srcB s = true then (0 : Int) else 2) = Y from by rcases HCase.out with ⟨e1, e2, _⟩ | ⟨e1, e2⟩ <;> rw [e1, e2] <;> rfl] at hck
  have HCk3 := Lib.hid hck
  clear hck
  go_wp2_with fail
  refine HCk3.out.mono ?_
  rintro e w4 ⟨rfl, hb⟩
  have HA4 := Lib.hid (HA3.out.call hb)
  have HR4 := Lib.hid (HR3.out.call hb)
  have HB4 := Lib.hid (below_then HB3.out hb)
  clear hb HA3 HR3 HB3 a0 a1 a2
  go_upto_if 39 with fail
  go_cut [] (fun wx => BRel w s rv zv lv evs wx)
  case first =>
    rcases HCase.out with ⟨rfl, hsb, hTT⟩ | ⟨rfl, _⟩
    · have HPs4 := Lib.hid (HPs.out HFw.out hsb)
      clear hsb
      rw [← hTT] at HPs4
      clear hTT
      go_wp2_with fail
      refine (HPs4.out _ (HW.out.below HB4.out).q).mono ?_
      rintro e w5 ⟨hb, rv5, zv5, lv5, evs5, rfl, hR5⟩
      obtain ⟨A5, c5, rfl, _⟩ := hR5.rules
      obtain ⟨B5, d5, rfl, _⟩ := hR5.zones
      obtain ⟨C5, e5, rfl, _⟩ := hR5.links
      have HX5 := Lib.hid (((Below.refl w5.heap.size w5).alloc (Nat.le_refl _) (.cells #[.slice A5 s.rules.length c5, .slice B5 s.zones.length d5, .slice C5 s.links.length e5] 26)).alloc (by simp) (.cells #[.int .i64 0, .int .i64 0, .int .i64 0] 34))
      have HT5 := Lib.hid ((At.new w5 #[.slice A5 s.rules.length c5, .slice B5 s.zones.length d5, .slice C5 s.links.length e5] 26).allocO (.cells #[.int .i64 0, .int .i64 0, .int .i64 0] 34))
      have HF5 := Lib.hid (show At ((w5.alloc (.cells #[.slice A5 s.rules.length c5, .slice B5 s.zones.length d5, .slice C5 s.links.length e5] 26)).alloc (.cells #[.int .i64 0, .int .i64 0, .int .i64 0] 34)) (w5.heap.size + 1) [.int .i64 0, .int .i64 0, .int .i64 0] by have := At.new (w5.alloc (.cells #[.slice A5 s.rules.length c5, .slice B5 s.zones.length d5, .slice C5 s.links.length e5] 26)) #[.int .i64 0, .int .i64 0, .int .i64 0] 34; simpa using this)
      have HA5 := Lib.hid ((HA4.out.call hb).call HX5.out)
      have HR5 := Lib.hid (hR5.call HX5.out)
      have HRs := Lib.hid ((HR4.out.call hb).call HX5.out)
      have HB5 := Lib.hid (below_then (below_then HB4.out hb) HX5.out)
      clear hb hR5
      obtain ⟨t0, t1, t2, _⟩ := HT5.out.three
      obtain ⟨f0, f1, f2, _⟩ := HF5.out.three
      obtain ⟨a0, a1, a2, _⟩ := HA5.out.three
      go_wp2_with fail
      refine (HSs.out _ _ _ _ _ HR5.out HRs.out).mono ?_
      rintro e w6 ⟨rfl, hb⟩
      have HA6 := Lib.hid (HA5.out.call hb)
      have HR6 := Lib.hid (HRs.out.call hb)
      have HB6 := Lib.hid (below_then HB5.out hb)
      clear hb t0 t1 t2 f0 f1 f2 a0 a1 a2
      go_wp2
      go_meet
      exact ⟨by rw [HH.out]; exact HA6.out, HR6.out, HB6.out⟩
    · go_wp2
      go_meet
      exact ⟨by rw [HH.out]; exact HA4.out, HR4.out, HB4.out⟩
  case rest =>
  as_aux_lemma =>
  obtain ⟨HA, HR, HB⟩ := hcut
  clear HA4 HR4 HB4 HCase HPT HCk HPs HSs HCk3 HSm HL HFw HPx
  cases hX : Src.parse Src.own (tl tx) with
  | bad l c y =>
    have HPx := Lib.hid fun W hw => Lv.call_bad hX W hw (by unfold maxLen; omega)
    have hf := Src.parse_fault Src.own (tl tx) l c y (by rw [tl_length]; omega) hX
    have e1 : (y != 0) = true := by simpa using hf.2.2
    have e2 : (y == 0) = false := by simpa using hf.2.2
    clear hX hf
    go_wp2_with fail
    refine (HPx.out _ (HW.out.below HB.out).q).mono ?_
    rintro e w5 ⟨hb, rfl⟩
    have HX5 := Lib.hid (((Below.refl w5.heap.size w5).alloc (Nat.le_refl _) (.cells #[.slice none 0 0, .slice none 0 0, .slice none 0 0] 26)).alloc (by simp) (.cells #[.int .i64 l, .int .i64 c, .int .i64 y] 34))
    have HT5 := Lib.hid ((At.new w5 #[.slice none 0 0, .slice none 0 0, .slice none 0 0] 26).allocO (.cells #[.int .i64 l, .int .i64 c, .int .i64 y] 34))
    have HF5 := Lib.hid (show At ((w5.alloc (.cells #[.slice none 0 0, .slice none 0 0, .slice none 0 0] 26)).alloc (.cells #[.int .i64 l, .int .i64 c, .int .i64 y] 34)) (w5.heap.size + 1) [.int .i64 l, .int .i64 c, .int .i64 y] by have := At.new (w5.alloc (.cells #[.slice none 0 0, .slice none 0 0, .slice none 0 0] 26)) #[.int .i64 l, .int .i64 c, .int .i64 y] 34; simpa using this)
    have HB5 := Lib.hid (below_then (below_then HB.out hb) HX5.out)
    clear hb
    obtain ⟨f0, f1, f2, _⟩ := HF5.out.three
    go_wp2
    go_ret
    exact ⟨rfl, HB5.out⟩
  | ok x =>
    obtain ⟨hrk, hxo, hxz⟩ := Pr.read_back (tl tx) x (by rw [tl_length]; omega) hX
    have HPx := Lib.hid fun W hw => Lv.call_ok hX W hw (by unfold maxLen; omega)
    have hTx := fun rv zv lv evs W hw hr => prText_ok x rv zv lv evs W hw hr hrk hxo hxz
    have hPy := fun W hw => Lv.call_ok (t := Src.bts (Pr.text x)) (s := x) (by rw [Pr.tl_bts]; exact Pr.parse_text x hrk hxo hxz) W hw (by rw [Src.bts_size]; unfold maxLen; omega)
    have hSx := fun rv zv lv evs rv' zv' lv' evs' W hr hr' => srcSame_any x x rv zv lv rv' zv' lv' evs evs' W hr hr'
    rw [Src.same_self] at hSx
    obtain ⟨TT, hTT⟩ : ∃ y, Src.bts (Pr.text x) = y := ⟨_, rfl⟩
    rw [hTT] at hTx hPy
    have HTx := Lib.hid hTx
    have HPy := Lib.hid hPy
    have HSx := Lib.hid hSx
    clear hX hrk hxo hxz hTx hPy hSx hTT
    go_wp2_with fail
    refine (HPx.out _ (HW.out.below HB.out).q).mono ?_
    rintro e w5 ⟨hb, rv5, zv5, lv5, evs5, rfl, hR5⟩
    obtain ⟨A5, c5, rfl, _⟩ := hR5.rules
    obtain ⟨B5, d5, rfl, _⟩ := hR5.zones
    obtain ⟨C5, e5, rfl, _⟩ := hR5.links
    have HX5 := Lib.hid (((Below.refl w5.heap.size w5).alloc (Nat.le_refl _) (.cells #[.slice A5 x.rules.length c5, .slice B5 x.zones.length d5, .slice C5 x.links.length e5] 26)).alloc (by simp) (.cells #[.int .i64 0, .int .i64 0, .int .i64 0] 34))
    have HT5 := Lib.hid ((At.new w5 #[.slice A5 x.rules.length c5, .slice B5 x.zones.length d5, .slice C5 x.links.length e5] 26).allocO (.cells #[.int .i64 0, .int .i64 0, .int .i64 0] 34))
    have HF5 := Lib.hid (show At ((w5.alloc (.cells #[.slice A5 x.rules.length c5, .slice B5 x.zones.length d5, .slice C5 x.links.length e5] 26)).alloc (.cells #[.int .i64 0, .int .i64 0, .int .i64 0] 34)) (w5.heap.size + 1) [.int .i64 0, .int .i64 0, .int .i64 0] by have := At.new (w5.alloc (.cells #[.slice A5 x.rules.length c5, .slice B5 x.zones.length d5, .slice C5 x.links.length e5] 26)) #[.int .i64 0, .int .i64 0, .int .i64 0] 34; simpa using this)
    have HR5 := Lib.hid (hR5.call HX5.out)
    have HB5 := Lib.hid (below_then (below_then HB.out hb) HX5.out)
    clear hb hR5
    obtain ⟨t0, t1, t2, _⟩ := HT5.out.three
    obtain ⟨f0, f1, f2, _⟩ := HF5.out.three
    go_wp2_with fail
    refine (HTx.out _ _ _ _ _ (HW.out.below HB5.out) HR5.out).mono ?_
    rintro e w6 ⟨rfl, hb⟩
    have HT6 := Lib.hid (HT5.out.call hb)
    have HR6 := Lib.hid (HR5.out.call hb)
    have HB6 := Lib.hid (below_then HB5.out hb)
    clear hb t0 t1 t2 f0 f1 f2 HT5 HF5 HR5 HB5
    go_wp2_with fail
    refine (HPy.out _ (HW.out.below HB6.out).q).mono ?_
    rintro e w7 ⟨hb, rv7, zv7, lv7, evs7, rfl, hR7⟩
    obtain ⟨A7, c7, rfl, _⟩ := hR7.rules
    obtain ⟨B7, d7, rfl, _⟩ := hR7.zones
    obtain ⟨C7, e7, rfl, _⟩ := hR7.links
    have HX7 := Lib.hid (((Below.refl w7.heap.size w7).alloc (Nat.le_refl _) (.cells #[.slice A7 x.rules.length c7, .slice B7 x.zones.length d7, .slice C7 x.links.length e7] 26)).alloc (by simp) (.cells #[.int .i64 0, .int .i64 0, .int .i64 0] 34))
    have HT7 := Lib.hid ((At.new w7 #[.slice A7 x.rules.length c7, .slice B7 x.zones.length d7, .slice C7 x.links.length e7] 26).allocO (.cells #[.int .i64 0, .int .i64 0, .int .i64 0] 34))
    have HF7 := Lib.hid (show At ((w7.alloc (.cells #[.slice A7 x.rules.length c7, .slice B7 x.zones.length d7, .slice C7 x.links.length e7] 26)).alloc (.cells #[.int .i64 0, .int .i64 0, .int .i64 0] 34)) (w7.heap.size + 1) [.int .i64 0, .int .i64 0, .int .i64 0] by have := At.new (w7.alloc (.cells #[.slice A7 x.rules.length c7, .slice B7 x.zones.length d7, .slice C7 x.links.length e7] 26)) #[.int .i64 0, .int .i64 0, .int .i64 0] 34; simpa using this)
    have HT6' := Lib.hid ((HT6.out.call hb).call HX7.out)
    have HR6' := Lib.hid ((HR6.out.call hb).call HX7.out)
    have HR7 := Lib.hid (hR7.call HX7.out)
    have HB7 := Lib.hid (below_then (below_then HB6.out hb) HX7.out)
    clear hb hR7 HT6 HR6 HB6
    obtain ⟨t0, t1, t2, _⟩ := HT7.out.three
    go_wp2_with fail
    refine (HTx.out _ _ _ _ _ (HW.out.below HB7.out) HR7.out).mono ?_
    rintro e w8 ⟨rfl, hb⟩
    have HT8 := Lib.hid (HT7.out.call hb)
    have HF8 := Lib.hid (HF7.out.call hb)
    have HU8 := Lib.hid (HT6'.out.call hb)
    have HR8 := Lib.hid (HR7.out.call hb)
    have HS8 := Lib.hid (HR6'.out.call hb)
    have HB8 := Lib.hid (below_then HB7.out hb)
    clear hb t0 t1 t2 HT7 HF7 HT6' HR7 HR6' HB7
    obtain ⟨t0, t1, t2, _⟩ := HT8.out.three
    obtain ⟨u0, u1, u2, _⟩ := HU8.out.three
    obtain ⟨f0, f1, f2, _⟩ := HF8.out.three
    go_wp2_with fail
    refine (HSx.out _ _ _ _ _ _ _ _ _ HS8.out HR8.out).mono ?_
    rintro e w9 ⟨rfl, hb⟩
    have HB9 := Lib.hid (below_then HB8.out hb)
    clear hb t0 t1 t2 u0 u1 u2 f0 f1 f2
    go_wp2
    go_ret
    exact ⟨rfl, HB9.out⟩
end Go.Proofs.YtlhoggalhjadgaaGreatDoor

/-
  PrintBack: whatever comes in, the law returns true and each argument reads as it did.
  Conditions: the listed package-level tables read as the program's text lays them (the card ties them to it).
-/
namespace Go.Proofs.YtlhoggalhjadgaaGreatDoor.printBack
open Go.ChangeShapes Go.WideShapes Go.ChangeAt Go.RowKit Go.Joins
open Go.ChangeMaps (open_string shut_string)

theorem u8_nonneg {c : Int} (h : (Lit.int .u8 c).wf = true) : 0 ≤ c := by
  have : 0 ≤ c ∧ c ≤ 255 := by simpa [Lit.wf, IntKind.min, IntKind.max, IntKind.signed, IntKind.bits] using h
  exact this.1
theorem own : ownKnob Tryz.prog.godebug = none := by kernel_rfl
theorem laidOut : laidOutB Tryz.prog = true := by kernel_rfl
theorem g_places : Tryz.prog.globalNamed "solstice/abbr.places" = some 1 := by kernel_rfl
theorem t_places : (Tryz.prog.globals[1]?).map (·.type) = some 160 := by kernel_rfl
theorem g_pow : Tryz.prog.globalNamed "internal/strconv.uint64pow10" = some 3 := by kernel_rfl
theorem t_pow : (Tryz.prog.globals[3]?).map (·.type) = some 193 := by kernel_rfl
theorem g_parts : Tryz.prog.globalNamed "solstice/clock.parts" = some 0 := by kernel_rfl
theorem t_parts : (Tryz.prog.globals[0]?).map (·.type) = some 139 := by kernel_rfl

/-- What the program's variables hold where the call begins. -/
theorem wo_of {W : World} (h : laidMetH Tryz.prog Rows.printBackRow.laid W) (hS : W.ShapedOpen Tryz.prog) : We W := by
  have h0 : laidMet Tryz.prog Rows.printBackRow.laid W := h
  have h1 := h0.tail
  have h2 := h1.tail
  have h3 := h2.tail
  have h4 := h3.tail
  have h5 := h4.tail
  have x_pow : Lib.TabIs Tryz.prog W "internal/strconv.uint64pow10" .u64 Lib.pow10Tab := Lib.tabIs_of_head g_pow t_pow Tryz.underlying193 Tryz.underlying176 (by kernel_rfl) (by kernel_rfl) h2
  have x_parts : Lib.TabIs Tryz.prog W "solstice/clock.parts" .i64 [3600, 60, 1] := Lib.tabIs_of_head g_parts t_parts Tryz.underlying139 Tryz.underlying2 (by kernel_rfl) (by kernel_rfl) h5
  have x_places := strs_of_head (ls := [[37, 115], [37, 122]]) g_places t_places Tryz.underlying160 Tryz.underlying9 (by kernel_rfl) (by kernel_rfl) h4
  exact ⟨⟨x_parts.cell g_parts 0 (by decide), x_parts.cell g_parts 1 (by decide), x_parts.cell g_parts 2 (by decide), Tryz.laysM145.s1_3 W hS, x_pow⟩, ⟨x_places 0 _ rfl, x_places 1 _ rfl, Tryz.laysM145.s1_3 W hS⟩⟩

noncomputable def laidWorld (os : Os) : World :=
  { World.doorLaid Tryz.prog 4000 os with heap := (World.doorLaid Tryz.prog 4000 os).heap.modify 6 fun
      | .cells _ t frozen => .cells ((Go.Pinned.utf8FirstZ.map fun (z : Nat) => Value.int .u8 (Int.ofNat z)).toArray) t frozen
      | o => o }
theorem laid_met (os : Os) : laidMet Tryz.prog Rows.printBackRow.laid ((laidWorld os).forCall (fun _ _ => 0) ⟨#[], #[.agg #[.slice none 0 0, .slice none 0 0, .slice none 0 0], .string ⟨#[]⟩], []⟩).memory :=
  laidMet_of_run' 8 (by kernel_rfl) (by kernel_rfl)
theorem reads (os : Os) {H : Type} (enc : TypeId × Value → H) : ∃ places, DataW.whole enc Tryz.prog ((laidWorld os).forCall (fun _ _ => 0) ⟨#[], #[.agg #[.slice none 0 0, .slice none 0 0, .slice none 0 0], .string ⟨#[]⟩], []⟩).memory Tryz.f3.params.toList Rows.printBackSpec.vars false #[Value.agg #[.slice none 0 0, .slice none 0 0, .slice none 0 0], .string ⟨#[]⟩].toList 8 = some ([.agg [.nil, .nil, .nil], .lit (.string [])], [], places) :=
  ⟨[], by kernel_rfl⟩

set_option maxRecDepth 100000 in
set_option maxHeartbeats 4000000 in
theorem contract (H : Type) (enc : TypeId × Value → H) (W : World) (base : Nat) (args : Array Value) (ds gs : List (DataW H)) (before : List MemPlace)
    (hval : ∀ (j : Nat) t v, Tryz.f3.params[j]? = some t → args[j]? = some v → Value.okWide Tryz.prog W .any base t v)
    (hW : DataW.Whole enc Tryz.prog Tryz.f3.params.toList Rows.printBackSpec.vars false W args.toList ds gs before) (hL : laidMetH Tryz.prog Rows.printBackRow.laid W) (hS : W.ShapedOpen Tryz.prog) :
    Calls Tryz.prog 3 args W fun e W' => ∃ v, e = .returned v ∧ Rows.printBackSpec.post enc Tryz.prog Tryz.f3 false true false false W args v W' := by
  have hW' := hW
  obtain ⟨p, q, hA0, hV, rfl, hfz, hnd⟩ := hW
  have hA : DataW.TrodAll enc Tryz.prog W 0 (fun _ => true) true Tryz.f3.params.toList args.toList ds p := hA0
  rw [Tryz.params3] at hA hval
  obtain ⟨v0, vs0, d0, ds0, p0, q0, hargs, rfl, rfl, h0, r0⟩ := trodAll_cons hA
  obtain ⟨v1, vs1, d1, ds1, p1, q1, rfl, rfl, rfl, h1, r1⟩ := trodAll_cons r0
  obtain ⟨rfl, rfl, rfl⟩ := trodAll_nil r1
  obtain rfl : args = #[v0, v1] := by cases args; simp_all
  obtain ⟨rfl, rfl⟩ := trodVars_none hV
  have k0 := h0
  have lt0 : ∀ x ∈ p0, x.block < W.heap.size := by obtain ⟨m, hm⟩ := k0; exact DataW.trod_lt m _ _ _ hm
  obtain ⟨s0, rv0, zv0, lv0, evs0, rfl, hsr0, hsw0⟩ := open_source (hval 0 26 v0 rfl rfl) h0
  obtain ⟨text, rfl, rfl, rfl, wtext⟩ := open_string Tryz.underlying9 (hval 1 9 v1 rfl rfl) h1
  clear hA0
  refine (printBack_any s0 rv0 zv0 lv0 evs0 text W (wo_of hL hS) hsr0 hsw0 wtext).mono fun e W' ⟨he, bel⟩ => ?_
  subst he
  exact ⟨_, rfl, _, _, _, [], _, [], hW', trodAll_mk1 (shut_bool Tryz.underlying4 _), (trodAll_cons_mk (Below.trod laidOut (by kernel_rfl) (of_decide_eq_true (by kernel_rfl)) k0 bel lt0) (trodAll_cons_mk (shut_string Tryz.underlying9 wtext) trodAll_mk0)), rfl, bel.frame _, fun h => by cases h⟩

set_option maxRecDepth 100000 in
theorem lifted (os : Os) (started : os.Started) (H : Type) (enc : TypeId × Value → H) (F : Stop.Interp) :
    ReturnsInHanded {} Tryz.checked os 3 .any ((OpenSpec.ofChange Rows.printBackSpec).preRow enc Tryz.prog Tryz.f3 Rows.printBackRow.domain false Rows.printBackRow.laid) (((OpenSpec.ofChange Rows.printBackSpec).at F).post enc Tryz.prog Tryz.f3 false true false false) := by
  obtain ⟨places, hx⟩ := reads os enc
  refine returnsInHanded_of_row (C := Tryz.checked) (s := OpenSpec.ofChange Rows.printBackSpec) own started (by kernel_rfl) Tryz.func3
    (witness_row_at (enc := enc) (C := Tryz.checked) false (laidWorld os) #[.agg #[.slice none 0 0, .slice none 0 0, .slice none 0 0], .string ⟨#[]⟩] rfl (by kernel_rfl) (by kernel_rfl) (by kernel_rfl)
      (OpenSpec.preRow_of_cond 8 hx (by kernel_rfl) (fun k hk => by cases hk) (by kernel_rfl) (laid_met os))) ?_
  intro W base args ds gs before hval hW _ _ _ hL hS _
  exact contract H enc W base args ds gs before hval hW hL hS

theorem said : Rows.PrintBackSaid :=
  OpenClaim.holds_of_cond 3 Tryz.f3 rfl rfl rfl rfl rfl rfl rfl ⟨rfl, rfl, rfl, rfl, rfl⟩ rfl rfl rfl rfl rfl (by kernel_rfl) Tryz.func3 (by kernel_rfl)
    (of_decide_eq_true (by kernel_rfl)) (by unfold Func.isWrapper; first | (rw [if_pos (by decide +kernel)]; kernel_rfl) | (rw [if_neg (by decide +kernel)]; exact ⟨rfl, rfl⟩))
    (fun os started H enc _ F => by rw [OpenClaim.pre_eq_preRow]; exact lifted os started H enc F)

/-- No parameter wants a stand-in; the program's own looks are off. -/
theorem plain (f : FuncId) (fn : Func) (hf : Tryz.pinned.checked.prog.funcNamed "solstice/solsticelaw12.PrintBack" = some f) (hfn : Tryz.pinned.checked.prog.funcs[f]? = some fn) :
    false = Tryz.pinned.checked.prog.looks [] ∧ ∀ (j : Nat) t, fn.params[j]? = some t → Tryz.pinned.checked.prog.wantsStandIn t = false := by
  obtain rfl : f = 3 := Option.some.inj ((show Tryz.prog.funcNamed "solstice/solsticelaw12.PrintBack" = some 3 by kernel_rfl).symm.trans hf) |>.symm
  obtain rfl : fn = Tryz.f3 := (Option.some.inj (Tryz.func3.symm.trans hfn)).symm
  refine ⟨by kernel_rfl, fun j t ht => ?_⟩
  rw [Tryz.params3] at ht
  have hm : t ∈ [26, 9] := by
    have := Array.mem_of_getElem? ht
    simp at this ⊢
    omega
  simp only [List.mem_cons, List.not_mem_nil, or_false] at hm
  rcases hm with rfl | rfl
  · exact (show Tryz.prog.wantsStandIn 26 = false by kernel_rfl)
  · exact (show Tryz.prog.wantsStandIn 9 = false by kernel_rfl)

/-- The statement: the tied card. -/
theorem card : Rows.PrintBackCardSaid :=
  Claim7.holds_tied_plain_at .later [] _ _ _ _ said (fun _ h => by cases h) (by kernel_rfl) (fun _ h => by cases h) printBack_row_tie rfl ⟨rfl, rfl⟩ (by kernel_rfl) rfl plain (by kernel_rfl)
end Go.Proofs.YtlhoggalhjadgaaGreatDoor.printBack
