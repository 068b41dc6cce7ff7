/- The walk of the law TopJoined. -/
import Derived.Test.YtlhoggalhjadgaaGreatDoorJ01
import Derived.Test.YtlhoggalhjadgaaGreatDoorK37
import Derived.Test.YtlhoggalhjadgaaGreatDoorK31
import Derived.Test.YtlhoggalhjadgaaGreatDoorCards
import Derived.Test.YtlhoggalhjadgaaGreatDoorTie
import Derived.ProofKit
import Derived.OpenShut
import Derived.ShutString
import Derived.ChangeOld
import Derived.LaidMore
import Derived.Stop.LaidErr
import Derived.Deep.DeepHandedRow
import Derived.Lib.LaidTab
import Derived.Lib.SmallJoins

namespace Go.Proofs.YtlhoggalhjadgaaGreatDoor
open Go.RowKit

theorem cells_one {α : Type} (enc : α → List Value) (h : ∀ x, ∀ v ∈ enc x, v.oneCell' = true) (l : List α) : ∀ v ∈ l.flatMap enc, v.oneCell' = true := by
  intro v hv
  rw [List.mem_flatMap] at hv
  obtain ⟨x, _, hx⟩ := hv
  exact h x v hx
theorem rule_one (l : List Ru.R) : ∀ v ∈ l.flatMap Ru.R.cells, v.oneCell' = true := cells_one _ (fun x v hv => by
  unfold Ru.R.cells at hv
  simp only [List.mem_cons, List.not_mem_nil, or_false] at hv
  rcases hv with rfl | rfl | rfl | rfl | rfl | rfl | rfl | rfl | rfl | rfl | rfl <;> rfl) l
theorem link_one (l : List (Src.Txt × Src.Txt)) : ∀ v ∈ l.flatMap Src.lc, v.oneCell' = true := cells_one _ (fun x v hv => by
  unfold Src.lc at hv
  simp only [List.mem_cons, List.not_mem_nil, or_false] at hv
  rcases hv with rfl | rfl <;> rfl) l
theorem zone_one {w : World} {B : Nat} {s : Src.S} {rv zv lv : Value} {evs : List Value} (h : Src.SrcR w B s rv zv lv evs) : ∀ v ∈ (s.zones.zip evs).flatMap Src.zc, v.oneCell' = true := by
  intro v hv
  rw [List.mem_flatMap] at hv
  obtain ⟨p, hp, hx⟩ := hv
  obtain ⟨A, c, e, _⟩ := h.eras p hp
  unfold Src.zc at hx
  simp only [List.mem_cons, List.not_mem_nil, or_false] at hx
  rcases hx with rfl | rfl
  · rfl
  · rw [e]
    rfl
theorem row_reads {w : World} {B size n c : Nat} {A : Option Addr} {xs : List Value} (h : Src.RowR w B size n (.slice A n c) xs) : Reads w B size A n xs := by
  obtain ⟨A', c', e, _, _, hr⟩ := h
  injection e with e1 _ e2
  subst e1
  exact hr
theorem zip_app {α β : Type} : ∀ (a a' : List α) (b b' : List β), b.length = a.length → (a ++ a').zip (b ++ b') = a.zip b ++ a'.zip b'
  | [], a', [], b', _ => rfl
  | x :: a, a', y :: b, b', h => by
    rw [List.cons_append, List.cons_append, List.zip_cons_cons, List.zip_cons_cons, zip_app a a' b b' (by simpa using h), List.cons_append]
namespace Src
theorem same_self (s : S) : sameB s s = true := (sameB_iff s s).2 ⟨rfl, rfl, rfl⟩
end Src
theorem We.q {w : World} (h : We w) : Wq w := ⟨h.c.p, h.a⟩
/-- One call behind another. -/
structure Two (w : World) (b5 b7 : Nat) (ca cb : List Value) (wx : World) : Prop where
  a : At wx b5 ca
  b : At wx b7 cb
  below : Below w.heap.size w wx
theorem Two.call {w wx wy : World} {b5 b7 : Nat} {ca cb : List Value} (h : Two w b5 b7 ca cb wx) (hb : Below wx.heap.size wx wy) : Two w b5 b7 ca cb wy := ⟨h.a.call hb, h.b.call hb, below_then h.below hb⟩
set_option maxHeartbeats 8000000 in
set_option maxRecDepth 100000 in
theorem topJoined_any (x x2 : Src.S) (rv zv lv rv' zv' lv' : Value) (evs evs2 : List Value) (w : World) (hW : We w) (hR : Src.SrcR w w.heap.size x rv zv lv evs) (hR' : Src.SrcR w w.heap.size x2 rv' zv' lv' evs2) (hw : Src.Wide x) (hw' : Src.Wide x2) :
    Calls Tryz.prog 4 #[.agg #[rv, zv, lv], .agg #[rv', zv', lv']] w fun e w' => e = .returned (.bool true) ∧ Below w.heap.size w w' := by
  have hop := hw.op
  have hop' := hw'.op
  have hrk := fun (hf : Src.Few x) (hb : Src.srcB x = true) => Pr.srcB_rk hb hw (Pr.few_lims hf)
  have hrk' := fun (hf : Src.Few x2) (hb : Src.srcB x2 = true) => Pr.srcB_rk hb hw' (Pr.few_lims hf)
  have HL := Lib.hid fun W hw => begins6_any W hw
  have hsm := fun W hr => few_any x rv zv lv evs W hr hw
  have hsm' := fun W hr => few_any x2 rv' zv' lv' evs2 W hr hw'
  have hpt := fun (hf : Src.Few x) W hw hr => prText_both x rv zv lv evs W hw hr (Pr.few_lims hf) (Pr.few_sm hf) hop (fun hb => ⟨hrk hf hb, by have := Pr.few_text hf (hrk hf hb) hop; omega⟩)
  have hpt' := fun (hf : Src.Few x2) W hw hr => prText_both x2 rv' zv' lv' evs2 W hw hr (Pr.few_lims hf) (Pr.few_sm hf) hop' (fun hb => ⟨hrk' hf hb, by have := Pr.few_text hf (hrk' hf hb) hop'; omega⟩)
  have hck := fun (hf : Src.Few x) W hw hr => srcCheck_any x rv zv lv evs W hw hr (Pr.few_lims hf) (Pr.few_sm hf)
  have hck' := fun (hf : Src.Few x2) W hw hr => srcCheck_any x2 rv' zv' lv' evs2 W hw hr (Pr.few_lims hf) (Pr.few_sm hf)
  have hR0 := hR
  have hR0' := hR'
  obtain ⟨A1, k1, rfl, _⟩ := hR0.rules
  obtain ⟨A2, k2, rfl, _⟩ := hR0.zones
  obtain ⟨A3, k3, rfl, _⟩ := hR0.links
  obtain ⟨B1, j1, rfl, _⟩ := hR0'.rules
  obtain ⟨B2, j2, rfl, _⟩ := hR0'.zones
  obtain ⟨B3, j3, rfl, _⟩ := hR0'.links
  obtain ⟨n1, hn1⟩ : ∃ n, x.rules.length = n := ⟨_, rfl⟩
  obtain ⟨n2, hn2⟩ : ∃ n, x.zones.length = n := ⟨_, rfl⟩
  obtain ⟨n3, hn3⟩ : ∃ n, x.links.length = n := ⟨_, rfl⟩
  obtain ⟨m1, hm1⟩ : ∃ n, x2.rules.length = n := ⟨_, rfl⟩
  obtain ⟨m2, hm2⟩ : ∃ n, x2.zones.length = n := ⟨_, rfl⟩
  obtain ⟨m3, hm3⟩ : ∃ n, x2.links.length = n := ⟨_, rfl⟩
  rw [hn1, hn2, hn3] at hR hsm hpt hck
  rw [hm1, hm2, hm3] at hR' hsm' hpt' hck'
  rw [hn1, hn2, hn3, hm1, hm2, hm3]
  have HN1 := Lib.hid hn1
  have HN := Lib.hid (And.intro hn2 hn3)
  have HM := Lib.hid (And.intro hm1 (And.intro hm2 hm3))
  have HRk := Lib.hid hrk
  have HRk' := Lib.hid hrk'
  have HOp := Lib.hid (And.intro hop hop')
  have HSm := Lib.hid hsm
  have HSm' := Lib.hid hsm'
  have HPT := Lib.hid hpt
  have HPT' := Lib.hid hpt'
  have HCk := Lib.hid hck
  have HCk' := Lib.hid hck'
  have HW := Lib.hid hW
  have hb0 : Below w.heap.size w ((w.alloc (.cells #[.slice A1 n1 k1, .slice A2 n2 k2, .slice A3 n3 k3] 26)).alloc (.cells #[.slice B1 m1 j1, .slice B2 m2 j2, .slice B3 m3 j3] 26)) := ((Below.refl w.heap.size w).alloc (Nat.le_refl _) _).alloc (by simp) _
  have HD0 := Lib.hid (show Two w w.heap.size (w.heap.size + 1) [.slice A1 n1 k1, .slice A2 n2 k2, .slice A3 n3 k3] [.slice B1 m1 j1, .slice B2 m2 j2, .slice B3 m3 j3] ((w.alloc (.cells #[.slice A1 n1 k1, .slice A2 n2 k2, .slice A3 n3 k3] 26)).alloc (.cells #[.slice B1 m1 j1, .slice B2 m2 j2, .slice B3 m3 j3] 26)) from
    ⟨(At.new w #[.slice A1 n1 k1, .slice A2 n2 k2, .slice A3 n3 k3] 26).allocO _, by have := At.new (w.alloc (.cells #[.slice A1 n1 k1, .slice A2 n2 k2, .slice A3 n3 k3] 26)) #[.slice B1 m1 j1, .slice B2 m2 j2, .slice B3 m3 j3] 26; simpa using this, hb0⟩)
  have HR0 := Lib.hid ((hR.below hb0).more hb0.size)
  have HS0 := Lib.hid ((hR'.below hb0).more hb0.size)
  obtain ⟨b5, hb5⟩ : ∃ h, w.heap.size = h := ⟨_, rfl⟩
  obtain ⟨b7, hb7⟩ : ∃ h, b5 + 1 = h := ⟨_, rfl⟩
  clear hrk hrk' hop hop' hsm hsm' hpt hpt' hck hck' hR0 hR0' hn1 hn2 hn3 hm1 hm2 hm3 hW hR hR' hw hw' hb0
  rw [hb5, hb7] at HD0
  have HWx := Lib.hid (show ∀ (W : World), Two w b5 b7 [.slice A1 n1 k1, .slice A2 n2 k2, .slice A3 n3 k3] [.slice B1 m1 j1, .slice B2 m2 j2, .slice B3 m3 j3] W → We W from fun W h => HW.out.below h.below)
  go_enter Tryz.func4, Tryz.ntmps4
  go_wp2_with fail
  refine (HL.out _ (HWx.out _ HD0.out)).mono ?_
  rintro e w1 ⟨rfl, hb⟩
  have HD1 := Lib.hid (HD0.out.call hb)
  have HR1 := Lib.hid (HR0.out.call hb)
  have HS1 := Lib.hid (HS0.out.call hb)
  have HH := Lib.hid hb5
  have HH7 := Lib.hid hb7
  clear hb hb5 hb7 HD0 HR0 HS0
  obtain ⟨a0, a1, a2, _⟩ := HD1.out.a.three
  obtain ⟨c0, c1, c2, _⟩ := HD1.out.b.three
  go_wp2_with fail
  refine (HSm.out _ HR1.out).mono ?_
  rintro e w2 ⟨he, hb⟩
  have HD2 := Lib.hid (HD1.out.call hb)
  have HR2 := Lib.hid (HR1.out.call hb)
  have HS2 := Lib.hid (HS1.out.call hb)
  clear hb HD1 HR1 HS1 a0 a1 a2 c0 c1 c2
  rcases he with rfl | ⟨rfl, hfew⟩
  · go_wp2
    go_ret
    exact ⟨rfl, HD2.out.below⟩
  have HFa := Lib.hid hfew
  clear hfew
  obtain ⟨a0, a1, a2, _⟩ := HD2.out.a.three
  obtain ⟨c0, c1, c2, _⟩ := HD2.out.b.three
  go_wp2_with fail
  refine (HSm'.out _ HS2.out).mono ?_
  rintro e w3 ⟨he, hb⟩
  have HD3 := Lib.hid (HD2.out.call hb)
  have HR3 := Lib.hid (HR2.out.call hb)
  have HS3 := Lib.hid (HS2.out.call hb)
  clear hb HD2 HR2 HS2 a0 a1 a2 c0 c1 c2
  rcases he with rfl | ⟨rfl, hfew⟩
  · go_wp2
    go_ret
    exact ⟨rfl, HD3.out.below⟩
  have HFb := Lib.hid hfew
  clear hfew
  obtain ⟨a0, a1, a2, _⟩ := HD3.out.a.three
  obtain ⟨c0, c1, c2, _⟩ := HD3.out.b.three
  go_wp2_with fail
  refine (HPT.out HFa.out _ (HWx.out _ HD3.out) HR3.out).mono ?_
  rintro e w4 ⟨T1, Y1, rfl, hb, hcase⟩
  have HC1 := Lib.hid hcase
  have HD4 := Lib.hid (HD3.out.call hb)
  have HR4 := Lib.hid (HR3.out.call hb)
  have HS4 := Lib.hid (HS3.out.call hb)
  clear hb hcase HD3 HR3 HS3 a0 a1 a2 c0 c1 c2
  obtain ⟨a0, a1, a2, _⟩ := HD4.out.a.three
  obtain ⟨c0, c1, c2, _⟩ := HD4.out.b.three
  go_wp2_with fail
  refine (HPT'.out HFb.out _ (HWx.out _ HD4.out) HS4.out).mono ?_
  rintro e w5 ⟨T2, Y2, rfl, hb, hcase⟩
  have HC2 := Lib.hid hcase
  have HD5 := Lib.hid (HD4.out.call hb)
  have HR5 := Lib.hid (HR4.out.call hb)
  have HS5 := Lib.hid (HS4.out.call hb)
  clear hb hcase HD4 HR4 HS4 a0 a1 a2 c0 c1 c2
  obtain ⟨a0, a1, a2, _⟩ := HD5.out.a.three
  obtain ⟨c0, c1, c2, _⟩ := HD5.out.b.three
  by_cases hboth : Y1 = 0 ∧ Y2 = 0
  · obtain ⟨rfl, rfl⟩ := hboth
    obtain ⟨ea, hT1⟩ : Src.srcB x = true ∧ T1 = Src.bts (Pr.text x) := by
      rcases HC1.out with ⟨_, h1, h2⟩ | ⟨e, _⟩
      · exact ⟨h1, h2⟩
      · exact absurd e (by decide)
    obtain ⟨eb, hT2⟩ : Src.srcB x2 = true ∧ T2 = Src.bts (Pr.text x2) := by
      rcases HC2.out with ⟨_, h1, h2⟩ | ⟨e, _⟩
      · exact ⟨h1, h2⟩
      · exact absurd e (by decide)
    have ra := HRk.out HFa.out ea
    have rb := HRk'.out HFb.out eb
    obtain ⟨opa, opb⟩ := HOp.out
    have l1 := Pr.few_text HFa.out ra opa
    have l2 := Pr.few_text HFb.out rb opb
    have q1 : x.rules.length + x2.rules.length ≤ 4096 := by have := HFa.out.nr; have := HFb.out.nr; omega
    have q2 : x.zones.length + x2.zones.length ≤ 1024 := by have := HFa.out.nz; have := HFb.out.nz; omega
    have q3 : x.links.length + x2.links.length ≤ 4096 := by have := HFa.out.nl; have := HFb.out.nl; omega
    have rX := Pr.rk_app ra rb opa opb q1 q2 q3
    have lX := Pr.text_app x x2
    have hz1 : T1.size = (Pr.text x).length := by rw [hT1]; rfl
    have hz2 : T2.size = (Pr.text x2).length := by rw [hT2]; rfl
    have hTT : T1 ++ T2 = Src.bts (Pr.text x ++ Pr.text x2) := by rw [hT1, hT2, Pr.bts_two]
    have hsz : (T1 ++ T2).size = T1.size + T2.size := by rw [ByteArray.size_append]
    have hp : Src.parse Src.own (tl (T1 ++ T2)) = .ok (Src.app x x2) := by
      rw [hTT, Pr.tl_bts]
      exact Pr.parse_two x x2 ra rb opa opb q1 q2 q3 (by rw [List.length_append]; omega)
    have s1 : ∀ W, (Op.stringOp .add T1 T2).run Tryz.prog W = .ok (.string (T1 ++ T2)) W := fun W => run_string_add_sum W _ _ (by omega)
    have hP := fun W hw => Lv.call_ok hp W hw (by rw [hsz]; unfold maxLen; omega)
    have hTx := fun rv zv lv evs W hw hr => prText_ok (Src.app x x2) rv zv lv evs W hw hr rX opb (by omega)
    have hPy := fun W hw => Lv.call_ok (t := Src.bts (Pr.text (Src.app x x2))) (s := Src.app x x2) (by rw [Pr.tl_bts]; exact Pr.parse_text _ rX opb (by omega)) W hw (by show (Pr.text (Src.app x x2)).length ≤ maxLen; unfold maxLen; omega)
    have hU : (Src.bts (Pr.text (Src.app x x2))).size = T1.size + T2.size := by rw [hz1, hz2, ← lX]; rfl
    obtain ⟨U, hUU⟩ : ∃ y, Src.bts (Pr.text (Src.app x x2)) = y := ⟨_, rfl⟩
    rw [hUU] at hTx hPy hU
    obtain ⟨TT, hTTe⟩ : ∃ y, T1 ++ T2 = y := ⟨_, rfl⟩
    rw [hTTe] at s1 hP
    have wr : IntKind.i64.wrap ((T1.size : Int) + (T2.size : Int)) = (T1.size : Int) + (T2.size : Int) := IntWalk.i64_in _ (by omega)
    have HU := Lib.hid hU
    have HWr := Lib.hid wr
    have HP := Lib.hid hP
    have HTx := Lib.hid hTx
    have HPy := Lib.hid hPy
    clear HC1 HC2 ea eb hT1 hT2 ra rb opa opb l1 l2 q1 q2 q3 rX lX hz1 hz2 hTT hsz hp hP hTx hPy hU hUU hTTe wr HCk HCk' HPT HPT' HSm HSm' HRk HRk' HL
    go_wp2_with fail
    refine (HP.out _ (HWx.out _ HD5.out).q).mono ?_
    rintro e w6 ⟨hb, rv6, zv6, lv6, evs6, rfl, hR6⟩
    obtain ⟨C1, i1, rfl, _⟩ := hR6.rules
    obtain ⟨C2, i2, rfl, _⟩ := hR6.zones
    obtain ⟨C3, i3, rfl, _⟩ := hR6.links
    obtain ⟨p1, hp1⟩ : ∃ n, (Src.app x x2).rules.length = n := ⟨_, rfl⟩
    obtain ⟨p2, hp2⟩ : ∃ n, (Src.app x x2).zones.length = n := ⟨_, rfl⟩
    obtain ⟨p3, hp3⟩ : ∃ n, (Src.app x x2).links.length = n := ⟨_, rfl⟩
    rw [hp1, hp2, hp3] at hR6 ⊢
    have HPn := Lib.hid (And.intro hp1 (And.intro hp2 hp3))
    have HX6 := Lib.hid (((Below.refl w6.heap.size w6).alloc (Nat.le_refl _) (.cells #[.slice C1 p1 i1, .slice C2 p2 i2, .slice C3 p3 i3] 26)).alloc (by simp) (.cells #[.int .i64 0, .int .i64 0, .int .i64 0] 34))
    have HT6 := Lib.hid ((At.new w6 #[.slice C1 p1 i1, .slice C2 p2 i2, .slice C3 p3 i3] 26).allocO (.cells #[.int .i64 0, .int .i64 0, .int .i64 0] 34))
    have HF6 := Lib.hid (show At ((w6.alloc (.cells #[.slice C1 p1 i1, .slice C2 p2 i2, .slice C3 p3 i3] 26)).alloc (.cells #[.int .i64 0, .int .i64 0, .int .i64 0] 34)) (w6.heap.size + 1) [.int .i64 0, .int .i64 0, .int .i64 0] by have := At.new (w6.alloc (.cells #[.slice C1 p1 i1, .slice C2 p2 i2, .slice C3 p3 i3] 26)) #[.int .i64 0, .int .i64 0, .int .i64 0] 34; simpa using this)
    have HD6 := Lib.hid ((HD5.out.call hb).call HX6.out)
    have HR6 := Lib.hid ((HR5.out.call hb).call HX6.out)
    have HS6 := Lib.hid ((HS5.out.call hb).call HX6.out)
    have HV6 := Lib.hid (hR6.call HX6.out)
    clear hb hR6 hp1 hp2 hp3 HR5 HS5 HD5 a0 a1 a2 c0 c1 c2
    obtain ⟨t0, t1, t2, _⟩ := HT6.out.three
    go_wp2_with fail
    refine (HTx.out _ _ _ _ _ (HWx.out _ HD6.out) HV6.out).mono ?_
    rintro e w7 ⟨rfl, hb⟩
    have HD7 := Lib.hid (HD6.out.call hb)
    have HR7 := Lib.hid (HR6.out.call hb)
    have HS7 := Lib.hid (HS6.out.call hb)
    have HV7 := Lib.hid (HV6.out.call hb)
    have HT7 := Lib.hid (HT6.out.call hb)
    have HF7 := Lib.hid (HF6.out.call hb)
    clear hb t0 t1 t2 HD6 HR6 HS6 HV6 HT6 HF6
    obtain ⟨b9, hb9⟩ : ∃ h, w6.heap.size = h := ⟨_, rfl⟩
    rw [hb9] at HT7 HF7 ⊢
    clear hb9
    go_wp2_with fail
    refine (HPy.out _ (HWx.out _ HD7.out).q).mono ?_
    rintro e w8 ⟨hb, rv8, zv8, lv8, evs8, rfl, hR8⟩
    obtain ⟨E1, f1, rfl, _⟩ := hR8.rules
    obtain ⟨E2, f2, rfl, _⟩ := hR8.zones
    obtain ⟨E3, f3, rfl, _⟩ := hR8.links
    rw [HPn.out.1, HPn.out.2.1, HPn.out.2.2] at hR8 ⊢
    have HX8 := Lib.hid (((Below.refl w8.heap.size w8).alloc (Nat.le_refl _) (.cells #[.slice E1 p1 f1, .slice E2 p2 f2, .slice E3 p3 f3] 26)).alloc (by simp) (.cells #[.int .i64 0, .int .i64 0, .int .i64 0] 34))
    have HT8 := Lib.hid ((At.new w8 #[.slice E1 p1 f1, .slice E2 p2 f2, .slice E3 p3 f3] 26).allocO (.cells #[.int .i64 0, .int .i64 0, .int .i64 0] 34))
    have HF8 := Lib.hid (show At ((w8.alloc (.cells #[.slice E1 p1 f1, .slice E2 p2 f2, .slice E3 p3 f3] 26)).alloc (.cells #[.int .i64 0, .int .i64 0, .int .i64 0] 34)) (w8.heap.size + 1) [.int .i64 0, .int .i64 0, .int .i64 0] by have := At.new (w8.alloc (.cells #[.slice E1 p1 f1, .slice E2 p2 f2, .slice E3 p3 f3] 26)) #[.int .i64 0, .int .i64 0, .int .i64 0] 34; simpa using this)
    have HD5 := Lib.hid ((HD7.out.call hb).call HX8.out)
    have HR5 := Lib.hid ((HR7.out.call hb).call HX8.out)
    have HS5 := Lib.hid ((HS7.out.call hb).call HX8.out)
    have HV5 := Lib.hid ((HV7.out.call hb).call HX8.out)
    have HY5 := Lib.hid (hR8.call HX8.out)
    have HX5 := Lib.hid ((HT7.out.call hb).call HX8.out)
    have HG5 := Lib.hid ((HF7.out.call hb).call HX8.out)
    have HB5 := Lib.hid HD5.out.below
    clear hb hR8 HD7 HR7 HS7 HV7 HT7 HF7
    go_wp2_with fail
    obtain ⟨v2, hv2⟩ : ∃ y, (w8.alloc (.cells #[.slice E1 p1 f1, .slice E2 p2 f2, .slice E3 p3 f3] 26)).alloc (.cells #[.int .i64 0, .int .i64 0, .int .i64 0] 34) = y := ⟨_, rfl⟩
    rw [hv2] at HD5 HR5 HS5 HV5 HY5 HX5 HG5 HB5 HT8 HF8
    obtain ⟨b13, hb13⟩ : ∃ h, w8.heap.size = h := ⟨_, rfl⟩
    rw [hv2, hb13]
    rw [hb13] at HT8 HF8
    have HT5 := Lib.hid HD5.out.a
    have HU5 := Lib.hid HD5.out.b
    clear hv2 hb13
    have hR5 := HR5.out
    have hS5 := HS5.out
    have e3 : evs.length = x.zones.length := hR5.len
    have e4 : evs2.length = x2.zones.length := hS5.len
    have hLm := Pr.few_lims HFa.out
    have hLm2 := Pr.few_lims HFb.out
    have hb1 : n1 ≤ 4096 := by have h1 := hLm.rules; have h2 := HN1.out; omega
    have hb2 : m1 ≤ 4096 := by have h1 := hLm2.rules; have h2 := HM.out.1; omega
    have hb3 : m2 ≤ 1024 := by have h1 := hLm2.zones; have h2 := HM.out.2.1; omega
    have hb4 : m3 ≤ 4096 := by have h1 := hLm2.links; have h2 := HM.out.2.2; omega
    have hn2 : n2 ≤ 1024 := by have h1 := hLm.zones; have h2 := HN.out.1; omega
    have hn3 : n3 ≤ 4096 := by have h1 := hLm.links; have h2 := HN.out.2; omega
    have h0r := hR5.rules
    have h0z := hR5.zones
    have h0l := hR5.links
    have h1r := hS5.rules
    have h1z := hS5.zones
    have h1l := hS5.links
    rw [HN1.out] at h0r
    rw [HN.out.1] at h0z
    rw [HN.out.2] at h0l
    rw [HM.out.1] at h1r
    rw [HM.out.2.1] at h1z
    rw [HM.out.2.2] at h1l
    have R0 := Lib.hid (row_reads h0r)
    have R1 := Lib.hid (row_reads h0z)
    have R2 := Lib.hid (row_reads h0l)
    have Q0 := Lib.hid (row_reads h1r)
    have Q1 := Lib.hid (row_reads h1z)
    have Q2 := Lib.hid (row_reads h1l)
    have O0 := Lib.hid (rule_one x.rules)
    have O1 := Lib.hid (zone_one hR5)
    have O2 := Lib.hid (link_one x.links)
    have V0 := Lib.hid (rule_one x2.rules)
    have V1 := Lib.hid (zone_one hS5)
    have V2 := Lib.hid (link_one x2.links)
    obtain ⟨i0, i01, i02, i03, i04⟩ := info_parts rule_info
    have HI0 := Lib.hid (And.intro i01 (And.intro i02 (And.intro i03 i04)))
    obtain ⟨i1z, i11, i12, i13, i14⟩ := info_parts zone_info
    have HI1 := Lib.hid (And.intro i11 (And.intro i12 (And.intro i13 i14)))
    obtain ⟨i2l, i21, i22, i23, i24⟩ := info_parts link_info
    have HI2 := Lib.hid (And.intro i21 (And.intro i22 (And.intro i23 i24)))
    clear hR5 hS5 hLm hLm2 h0r h0z h0l h1r h1z h1l i01 i02 i03 i04 i11 i12 i13 i14 i21 i22 i23 i24 e3 e4
    refine Od.wp_region_inv 127 (by kernel_rfl) (by rfl) (by rfl) (Od.ord_of (by kernel_rfl)) (Od.dst_of (by kernel_rfl)) (Aj.J v2.drew (Od.slots _) b5 b7 (⟨47, 11, .slice A1 n1 k1, .slice B1 m1 j1, n1, m1, x.rules.flatMap Ru.R.cells, x2.rules.flatMap Ru.R.cells⟩ : Aj.Ch) (⟨53, 2, .slice A2 n2 k2, .slice B2 m2 j2, n2, m2, (x.zones.zip evs).flatMap Src.zc, (x2.zones.zip evs2).flatMap Src.zc⟩ : Aj.Ch) (⟨56, 2, .slice A3 n3 k3, .slice B3 m3 j3, n3, m3, x.links.flatMap Src.lc, x2.links.flatMap Src.lc⟩ : Aj.Ch)) (Aj.J.start _ _ _ _ _ _ _) ?step ?fin
    case step =>
      intro i o hi b a' wz hJ hb hdep hdf K hK
      obtain ⟨tm, df⟩ := a'
      simp only at hdf
      subst hdf
      have hi24 : i < 24 := (Array.getElem?_eq_some_iff.1 hi).1
      have hT := (HT5.out.drew ⟨1, rfl⟩).call hJ.below
      have hU := (HU5.out.drew ⟨1, rfl⟩).call hJ.below
      have h5 : tm.getD 2 undef = .pointer (some ⟨b5, 0, none⟩) := hJ.old 2 (by omega) (by omega)
      have h7 : tm.getD 3 undef = .pointer (some ⟨b7, 0, none⟩) := hJ.old 3 (by omega) (by omega)
      have hBz : v2.heap.size ≤ wz.heap.size := hJ.below.size
      have hsplit : i = 0 ∨ i = 1 ∨ i = 2 ∨ i = 3 ∨ i = 4 ∨ i = 5 ∨ i = 6 ∨ i = 7 ∨ i = 8 ∨ i = 9 ∨ i = 10 ∨ i = 11 ∨ i = 12 ∨ i = 13 ∨ i = 14 ∨ i = 15 ∨ i = 16 ∨ i = 17 ∨ i = 18 ∨ i = 19 ∨ i = 20 ∨ i = 21 ∨ i = 22 ∨ i = 23 := by omega
      rcases hsplit with rfl | rfl | rfl | rfl | rfl | rfl | rfl | rfl | rfl | rfl | rfl | rfl | rfl | rfl | rfl | rfl | rfl | rfl | rfl | rfl | rfl | rfl | rfl | rfl
      · have e := Option.some.inj (show some _ = some o from hi)
        subst e
        rw [if_pos (show Region.wanted _ _ = true from rfl)]
        go_simp
        exact hK _ _ (hJ.bs0 hb)
      · have e := Option.some.inj (show some _ = some o from hi)
        subst e
        rw [if_pos (show Region.wanted _ _ = true from rfl)]
        go_simp
        exact hK _ _ hJ.p0
      · have e := Option.some.inj (show some _ = some o from hi)
        subst e
        rw [if_pos (show Region.wanted _ _ = true from rfl)]
        have hp : tm.getD 74 undef = .pointer (some ⟨b5, 0, none⟩) := hJ.l0.p (hdep ⟨1, .data⟩ (by simp) rfl)
        have hc := hT.cell 0 _ rfl
        go_simp
        exact hK _ _ hJ.x0
      · have e := Option.some.inj (show some _ = some o from hi)
        subst e
        rw [if_pos (show Region.wanted _ _ = true from rfl)]
        have hd : b 0 = true := hdep ⟨0, .data⟩ (by simp) rfl
        have hx : tm.getD 75 undef = .slice A1 n1 k1 := hJ.l0.x (hdep ⟨2, .data⟩ (by simp) rfl)
        refine wp_append_any wz (.tmp 73) (.tmp 75) 22 rfl v2.drew.heap.size 47 i0 _ 11 104 Tryz.underlying22 HI0.out.1 HI0.out.2.1 HI0.out.2.2.1 HI0.out.2.2.2 rfl (by decide) _ 0 [] rfl (hJ.own_ap0 hb hd) _ A1 n1 k1 _ hx ((show Reads v2.drew v2.drew.heap.size _ _ _ _ from R0.out).below hJ.below) O0.out (by unfold maxLen; omega) (by omega) hBz ?_
        intro v' w' hown hg hat
        rw [Nat.zero_add, List.nil_append] at hown
        exact hK _ _ (hJ.ap0 hb hd hown hg hat)
      · have e := Option.some.inj (show some _ = some o from hi)
        subst e
        rw [if_pos (show Region.wanted _ _ = true from rfl)]
        go_simp
        exact hK _ _ hJ.q0
      · have e := Option.some.inj (show some _ = some o from hi)
        subst e
        rw [if_pos (show Region.wanted _ _ = true from rfl)]
        have hp : tm.getD 77 undef = .pointer (some ⟨b7, 0, none⟩) := hJ.l0.q (hdep ⟨4, .data⟩ (by simp) rfl)
        have hc := hU.cell 0 _ rfl
        go_simp
        exact hK _ _ hJ.y0
      · have e := Option.some.inj (show some _ = some o from hi)
        subst e
        rw [if_pos (show Region.wanted _ _ = true from rfl)]
        have hd : b 3 = true := hdep ⟨3, .data⟩ (by simp) rfl
        have hx : tm.getD 78 undef = .slice B1 m1 j1 := hJ.l0.y (hdep ⟨5, .data⟩ (by simp) rfl)
        refine wp_append_any wz (.tmp 76) (.tmp 78) 22 rfl v2.drew.heap.size 47 i0 _ 11 104 Tryz.underlying22 HI0.out.1 HI0.out.2.1 HI0.out.2.2.1 HI0.out.2.2.2 rfl (by decide) _ n1 _ rfl (hJ.own_aq0 hb hd) _ B1 m1 j1 _ hx ((show Reads v2.drew v2.drew.heap.size _ _ _ _ from Q0.out).below hJ.below) V0.out (by unfold maxLen; omega) (by omega) hBz ?_
        intro v' w' hown hg hat
        exact hK _ _ (hJ.aq0 hb hd hown hg hat)
      · have e := Option.some.inj (show some _ = some o from hi)
        subst e
        rw [if_pos (show Region.wanted _ _ = true from rfl)]
        go_simp
        exact hK _ _ (hJ.bs1 hb)
      · have e := Option.some.inj (show some _ = some o from hi)
        subst e
        rw [if_pos (show Region.wanted _ _ = true from rfl)]
        go_simp
        exact hK _ _ hJ.p1
      · have e := Option.some.inj (show some _ = some o from hi)
        subst e
        rw [if_pos (show Region.wanted _ _ = true from rfl)]
        have hp : tm.getD 81 undef = .pointer (some ⟨b5, 1, none⟩) := hJ.l1.p (hdep ⟨8, .data⟩ (by simp) rfl)
        have hc := hT.cell 1 _ rfl
        go_simp
        exact hK _ _ hJ.x1
      · have e := Option.some.inj (show some _ = some o from hi)
        subst e
        rw [if_pos (show Region.wanted _ _ = true from rfl)]
        have hd : b 7 = true := hdep ⟨7, .data⟩ (by simp) rfl
        have hx : tm.getD 82 undef = .slice A2 n2 k2 := hJ.l1.x (hdep ⟨9, .data⟩ (by simp) rfl)
        refine wp_append_any wz (.tmp 80) (.tmp 82) 23 rfl v2.drew.heap.size 53 i1z _ 2 40 Tryz.underlying23 HI1.out.1 HI1.out.2.1 HI1.out.2.2.1 HI1.out.2.2.2 rfl (by decide) _ 0 [] rfl (hJ.own_ap1 hb hd) _ A2 n2 k2 _ hx ((show Reads v2.drew v2.drew.heap.size _ _ _ _ from R1.out).below hJ.below) O1.out (by unfold maxLen; omega) (by omega) hBz ?_
        intro v' w' hown hg hat
        rw [Nat.zero_add, List.nil_append] at hown
        exact hK _ _ (hJ.ap1 hb hd hown hg hat)
      · have e := Option.some.inj (show some _ = some o from hi)
        subst e
        rw [if_pos (show Region.wanted _ _ = true from rfl)]
        go_simp
        exact hK _ _ hJ.q1
      · have e := Option.some.inj (show some _ = some o from hi)
        subst e
        rw [if_pos (show Region.wanted _ _ = true from rfl)]
        have hp : tm.getD 84 undef = .pointer (some ⟨b7, 1, none⟩) := hJ.l1.q (hdep ⟨11, .data⟩ (by simp) rfl)
        have hc := hU.cell 1 _ rfl
        go_simp
        exact hK _ _ hJ.y1
      · have e := Option.some.inj (show some _ = some o from hi)
        subst e
        rw [if_pos (show Region.wanted _ _ = true from rfl)]
        have hd : b 10 = true := hdep ⟨10, .data⟩ (by simp) rfl
        have hx : tm.getD 85 undef = .slice B2 m2 j2 := hJ.l1.y (hdep ⟨12, .data⟩ (by simp) rfl)
        refine wp_append_any wz (.tmp 83) (.tmp 85) 23 rfl v2.drew.heap.size 53 i1z _ 2 40 Tryz.underlying23 HI1.out.1 HI1.out.2.1 HI1.out.2.2.1 HI1.out.2.2.2 rfl (by decide) _ n2 _ rfl (hJ.own_aq1 hb hd) _ B2 m2 j2 _ hx ((show Reads v2.drew v2.drew.heap.size _ _ _ _ from Q1.out).below hJ.below) V1.out (by unfold maxLen; omega) (by omega) hBz ?_
        intro v' w' hown hg hat
        exact hK _ _ (hJ.aq1 hb hd hown hg hat)
      · have e := Option.some.inj (show some _ = some o from hi)
        subst e
        rw [if_pos (show Region.wanted _ _ = true from rfl)]
        go_simp
        exact hK _ _ (hJ.bs2 hb)
      · have e := Option.some.inj (show some _ = some o from hi)
        subst e
        rw [if_pos (show Region.wanted _ _ = true from rfl)]
        go_simp
        exact hK _ _ hJ.p2
      · have e := Option.some.inj (show some _ = some o from hi)
        subst e
        rw [if_pos (show Region.wanted _ _ = true from rfl)]
        have hp : tm.getD 88 undef = .pointer (some ⟨b5, 2, none⟩) := hJ.l2.p (hdep ⟨15, .data⟩ (by simp) rfl)
        have hc := hT.cell 2 _ rfl
        go_simp
        exact hK _ _ hJ.x2
      · have e := Option.some.inj (show some _ = some o from hi)
        subst e
        rw [if_pos (show Region.wanted _ _ = true from rfl)]
        have hd : b 14 = true := hdep ⟨14, .data⟩ (by simp) rfl
        have hx : tm.getD 89 undef = .slice A3 n3 k3 := hJ.l2.x (hdep ⟨16, .data⟩ (by simp) rfl)
        refine wp_append_any wz (.tmp 87) (.tmp 89) 24 rfl v2.drew.heap.size 56 i2l _ 2 32 Tryz.underlying24 HI2.out.1 HI2.out.2.1 HI2.out.2.2.1 HI2.out.2.2.2 rfl (by decide) _ 0 [] rfl (hJ.own_ap2 hb hd) _ A3 n3 k3 _ hx ((show Reads v2.drew v2.drew.heap.size _ _ _ _ from R2.out).below hJ.below) O2.out (by unfold maxLen; omega) (by omega) hBz ?_
        intro v' w' hown hg hat
        rw [Nat.zero_add, List.nil_append] at hown
        exact hK _ _ (hJ.ap2 hb hd hown hg hat)
      · have e := Option.some.inj (show some _ = some o from hi)
        subst e
        rw [if_pos (show Region.wanted _ _ = true from rfl)]
        go_simp
        exact hK _ _ hJ.q2
      · have e := Option.some.inj (show some _ = some o from hi)
        subst e
        rw [if_pos (show Region.wanted _ _ = true from rfl)]
        have hp : tm.getD 91 undef = .pointer (some ⟨b7, 2, none⟩) := hJ.l2.q (hdep ⟨18, .data⟩ (by simp) rfl)
        have hc := hU.cell 2 _ rfl
        go_simp
        exact hK _ _ hJ.y2
      · have e := Option.some.inj (show some _ = some o from hi)
        subst e
        rw [if_pos (show Region.wanted _ _ = true from rfl)]
        have hd : b 17 = true := hdep ⟨17, .data⟩ (by simp) rfl
        have hx : tm.getD 92 undef = .slice B3 m3 j3 := hJ.l2.y (hdep ⟨19, .data⟩ (by simp) rfl)
        refine wp_append_any wz (.tmp 90) (.tmp 92) 24 rfl v2.drew.heap.size 56 i2l _ 2 32 Tryz.underlying24 HI2.out.1 HI2.out.2.1 HI2.out.2.2.1 HI2.out.2.2.2 rfl (by decide) _ n3 _ rfl (hJ.own_aq2 hb hd) _ B3 m3 j3 _ hx ((show Reads v2.drew v2.drew.heap.size _ _ _ _ from Q2.out).below hJ.below) V2.out (by unfold maxLen; omega) (by omega) hBz ?_
        intro v' w' hown hg hat
        exact hK _ _ (hJ.aq2 hb hd hown hg hat)
      · have e := Option.some.inj (show some _ = some o from hi)
        subst e
        rw [if_pos (show Region.wanted _ _ = true from rfl)]
        have h6 := hdep ⟨6, .data⟩ (by simp) rfl
        have h13 := hdep ⟨13, .data⟩ (by simp) rfl
        have h20 := hdep ⟨20, .data⟩ (by simp) rfl
        obtain ⟨P1, q1', g1, _, _⟩ := own_slice_cap (hJ.full0 h6)
        obtain ⟨P2, q2', g2, _, _⟩ := own_slice_cap (hJ.full1 h13)
        obtain ⟨P3, q3', g3, _, _⟩ := own_slice_cap (hJ.full2 h20)
        have g1 : tm.getD 79 undef = .slice P1 (n1 + m1) q1' := g1
        have g2 : tm.getD 86 undef = .slice P2 (n2 + m2) q2' := g2
        have g3 : tm.getD 93 undef = .slice P3 (n3 + m3) q3' := g3
        have hbl := hJ.build h6 h13 h20
        have e : (Value.agg #[Od.slots ⟨tm, []⟩ 79, Od.slots ⟨tm, []⟩ 86, Od.slots ⟨tm, []⟩ 93]) = .agg #[.slice P1 (n1 + m1) q1', .slice P2 (n2 + m2) q2', .slice P3 (n3 + m3) q3'] := by
          unfold Od.slots
          simp only [g1, g2, g3]
        rw [e] at hbl
        have g1' : tm[79]?.getD undef = .slice P1 (n1 + m1) q1' := by rw [← Array.getD_eq_getD_getElem?]; exact g1
        have g2' : tm[86]?.getD undef = .slice P2 (n2 + m2) q2' := by rw [← Array.getD_eq_getD_getElem?]; exact g2
        have g3' : tm[93]?.getD undef = .slice P3 (n3 + m3) q3' := by rw [← Array.getD_eq_getD_getElem?]; exact g3
        go_simp
        exact hK _ _ hbl
      · have e := Option.some.inj (show some _ = some o from hi)
        subst e
        rw [if_pos (show Region.wanted _ _ = true from rfl)]
        go_simp
        exact hK _ _ (hJ.alloc_ hb)
      · have e := Option.some.inj (show some _ = some o from hi)
        subst e
        rw [if_pos (show Region.wanted _ _ = true from rfl)]
        have h21 := hdep ⟨21, .data⟩ (by simp) rfl
        have h22 := hdep ⟨22, .data⟩ (by simp) rfl
        obtain ⟨⟨h6, h13, h20⟩, h124⟩ := hJ.bd h21
        obtain ⟨P1, q1', g1, _, _⟩ := own_slice_cap (hJ.full0 h6)
        obtain ⟨P2, q2', g2, _, _⟩ := own_slice_cap (hJ.full1 h13)
        obtain ⟨P3, q3', g3, _, _⟩ := own_slice_cap (hJ.full2 h20)
        have g1 : tm.getD 79 undef = .slice P1 (n1 + m1) q1' := g1
        have g2 : tm.getD 86 undef = .slice P2 (n2 + m2) q2' := g2
        have g3 : tm.getD 93 undef = .slice P3 (n3 + m3) q3' := g3
        have h124 : tm.getD 94 undef = .agg #[.slice P1 (n1 + m1) q1', .slice P2 (n2 + m2) q2', .slice P3 (n3 + m3) q3'] := by
          have : tm.getD 94 undef = .agg #[tm.getD 79 undef, tm.getD 86 undef, tm.getD 93 undef] := h124
          rw [g1, g2, g3] at this
          exact this
        obtain ⟨g, hg1, hg2, hg3, _⟩ := hJ.al h22
        rw [hb, if_neg (by decide)] at hg3
        have h13' : tm.getD 15 undef = .pointer (some ⟨g, 0, none⟩) := hg1
        have hst := hJ.store_ h21 hb hg1 h22
        have s1 : Od.slots ⟨tm, []⟩ 79 = .slice P1 (n1 + m1) q1' := g1
        have s2 : Od.slots ⟨tm, []⟩ 86 = .slice P2 (n2 + m2) q2' := g2
        have s3 : Od.slots ⟨tm, []⟩ 93 = .slice P3 (n3 + m3) q3' := g3
        rw [s1, s2, s3] at hst
        obtain ⟨z0, z1, z2, y0', y1', y2'⟩ := hg3.three
        go_simp
        exact hK undef _ hst
    case fin =>
      intro a' wz hJ hN hdf
      obtain ⟨g, hg1, hg2, hg3, _⟩ := hJ.al (by rfl)
      rw [if_pos (show decide (23 < Array.size _) = true by rfl)] at hg3
      have hr0 := hJ.full0 (by rfl)
      have hr1 := hJ.full1 (by rfl)
      have hr2 := hJ.full2 (by rfl)
      obtain ⟨P1, q1', g1, _, _⟩ := own_slice_cap hr0
      obtain ⟨P2, q2', g2, _, _⟩ := own_slice_cap hr1
      obtain ⟨P3, q3', g3, _, _⟩ := own_slice_cap hr2
      rw [g1, g2, g3] at hg3
      rw [g1] at hr0
      rw [g2] at hr1
      rw [g3] at hr2
      have h5 : a'.tmps.getD 5 undef = .string T1 := hJ.old 5 (by omega) (by omega)
      have h6 : a'.tmps.getD 6 undef = .int .i64 0 := hJ.old 6 (by omega) (by omega)
      have h7 : a'.tmps.getD 7 undef = .string T2 := hJ.old 7 (by omega) (by omega)
      have h9 : a'.tmps.getD 9 undef = .pointer (some ⟨b9, 0, none⟩) := hJ.old 9 (by omega) (by omega)
      have h10 : a'.tmps.getD 10 undef = .pointer (some ⟨b9 + 1, 0, none⟩) := hJ.old 10 (by omega) (by omega)
      have h11 : a'.tmps.getD 11 undef = .string U := hJ.old 11 (by omega) (by omega)
      have h12 : a'.tmps.getD 12 undef = .int .i64 0 := hJ.old 12 (by omega) (by omega)
      have h13 : a'.tmps.getD 13 undef = .pointer (some ⟨b13, 0, none⟩) := hJ.old 13 (by omega) (by omega)
      have h14 : a'.tmps.getD 14 undef = .pointer (some ⟨b13 + 1, 0, none⟩) := hJ.old 14 (by omega) (by omega)
      have h15 : a'.tmps.getD 15 undef = .pointer (some ⟨g, 0, none⟩) := hg1
      have HX6 := Lib.hid ((HX5.out.drew ⟨1, rfl⟩).call hJ.below)
      have HG6 := Lib.hid ((HG5.out.drew ⟨1, rfl⟩).call hJ.below)
      have HT9 := Lib.hid ((HT8.out.drew ⟨1, rfl⟩).call hJ.below)
      have HF9 := Lib.hid ((HF8.out.drew ⟨1, rfl⟩).call hJ.below)
      have HGg := Lib.hid hg3
      have HB6 := Lib.hid (below_then HB5.out ((Below.refl v2.heap.size v2).drew.trans (show Below v2.heap.size v2.drew wz from hJ.below)))
      have hbz : Below v2.heap.size v2 wz := (Below.refl v2.heap.size v2).drew.trans (show Below v2.heap.size v2.drew wz from hJ.below)
      have HV6 := Lib.hid (HV5.out.call hbz)
      have HY6 := Lib.hid (HY5.out.call hbz)
      have hR6 := HR5.out.call hbz
      have hS6 := HS5.out.call hbz
      have hAll : Src.SrcR wz wz.heap.size ⟨x.rules ++ x2.rules, x.zones ++ x2.zones, x.links ++ x2.links, false⟩ (.slice P1 (n1 + m1) q1') (.slice P2 (n2 + m2) q2') (.slice P3 (n3 + m3) q3') (evs ++ evs2) := by
        have w0 := Src.RowR.of_own hr0
        have w1 := Src.RowR.of_own hr1
        have w2 := Src.RowR.of_own hr2
        simp only at w0 w1 w2
        refine ⟨?_, ?_, ?_, by simp [hR6.len, hS6.len], ?_⟩
        · simp only [List.length_append, HN1.out, HM.out.1, List.flatMap_append]
          exact w0
        · simp only [List.length_append, HN.out.1, HM.out.2.1]
          rw [zip_app _ _ _ _ hR6.len, List.flatMap_append]
          exact w1
        · simp only [List.length_append, HN.out.2, HM.out.2.2, List.flatMap_append]
          exact w2
        · intro p hp
          have hp' : p ∈ x.zones.zip evs ++ x2.zones.zip evs2 := by
            rw [← zip_app _ _ _ _ hR6.len]
            exact hp
          rcases List.mem_append.1 hp' with hp | hp
          · exact hR6.eras p hp
          · exact hS6.eras p hp
      have HSm := Lib.hid (calls_bool (srcSame_any (Src.app x x2) _ _ _ _ _ _ _ _ _ wz HV6.out hAll) (show _ = true from (Src.sameB_iff _ _).2 ⟨rfl, rfl, rfl⟩))
      have hSx := fun W hr hr' => srcSame_any (Src.app x x2) (Src.app x x2) (.slice C1 p1 i1) (.slice C2 p2 i2) (.slice C3 p3 i3) (.slice E1 p1 f1) (.slice E2 p2 f2) (.slice E3 p3 f3) evs6 evs8 W hr hr'
      rw [Src.same_self] at hSx
      have HSx := Lib.hid hSx
      have ef : a' = { tmps := ((List.range 127).map fun i => a'.tmps.getD i undef).toArray, defers := [] } := Sc.frame_of 127 a' hN hdf
      obtain ⟨u, hu⟩ : ∃ u : Nat → Value, (fun i => a'.tmps.getD i undef) = u := ⟨_, rfl⟩
      rw [hu] at ef
      have e5 : u 5 = .string T1 := by rw [← hu]; exact h5
      have e6 : u 6 = .int .i64 0 := by rw [← hu]; exact h6
      have e7 : u 7 = .string T2 := by rw [← hu]; exact h7
      have e9 : u 9 = .pointer (some ⟨b9, 0, none⟩) := by rw [← hu]; exact h9
      have e10 : u 10 = .pointer (some ⟨b9 + 1, 0, none⟩) := by rw [← hu]; exact h10
      have e11 : u 11 = .string U := by rw [← hu]; exact h11
      have e12 : u 12 = .int .i64 0 := by rw [← hu]; exact h12
      have e13 : u 13 = .pointer (some ⟨b13, 0, none⟩) := by rw [← hu]; exact h13
      have e14 : u 14 = .pointer (some ⟨b13 + 1, 0, none⟩) := by rw [← hu]; exact h14
      have e15 : u 15 = .pointer (some ⟨g, 0, none⟩) := by rw [← hu]; exact h15
      have ef2 : a' = { tmps := #[u 0, u 1, u 2, u 3, u 4, u 5, u 6, u 7, u 8, u 9, u 10, u 11, u 12, u 13, u 14, u 15, u 16, u 17, u 18, u 19, u 20, u 21, u 22, u 23, u 24, u 25, u 26, u 27, u 28, u 29, u 30, u 31, u 32, u 33, u 34, u 35, u 36, u 37, u 38, u 39, u 40, u 41, u 42, u 43, u 44, u 45, u 46, u 47, u 48, u 49, u 50, u 51, u 52, u 53, u 54, u 55, u 56, u 57, u 58, u 59, u 60, u 61, u 62, u 63, u 64, u 65, u 66, u 67, u 68, u 69, u 70, u 71, u 72, u 73, u 74, u 75, u 76, u 77, u 78, u 79, u 80, u 81, u 82, u 83, u 84, u 85, u 86, u 87, u 88, u 89, u 90, u 91, u 92, u 93, u 94, u 95, u 96, u 97, u 98, u 99, u 100, u 101, u 102, u 103, u 104, u 105, u 106, u 107, u 108, u 109, u 110, u 111, u 112, u 113, u 114, u 115, u 116, u 117, u 118, u 119, u 120, u 121, u 122, u 123, u 124, u 125, u 126], defers := [] } := ef
      rw [e5, e6, e7, e9, e10, e11, e12, e13, e14, e15] at ef2
      rw [ef2]
      obtain ⟨t0, t1, t2, _⟩ := HX6.out.three
      obtain ⟨y0, y1, y2, _⟩ := HG6.out.three
      obtain ⟨z0, z1, z2, _⟩ := HGg.out.three
      clear hJ hg1 hg3 hr0 hr1 hr2 g1 g2 g3 h5 h6 h7 h9 h10 h11 h12 h13 h14 h15 hbz hR6 hS6 hAll hSx ef ef2 hu e5 e6 e7 e9 e10 e11 e12 e13 e14 e15 hN hdf
      have wr := HWr.out
      go_wp2_with fail
      refine HSm.out.mono ?_
      rintro e v3 ⟨rfl, hd⟩
      have HX7 := Lib.hid (HX6.out.call hd)
      have HT10 := Lib.hid (HT9.out.call hd)
      have HF10 := Lib.hid (HF9.out.call hd)
      have HV7 := Lib.hid (HV6.out.call hd)
      have HY7 := Lib.hid (HY6.out.call hd)
      have HB7 := Lib.hid (below_then HB6.out hd)
      clear hd t0 t1 t2 y0 y1 y2 z0 z1 z2
      obtain ⟨t0, t1, t2, _⟩ := HX7.out.three
      obtain ⟨y0, y1, y2, _⟩ := HT10.out.three
      obtain ⟨z0, z1, z2, _⟩ := HF10.out.three
      have hUi : (U.size : Int) = (T1.size : Int) + (T2.size : Int) := by have := HU.out; omega
      go_wp2_with fail
      refine (HSx.out _ HV7.out HY7.out).mono ?_
      rintro e v4 ⟨rfl, hd⟩
      have HB8 := Lib.hid (below_then HB7.out hd)
      clear hd
      go_wp2
      go_ret
      exact ⟨rfl, HB8.out⟩
  · have HK1 := Lib.hid (HCk.out HFa.out)
    have HK2 := Lib.hid (HCk'.out HFb.out)
    rw [show (if Src.srcB x = true then (0 : Int) else 2) = Y1 from by rcases HC1.out with ⟨e1, e2, _⟩ | ⟨e1, e2⟩ <;> rw [e1, e2] <;> rfl] at HK1
    rw [show (if Src.srcB x2 = true then (0 : Int) else 2) = Y2 from by rcases HC2.out with ⟨e1, e2, _⟩ | ⟨e1, e2⟩ <;> rw [e1, e2] <;> rfl] at HK2
    have hY1 : Y1 = 0 ∨ Y1 = 2 := by rcases HC1.out with ⟨e1, _⟩ | ⟨e1, _⟩ <;> omega
    have hY2 : Y2 = 0 ∨ Y2 = 2 := by rcases HC2.out with ⟨e1, _⟩ | ⟨e1, _⟩ <;> omega
    clear HC1 HC2
    rcases hY1 with rfl | rfl <;> rcases hY2 with rfl | rfl
    · exact absurd ⟨rfl, rfl⟩ hboth
    all_goals
      clear hboth
      go_wp2_with fail
      refine (HK1.out _ (HWx.out _ HD5.out).a HR5.out).mono ?_
      rintro e w6 ⟨rfl, hb⟩
      have HD6 := Lib.hid (HD5.out.call hb)
      have HS6 := Lib.hid (HS5.out.call hb)
      clear hb a0 a1 a2 c0 c1 c2
      obtain ⟨c0, c1, c2, _⟩ := HD6.out.b.three
      go_wp2_with fail
      refine (HK2.out _ (HWx.out _ HD6.out).a HS6.out).mono ?_
      rintro e w7 ⟨rfl, hb⟩
      have HD7 := Lib.hid (HD6.out.call hb)
      clear hb
      go_wp2
      go_ret
      exact ⟨rfl, HD7.out.below⟩
theorem topJoined_row (x : Src.S) (rv zv lv : Value) (evs : List Value) (x2 : Src.S) (rv' zv' lv' : Value) (evs2 : List Value) (w : World) (hW : We w) (hR : Src.SrcR w w.heap.size x rv zv lv evs) (hw : Src.Wide x) (hR' : Src.SrcR w w.heap.size x2 rv' zv' lv' evs2) (hw' : Src.Wide x2) :
    Calls Tryz.prog 4 #[.agg #[rv, zv, lv], .agg #[rv', zv', lv']] w fun e w' => e = .returned (.bool true) ∧ Below w.heap.size w w' := topJoined_any x x2 rv zv lv rv' zv' lv' evs evs2 w hW hR hR' hw hw'
end Go.Proofs.YtlhoggalhjadgaaGreatDoor

/-
  TopJoined: whatever comes in, the law returns true and each argument reads as it did.
  Conditions: the listed package-level tables read as the program's text lays them (the card ties them to it).
-/
namespace Go.Proofs.YtlhoggalhjadgaaGreatDoor.topJoined
open Go.ChangeShapes Go.WideShapes Go.ChangeAt Go.RowKit Go.Joins
open Go.ChangeMaps (open_string shut_string)

theorem u8_nonneg {c : Int} (h : (Lit.int .u8 c).wf = true) : 0 ≤ c := by
  have : 0 ≤ c ∧ c ≤ 255 := by simpa [Lit.wf, IntKind.min, IntKind.max, IntKind.signed, IntKind.bits] using h
  exact this.1
theorem own : ownKnob Tryz.prog.godebug = none := by kernel_rfl
theorem laidOut : laidOutB Tryz.prog = true := by kernel_rfl
theorem g_places : Tryz.prog.globalNamed "solstice/abbr.places" = some 1 := by kernel_rfl
theorem t_places : (Tryz.prog.globals[1]?).map (·.type) = some 160 := by kernel_rfl
theorem g_pow : Tryz.prog.globalNamed "internal/strconv.uint64pow10" = some 3 := by kernel_rfl
theorem t_pow : (Tryz.prog.globals[3]?).map (·.type) = some 193 := by kernel_rfl
theorem g_parts : Tryz.prog.globalNamed "solstice/clock.parts" = some 0 := by kernel_rfl
theorem t_parts : (Tryz.prog.globals[0]?).map (·.type) = some 139 := by kernel_rfl

/-- What the program's variables hold where the call begins. -/
theorem wo_of {W : World} (h : laidMetH Tryz.prog Rows.topJoinedRow.laid W) (hS : W.ShapedOpen Tryz.prog) : We W := by
  have h0 : laidMet Tryz.prog Rows.topJoinedRow.laid W := h
  have h1 := h0.tail
  have h2 := h1.tail
  have h3 := h2.tail
  have h4 := h3.tail
  have h5 := h4.tail
  have x_pow : Lib.TabIs Tryz.prog W "internal/strconv.uint64pow10" .u64 Lib.pow10Tab := Lib.tabIs_of_head g_pow t_pow Tryz.underlying193 Tryz.underlying176 (by kernel_rfl) (by kernel_rfl) h2
  have x_parts : Lib.TabIs Tryz.prog W "solstice/clock.parts" .i64 [3600, 60, 1] := Lib.tabIs_of_head g_parts t_parts Tryz.underlying139 Tryz.underlying2 (by kernel_rfl) (by kernel_rfl) h5
  have x_places := strs_of_head (ls := [[37, 115], [37, 122]]) g_places t_places Tryz.underlying160 Tryz.underlying9 (by kernel_rfl) (by kernel_rfl) h4
  exact ⟨⟨x_parts.cell g_parts 0 (by decide), x_parts.cell g_parts 1 (by decide), x_parts.cell g_parts 2 (by decide), Tryz.laysM145.s1_3 W hS, x_pow⟩, ⟨x_places 0 _ rfl, x_places 1 _ rfl, Tryz.laysM145.s1_3 W hS⟩⟩

noncomputable def laidWorld (os : Os) : World :=
  { World.doorLaid Tryz.prog 4000 os with heap := (World.doorLaid Tryz.prog 4000 os).heap.modify 6 fun
      | .cells _ t frozen => .cells ((Go.Pinned.utf8FirstZ.map fun (z : Nat) => Value.int .u8 (Int.ofNat z)).toArray) t frozen
      | o => o }
theorem laid_met (os : Os) : laidMet Tryz.prog Rows.topJoinedRow.laid ((laidWorld os).forCall (fun _ _ => 0) ⟨#[], #[.agg #[.slice none 0 0, .slice none 0 0, .slice none 0 0], .agg #[.slice none 0 0, .slice none 0 0, .slice none 0 0]], []⟩).memory :=
  laidMet_of_run' 8 (by kernel_rfl) (by kernel_rfl)
theorem reads (os : Os) {H : Type} (enc : TypeId × Value → H) : ∃ places, DataW.whole enc Tryz.prog ((laidWorld os).forCall (fun _ _ => 0) ⟨#[], #[.agg #[.slice none 0 0, .slice none 0 0, .slice none 0 0], .agg #[.slice none 0 0, .slice none 0 0, .slice none 0 0]], []⟩).memory Tryz.f4.params.toList Rows.topJoinedSpec.vars false #[Value.agg #[.slice none 0 0, .slice none 0 0, .slice none 0 0], .agg #[.slice none 0 0, .slice none 0 0, .slice none 0 0]].toList 8 = some ([.agg [.nil, .nil, .nil], .agg [.nil, .nil, .nil]], [], places) :=
  ⟨[], by kernel_rfl⟩

set_option maxRecDepth 100000 in
set_option maxHeartbeats 4000000 in
theorem contract (H : Type) (enc : TypeId × Value → H) (W : World) (base : Nat) (args : Array Value) (ds gs : List (DataW H)) (before : List MemPlace)
    (hval : ∀ (j : Nat) t v, Tryz.f4.params[j]? = some t → args[j]? = some v → Value.okWide Tryz.prog W .any base t v)
    (hW : DataW.Whole enc Tryz.prog Tryz.f4.params.toList Rows.topJoinedSpec.vars false W args.toList ds gs before) (hL : laidMetH Tryz.prog Rows.topJoinedRow.laid W) (hS : W.ShapedOpen Tryz.prog) :
    Calls Tryz.prog 4 args W fun e W' => ∃ v, e = .returned v ∧ Rows.topJoinedSpec.post enc Tryz.prog Tryz.f4 false true false false W args v W' := by
  have hW' := hW
  obtain ⟨p, q, hA0, hV, rfl, hfz, hnd⟩ := hW
  have hA : DataW.TrodAll enc Tryz.prog W 0 (fun _ => true) true Tryz.f4.params.toList args.toList ds p := hA0
  rw [Tryz.params4] at hA hval
  obtain ⟨v0, vs0, d0, ds0, p0, q0, hargs, rfl, rfl, h0, r0⟩ := trodAll_cons hA
  obtain ⟨v1, vs1, d1, ds1, p1, q1, rfl, rfl, rfl, h1, r1⟩ := trodAll_cons r0
  obtain ⟨rfl, rfl, rfl⟩ := trodAll_nil r1
  obtain rfl : args = #[v0, v1] := by cases args; simp_all
  obtain ⟨rfl, rfl⟩ := trodVars_none hV
  have k0 := h0
  have lt0 : ∀ x ∈ p0, x.block < W.heap.size := by obtain ⟨m, hm⟩ := k0; exact DataW.trod_lt m _ _ _ hm
  obtain ⟨s0, rv0, zv0, lv0, evs0, rfl, hsr0, hsw0⟩ := open_source (hval 0 26 v0 rfl rfl) h0
  have k1 := h1
  have lt1 : ∀ x ∈ p1, x.block < W.heap.size := by obtain ⟨m, hm⟩ := k1; exact DataW.trod_lt m _ _ _ hm
  obtain ⟨s1, rv1, zv1, lv1, evs1, rfl, hsr1, hsw1⟩ := open_source (hval 1 26 v1 rfl rfl) h1
  clear hA0
  refine (topJoined_row s0 rv0 zv0 lv0 evs0 s1 rv1 zv1 lv1 evs1 W (wo_of hL hS) hsr0 hsw0 hsr1 hsw1).mono fun e W' ⟨he, bel⟩ => ?_
  subst he
  exact ⟨_, rfl, _, _, _, [], _, [], hW', trodAll_mk1 (shut_bool Tryz.underlying4 _), (trodAll_cons_mk (Below.trod laidOut (by kernel_rfl) (of_decide_eq_true (by kernel_rfl)) k0 bel lt0) (trodAll_cons_mk (Below.trod laidOut (by kernel_rfl) (of_decide_eq_true (by kernel_rfl)) k1 bel lt1) trodAll_mk0)), rfl, bel.frame _, fun h => by cases h⟩

set_option maxRecDepth 100000 in
theorem lifted (os : Os) (started : os.Started) (H : Type) (enc : TypeId × Value → H) (F : Stop.Interp) :
    ReturnsInHanded {} Tryz.checked os 4 .any ((OpenSpec.ofChange Rows.topJoinedSpec).preRow enc Tryz.prog Tryz.f4 Rows.topJoinedRow.domain false Rows.topJoinedRow.laid) (((OpenSpec.ofChange Rows.topJoinedSpec).at F).post enc Tryz.prog Tryz.f4 false true false false) := by
  obtain ⟨places, hx⟩ := reads os enc
  refine returnsInHanded_of_row (C := Tryz.checked) (s := OpenSpec.ofChange Rows.topJoinedSpec) own started (by kernel_rfl) Tryz.func4
    (witness_row_at (enc := enc) (C := Tryz.checked) false (laidWorld os) #[.agg #[.slice none 0 0, .slice none 0 0, .slice none 0 0], .agg #[.slice none 0 0, .slice none 0 0, .slice none 0 0]] rfl (by kernel_rfl) (by kernel_rfl) (by kernel_rfl)
      (OpenSpec.preRow_of_cond 8 hx (by kernel_rfl) (fun k hk => by cases hk) (by kernel_rfl) (laid_met os))) ?_
  intro W base args ds gs before hval hW _ _ _ hL hS _
  exact contract H enc W base args ds gs before hval hW hL hS

theorem said : Rows.TopJoinedSaid :=
  OpenClaim.holds_of_cond 4 Tryz.f4 rfl rfl rfl rfl rfl rfl rfl ⟨rfl, rfl, rfl, rfl, rfl⟩ rfl rfl rfl rfl rfl (by kernel_rfl) Tryz.func4 (by kernel_rfl)
    (of_decide_eq_true (by kernel_rfl)) (by unfold Func.isWrapper; first | (rw [if_pos (by decide +kernel)]; kernel_rfl) | (rw [if_neg (by decide +kernel)]; exact ⟨rfl, rfl⟩))
    (fun os started H enc _ F => by rw [OpenClaim.pre_eq_preRow]; exact lifted os started H enc F)

/-- No parameter wants a stand-in; the program's own looks are off. -/
theorem plain (f : FuncId) (fn : Func) (hf : Tryz.pinned.checked.prog.funcNamed "solstice/solsticetop.TopJoined" = some f) (hfn : Tryz.pinned.checked.prog.funcs[f]? = some fn) :
    false = Tryz.pinned.checked.prog.looks [] ∧ ∀ (j : Nat) t, fn.params[j]? = some t → Tryz.pinned.checked.prog.wantsStandIn t = false := by
  obtain rfl : f = 4 := Option.some.inj ((show Tryz.prog.funcNamed "solstice/solsticetop.TopJoined" = some 4 by kernel_rfl).symm.trans hf) |>.symm
  obtain rfl : fn = Tryz.f4 := (Option.some.inj (Tryz.func4.symm.trans hfn)).symm
  refine ⟨by kernel_rfl, fun j t ht => ?_⟩
  rw [Tryz.params4] at ht
  have hm : t ∈ [26] := by
    have := Array.mem_of_getElem? ht
    simp at this ⊢
    omega
  simp only [List.mem_cons, List.not_mem_nil, or_false] at hm
  subst hm
  exact (show Tryz.prog.wantsStandIn 26 = false by kernel_rfl)

/-- The statement: the tied card. -/
theorem card : Rows.TopJoinedCardSaid :=
  Claim7.holds_tied_plain_at .later [] _ _ _ _ said (fun _ h => by cases h) (by kernel_rfl) (fun _ h => by cases h) topJoined_row_tie rfl ⟨rfl, rfl⟩ (by kernel_rfl) rfl plain (by kernel_rfl)
end Go.Proofs.YtlhoggalhjadgaaGreatDoor.topJoined
