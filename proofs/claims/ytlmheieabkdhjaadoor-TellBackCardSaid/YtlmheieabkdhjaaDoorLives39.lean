/- The statements' own 'lives' of package tell. -/
import Derived.Test.YtlmheieabkdhjaaDoorTellCount
import Derived.Test.YtlmheieabkdhjaaDoorTellOut
namespace Go.Proofs.YtlmheieabkdhjaaDoor
open Go.RowKit

namespace Te
def lvA : M := ⟨⟨#[75, 32, 84]⟩, 1999, 3⟩
def lvB : M := ⟨⟨#[75, 32, 84]⟩, 2000, 3⟩
def lvC : M := ⟨⟨#[75, 32, 84]⟩, 2001, 5⟩
def lv : List M := [lvA, lvB, lvC]
def lvS : ByteArray := ⟨#[75, 32, 84, 9, 49, 57, 57, 57, 9, 109, 97, 110, 121, 10, 75, 32, 84, 9, 50, 48, 48, 48, 9, 109, 97, 110, 121, 10, 75, 32, 84, 9, 50, 48, 48, 49, 9, 100, 97, 116, 101, 10]⟩
theorem lv_ok : okAll lv = true := by decide +kernel
theorem lv_text : bts (text lv) = lvS := by
  unfold lv text
  simp only [List.flatMap_cons, List.flatMap_nil]
  unfold line lvA lvB lvC
  simp only
  rw [itoa_four 1999 (by decide) (by decide), itoa_four 2000 (by decide) (by decide), itoa_four 2001 (by decide) (by decide)]
  decide +kernel
theorem lv_tl : tl lvS = text lv := by rw [← lv_text, tl_bts]
theorem lv_parse : parse ((tl lvS).length + 1) (tl lvS) = some lv := by
  have e : (tl lvS).length = 42 := rfl
  rw [e, lv_tl]
  exact parse_text lv 43 lv_ok (by decide)
theorem lv_runs : runs lv = [(lvA, lvB), (lvC, lvC)] := by decide +kernel
theorem lv_cnt : cv ⟨#[75, 32, 84]⟩ lv = .agg #[.int .i64 0, .int .i64 0, .int .i64 0, .int .i64 2, .int .i64 0, .int .i64 1] := by
  have e : ∀ j, j < 6 → cnt ⟨#[75, 32, 84]⟩ lv j = [0, 0, 0, 2, 0, 1].getD j 0 := by decide +kernel
  unfold cv
  rw [e 0 (by decide), e 1 (by decide), e 2 (by decide), e 3 (by decide), e 4 (by decide), e 5 (by decide)]
  rfl
end Te
theorem reads_rows (w : World) (g : Nat) (l : List Te.M) (cs : Array Value) (t : TypeId) (n : Nat) (hg : g = w.heap.size) (hc : cs.toList = Te.rows l) (hn : l.length = n) : Reads (w.alloc (.cells cs t)) (w.alloc (.cells cs t)).heap.size 3 (some ⟨g, 0, none⟩) n (Te.rows l) := by
  subst hg hn
  refine ⟨Te.rows_len l, fun _ => ⟨_, rfl, by rw [World.size_alloc]; exact Nat.lt_succ_self _, fun j u hu => ?_⟩⟩
  rw [add_zero_off]
  exact (At.new w cs t).cell j u (by rw [hc]; exact hu)
theorem reads_rrows (w : World) (g : Nat) (l : List Te.Run) (cs : Array Value) (t : TypeId) (n : Nat) (hg : g = w.heap.size) (hc : cs.toList = Te.rrows l) (hn : l.length = n) : Reads (w.alloc (.cells cs t)) (w.alloc (.cells cs t)).heap.size 6 (some ⟨g, 0, none⟩) n (Te.rrows l) := by
  subst hg hn
  refine ⟨Te.rrows_len l, fun _ => ⟨_, rfl, by rw [World.size_alloc]; exact Nat.lt_succ_self _, fun j u hu => ?_⟩⟩
  rw [add_zero_off]
  exact (At.new w cs t).cell j u (by rw [hc]; exact hu)
/-- A text that is read whole. -/
theorem tellParse_ok (s : ByteArray) (l : List Te.M) (w : World) (hW : Wt w) (hs : s.size ≤ 1000000) (h : Te.parse ((tl s).length + 1) (tl s) = some l) :
    Calls Tryd.prog 7 #[.string s] w fun e w' => (∃ A c, e = .returned (.tuple #[.slice A l.length c, .agg #[.int .i64 0, .int .i64 0, .int .i64 0]]) ∧ Reads w' w'.heap.size 3 A l.length (Te.rows l)) ∧ Below w.heap.size w w' := by
  refine (tellParse_any s w hW hs).mono ?_
  intro e w' hp
  unfold Te.PsRet at hp
  rw [Te.parse_F _ 1] at h
  by_cases h2 : (Te.parseF ((tl s).length + 1) 1 (tl s)).2 = none
  · rw [if_pos h2] at h
    have h1 := Option.some.inj h
    rw [h2, h1] at hp
    exact hp
  · rw [if_neg h2] at h
    cases h
/-- A text that is not read. -/
theorem tellParse_bad (s : ByteArray) (no why : Nat) (w : World) (hW : Wt w) (hs : s.size ≤ 1000000) (h : (Te.parseF ((tl s).length + 1) 1 (tl s)).2 = some (no, why)) :
    Calls Tryd.prog 7 #[.string s] w fun e w' => e = .returned (.tuple #[.slice none 0 0, .agg #[.int .i64 no, .int .i64 1, .int .i64 why]]) ∧ Below w.heap.size w w' := by
  refine (tellParse_any s w hW hs).mono ?_
  intro e w' hp
  unfold Te.PsRet at hp
  rw [h] at hp
  exact hp
theorem tellText_lv (A : Option Addr) (c : Nat) (w : World) (hW : Wt w) (hr : Reads w w.heap.size 3 A 3 (Te.rows Te.lv)) :
    Calls Tryd.prog 6 #[.slice A 3 c] w fun e w' => e = .returned (.tuple #[.string ⟨#[75, 32, 84, 9, 49, 57, 57, 57, 9, 109, 97, 110, 121, 10, 75, 32, 84, 9, 50, 48, 48, 48, 9, 109, 97, 110, 121, 10, 75, 32, 84, 9, 50, 48, 48, 49, 9, 100, 97, 116, 101, 10]⟩, .int .i64 0]) ∧ Below w.heap.size w w' := by
  have h := tellText_any A 3 c Te.lv w hW rfl (by decide) (by decide +kernel) hr
  rw [Te.lv_ok, if_pos rfl, Te.lv_text] at h
  exact h
theorem tellRuns_lv (A : Option Addr) (c : Nat) (w : World) (hr : Reads w w.heap.size 3 A 3 (Te.rows Te.lv)) :
    Calls Tryd.prog 9 #[.slice A 3 c] w fun e w' => (∃ A' c', e = .returned (.slice A' 2 c') ∧ Reads w' w'.heap.size 6 A' 2 (Te.rrows [(Te.lvA, Te.lvB), (Te.lvC, Te.lvC)])) ∧ Below w.heap.size w w' := by
  refine (tellRuns_any A 3 c Te.lv w rfl (by decide) (by decide +kernel) hr).mono ?_
  intro e w' hp
  unfold Te.RnRet at hp
  rw [Te.lv_runs] at hp
  exact hp
theorem tellSame_yes (A A' : Option Addr) (n n' c c' : Nat) (l l' : List Te.M) (w : World) (hn : n ≤ maxLen) (hn' : n' ≤ maxLen) (h1 : l.length = n) (h2 : l'.length = n') (hr : Reads w w.heap.size 3 A n (Te.rows l)) (hr' : Reads w w.heap.size 3 A' n' (Te.rows l')) (b : Bool) (h : decide (l = l') = b) :
    Calls Tryd.prog 8 #[.slice A n c, .slice A' n' c'] w fun e w' => e = .returned (.bool b) ∧ Below w.heap.size w w' :=
  (calls_bool (tellSame_any A A' n n' c c' l l' w hn hn' h1 h2 hr hr') h).mono fun _ _ ⟨a, d⟩ => ⟨a, d.below _⟩
theorem runsSame_yes (A A' : Option Addr) (n n' c c' : Nat) (l l' : List Te.Run) (w : World) (hn : n ≤ maxLen) (hn' : n' ≤ maxLen) (h1 : l.length = n) (h2 : l'.length = n') (hr : Reads w w.heap.size 6 A n (Te.rrows l)) (hr' : Reads w w.heap.size 6 A' n' (Te.rrows l')) (b : Bool) (h : decide (l = l') = b) :
    Calls Tryd.prog 12 #[.slice A n c, .slice A' n' c'] w fun e w' => e = .returned (.bool b) ∧ Below w.heap.size w w' :=
  (calls_bool (runsSame_any A A' n n' c c' l l' w hn hn' h1 h2 hr hr') h).mono fun _ _ ⟨a, d⟩ => ⟨a, d.below _⟩

theorem counts_same (W : World) : (Op.equalIn 10000 39 (.agg #[.int .i64 0, .int .i64 0, .int .i64 0, .int .i64 2, .int .i64 0, .int .i64 1]) (.agg #[.int .i64 0, .int .i64 0, .int .i64 0, .int .i64 2, .int .i64 0, .int .i64 1])).run Tryd.prog W = .ok true W := by kernel_rfl
set_option maxHeartbeats 8000000 in
set_option maxRecDepth 100000 in
theorem lives39 (w : World) (hW : Wt w) : Calls Tryd.prog 4 #[] w fun e w' => e = .returned (.bool true) ∧ Below w.heap.size w w' := by
  have HW := Lib.hid hW
  have HB := Lib.hid (Below.refl w.heap.size w)
  have hcs := counts_same
  clear hW
  go_enter Tryd.func4, Tryd.ntmps4
  go_wp2_with fail
  refine (tellText_lv _ 3 _ (HW.out.below ((((HB.out.alloc (by have := HB.out.size; first | exact this | (simp; done) | (simp; omega)) _).alloc (by have := HB.out.size; first | exact this | (simp; done) | (simp; omega)) _).alloc (by have := HB.out.size; first | exact this | (simp; done) | (simp; omega)) _).alloc (by have := HB.out.size; first | exact this | (simp; done) | (simp; omega)) _)) (reads_rows (((w.alloc (.cells #[.string ⟨#[75, 32, 84]⟩, .int .i64 1999, .int .u8 3] 37)).alloc (.cells #[.string ⟨#[75, 32, 84]⟩, .int .i64 2000, .int .u8 3] 37)).alloc (.cells #[.string ⟨#[75, 32, 84]⟩, .int .i64 2001, .int .u8 5] 37)) (w.heap.size + 3) Te.lv #[.string ⟨#[75, 32, 84]⟩, .int .i64 1999, .int .u8 3, .string ⟨#[75, 32, 84]⟩, .int .i64 2000, .int .u8 3, .string ⟨#[75, 32, 84]⟩, .int .i64 2001, .int .u8 5] 37 3 (by simp) rfl rfl)).mono ?_
  rintro e w1 ⟨rfl, hb⟩
  have hbz := below_then ((((HB.out.alloc (by have := HB.out.size; first | exact this | (simp; done) | (simp; omega)) _).alloc (by have := HB.out.size; first | exact this | (simp; done) | (simp; omega)) _).alloc (by have := HB.out.size; first | exact this | (simp; done) | (simp; omega)) _).alloc (by have := HB.out.size; first | exact this | (simp; done) | (simp; omega)) _) hb
  have A1 := Lib.hid (((((At.new w #[.string ⟨#[75, 32, 84]⟩, .int .i64 1999, .int .u8 3] 37).alloc _ _).alloc _ _).alloc _ _).call hb)
  have A2' := (((At.new (w.alloc (.cells #[.string ⟨#[75, 32, 84]⟩, .int .i64 1999, .int .u8 3] 37)) #[.string ⟨#[75, 32, 84]⟩, .int .i64 2000, .int .u8 3] 37).alloc _ _).alloc _ _).call hb
  simp only [World.size_alloc] at A2'
  have A2 := Lib.hid A2'
  clear A2'
  have A3' := ((At.new ((w.alloc (.cells #[.string ⟨#[75, 32, 84]⟩, .int .i64 1999, .int .u8 3] 37)).alloc (.cells #[.string ⟨#[75, 32, 84]⟩, .int .i64 2000, .int .u8 3] 37)) #[.string ⟨#[75, 32, 84]⟩, .int .i64 2001, .int .u8 5] 37).alloc _ _).call hb
  simp only [World.size_alloc] at A3'
  have A3 := Lib.hid A3'
  clear A3'
  replace HB := Lib.hid hbz
  clear hb hbz
  have zA1 := A1.out.lt
  have A1c0 := A1.out.cell 0 _ rfl
  have A1c1 := A1.out.cell 1 _ rfl
  have A1c2 := A1.out.cell 2 _ rfl
  have zA2 := A2.out.lt
  have A2c0 := A2.out.cell 0 _ rfl
  have A2c1 := A2.out.cell 1 _ rfl
  have A2c2 := A2.out.cell 2 _ rfl
  have zA3 := A3.out.lt
  have A3c0 := A3.out.cell 0 _ rfl
  have A3c1 := A3.out.cell 1 _ rfl
  have A3c2 := A3.out.cell 2 _ rfl
  go_wp2_with fail
  refine (tellParse_ok ⟨#[75, 32, 84, 9, 49, 57, 57, 57, 9, 109, 97, 110, 121, 10, 75, 32, 84, 9, 50, 48, 48, 48, 9, 109, 97, 110, 121, 10, 75, 32, 84, 9, 50, 48, 48, 49, 9, 100, 97, 116, 101, 10]⟩ Te.lv _ (HW.out.below HB.out) (by decide) Te.lv_parse).mono ?_
  rintro e w2 ⟨⟨AL, cL, rfl, hrL⟩, hb⟩
  have hbz := below_then HB.out hb
  have A1' := A1.out.call hb
  clear A1
  have A1 := Lib.hid A1'
  clear A1'
  have A2' := A2.out.call hb
  clear A2
  have A2 := Lib.hid A2'
  clear A2'
  have A3' := A3.out.call hb
  clear A3
  have A3 := Lib.hid A3'
  clear A3'
  replace HB := Lib.hid hbz
  clear hb hbz
  clear zA1 A1c0 A1c1 A1c2
  have zA1 := A1.out.lt
  have A1c0 := A1.out.cell 0 _ rfl
  have A1c1 := A1.out.cell 1 _ rfl
  have A1c2 := A1.out.cell 2 _ rfl
  clear zA2 A2c0 A2c1 A2c2
  have zA2 := A2.out.lt
  have A2c0 := A2.out.cell 0 _ rfl
  have A2c1 := A2.out.cell 1 _ rfl
  have A2c2 := A2.out.cell 2 _ rfl
  clear zA3 A3c0 A3c1 A3c2
  have zA3 := A3.out.lt
  have A3c0 := A3.out.cell 0 _ rfl
  have A3c1 := A3.out.cell 1 _ rfl
  have A3c2 := A3.out.cell 2 _ rfl
  have HRL := Lib.hid hrL
  clear hrL
  have HBL := Lib.hid (Below.refl w2.heap.size w2)
  go_wp2_with fail
  refine (tellParse_bad ⟨#[120, 10]⟩ 1 4 _ (HW.out.below (HB.out.alloc (by have := HB.out.size; first | exact this | (simp; done) | (simp; omega)) _)) (by decide) (by decide +kernel)).mono ?_
  rintro e w3 ⟨rfl, hb⟩
  have hbz := below_then (HB.out.alloc (by have := HB.out.size; first | exact this | (simp; done) | (simp; omega)) _) hb
  have HBLz := below_then (HBL.out.alloc (by have := HBL.out.size; first | exact this | (simp; done) | (simp; omega)) _) hb
  have A1' := (A1.out.alloc _ _).call hb
  clear A1
  have A1 := Lib.hid A1'
  clear A1'
  have A2' := (A2.out.alloc _ _).call hb
  clear A2
  have A2 := Lib.hid A2'
  clear A2'
  have A3' := (A3.out.alloc _ _).call hb
  clear A3
  have A3 := Lib.hid A3'
  clear A3'
  have F1 := Lib.hid ((At.new w2 #[.int .i64 0, .int .i64 0, .int .i64 0] 29).call hb)
  replace HB := Lib.hid hbz
  clear hb hbz
  replace HBL := Lib.hid HBLz
  clear HBLz
  clear zA1 A1c0 A1c1 A1c2
  have zA1 := A1.out.lt
  have A1c0 := A1.out.cell 0 _ rfl
  have A1c1 := A1.out.cell 1 _ rfl
  have A1c2 := A1.out.cell 2 _ rfl
  clear zA2 A2c0 A2c1 A2c2
  have zA2 := A2.out.lt
  have A2c0 := A2.out.cell 0 _ rfl
  have A2c1 := A2.out.cell 1 _ rfl
  have A2c2 := A2.out.cell 2 _ rfl
  clear zA3 A3c0 A3c1 A3c2
  have zA3 := A3.out.lt
  have A3c0 := A3.out.cell 0 _ rfl
  have A3c1 := A3.out.cell 1 _ rfl
  have A3c2 := A3.out.cell 2 _ rfl
  go_wp2_with fail
  refine (tellParse_bad ⟨#[75, 9, 49, 57, 57, 57, 9, 102, 97, 114]⟩ 1 5 _ (HW.out.below (HB.out.alloc (by have := HB.out.size; first | exact this | (simp; done) | (simp; omega)) _)) (by decide) (by decide +kernel)).mono ?_
  rintro e w4 ⟨rfl, hb⟩
  have hbz := below_then (HB.out.alloc (by have := HB.out.size; first | exact this | (simp; done) | (simp; omega)) _) hb
  have HBLz := below_then (HBL.out.alloc (by have := HBL.out.size; first | exact this | (simp; done) | (simp; omega)) _) hb
  have A1' := (A1.out.alloc _ _).call hb
  clear A1
  have A1 := Lib.hid A1'
  clear A1'
  have A2' := (A2.out.alloc _ _).call hb
  clear A2
  have A2 := Lib.hid A2'
  clear A2'
  have A3' := (A3.out.alloc _ _).call hb
  clear A3
  have A3 := Lib.hid A3'
  clear A3'
  have F1' := (F1.out.alloc _ _).call hb
  clear F1
  have F1 := Lib.hid F1'
  clear F1'
  have F2 := Lib.hid ((At.new w3 #[.int .i64 1, .int .i64 1, .int .i64 4] 29).call hb)
  replace HB := Lib.hid hbz
  clear hb hbz
  replace HBL := Lib.hid HBLz
  clear HBLz
  clear zA1 A1c0 A1c1 A1c2
  have zA1 := A1.out.lt
  have A1c0 := A1.out.cell 0 _ rfl
  have A1c1 := A1.out.cell 1 _ rfl
  have A1c2 := A1.out.cell 2 _ rfl
  clear zA2 A2c0 A2c1 A2c2
  have zA2 := A2.out.lt
  have A2c0 := A2.out.cell 0 _ rfl
  have A2c1 := A2.out.cell 1 _ rfl
  have A2c2 := A2.out.cell 2 _ rfl
  clear zA3 A3c0 A3c1 A3c2
  have zA3 := A3.out.lt
  have A3c0 := A3.out.cell 0 _ rfl
  have A3c1 := A3.out.cell 1 _ rfl
  have A3c2 := A3.out.cell 2 _ rfl
  go_wp2_with fail
  refine (calls_val (tellLine_any ⟨⟨#[75]⟩, 1999, 0⟩ (by decide) _ (HW.out.below (HB.out.alloc (by have := HB.out.size; first | exact this | (simp; done) | (simp; omega)) _))) (show _ = Value.tuple #[.string ⟨#[]⟩, .int .i64 2] by rw [show Te.okM ⟨⟨#[75]⟩, 1999, 0⟩ = false by decide +kernel]; first | rfl | skip)).mono ?_
  rintro e w5 ⟨rfl, hb⟩
  have hbz := below_then (HB.out.alloc (by have := HB.out.size; first | exact this | (simp; done) | (simp; omega)) _) hb
  have HBLz := below_then (HBL.out.alloc (by have := HBL.out.size; first | exact this | (simp; done) | (simp; omega)) _) hb
  have A1' := (A1.out.alloc _ _).call hb
  clear A1
  have A1 := Lib.hid A1'
  clear A1'
  have A2' := (A2.out.alloc _ _).call hb
  clear A2
  have A2 := Lib.hid A2'
  clear A2'
  have A3' := (A3.out.alloc _ _).call hb
  clear A3
  have A3 := Lib.hid A3'
  clear A3'
  have F1' := (F1.out.alloc _ _).call hb
  clear F1
  have F1 := Lib.hid F1'
  clear F1'
  have F2' := (F2.out.alloc _ _).call hb
  clear F2
  have F2 := Lib.hid F2'
  clear F2'
  have F3 := Lib.hid ((At.new w4 #[.int .i64 1, .int .i64 1, .int .i64 5] 29).call hb)
  replace HB := Lib.hid hbz
  clear hb hbz
  replace HBL := Lib.hid HBLz
  clear HBLz
  clear zA1 A1c0 A1c1 A1c2
  have zA1 := A1.out.lt
  have A1c0 := A1.out.cell 0 _ rfl
  have A1c1 := A1.out.cell 1 _ rfl
  have A1c2 := A1.out.cell 2 _ rfl
  clear zA2 A2c0 A2c1 A2c2
  have zA2 := A2.out.lt
  have A2c0 := A2.out.cell 0 _ rfl
  have A2c1 := A2.out.cell 1 _ rfl
  have A2c2 := A2.out.cell 2 _ rfl
  clear zA3 A3c0 A3c1 A3c2
  have zA3 := A3.out.lt
  have A3c0 := A3.out.cell 0 _ rfl
  have A3c1 := A3.out.cell 1 _ rfl
  have A3c2 := A3.out.cell 2 _ rfl
  go_wp2_with fail
  refine (tellRuns_lv AL cL _ ((HRL.out.below HBL.out).more (by have := HBL.out.size; simp; omega))).mono ?_
  rintro e w6 ⟨⟨AR, cR, rfl, hrR⟩, hb⟩
  have hbz := below_then HB.out hb
  have HBLz := below_then HBL.out hb
  have A1' := A1.out.call hb
  clear A1
  have A1 := Lib.hid A1'
  clear A1'
  have A2' := A2.out.call hb
  clear A2
  have A2 := Lib.hid A2'
  clear A2'
  have A3' := A3.out.call hb
  clear A3
  have A3 := Lib.hid A3'
  clear A3'
  have F1' := F1.out.call hb
  clear F1
  have F1 := Lib.hid F1'
  clear F1'
  have F2' := F2.out.call hb
  clear F2
  have F2 := Lib.hid F2'
  clear F2'
  have F3' := F3.out.call hb
  clear F3
  have F3 := Lib.hid F3'
  clear F3'
  replace HB := Lib.hid hbz
  clear hb hbz
  replace HBL := Lib.hid HBLz
  clear HBLz
  clear zA1 A1c0 A1c1 A1c2
  have zA1 := A1.out.lt
  have A1c0 := A1.out.cell 0 _ rfl
  have A1c1 := A1.out.cell 1 _ rfl
  have A1c2 := A1.out.cell 2 _ rfl
  clear zA2 A2c0 A2c1 A2c2
  have zA2 := A2.out.lt
  have A2c0 := A2.out.cell 0 _ rfl
  have A2c1 := A2.out.cell 1 _ rfl
  have A2c2 := A2.out.cell 2 _ rfl
  clear zA3 A3c0 A3c1 A3c2
  have zA3 := A3.out.lt
  have A3c0 := A3.out.cell 0 _ rfl
  have A3c1 := A3.out.cell 1 _ rfl
  have A3c2 := A3.out.cell 2 _ rfl
  have HRR := Lib.hid hrR
  clear hrR
  have HBR := Lib.hid (Below.refl w6.heap.size w6)
  have zF1 := F1.out.lt
  have F1c0 := F1.out.cell 0 _ rfl
  have F1c1 := F1.out.cell 1 _ rfl
  have F1c2 := F1.out.cell 2 _ rfl
  have zF2 := F2.out.lt
  have F2c0 := F2.out.cell 0 _ rfl
  have F2c1 := F2.out.cell 1 _ rfl
  have F2c2 := F2.out.cell 2 _ rfl
  have zF3 := F3.out.lt
  have F3c0 := F3.out.cell 0 _ rfl
  have F3c1 := F3.out.cell 1 _ rfl
  have F3c2 := F3.out.cell 2 _ rfl
  go_wp2_with fail
  refine (tellSame_yes AL _ 3 3 cL 3 Te.lv Te.lv _ (by decide) (by decide) rfl rfl ((HRL.out.below (HBL.out.alloc (by have := HBL.out.size; first | exact this | (simp; done) | (simp; omega)) _)).more (by have := HBL.out.size; simp; omega)) (reads_rows _ w6.heap.size Te.lv #[.string ⟨#[75, 32, 84]⟩, .int .i64 1999, .int .u8 3, .string ⟨#[75, 32, 84]⟩, .int .i64 2000, .int .u8 3, .string ⟨#[75, 32, 84]⟩, .int .i64 2001, .int .u8 5] 37 3 rfl rfl rfl) true (by simp)).mono ?_
  rintro e w7 ⟨rfl, hb⟩
  have hbz := below_then (HB.out.alloc (by have := HB.out.size; first | exact this | (simp; done) | (simp; omega)) _) hb
  have HBLz := below_then (HBL.out.alloc (by have := HBL.out.size; first | exact this | (simp; done) | (simp; omega)) _) hb
  have HBRz := below_then (HBR.out.alloc (by have := HBR.out.size; first | exact this | (simp; done) | (simp; omega)) _) hb
  have A1' := (A1.out.alloc _ _).call hb
  clear A1
  have A1 := Lib.hid A1'
  clear A1'
  have A2' := (A2.out.alloc _ _).call hb
  clear A2
  have A2 := Lib.hid A2'
  clear A2'
  have A3' := (A3.out.alloc _ _).call hb
  clear A3
  have A3 := Lib.hid A3'
  clear A3'
  have F1' := (F1.out.alloc _ _).call hb
  clear F1
  have F1 := Lib.hid F1'
  clear F1'
  have F2' := (F2.out.alloc _ _).call hb
  clear F2
  have F2 := Lib.hid F2'
  clear F2'
  have F3' := (F3.out.alloc _ _).call hb
  clear F3
  have F3 := Lib.hid F3'
  clear F3'
  replace HB := Lib.hid hbz
  clear hb hbz
  replace HBL := Lib.hid HBLz
  clear HBLz
  replace HBR := Lib.hid HBRz
  clear HBRz
  clear zA1 A1c0 A1c1 A1c2
  have zA1 := A1.out.lt
  have A1c0 := A1.out.cell 0 _ rfl
  have A1c1 := A1.out.cell 1 _ rfl
  have A1c2 := A1.out.cell 2 _ rfl
  clear zA2 A2c0 A2c1 A2c2
  have zA2 := A2.out.lt
  have A2c0 := A2.out.cell 0 _ rfl
  have A2c1 := A2.out.cell 1 _ rfl
  have A2c2 := A2.out.cell 2 _ rfl
  clear zA3 A3c0 A3c1 A3c2
  have zA3 := A3.out.lt
  have A3c0 := A3.out.cell 0 _ rfl
  have A3c1 := A3.out.cell 1 _ rfl
  have A3c2 := A3.out.cell 2 _ rfl
  clear zF1 F1c0 F1c1 F1c2
  have zF1 := F1.out.lt
  have F1c0 := F1.out.cell 0 _ rfl
  have F1c1 := F1.out.cell 1 _ rfl
  have F1c2 := F1.out.cell 2 _ rfl
  clear zF2 F2c0 F2c1 F2c2
  have zF2 := F2.out.lt
  have F2c0 := F2.out.cell 0 _ rfl
  have F2c1 := F2.out.cell 1 _ rfl
  have F2c2 := F2.out.cell 2 _ rfl
  clear zF3 F3c0 F3c1 F3c2
  have zF3 := F3.out.lt
  have F3c0 := F3.out.cell 0 _ rfl
  have F3c1 := F3.out.cell 1 _ rfl
  have F3c2 := F3.out.cell 2 _ rfl
  go_wp2_with fail
  refine (runsSame_yes AR _ 2 2 cR 2 [(Te.lvA, Te.lvB), (Te.lvC, Te.lvC)] [(Te.lvA, Te.lvB), (Te.lvC, Te.lvC)] _ (by decide) (by decide) rfl rfl ((HRR.out.below (HBR.out.alloc (by have := HBR.out.size; first | exact this | (simp; done) | (simp; omega)) _)).more (by have := HBR.out.size; simp; omega)) (reads_rrows _ w7.heap.size _ #[.string ⟨#[75, 32, 84]⟩, .int .i64 1999, .int .u8 3, .string ⟨#[75, 32, 84]⟩, .int .i64 2000, .int .u8 3, .string ⟨#[75, 32, 84]⟩, .int .i64 2001, .int .u8 5, .string ⟨#[75, 32, 84]⟩, .int .i64 2001, .int .u8 5] 38 2 rfl rfl rfl) true (by simp)).mono ?_
  rintro e w8 ⟨rfl, hb⟩
  have hbz := below_then (HB.out.alloc (by have := HB.out.size; first | exact this | (simp; done) | (simp; omega)) _) hb
  have HBLz := below_then (HBL.out.alloc (by have := HBL.out.size; first | exact this | (simp; done) | (simp; omega)) _) hb
  have HBRz := below_then (HBR.out.alloc (by have := HBR.out.size; first | exact this | (simp; done) | (simp; omega)) _) hb
  have A1' := (A1.out.alloc _ _).call hb
  clear A1
  have A1 := Lib.hid A1'
  clear A1'
  have A2' := (A2.out.alloc _ _).call hb
  clear A2
  have A2 := Lib.hid A2'
  clear A2'
  have A3' := (A3.out.alloc _ _).call hb
  clear A3
  have A3 := Lib.hid A3'
  clear A3'
  have F1' := (F1.out.alloc _ _).call hb
  clear F1
  have F1 := Lib.hid F1'
  clear F1'
  have F2' := (F2.out.alloc _ _).call hb
  clear F2
  have F2 := Lib.hid F2'
  clear F2'
  have F3' := (F3.out.alloc _ _).call hb
  clear F3
  have F3 := Lib.hid F3'
  clear F3'
  replace HB := Lib.hid hbz
  clear hb hbz
  replace HBL := Lib.hid HBLz
  clear HBLz
  replace HBR := Lib.hid HBRz
  clear HBRz
  clear zA1 A1c0 A1c1 A1c2
  have zA1 := A1.out.lt
  have A1c0 := A1.out.cell 0 _ rfl
  have A1c1 := A1.out.cell 1 _ rfl
  have A1c2 := A1.out.cell 2 _ rfl
  clear zA2 A2c0 A2c1 A2c2
  have zA2 := A2.out.lt
  have A2c0 := A2.out.cell 0 _ rfl
  have A2c1 := A2.out.cell 1 _ rfl
  have A2c2 := A2.out.cell 2 _ rfl
  clear zA3 A3c0 A3c1 A3c2
  have zA3 := A3.out.lt
  have A3c0 := A3.out.cell 0 _ rfl
  have A3c1 := A3.out.cell 1 _ rfl
  have A3c2 := A3.out.cell 2 _ rfl
  clear zF1 F1c0 F1c1 F1c2
  have zF1 := F1.out.lt
  have F1c0 := F1.out.cell 0 _ rfl
  have F1c1 := F1.out.cell 1 _ rfl
  have F1c2 := F1.out.cell 2 _ rfl
  clear zF2 F2c0 F2c1 F2c2
  have zF2 := F2.out.lt
  have F2c0 := F2.out.cell 0 _ rfl
  have F2c1 := F2.out.cell 1 _ rfl
  have F2c2 := F2.out.cell 2 _ rfl
  clear zF3 F3c0 F3c1 F3c2
  have zF3 := F3.out.lt
  have F3c0 := F3.out.cell 0 _ rfl
  have F3c1 := F3.out.cell 1 _ rfl
  have F3c2 := F3.out.cell 2 _ rfl
  go_wp2_with fail
  refine (calls_val (tellCount_any AL 3 cL Te.lv ⟨#[75, 32, 84]⟩ _ rfl (by decide) ((HRL.out.below HBL.out).more (by have := HBL.out.size; simp; omega))) Te.lv_cnt).mono ?_
  rintro e w9 ⟨rfl, hb⟩
  have hbz := below_then HB.out hb
  have HBLz := below_then HBL.out hb
  have HBRz := below_then HBR.out hb
  have A1' := A1.out.call hb
  clear A1
  have A1 := Lib.hid A1'
  clear A1'
  have A2' := A2.out.call hb
  clear A2
  have A2 := Lib.hid A2'
  clear A2'
  have A3' := A3.out.call hb
  clear A3
  have A3 := Lib.hid A3'
  clear A3'
  have F1' := F1.out.call hb
  clear F1
  have F1 := Lib.hid F1'
  clear F1'
  have F2' := F2.out.call hb
  clear F2
  have F2 := Lib.hid F2'
  clear F2'
  have F3' := F3.out.call hb
  clear F3
  have F3 := Lib.hid F3'
  clear F3'
  replace HB := Lib.hid hbz
  clear hb hbz
  replace HBL := Lib.hid HBLz
  clear HBLz
  replace HBR := Lib.hid HBRz
  clear HBRz
  clear zA1 A1c0 A1c1 A1c2
  have zA1 := A1.out.lt
  have A1c0 := A1.out.cell 0 _ rfl
  have A1c1 := A1.out.cell 1 _ rfl
  have A1c2 := A1.out.cell 2 _ rfl
  clear zA2 A2c0 A2c1 A2c2
  have zA2 := A2.out.lt
  have A2c0 := A2.out.cell 0 _ rfl
  have A2c1 := A2.out.cell 1 _ rfl
  have A2c2 := A2.out.cell 2 _ rfl
  clear zA3 A3c0 A3c1 A3c2
  have zA3 := A3.out.lt
  have A3c0 := A3.out.cell 0 _ rfl
  have A3c1 := A3.out.cell 1 _ rfl
  have A3c2 := A3.out.cell 2 _ rfl
  clear zF1 F1c0 F1c1 F1c2
  have zF1 := F1.out.lt
  have F1c0 := F1.out.cell 0 _ rfl
  have F1c1 := F1.out.cell 1 _ rfl
  have F1c2 := F1.out.cell 2 _ rfl
  clear zF2 F2c0 F2c1 F2c2
  have zF2 := F2.out.lt
  have F2c0 := F2.out.cell 0 _ rfl
  have F2c1 := F2.out.cell 1 _ rfl
  have F2c2 := F2.out.cell 2 _ rfl
  clear zF3 F3c0 F3c1 F3c2
  have zF3 := F3.out.lt
  have F3c0 := F3.out.cell 0 _ rfl
  have F3c1 := F3.out.cell 1 _ rfl
  have F3c2 := F3.out.cell 2 _ rfl
  go_wp2_with fail
  refine (calls_val (tellCheck_any Te.lvA (by decide) _) (show _ = Value.int .i64 0 by rw [show Te.okM Te.lvA = true by decide +kernel]; first | rfl | skip)).mono ?_
  rintro e w10 ⟨rfl, hb⟩
  have hbz := below_then HB.out hb
  have HBLz := below_then HBL.out hb
  have HBRz := below_then HBR.out hb
  have A1' := A1.out.call hb
  clear A1
  have A1 := Lib.hid A1'
  clear A1'
  have A2' := A2.out.call hb
  clear A2
  have A2 := Lib.hid A2'
  clear A2'
  have A3' := A3.out.call hb
  clear A3
  have A3 := Lib.hid A3'
  clear A3'
  have F1' := F1.out.call hb
  clear F1
  have F1 := Lib.hid F1'
  clear F1'
  have F2' := F2.out.call hb
  clear F2
  have F2 := Lib.hid F2'
  clear F2'
  have F3' := F3.out.call hb
  clear F3
  have F3 := Lib.hid F3'
  clear F3'
  replace HB := Lib.hid hbz
  clear hb hbz
  replace HBL := Lib.hid HBLz
  clear HBLz
  replace HBR := Lib.hid HBRz
  clear HBRz
  clear zA1 A1c0 A1c1 A1c2
  have zA1 := A1.out.lt
  have A1c0 := A1.out.cell 0 _ rfl
  have A1c1 := A1.out.cell 1 _ rfl
  have A1c2 := A1.out.cell 2 _ rfl
  clear zA2 A2c0 A2c1 A2c2
  have zA2 := A2.out.lt
  have A2c0 := A2.out.cell 0 _ rfl
  have A2c1 := A2.out.cell 1 _ rfl
  have A2c2 := A2.out.cell 2 _ rfl
  clear zA3 A3c0 A3c1 A3c2
  have zA3 := A3.out.lt
  have A3c0 := A3.out.cell 0 _ rfl
  have A3c1 := A3.out.cell 1 _ rfl
  have A3c2 := A3.out.cell 2 _ rfl
  clear zF1 F1c0 F1c1 F1c2
  have zF1 := F1.out.lt
  have F1c0 := F1.out.cell 0 _ rfl
  have F1c1 := F1.out.cell 1 _ rfl
  have F1c2 := F1.out.cell 2 _ rfl
  clear zF2 F2c0 F2c1 F2c2
  have zF2 := F2.out.lt
  have F2c0 := F2.out.cell 0 _ rfl
  have F2c1 := F2.out.cell 1 _ rfl
  have F2c2 := F2.out.cell 2 _ rfl
  clear zF3 F3c0 F3c1 F3c2
  have zF3 := F3.out.lt
  have F3c0 := F3.out.cell 0 _ rfl
  have F3c1 := F3.out.cell 1 _ rfl
  have F3c2 := F3.out.cell 2 _ rfl
  go_wp2
  go_ret
  exact ⟨rfl, HB.out⟩
end Go.Proofs.YtlmheieabkdhjaaDoor
