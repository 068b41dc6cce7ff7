/- tell.Check and tell.Line: whether a missed year is right, and its line. -/
import Derived.Test.YtlmheieabkdhjaaDoorTeText
import Derived.Test.YtlmheieabkdhjaaDoorChKey
import Derived.Test.YtlmheieabkdhjaaDoorCells
import Derived.Lib.AppendIntMem
import Derived.Deep.RegionHeld3
namespace Go.Proofs.YtlmheieabkdhjaaDoor
open Go.RowKit

namespace Te
def bts (l : Txt) : ByteArray := ⟨l.toArray⟩
theorem bts_size (l : Txt) : (bts l).size = l.length := rfl
def mv (m : M) : Value := .agg #[.string m.k, .int .i64 m.y, .int .u8 m.r]
end Te
/-- What stands in the program's variables. -/
structure Wt (w : World) : Prop where
  wd : ∀ i, i < 6 → w.cell? ⟨0, i, none⟩ = some (.string (Te.bts (Te.word i)))
  maxl : ∃ m, w.cell? ⟨1, 0, none⟩ = some (.int .i64 m)
  pow : Lib.TabIs Tryd.prog w "internal/strconv.uint64pow10" .u64 Lib.pow10Tab
  syn : ∃ ev, w.cell? ⟨2, 0, none⟩ = some ev ∧ (ev = .nilIface ∨ ∃ te pe, ev = .iface te pe)
  rng : ∃ ev, w.cell? ⟨3, 0, none⟩ = some ev ∧ (ev = .nilIface ∨ ∃ te pe, ev = .iface te pe)
theorem Wt.below {w w' : World} (h : Wt w) (hb : Below w.heap.size w w') : Wt w' := by
  obtain ⟨m, hm⟩ := h.maxl
  obtain ⟨ev, he, hv⟩ := h.syn
  obtain ⟨ev', he', hv'⟩ := h.rng
  exact ⟨fun i hi => (hb.cell (p := ⟨_, i, none⟩) (block_lt_of_cell (h.wd i hi))).trans (h.wd i hi),
    ⟨m, (hb.cell (p := ⟨_, 0, none⟩) (block_lt_of_cell hm)).trans hm⟩, Lib.tabBelow_of_tabIs h.pow w' hb,
    ⟨ev, (hb.cell (p := ⟨_, 0, none⟩) (block_lt_of_cell he)).trans he, hv⟩,
    ⟨ev', (hb.cell (p := ⟨_, 0, none⟩) (block_lt_of_cell he')).trans he', hv'⟩⟩
theorem below_one {w w1 : World} {o : Obj} (hb : Below (w.alloc o).heap.size (w.alloc o) w1) : Below w.heap.size w w1 := ((Below.refl _ _).alloc (Nat.le_refl _) _).trans (hb.mono (by simp))
set_option maxHeartbeats 2000000 in
set_option maxRecDepth 100000 in
theorem tellCheck_any (m : Te.M) (hs : m.k.size ≤ maxLen) (w : World) :
    Calls Tryd.prog 13 #[Te.mv m] w fun e w' => e = .returned (.int .i64 (if Te.okM m then 0 else 2)) ∧ Below w.heap.size w w' := by
  obtain ⟨k, y, r⟩ := m
  have HK := Lib.hid (fun W => chartKey_any k hs W)
  obtain ⟨v, hv⟩ : ∃ v : Int, (if Te.okM ⟨k, y, r⟩ then (0 : Int) else 2) = v := ⟨_, rfl⟩
  rw [hv]
  unfold Te.okM at hv
  unfold Te.mv
  simp only at hv ⊢
  obtain ⟨b, hb⟩ : ∃ b, Te.key k = b := ⟨_, rfl⟩
  rw [hb] at HK hv
  clear hb hs
  have HV := Lib.hid hv
  clear hv
  go_enter Tryd.func13, Tryd.ntmps13
  go_wp2_with fail
  refine (HK.out _).mono ?_
  rintro e w1 ⟨rfl, hb1⟩
  have HB := Lib.hid (below_one hb1)
  have HM := Lib.hid ((At.new w #[.string k, .int .i64 y, .int .u8 r] 37).call hb1)
  clear hb1 HK
  have c0 := HM.out.cell 0 _ rfl
  have c1 := HM.out.cell 1 _ rfl
  have c2 := HM.out.cell 2 _ rfl
  cases b with
  | false =>
    have HE : Hid (v = 2) := HV.out.symm
    clear HV
    go_wp2
    go_ret
    exact ⟨by rw [HE.out]; rfl, HB.out⟩
  | true =>
    by_cases h1 : y < 1601
    · have HE : Hid (v = 2) := by
        show v = 2
        rw [← HV.out, decide_eq_false (show ¬ 1601 ≤ y by omega)]; rfl
      clear HV
      go_wp2
      go_ret
      exact ⟨by rw [HE.out]; rfl, HB.out⟩
    · by_cases h2 : 9999 < y
      · have HE : Hid (v = 2) := by
          show v = 2
          rw [← HV.out, decide_eq_false (show ¬ y ≤ 9999 by omega)]; simp
        clear HV
        go_wp2
        go_ret
        exact ⟨by rw [HE.out]; rfl, HB.out⟩
      · by_cases h3 : (r : Int) < 1
        · have HE : Hid (v = 2) := by
            show v = 2
            rw [← HV.out, decide_eq_false (show ¬ 1 ≤ r by omega)]; simp
          clear HV
          go_wp2
          go_ret
          exact ⟨by rw [HE.out]; rfl, HB.out⟩
        · by_cases h4 : (6 : Int) ≤ r
          · have HE : Hid (v = 2) := by
              show v = 2
              rw [← HV.out, decide_eq_false (show ¬ r < 6 by omega)]; simp
            clear HV
            go_wp2
            go_ret
            exact ⟨by rw [HE.out]; rfl, HB.out⟩
          · have HE : Hid (v = 0) := by
              show v = 0
              rw [← HV.out, decide_eq_true (show 1601 ≤ y by omega), decide_eq_true (show y ≤ 9999 by omega), decide_eq_true (show 1 ≤ r by omega), decide_eq_true (show r < 6 by omega)]; rfl
            clear HV
            go_wp2
            go_ret
            exact ⟨by rw [HE.out]; rfl, HB.out⟩
theorem ret_st2 {a b : ByteArray} {v : Value} (h : a = b) : Ending.returned (.tuple #[.string a, v]) = .returned (.tuple #[.string b, v]) := by rw [h]
theorem itoa_t (n : Int) (w : World) (hW : Wt w) (h0 : -9223372036854775808 ≤ n) (h1 : n ≤ 9223372036854775807) :
    Calls Tryd.prog 20 #[.int .i64 n] w fun e w' => e = .returned (.string ⟨(Lib.itoa n).toArray⟩) ∧ Below w.heap.size w w' :=
  (Tryd.strconv_Itoa n h0 h1 w hW.pow).mono fun _ _ ⟨he, k, os, hw⟩ => ⟨he, hw ▸ Lib.below_grow _ _ (Nat.le_refl _) k os⟩
theorem tellLine_bad (m : Te.M) (hs : m.k.size ≤ maxLen) (w : World) (hm : Te.okM m = false) :
    Calls Tryd.prog 11 #[Te.mv m] w fun e w' => e = .returned (.tuple #[.string ⟨#[]⟩, .int .i64 2]) ∧ Below w.heap.size w w' := by
  have hC := fun W => tellCheck_any m hs W
  rw [hm, if_neg (by decide)] at hC
  have HC := Lib.hid hC
  clear hC hm hs
  obtain ⟨k, y, r⟩ := m
  unfold Te.mv at HC ⊢
  simp only at HC ⊢
  go_enter Tryd.func11, Tryd.ntmps11
  go_wp2_with fail
  refine (HC.out _).mono ?_
  rintro e w1 ⟨rfl, hb1⟩
  have HB := Lib.hid (below_one hb1)
  clear hb1
  go_wp2
  go_ret2
  exact ⟨rfl, HB.out⟩
theorem line_bytes (k : ByteArray) (y : Int) (r : Nat) : k ++ ⟨#[9]⟩ ++ ⟨(Lib.itoa y).toArray⟩ ++ ⟨#[9]⟩ ++ Te.bts (Te.word r) = Te.bts (Te.line ⟨k, y, r⟩) := by
  obtain ⟨⟨l⟩⟩ := k
  apply ByteArray.ext
  unfold Te.line Te.bts tl
  simp [ByteArray.data_append]
theorem word_len (r : Nat) (h : r < 6) : (Te.word r).length ≤ 6 := by
  rcases (by omega : r = 0 ∨ r = 1 ∨ r = 2 ∨ r = 3 ∨ r = 4 ∨ r = 5) with rfl | rfl | rfl | rfl | rfl | rfl <;> decide
set_option maxHeartbeats 4000000 in
set_option maxRecDepth 100000 in
theorem tellLine_ok (m : Te.M) (w : World) (hW : Wt w) (hm : Te.okM m = true) :
    Calls Tryd.prog 11 #[Te.mv m] w fun e w' => e = .returned (.tuple #[.string (Te.bts (Te.line m)), .int .i64 0]) ∧ Below w.heap.size w w' := by
  obtain ⟨p1, p2, p3, p4, p5⟩ := Te.okM_parts hm
  have hks := (Te.key_size p1).2
  have hC := fun W => tellCheck_any m (by unfold maxLen; omega) W
  rw [hm, if_pos rfl] at hC
  have HC := Lib.hid hC
  have HI := Lib.hid (fun W hw => itoa_t m.y W hw (by omega) (by omega))
  have hd : (Lib.itoa m.y).length = 4 := by rw [Te.itoa_four m.y p2 p3]; rfl
  have hwd := word_len m.r p5
  have HL := Lib.hid (line_bytes m.k m.y m.r)
  have HW := Lib.hid hW
  clear hC hm hW p1 p2 p3
  obtain ⟨k, y, r⟩ := m
  unfold Te.mv at HC ⊢
  simp only at HC HI HL hd hwd hks p4 p5 ⊢
  obtain ⟨D, hD⟩ : ∃ D : ByteArray, ⟨(Lib.itoa y).toArray⟩ = D := ⟨_, rfl⟩
  have hDs : D.size = 4 := by rw [← hD]; exact hd
  rw [hD] at HI HL
  have hT : ∀ i, i = r → Hid (∀ W, Wt W → W.cell? ⟨0, i, none⟩ = some (.string (Te.bts (Te.word r)))) := by
    intro i hi W hw
    rw [hi]
    exact hw.wd r p5
  obtain ⟨T, hTT⟩ : ∃ T : ByteArray, Te.bts (Te.word r) = T := ⟨_, rfl⟩
  have hTs : T.size ≤ 6 := by rw [← hTT]; exact hwd
  rw [hTT] at HL
  simp only [hTT] at hT
  obtain ⟨X, hX⟩ : ∃ X, Te.bts (Te.line ⟨k, y, r⟩) = X := ⟨_, rfl⟩
  rw [hX] at HL ⊢
  have e9 : (⟨#[9]⟩ : ByteArray).size = 1 := rfl
  have s1 : ∀ W, (Op.stringOp .add k ⟨#[9]⟩).run Tryd.prog W = .ok (.string (k ++ ⟨#[9]⟩)) W := fun W => run_string_add_sum W _ _ (by omega)
  have s2 : ∀ W, (Op.stringOp .add (k ++ ⟨#[9]⟩) D).run Tryd.prog W = .ok (.string (k ++ ⟨#[9]⟩ ++ D)) W := fun W => run_string_add_sum W _ _ (by rw [ByteArray.size_append]; omega)
  have s3 : ∀ W, (Op.stringOp .add (k ++ ⟨#[9]⟩ ++ D) ⟨#[9]⟩).run Tryd.prog W = .ok (.string (k ++ ⟨#[9]⟩ ++ D ++ ⟨#[9]⟩)) W := fun W => run_string_add_sum W _ _ (by rw [ByteArray.size_append, ByteArray.size_append]; omega)
  have s4 : ∀ W, (Op.stringOp .add (k ++ ⟨#[9]⟩ ++ D ++ ⟨#[9]⟩) T).run Tryd.prog W = .ok (.string (k ++ ⟨#[9]⟩ ++ D ++ ⟨#[9]⟩ ++ T)) W := fun W => run_string_add_sum W _ _ (by rw [ByteArray.size_append, ByteArray.size_append, ByteArray.size_append]; omega)
  clear hD hd hwd hTT hX hDs hTs e9 hks
  rcases (by omega : r = 1 ∨ r = 2 ∨ r = 3 ∨ r = 4 ∨ r = 5) with rfl | rfl | rfl | rfl | rfl
  · have HT := hT 1 rfl
    clear hT p4 p5
    go_enter Tryd.func11, Tryd.ntmps11
    go_wp2_with fail
    refine (HC.out _).mono ?_
    rintro e w1 ⟨rfl, hb1⟩
    have HB := Lib.hid (below_one hb1)
    have HM := Lib.hid ((At.new w #[.string k, .int .i64 y, .int .u8 1] 37).call hb1)
    clear hb1
    have c0 : w1.cell? ⟨w.heap.size, 0, none⟩ = some (.string k) := HM.out.cell 0 _ rfl
    have c1 : w1.cell? ⟨w.heap.size, 1, none⟩ = some (.int .i64 y) := HM.out.cell 1 _ rfl
    have c2 : w1.cell? ⟨w.heap.size, 2, none⟩ = some (.int .u8 1) := HM.out.cell 2 _ rfl
    have cw : w1.cell? ⟨0, 1, none⟩ = some (.string T) := HT.out _ (HW.out.below HB.out)
    have zM := HM.out.lt
    have zw : 0 < w1.heap.size := block_lt_of_cell cw
    have HIW := Lib.hid (HI.out w1.drew (HW.out.below HB.out.drew))
    go_wp2_with fail
    go_region_held3 (fun w' => w'.cell? ⟨w.heap.size, 0, none⟩ = some (.string k) ∧ w'.cell? ⟨w.heap.size, 1, none⟩ = some (.int .i64 y) ∧ w'.cell? ⟨w.heap.size, 2, none⟩ = some (.int .u8 1) ∧ w'.cell? ⟨0, 1, none⟩ = some (.string T)) (first | exact ⟨c0, c1, c2, cw⟩ | exact ⟨by assumption, by assumption, by assumption, by assumption⟩)
      (first | (go_at_call 20; refine HIW.out.mono ?_; rintro e w' ⟨rfl, hb2⟩; have c0' := (hb2.cell (p := ⟨w.heap.size, 0, none⟩) zM).trans c0; have c1' := (hb2.cell (p := ⟨w.heap.size, 1, none⟩) zM).trans c1; have c2' := (hb2.cell (p := ⟨w.heap.size, 2, none⟩) zM).trans c2; have cw' := (hb2.cell (p := ⟨0, 1, none⟩) zw).trans cw))
    all_goals go_wp2
    all_goals go_ret2
    all_goals exact ⟨ret_st2 HL.out, below_then HB.out ((Below.refl w1.heap.size w1).drew.trans hb2)⟩
  · have HT := hT 2 rfl
    clear hT p4 p5
    go_enter Tryd.func11, Tryd.ntmps11
    go_wp2_with fail
    refine (HC.out _).mono ?_
    rintro e w1 ⟨rfl, hb1⟩
    have HB := Lib.hid (below_one hb1)
    have HM := Lib.hid ((At.new w #[.string k, .int .i64 y, .int .u8 2] 37).call hb1)
    clear hb1
    have c0 : w1.cell? ⟨w.heap.size, 0, none⟩ = some (.string k) := HM.out.cell 0 _ rfl
    have c1 : w1.cell? ⟨w.heap.size, 1, none⟩ = some (.int .i64 y) := HM.out.cell 1 _ rfl
    have c2 : w1.cell? ⟨w.heap.size, 2, none⟩ = some (.int .u8 2) := HM.out.cell 2 _ rfl
    have cw : w1.cell? ⟨0, 2, none⟩ = some (.string T) := HT.out _ (HW.out.below HB.out)
    have zM := HM.out.lt
    have zw : 0 < w1.heap.size := block_lt_of_cell cw
    have HIW := Lib.hid (HI.out w1.drew (HW.out.below HB.out.drew))
    go_wp2_with fail
    go_region_held3 (fun w' => w'.cell? ⟨w.heap.size, 0, none⟩ = some (.string k) ∧ w'.cell? ⟨w.heap.size, 1, none⟩ = some (.int .i64 y) ∧ w'.cell? ⟨w.heap.size, 2, none⟩ = some (.int .u8 2) ∧ w'.cell? ⟨0, 2, none⟩ = some (.string T)) (first | exact ⟨c0, c1, c2, cw⟩ | exact ⟨by assumption, by assumption, by assumption, by assumption⟩)
      (first | (go_at_call 20; refine HIW.out.mono ?_; rintro e w' ⟨rfl, hb2⟩; have c0' := (hb2.cell (p := ⟨w.heap.size, 0, none⟩) zM).trans c0; have c1' := (hb2.cell (p := ⟨w.heap.size, 1, none⟩) zM).trans c1; have c2' := (hb2.cell (p := ⟨w.heap.size, 2, none⟩) zM).trans c2; have cw' := (hb2.cell (p := ⟨0, 2, none⟩) zw).trans cw))
    all_goals go_wp2
    all_goals go_ret2
    all_goals exact ⟨ret_st2 HL.out, below_then HB.out ((Below.refl w1.heap.size w1).drew.trans hb2)⟩
  · have HT := hT 3 rfl
    clear hT p4 p5
    go_enter Tryd.func11, Tryd.ntmps11
    go_wp2_with fail
    refine (HC.out _).mono ?_
    rintro e w1 ⟨rfl, hb1⟩
    have HB := Lib.hid (below_one hb1)
    have HM := Lib.hid ((At.new w #[.string k, .int .i64 y, .int .u8 3] 37).call hb1)
    clear hb1
    have c0 : w1.cell? ⟨w.heap.size, 0, none⟩ = some (.string k) := HM.out.cell 0 _ rfl
    have c1 : w1.cell? ⟨w.heap.size, 1, none⟩ = some (.int .i64 y) := HM.out.cell 1 _ rfl
    have c2 : w1.cell? ⟨w.heap.size, 2, none⟩ = some (.int .u8 3) := HM.out.cell 2 _ rfl
    have cw : w1.cell? ⟨0, 3, none⟩ = some (.string T) := HT.out _ (HW.out.below HB.out)
    have zM := HM.out.lt
    have zw : 0 < w1.heap.size := block_lt_of_cell cw
    have HIW := Lib.hid (HI.out w1.drew (HW.out.below HB.out.drew))
    go_wp2_with fail
    go_region_held3 (fun w' => w'.cell? ⟨w.heap.size, 0, none⟩ = some (.string k) ∧ w'.cell? ⟨w.heap.size, 1, none⟩ = some (.int .i64 y) ∧ w'.cell? ⟨w.heap.size, 2, none⟩ = some (.int .u8 3) ∧ w'.cell? ⟨0, 3, none⟩ = some (.string T)) (first | exact ⟨c0, c1, c2, cw⟩ | exact ⟨by assumption, by assumption, by assumption, by assumption⟩)
      (first | (go_at_call 20; refine HIW.out.mono ?_; rintro e w' ⟨rfl, hb2⟩; have c0' := (hb2.cell (p := ⟨w.heap.size, 0, none⟩) zM).trans c0; have c1' := (hb2.cell (p := ⟨w.heap.size, 1, none⟩) zM).trans c1; have c2' := (hb2.cell (p := ⟨w.heap.size, 2, none⟩) zM).trans c2; have cw' := (hb2.cell (p := ⟨0, 3, none⟩) zw).trans cw))
    all_goals go_wp2
    all_goals go_ret2
    all_goals exact ⟨ret_st2 HL.out, below_then HB.out ((Below.refl w1.heap.size w1).drew.trans hb2)⟩
  · have HT := hT 4 rfl
    clear hT p4 p5
    go_enter Tryd.func11, Tryd.ntmps11
    go_wp2_with fail
    refine (HC.out _).mono ?_
    rintro e w1 ⟨rfl, hb1⟩
    have HB := Lib.hid (below_one hb1)
    have HM := Lib.hid ((At.new w #[.string k, .int .i64 y, .int .u8 4] 37).call hb1)
    clear hb1
    have c0 : w1.cell? ⟨w.heap.size, 0, none⟩ = some (.string k) := HM.out.cell 0 _ rfl
    have c1 : w1.cell? ⟨w.heap.size, 1, none⟩ = some (.int .i64 y) := HM.out.cell 1 _ rfl
    have c2 : w1.cell? ⟨w.heap.size, 2, none⟩ = some (.int .u8 4) := HM.out.cell 2 _ rfl
    have cw : w1.cell? ⟨0, 4, none⟩ = some (.string T) := HT.out _ (HW.out.below HB.out)
    have zM := HM.out.lt
    have zw : 0 < w1.heap.size := block_lt_of_cell cw
    have HIW := Lib.hid (HI.out w1.drew (HW.out.below HB.out.drew))
    go_wp2_with fail
    go_region_held3 (fun w' => w'.cell? ⟨w.heap.size, 0, none⟩ = some (.string k) ∧ w'.cell? ⟨w.heap.size, 1, none⟩ = some (.int .i64 y) ∧ w'.cell? ⟨w.heap.size, 2, none⟩ = some (.int .u8 4) ∧ w'.cell? ⟨0, 4, none⟩ = some (.string T)) (first | exact ⟨c0, c1, c2, cw⟩ | exact ⟨by assumption, by assumption, by assumption, by assumption⟩)
      (first | (go_at_call 20; refine HIW.out.mono ?_; rintro e w' ⟨rfl, hb2⟩; have c0' := (hb2.cell (p := ⟨w.heap.size, 0, none⟩) zM).trans c0; have c1' := (hb2.cell (p := ⟨w.heap.size, 1, none⟩) zM).trans c1; have c2' := (hb2.cell (p := ⟨w.heap.size, 2, none⟩) zM).trans c2; have cw' := (hb2.cell (p := ⟨0, 4, none⟩) zw).trans cw))
    all_goals go_wp2
    all_goals go_ret2
    all_goals exact ⟨ret_st2 HL.out, below_then HB.out ((Below.refl w1.heap.size w1).drew.trans hb2)⟩
  · have HT := hT 5 rfl
    clear hT p4 p5
    go_enter Tryd.func11, Tryd.ntmps11
    go_wp2_with fail
    refine (HC.out _).mono ?_
    rintro e w1 ⟨rfl, hb1⟩
    have HB := Lib.hid (below_one hb1)
    have HM := Lib.hid ((At.new w #[.string k, .int .i64 y, .int .u8 5] 37).call hb1)
    clear hb1
    have c0 : w1.cell? ⟨w.heap.size, 0, none⟩ = some (.string k) := HM.out.cell 0 _ rfl
    have c1 : w1.cell? ⟨w.heap.size, 1, none⟩ = some (.int .i64 y) := HM.out.cell 1 _ rfl
    have c2 : w1.cell? ⟨w.heap.size, 2, none⟩ = some (.int .u8 5) := HM.out.cell 2 _ rfl
    have cw : w1.cell? ⟨0, 5, none⟩ = some (.string T) := HT.out _ (HW.out.below HB.out)
    have zM := HM.out.lt
    have zw : 0 < w1.heap.size := block_lt_of_cell cw
    have HIW := Lib.hid (HI.out w1.drew (HW.out.below HB.out.drew))
    go_wp2_with fail
    go_region_held3 (fun w' => w'.cell? ⟨w.heap.size, 0, none⟩ = some (.string k) ∧ w'.cell? ⟨w.heap.size, 1, none⟩ = some (.int .i64 y) ∧ w'.cell? ⟨w.heap.size, 2, none⟩ = some (.int .u8 5) ∧ w'.cell? ⟨0, 5, none⟩ = some (.string T)) (first | exact ⟨c0, c1, c2, cw⟩ | exact ⟨by assumption, by assumption, by assumption, by assumption⟩)
      (first | (go_at_call 20; refine HIW.out.mono ?_; rintro e w' ⟨rfl, hb2⟩; have c0' := (hb2.cell (p := ⟨w.heap.size, 0, none⟩) zM).trans c0; have c1' := (hb2.cell (p := ⟨w.heap.size, 1, none⟩) zM).trans c1; have c2' := (hb2.cell (p := ⟨w.heap.size, 2, none⟩) zM).trans c2; have cw' := (hb2.cell (p := ⟨0, 5, none⟩) zw).trans cw))
    all_goals go_wp2
    all_goals go_ret2
    all_goals exact ⟨ret_st2 HL.out, below_then HB.out ((Below.refl w1.heap.size w1).drew.trans hb2)⟩
end Go.Proofs.YtlmheieabkdhjaaDoor
