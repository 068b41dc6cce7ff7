/- tell.parse: what a line tells. -/
import Derived.Test.YtlmheieabkdhjaaDoorTellReason
namespace Go.Proofs.YtlmheieabkdhjaaDoor
open Go.RowKit

theorem tl_bts (l : Te.Txt) : tl (Te.bts l) = l := by simp [tl, Te.bts]
theorem cut_t (s : ByteArray) (c : UInt8) (w : World) (hW : Wt w) (hs : s.size ≤ 1000000) :
    Calls Tryd.prog 17 #[.string s, .string ⟨#[c]⟩] w fun e w' => e = .returned (.tuple #[.string (Te.bts (Lib.cut (tl s) [c]).1), .string (Te.bts (Lib.cut (tl s) [c]).2.1), .bool (Lib.cut (tl s) [c]).2.2]) ∧ Drew w w' := by
  obtain ⟨m, hm⟩ := hW.maxl
  refine (Tryd.strings_Cut s ⟨#[c]⟩ m w (by omega) hm).mono ?_
  rintro e w' ⟨rfl, n, rfl⟩
  exact ⟨rfl, n, rfl⟩
theorem cut_length (s sep : Te.Txt) : (Lib.cut s sep).1.length ≤ s.length ∧ (Lib.cut s sep).2.1.length ≤ s.length := by
  unfold Lib.cut
  split
  · simp only [List.length_take, List.length_drop]; omega
  · simp
theorem atoi_no (s : ByteArray) (w : World) (hW : Wt w) (hs : s.size ≤ 1000000) (h : ∀ v, Lib.atoiAll (tl s) ≠ .ok v) :
    Calls Tryd.prog 24 #[.string s] w fun e w' => (∃ n te pe, e = .returned (.tuple #[.int .i64 n, .iface te pe])) ∧ Below w.heap.size w w' := by
  rcases hc : Lib.atoiAll (tl s) with v | _ | _
  · exact absurd hc (h v)
  · obtain ⟨ev, he, hv⟩ := hW.syn
    refine (Tryd.strconv_Atoi_syntax s (by omega) hc ev w he hv).mono ?_
    rintro e w' ⟨N, rfl, _, _, hb⟩
    exact ⟨⟨_, _, _, rfl⟩, hb⟩
  · obtain ⟨ev, he, hv⟩ := hW.rng
    refine (Tryd.strconv_Atoi_range s (by omega) hc ev w he hv).mono ?_
    rintro e w' ⟨N, rfl, _, _, hb⟩
    exact ⟨⟨_, _, _, rfl⟩, hb⟩
theorem atoi_yes (s : ByteArray) (w : World) (hs : s.size ≤ 1000000) (v : Int) (h : Lib.atoiAll (tl s) = .ok v) :
    Calls Tryd.prog 24 #[.string s] w fun e w' => e = .returned (.tuple #[.int .i64 v, .nilIface]) ∧ Below w.heap.size w w' := by
  refine (Tryd.strconv_Atoi_ok s (by omega) v h w).mono ?_
  rintro e w' ⟨rfl, hw⟩
  refine ⟨rfl, ?_⟩
  rcases hw with rfl | ⟨t, rfl⟩
  · exact Below.refl _ _
  · exact Lib.bytesWorld_below _ _ _
theorem tellLine_any (m : Te.M) (hs : m.k.size ≤ maxLen) (w : World) (hW : Wt w) :
    Calls Tryd.prog 11 #[Te.mv m] w fun e w' => e = .returned (.tuple #[.string (if Te.okM m then Te.bts (Te.line m) else ⟨#[]⟩), .int .i64 (if Te.okM m then 0 else 2)]) ∧ Below w.heap.size w w' := by
  cases h : Te.okM m with
  | true => simpa using tellLine_ok m w hW h
  | false => simpa using tellLine_bad m hs w h
namespace Te
def m0 : M := ⟨⟨#[]⟩, 0, 0⟩
/-- What tell.parse hands back. -/
def PlRet (s : Txt) (w : World) (e : Ending) (w' : World) : Prop :=
  (∃ m', (∀ m, pl s = some m → m' = m) ∧ e = .returned (.tuple #[mv m', .bool (pl s).isSome])) ∧ Below w.heap.size w w'
theorem pl_no {s : Txt} (h : (has s && num s) = false) : pl s = none := by
  unfold pl
  rw [h]
  rfl
end Te
set_option maxHeartbeats 4000000 in
set_option maxRecDepth 100000 in
theorem tellPl_no (s : ByteArray) (w : World) (hW : Wt w) (hs : s.size ≤ 1000000) (hh : Te.has (tl s) = false) :
    Calls Tryd.prog 18 #[.string s] w (Te.PlRet (tl s) w) := by
  have hp : Te.pl (tl s) = none := Te.pl_no (by rw [hh]; rfl)
  have hC1 := fun W hw => cut_t s 9 W hw hs
  have hl := (cut_length (tl s) [9]).2
  unfold Te.has at hh
  obtain ⟨c1, hc1⟩ : ∃ c, Lib.cut (tl s) [9] = c := ⟨_, rfl⟩
  rw [hc1] at hC1 hl hh
  obtain ⟨A, B, o1⟩ := c1
  simp only at hC1 hl hh
  rw [tl_length] at hl
  have hC2 := fun W hw => cut_t (Te.bts B) 9 W hw (by rw [Te.bts_size]; omega)
  rw [tl_bts] at hC2
  obtain ⟨c2, hc2⟩ : ∃ c, Lib.cut B [9] = c := ⟨_, rfl⟩
  rw [hc2] at hC2 hh
  obtain ⟨Y, D, o2⟩ := c2
  simp only at hC2 hh
  have HR : Hid (∀ W', Below w.heap.size w W' → Te.PlRet (tl s) w (.returned (.tuple #[.agg #[.string ⟨#[]⟩, .int .i64 0, .int .u8 0], .bool false])) W') := by
    intro W' hb
    refine ⟨⟨Te.m0, ?_, ?_⟩, hb⟩
    · rw [hp]
      intro m h
      cases h
    · rw [hp]
      rfl
  have HC1 := Lib.hid hC1
  have HC2 := Lib.hid hC2
  have HW := Lib.hid hW
  obtain ⟨bA, hbA⟩ : ∃ x, Te.bts A = x := ⟨_, rfl⟩
  obtain ⟨bB, hbB⟩ : ∃ x, Te.bts B = x := ⟨_, rfl⟩
  obtain ⟨bY, hbY⟩ : ∃ x, Te.bts Y = x := ⟨_, rfl⟩
  obtain ⟨bD, hbD⟩ : ∃ x, Te.bts D = x := ⟨_, rfl⟩
  have hYs : bY.size = Y.length := by rw [← hbY]; rfl
  rw [hbA, hbB] at HC1
  rw [hbB, hbY, hbD] at HC2
  have hcase : o1 = false ∨ (o1 = true ∧ o2 = false) ∨ (o1 = true ∧ o2 = true ∧ ¬ (bY.size : Int) = 4) := by
    cases o1
    · exact .inl rfl
    · cases o2
      · exact .inr (.inl ⟨rfl, rfl⟩)
      · refine .inr (.inr ⟨rfl, rfl, ?_⟩)
        have : ¬ Y.length = 4 := by simpa using hh
        omega
  clear hC1 hC2 hW hp hh hc1 hc2 hbA hbB hbY hbD hl hs hYs
  rcases hcase with rfl | ⟨rfl, rfl⟩ | ⟨rfl, rfl, hY⟩
  all_goals
    go_enter Tryd.func18, Tryd.ntmps18
    go_wp2_with fail
    refine (HC1.out _ (HW.out.below ((Below.refl _ _).alloc (Nat.le_refl _) _))).mono ?_
    rintro e w1 ⟨rfl, hd1⟩
    have HB := Lib.hid (((Below.refl w.heap.size w).alloc (Nat.le_refl _) (.cells #[.string ⟨#[]⟩, .int .i64 0, .int .u8 0] 37)).trans (hd1.below _))
    have HM := Lib.hid ((At.new w #[.string ⟨#[]⟩, .int .i64 0, .int .u8 0] 37).drew hd1)
    clear hd1
    go_wp2_with fail
    refine (HC2.out _ (HW.out.below HB.out)).mono ?_
    rintro e w2 ⟨rfl, hd2⟩
    replace HB := Lib.hid (HB.out.trans (hd2.below _))
    replace HM := Lib.hid (HM.out.drew hd2)
    clear hd2
    obtain ⟨c0, c1, c2, f0, f1, f2⟩ := HM.out.three
    have zM := HM.out.lt
    go_wp2
    refine bodyPost_ret (v := .tuple #[.agg #[.string ⟨#[]⟩, .int .i64 0, .int .u8 0], .bool false]) (by simp [results, Tryd.results18, go_sem, *]) rfl ?_
    exact HR.out _ (((HB.out.setCell (p := ⟨w.heap.size, _, none⟩) (Nat.le_refl _) _).setCell (p := ⟨w.heap.size, _, none⟩) (Nat.le_refl _) _).setCell (p := ⟨w.heap.size, _, none⟩) (Nat.le_refl _) _)
set_option maxHeartbeats 4000000 in
set_option maxRecDepth 100000 in
theorem tellPl_num (s : ByteArray) (w : World) (hW : Wt w) (hs : s.size ≤ 1000000) (hh : Te.has (tl s) = true) (hn : Te.num (tl s) = false) :
    Calls Tryd.prog 18 #[.string s] w (Te.PlRet (tl s) w) := by
  have hp : Te.pl (tl s) = none := Te.pl_no (by rw [hn, Bool.and_false])
  have hC1 := fun W hw => cut_t s 9 W hw hs
  have hl := (cut_length (tl s) [9]).2
  unfold Te.has at hh
  unfold Te.num at hn
  obtain ⟨c1, hc1⟩ : ∃ c, Lib.cut (tl s) [9] = c := ⟨_, rfl⟩
  rw [hc1] at hC1 hl hh hn
  obtain ⟨A, B, o1⟩ := c1
  simp only at hC1 hl hh hn
  rw [tl_length] at hl
  have hC2 := fun W hw => cut_t (Te.bts B) 9 W hw (by rw [Te.bts_size]; omega)
  rw [tl_bts] at hC2
  have hl2 := (cut_length B [9]).1
  obtain ⟨c2, hc2⟩ : ∃ c, Lib.cut B [9] = c := ⟨_, rfl⟩
  rw [hc2] at hC2 hh hn hl2
  obtain ⟨Y, D, o2⟩ := c2
  simp only [Bool.and_eq_true, decide_eq_true_eq] at hC2 hh hn hl2
  obtain ⟨⟨rfl, rfl⟩, h4⟩ := hh
  have HA := Lib.hid (fun W hw => atoi_no (Te.bts Y) W hw (by rw [Te.bts_size]; omega) (by
    intro v h
    rw [tl_bts] at h
    rw [h] at hn
    cases hn))
  have HR : Hid (∀ W', Below w.heap.size w W' → Te.PlRet (tl s) w (.returned (.tuple #[.agg #[.string ⟨#[]⟩, .int .i64 0, .int .u8 0], .bool false])) W') := by
    intro W' hb
    refine ⟨⟨Te.m0, ?_, ?_⟩, hb⟩
    · rw [hp]
      intro m h
      cases h
    · rw [hp]
      rfl
  have HC1 := Lib.hid hC1
  have HC2 := Lib.hid hC2
  have HW := Lib.hid hW
  have hYs : (Te.bts Y).size = 4 := h4
  obtain ⟨bA, hbA⟩ : ∃ x, Te.bts A = x := ⟨_, rfl⟩
  obtain ⟨bB, hbB⟩ : ∃ x, Te.bts B = x := ⟨_, rfl⟩
  obtain ⟨bY, hbY⟩ : ∃ x, Te.bts Y = x := ⟨_, rfl⟩
  obtain ⟨bD, hbD⟩ : ∃ x, Te.bts D = x := ⟨_, rfl⟩
  rw [hbA, hbB] at HC1
  rw [hbB, hbY, hbD] at HC2
  rw [hbY] at HA hYs
  have hY : (bY.size : Int) = 4 := by omega
  clear hC1 hC2 hW hp h4 hc1 hc2 hbA hbB hbY hbD hl hs hYs hn hl2
  go_enter Tryd.func18, Tryd.ntmps18
  go_wp2_with fail
  refine (HC1.out _ (HW.out.below ((Below.refl _ _).alloc (Nat.le_refl _) _))).mono ?_
  rintro e w1 ⟨rfl, hd1⟩
  have HB := Lib.hid (((Below.refl w.heap.size w).alloc (Nat.le_refl _) (.cells #[.string ⟨#[]⟩, .int .i64 0, .int .u8 0] 37)).trans (hd1.below _))
  have HM := Lib.hid ((At.new w #[.string ⟨#[]⟩, .int .i64 0, .int .u8 0] 37).drew hd1)
  clear hd1
  go_wp2_with fail
  refine (HC2.out _ (HW.out.below HB.out)).mono ?_
  rintro e w2 ⟨rfl, hd2⟩
  replace HB := Lib.hid (HB.out.trans (hd2.below _))
  replace HM := Lib.hid (HM.out.drew hd2)
  clear hd2
  go_wp2_with fail
  refine (HA.out _ (HW.out.below HB.out)).mono ?_
  rintro e w3 ⟨⟨n, te, pe, rfl⟩, hb3⟩
  replace HB := Lib.hid (below_then HB.out hb3)
  replace HM := Lib.hid (HM.out.call hb3)
  clear hb3
  obtain ⟨c0, c1, c2, f0, f1, f2⟩ := HM.out.three
  have zM := HM.out.lt
  go_wp2
  refine bodyPost_ret (v := .tuple #[.agg #[.string ⟨#[]⟩, .int .i64 0, .int .u8 0], .bool false]) (by simp [results, Tryd.results18, go_sem, *]) rfl ?_
  exact HR.out _ (((HB.out.setCell (p := ⟨w.heap.size, _, none⟩) (Nat.le_refl _) _).setCell (p := ⟨w.heap.size, _, none⟩) (Nat.le_refl _) _).setCell (p := ⟨w.heap.size, _, none⟩) (Nat.le_refl _) _)
set_option maxHeartbeats 4000000 in
set_option maxRecDepth 100000 in
theorem tellPl_yes (s : ByteArray) (w : World) (hW : Wt w) (hs : s.size ≤ 1000000) (hh : Te.has (tl s) = true) (hn : Te.num (tl s) = true) :
    Calls Tryd.prog 18 #[.string s] w (Te.PlRet (tl s) w) := by
  have hp : Te.pl (tl s) = if Te.okM (Te.ofL (tl s)) && decide (Te.line (Te.ofL (tl s)) = tl s) then some (Te.ofL (tl s)) else none := by
    unfold Te.pl
    rw [hh, hn, Bool.true_and, Bool.true_and]
  obtain ⟨om, hom⟩ : ∃ om, Te.ofL (tl s) = om := ⟨_, rfl⟩
  rw [hom] at hp
  unfold Te.ofL at hom
  have hC1 := fun W hw => cut_t s 9 W hw hs
  have hl := (cut_length (tl s) [9]).2
  unfold Te.has at hh
  unfold Te.num at hn
  obtain ⟨c1, hc1⟩ : ∃ c, Lib.cut (tl s) [9] = c := ⟨_, rfl⟩
  rw [hc1] at hC1 hl hh hn hom
  obtain ⟨A, B, o1⟩ := c1
  simp only at hC1 hl hh hn hom
  rw [tl_length] at hl
  have hC2 := fun W hw => cut_t (Te.bts B) 9 W hw (by rw [Te.bts_size]; omega)
  rw [tl_bts] at hC2
  have hl2 := (cut_length B [9]).1
  obtain ⟨c2, hc2⟩ : ∃ c, Lib.cut B [9] = c := ⟨_, rfl⟩
  rw [hc2] at hC2 hh hn hl2 hom
  obtain ⟨Y, D, o2⟩ := c2
  simp only [Bool.and_eq_true, decide_eq_true_eq] at hC2 hh hn hl2 hom
  obtain ⟨⟨rfl, rfl⟩, h4⟩ := hh
  obtain ⟨y, hy⟩ : ∃ y, Lib.atoiAll Y = .ok y := by
    rcases hc : Lib.atoiAll Y with y | _ | _
    · exact ⟨y, rfl⟩
    · rw [hc] at hn; cases hn
    · rw [hc] at hn; cases hn
  rw [hy] at hom
  simp only at hom
  have HA := Lib.hid (fun W => atoi_yes (Te.bts Y) W (by rw [Te.bts_size]; omega) y (by rw [tl_bts]; exact hy))
  have HRs := Lib.hid (fun W hw => tellReason_any (Te.bts D) W hw)
  rw [tl_bts] at HRs
  obtain ⟨r, hr⟩ : ∃ r, Te.reason D = r := ⟨_, rfl⟩
  rw [hr] at HRs hom
  have hls : (Lib.cut (tl s) [9]).1.length ≤ s.size := by
    have := (cut_length (tl s) [9]).1
    rwa [tl_length] at this
  rw [hc1] at hls
  simp only at hls
  have hom2 : om = ⟨Te.bts A, y, r⟩ := hom.symm
  subst hom2
  have HL := Lib.hid (fun W hw => tellLine_any ⟨Te.bts A, y, r⟩ (by show (Te.bts A).size ≤ maxLen; rw [Te.bts_size]; unfold maxLen; omega) W hw)
  obtain ⟨L, hL⟩ : ∃ L : ByteArray, (if Te.okM ⟨Te.bts A, y, r⟩ then Te.bts (Te.line ⟨Te.bts A, y, r⟩) else ⟨#[]⟩) = L := ⟨_, rfl⟩
  obtain ⟨E, hE⟩ : ∃ E : Int, (if Te.okM ⟨Te.bts A, y, r⟩ then (0 : Int) else 2) = E := ⟨_, rfl⟩
  obtain ⟨b, hb⟩ : ∃ b, (Te.okM ⟨Te.bts A, y, r⟩ && decide (Te.line ⟨Te.bts A, y, r⟩ = tl s)) = b := ⟨_, rfl⟩
  rw [hL, hE] at HL
  rw [hb] at hp
  have hcase : (E = 2 ∧ b = false) ∨ (E = 0 ∧ L = s ∧ b = true) ∨ (E = 0 ∧ ¬ tl L = tl s ∧ b = false) := by
    cases hk : Te.okM ⟨Te.bts A, y, r⟩ with
    | false =>
      rw [hk] at hE hb
      exact .inl ⟨hE.symm, hb.symm⟩
    | true =>
      rw [hk] at hE hb hL
      rw [if_pos rfl] at hL
      have htl : tl L = Te.line ⟨Te.bts A, y, r⟩ := by rw [← hL, tl_bts]
      by_cases hq : Te.line ⟨Te.bts A, y, r⟩ = tl s
      · rw [decide_eq_true hq] at hb
        exact .inr (.inl ⟨hE.symm, bytes_eq (by rw [htl, hq]), hb.symm⟩)
      · rw [decide_eq_false hq] at hb
        exact .inr (.inr ⟨hE.symm, by rw [htl]; exact hq, hb.symm⟩)
  unfold Te.mv at HL
  simp only at HL
  have HR : Hid (∀ W', Below w.heap.size w W' → Te.PlRet (tl s) w (.returned (.tuple #[.agg #[.string (Te.bts A), .int .i64 y, .int .u8 r], .bool b])) W') := by
    intro W' hbl
    refine ⟨⟨⟨Te.bts A, y, r⟩, ?_, ?_⟩, hbl⟩
    · intro m hm
      rw [hp] at hm
      cases b with
      | false => cases hm
      | true => exact Option.some.inj hm
    · rw [hp]
      cases b <;> rfl
  have HC1 := Lib.hid hC1
  have HC2 := Lib.hid hC2
  have HW := Lib.hid hW
  have hYs : (Te.bts Y).size = 4 := h4
  obtain ⟨bA, hbA⟩ : ∃ x, Te.bts A = x := ⟨_, rfl⟩
  obtain ⟨bB, hbB⟩ : ∃ x, Te.bts B = x := ⟨_, rfl⟩
  obtain ⟨bY, hbY⟩ : ∃ x, Te.bts Y = x := ⟨_, rfl⟩
  obtain ⟨bD, hbD⟩ : ∃ x, Te.bts D = x := ⟨_, rfl⟩
  rw [hbA, hbB] at HC1
  rw [hbA] at HL HR
  rw [hbD] at HRs
  rw [hbB, hbY, hbD] at HC2
  rw [hbY] at HA hYs
  have hY : (bY.size : Int) = 4 := by omega
  clear hC1 hC2 hW hp h4 hbA hbB hbY hbD hl hs hYs hn hl2 hL hE hb hr hy hls hom
  go_enter Tryd.func18, Tryd.ntmps18
  go_wp2_with fail
  refine (HC1.out _ (HW.out.below ((Below.refl _ _).alloc (Nat.le_refl _) _))).mono ?_
  rintro e w1 ⟨rfl, hd1⟩
  have HB := Lib.hid (((Below.refl w.heap.size w).alloc (Nat.le_refl _) (.cells #[.string ⟨#[]⟩, .int .i64 0, .int .u8 0] 37)).trans (hd1.below _))
  have HM := Lib.hid ((At.new w #[.string ⟨#[]⟩, .int .i64 0, .int .u8 0] 37).drew hd1)
  clear hd1
  go_wp2_with fail
  refine (HC2.out _ (HW.out.below HB.out)).mono ?_
  rintro e w2 ⟨rfl, hd2⟩
  replace HB := Lib.hid (HB.out.trans (hd2.below _))
  replace HM := Lib.hid (HM.out.drew hd2)
  clear hd2
  go_wp2_with fail
  refine (HA.out _).mono ?_
  rintro e w3 ⟨rfl, hb3⟩
  replace HB := Lib.hid (below_then HB.out hb3)
  replace HM := Lib.hid (HM.out.call hb3)
  clear hb3
  go_wp2_with fail
  refine (HRs.out _ (HW.out.below HB.out)).mono ?_
  rintro e w4 ⟨rfl, rfl⟩
  go_wp2_with fail
  refine (HL.out _ (HW.out.below (HB.out.alloc HB.out.size _))).mono ?_
  rintro e w4 ⟨rfl, hb4⟩
  have hne : w.heap.size < w3.heap.size := HM.out.lt
  have HN := Lib.hid ((At.new w3 #[.string bA, .int .i64 y, .int .u8 r] 37).call hb4)
  replace HM := Lib.hid ((HM.out.alloc #[.string bA, .int .i64 y, .int .u8 r] 37).call hb4)
  replace HB := Lib.hid (below_then (HB.out.alloc HB.out.size _) hb4)
  clear hb4
  obtain ⟨c0, c1, c2, f0, f1, f2⟩ := HM.out.three
  obtain ⟨d0, d1, d2, _, _, _⟩ := HN.out.three
  have zM := HM.out.lt
  rcases hcase with ⟨rfl, rfl⟩ | ⟨rfl, rfl, rfl⟩ | ⟨rfl, hq, rfl⟩
  · go_wp2
    refine bodyPost_ret (v := .tuple #[.agg #[.string bA, .int .i64 y, .int .u8 r], .bool false]) (by simp [results, Tryd.results18, go_sem, *]) rfl ?_
    exact HR.out _ (((HB.out.setCell (p := ⟨w.heap.size, _, none⟩) (Nat.le_refl _) _).setCell (p := ⟨w.heap.size, _, none⟩) (Nat.le_refl _) _).setCell (p := ⟨w.heap.size, _, none⟩) (Nat.le_refl _) _)
  · go_wp2
    refine bodyPost_ret (v := .tuple #[.agg #[.string bA, .int .i64 y, .int .u8 r], .bool true]) (by simp [results, Tryd.results18, go_sem, *]) rfl ?_
    exact HR.out _ (((HB.out.setCell (p := ⟨w.heap.size, _, none⟩) (Nat.le_refl _) _).setCell (p := ⟨w.heap.size, _, none⟩) (Nat.le_refl _) _).setCell (p := ⟨w.heap.size, _, none⟩) (Nat.le_refl _) _)
  · have qe : (L.toList == s.toList) = false := by
      rw [beq_eq_false_iff_ne]
      intro e
      rw [ByteArray.toList_eq, ByteArray.toList_eq] at e
      exact hq e
    have qe' : ¬ L.toList = s.toList := by simpa using qe
    clear hq
    go_wp2
    refine bodyPost_ret (v := .tuple #[.agg #[.string bA, .int .i64 y, .int .u8 r], .bool false]) (by simp [results, Tryd.results18, go_sem, *]) rfl ?_
    exact HR.out _ (((HB.out.setCell (p := ⟨w.heap.size, _, none⟩) (Nat.le_refl _) _).setCell (p := ⟨w.heap.size, _, none⟩) (Nat.le_refl _) _).setCell (p := ⟨w.heap.size, _, none⟩) (Nat.le_refl _) _)
theorem tellPl_any (s : ByteArray) (w : World) (hW : Wt w) (hs : s.size ≤ 1000000) : Calls Tryd.prog 18 #[.string s] w (Te.PlRet (tl s) w) := by
  cases hh : Te.has (tl s) with
  | false => exact tellPl_no s w hW hs hh
  | true =>
    cases hn : Te.num (tl s) with
    | false => exact tellPl_num s w hW hs hh hn
    | true => exact tellPl_yes s w hW hs hh hn
end Go.Proofs.YtlmheieabkdhjaaDoor
