/- markup: a fault, and the attribute with which a text begins. -/
import Derived.Test.YthmhadgbhakdlaaDoorP07

namespace Go.Proofs.YthmhadgbhakdlaaDoor
open Go.RowKit

set_option maxRecDepth 100000 in
theorem fault_any (c y : Int) (w : World) :
    Calls Tryd.prog 21 #[.int .i64 c, .int .i64 y] w fun e w' => e = .returned (.agg #[.int .i64 0, .int .i64 c, .int .i64 y]) ∧ Below w.heap.size w w' := by
  go_enter Tryd.func21, Tryd.ntmps21
  go_wp2
  refine bodyPost_ret (v := .agg #[.int .i64 0, .int .i64 c, .int .i64 y]) (by simp [results, Tryd.results21, go_sem]) rfl ⟨rfl, ?_⟩
  exact Mk.below_new _ _
namespace Mk
/-- What readAttr answers. -/
def atV : Option ((Txt × Txt) × Txt) → Value
  | none => .tuple #[.agg #[.string ⟨#[]⟩, .string ⟨#[]⟩], .string ⟨#[]⟩, .bool false]
  | some ((n, v), r) => .tuple #[.agg #[.string (bts n), .string (bts v)], .string (bts r), .bool true]
theorem ra_name {l : Txt} (h : (cutN l).1 = []) : readAttr l = none := by unfold readAttr; rw [if_pos h]
theorem ra_eq {l : Txt} (h : (cutN l).1 ≠ []) (h2 : ∀ r, skip (cutN l).2 ≠ 61 :: r) : readAttr l = none := by
  unfold readAttr
  rw [if_neg h]
  split
  · rename_i r e; exact absurd e (h2 r)
  · rfl
theorem ra_quote {l r : Txt} (h : (cutN l).1 ≠ []) (h2 : skip (cutN l).2 = 61 :: r) (h3 : ∀ q r2, skip r = q :: r2 → ¬ (q = 34 ∨ q = 39)) : readAttr l = none := by
  unfold readAttr
  rw [if_neg h, h2]
  simp only
  split
  · rename_i q r2 e
    rw [if_neg (h3 q r2 e)]
  · rfl
theorem ra_rest {l r r2 : Txt} {q : UInt8} (h : (cutN l).1 ≠ []) (h2 : skip (cutN l).2 = 61 :: r) (h3 : skip r = q :: r2) (h4 : q = 34 ∨ q = 39) : readAttr l = if aft q r2 = [] then none else if aft 60 (bef q r2) = [] then some (((cutN l).1, bef q r2), (aft q r2).drop 1) else none := by
  unfold readAttr
  rw [if_neg h, h2]
  simp only [h3]
  rw [if_pos h4]
end Mk
set_option maxHeartbeats 2000000 in
set_option maxRecDepth 100000 in
theorem readAttr_any (s : ByteArray) (hs : s.size ≤ 100000000) (w : World) :
    Calls Tryd.prog 66 #[.string s] w fun e w' => e = .returned (Mk.atV (Mk.readAttr (tl s))) ∧ Below w.heap.size w w' := by
  have HCN := Lib.hid (fun W => cutName_any s (by unfold maxLen; omega) W)
  obtain ⟨R, hR⟩ : ∃ R, Mk.readAttr (tl s) = R := ⟨_, rfl⟩
  have HR := Lib.hid hR
  rw [hR]
  clear hR
  obtain ⟨N1, hN1⟩ : ∃ x, (Mk.cutN (tl s)).1 = x := ⟨_, rfl⟩
  obtain ⟨N2, hN2⟩ : ∃ x, (Mk.cutN (tl s)).2 = x := ⟨_, rfl⟩
  have HN1 := Lib.hid hN1
  have HN2 := Lib.hid hN2
  rw [hN1, hN2] at HCN
  clear hN1 hN2
  have HCN2 : Hid (∀ W, Calls Tryd.prog 65 #[.string s] W fun e w' => e = .returned (.tuple #[.string (Mk.bts N1), .string (Mk.bts N2)]) ∧ Drew W w') := fun W => HCN.out W
  clear HCN
  have HSk := Lib.hid (fun W => skipWhite_any (Mk.bts N2) W)
  rw [Mk.tl_bts] at HSk
  obtain ⟨T1, hT1⟩ : ∃ x, Mk.skip N2 = x := ⟨_, rfl⟩
  have HT1 := Lib.hid hT1
  rw [hT1] at HSk
  clear hT1
  have HB0 := Lib.hid (Mk.below_new w (.cells #[.string ⟨#[]⟩, .string ⟨#[]⟩] 75))
  have HZ0 : Hid (At (w.alloc (.cells #[.string ⟨#[]⟩, .string ⟨#[]⟩] 75)) w.heap.size [.string ⟨#[]⟩, .string ⟨#[]⟩]) := At.new _ _ _
  by_cases hn : N1 = []
  · have q1 : (Mk.bts N1).toList.isEmpty = true := Mk.emp_yes (by rw [hn]; rfl)
    have HE : Hid (R = none) := by show _ = _; rw [← HR.out]; exact Mk.ra_name (by rw [HN1.out]; exact hn)
    clear hn
    obtain ⟨B1, hB1⟩ : ∃ x, Mk.bts N1 = x := ⟨_, rfl⟩
    rw [hB1] at HCN2 q1
    clear hB1
    go_enter Tryd.func66, Tryd.ntmps66
    go_wp2_with fail
    refine (HCN2.out _).mono ?_
    rintro e w1 ⟨rfl, hd⟩
    have HB1 := Lib.hid (HB0.out.trans (hd.below _))
    have HZ1 := Lib.hid (HZ0.out.drew hd)
    clear hd
    go_wp2_with fail
    refine (HSk.out _).mono ?_
    rintro e w2 ⟨rfl, hb⟩
    have HB := Lib.hid (HB1.out.trans (hb.mono HB1.out.size))
    have HZ := Lib.hid (HZ1.out.call hb)
    clear hb

    have hz := HZ.out.lt
    obtain ⟨d0, d1, e0, e1⟩ := HZ.out.two
    go_wp2
    refine bodyPost_ret (v := .tuple #[.agg #[.string ⟨#[]⟩, .string ⟨#[]⟩], .string ⟨#[]⟩, .bool false]) (by simp [results, Tryd.results66, go_sem, *]) rfl ⟨by rw [HE.out]; rfl, ?_⟩
    exact ((HB.out.setCell (p := ⟨w.heap.size, _, none⟩) (Nat.le_refl _) _).setCell (p := ⟨w.heap.size, _, none⟩) (Nat.le_refl _) _)
  · have q1 : (Mk.bts N1).toList.isEmpty = false := Mk.emp_no (List.length_pos_iff.2 hn)
    have HNe : Hid ((Mk.cutN (tl s)).1 ≠ []) := by show _ ≠ _; rw [HN1.out]; exact hn
    have HSe : Hid (Mk.skip (Mk.cutN (tl s)).2 = T1) := by show _ = _; rw [HN2.out]; exact HT1.out
    clear hn
    obtain ⟨B1, hB1⟩ : ∃ x, Mk.bts N1 = x := ⟨_, rfl⟩
    have HBN := Lib.hid hB1
    rw [hB1] at HCN2 q1
    clear hB1
    obtain ⟨X1, hX1⟩ : ∃ x, Mk.bts T1 = x := ⟨_, rfl⟩
    have HX1 : Hid (tl X1 = T1) := by show _ = _; rw [← hX1]; rfl
    rw [hX1] at HSk
    clear hX1
    have HP := Lib.hid (fun W => Tryd.strings_HasPrefix X1 ⟨#[61]⟩ W)
    obtain ⟨pb, hpb⟩ : ∃ b, Lib.hasPrefix T1 [61] = b := ⟨_, rfl⟩
    have HP1 : Hid (∀ W, Calls Tryd.prog 30 #[.string X1, .string ⟨#[61]⟩] W fun e w' => e = .returned (.bool pb) ∧ w' = W) := fun W => by
      have h := HP.out W
      rw [show X1.data.toList = T1 from HX1.out, show (⟨#[61]⟩ : ByteArray).data.toList = [61] from rfl, hpb] at h
      exact h
    clear HP
    cases pb with
    | false =>
      have HE : Hid (R = none) := by show _ = _; rw [← HR.out]; exact Mk.ra_eq HNe.out (fun r => by rw [HSe.out]; exact Mk.pre_no hpb r)
      clear hpb
      have HB := HB0
      have HZ := HZ0
      clear HB0 HZ0
      go_enter Tryd.func66, Tryd.ntmps66
      go_wp2_with fail
      refine (HCN2.out _).mono ?_
      rintro e w1 ⟨rfl, hd⟩
      replace HB := Lib.hid (HB.out.trans (hd.below _))
      replace HZ := Lib.hid (HZ.out.drew hd)
      clear hd
      go_wp2_with fail
      refine (HSk.out _).mono ?_
      rintro e w2 ⟨rfl, hb⟩
      replace HB := Lib.hid (HB.out.trans (hb.mono HB.out.size))
      replace HZ := Lib.hid (HZ.out.call hb)
      clear hb
      go_wp2_with fail
      refine (HP1.out _).mono ?_
      rintro e w9 ⟨rfl, rfl⟩
      have hz := HZ.out.lt
      obtain ⟨d0, d1, e0, e1⟩ := HZ.out.two
      go_wp2
      refine bodyPost_ret (v := .tuple #[.agg #[.string ⟨#[]⟩, .string ⟨#[]⟩], .string ⟨#[]⟩, .bool false]) (by simp [results, Tryd.results66, go_sem, *]) rfl ⟨by rw [HE.out]; rfl, ?_⟩
      exact ((HB.out.setCell (p := ⟨w.heap.size, _, none⟩) (Nat.le_refl _) _).setCell (p := ⟨w.heap.size, _, none⟩) (Nat.le_refl _) _)
    | true =>
      obtain ⟨r, hr⟩ := Mk.pre_yes hpb
      have hr2 : tl X1 = 61 :: r := HX1.out.trans hr
      obtain ⟨g1, g2⟩ := Mk.tl_one hr2
      have HS2 := Lib.hid (fun W => skipWhite_any (X1.extract 1 X1.size) W)
      rw [g2] at HS2
      have HSr : Hid (Mk.skip (Mk.cutN (tl s)).2 = 61 :: r) := by show _ = _; rw [HSe.out]; exact hr
      have x1 : (1 : Int) ≤ (X1.size : Int) := by omega
      have x0 : (0 : Int) ≤ 1 := by omega
      have hxs : X1.size ≤ s.size := by
        have h1 := tl_length X1
        rw [HX1.out, ← HT1.out, ← HN2.out] at h1
        have h2 := Mk.skip_len (Mk.cutN (tl s)).2
        have h3 : (Mk.cutN (tl s)).2.length ≤ (tl s).length := by
          unfold Mk.cutN
          split
          · exact (List.dropWhile_sublist _).length_le
          · exact Nat.le_refl _
        rw [tl_length] at h3
        omega
      have hrl : r.length ≤ s.size := by
        have h1 := tl_length X1
        rw [hr2, List.length_cons] at h1
        omega
      clear hr hr2 g1 g2 hpb hxs
      obtain ⟨T2, hT2⟩ : ∃ x, Mk.skip r = x := ⟨_, rfl⟩
      have HT2 := Lib.hid hT2
      have h2l : T2.length ≤ s.size := by have := Mk.skip_len r; rw [hT2] at this; omega
      rw [hT2] at HS2
      clear hT2 hrl
      obtain ⟨X2, hX2⟩ : ∃ x, Mk.bts T2 = x := ⟨_, rfl⟩
      rw [hX2] at HS2
      have HX2 : Hid (tl X2 = T2) := by show _ = _; rw [← hX2]; rfl
      have h2s : X2.size = T2.length := by rw [← hX2]; rfl
      clear hX2
      cases T2 with
      | nil =>
        have q2 : X2.toList.isEmpty = true := Mk.emp_yes h2s
        have HE : Hid (R = none) := by show _ = _; rw [← HR.out]; exact Mk.ra_quote HNe.out HSr.out (fun q r2 e => by rw [HT2.out] at e; cases e)
        clear h2s h2l
        have HB := HB0
        have HZ := HZ0
        clear HB0 HZ0
        go_enter Tryd.func66, Tryd.ntmps66
        go_wp2_with fail
        refine (HCN2.out _).mono ?_
        rintro e w1 ⟨rfl, hd⟩
        replace HB := Lib.hid (HB.out.trans (hd.below _))
        replace HZ := Lib.hid (HZ.out.drew hd)
        clear hd
        go_wp2_with fail
        refine (HSk.out _).mono ?_
        rintro e w2 ⟨rfl, hb⟩
        replace HB := Lib.hid (HB.out.trans (hb.mono HB.out.size))
        replace HZ := Lib.hid (HZ.out.call hb)
        clear hb
        go_wp2_with fail
        refine (HP1.out _).mono ?_
        rintro e w9 ⟨rfl, rfl⟩
        go_wp2_with fail
        refine (HS2.out _).mono ?_
        rintro e w3 ⟨rfl, hb⟩
        replace HB := Lib.hid (HB.out.trans (hb.mono HB.out.size))
        replace HZ := Lib.hid (HZ.out.call hb)
        clear hb
        have hz := HZ.out.lt
        obtain ⟨d0, d1, e0, e1⟩ := HZ.out.two
        go_wp2
        refine bodyPost_ret (v := .tuple #[.agg #[.string ⟨#[]⟩, .string ⟨#[]⟩], .string ⟨#[]⟩, .bool false]) (by simp [results, Tryd.results66, go_sem, *]) rfl ⟨by rw [HE.out]; rfl, ?_⟩
        exact ((HB.out.setCell (p := ⟨w.heap.size, _, none⟩) (Nat.le_refl _) _).setCell (p := ⟨w.heap.size, _, none⟩) (Nat.le_refl _) _)
      | cons q r2 =>
        rw [List.length_cons] at h2s h2l
        have hx2 : 0 < X2.size := by omega
        have q2 : X2.toList.isEmpty = false := Mk.emp_no hx2
        have hq0 : X2[0]'hx2 = q := by
          have h := Mk.at_tl X2 0 hx2
          rw [HX2.out] at h
          cases h
          rfl
        have y0 : (0 : Int) < (X2.size : Int) := by omega
        by_cases h4 : q = 34 ∨ q = 39
        · have HRe := Lib.hid (Mk.ra_rest HNe.out HSr.out HT2.out h4)
          rw [HR.out] at HRe
          obtain ⟨hx3, hx4⟩ := Mk.tl_one HX2.out
          have HI := Lib.hid (fun W => Mk.idx_any (X2.extract 1 X2.size) q W)
          rw [hx4] at HI
          have z1 : (1 : Int) ≤ (X2.size : Int) := by omega
          have z0 : (0 : Int) ≤ 1 := by omega
          by_cases ha : Mk.aft q r2 = []
          · have HE : Hid (R = none) := by show _ = _; rw [HRe.out, if_pos ha]
            have HI2 : Hid (∀ W, Calls Tryd.prog 36 #[.string (X2.extract 1 X2.size), .int .u8 (q.toNat : Int)] W fun e w' => e = .returned (.int .i64 (-1)) ∧ w' = W) := fun W => by
              have h := HI.out W
              rw [Mk.ib, if_pos ha] at h
              exact h
            clear HI HRe ha h2s h2l hx3 hx4
            rcases h4 with rfl | rfl

            · have HI3 : Hid (∀ W, Calls Tryd.prog 36 #[.string (X2.extract 1 X2.size), .int .u8 34] W fun e w' => e = .returned (.int .i64 (-1)) ∧ w' = W) := fun W => HI2.out W
              clear HI2
              have HB := HB0
              have HZ := HZ0
              clear HB0 HZ0
              go_enter Tryd.func66, Tryd.ntmps66
              go_wp2_with fail
              refine (HCN2.out _).mono ?_
              rintro e w1 ⟨rfl, hd⟩
              replace HB := Lib.hid (HB.out.trans (hd.below _))
              replace HZ := Lib.hid (HZ.out.drew hd)
              clear hd
              go_wp2_with fail
              refine (HSk.out _).mono ?_
              rintro e w2 ⟨rfl, hb⟩
              replace HB := Lib.hid (HB.out.trans (hb.mono HB.out.size))
              replace HZ := Lib.hid (HZ.out.call hb)
              clear hb
              go_wp2_with fail
              refine (HP1.out _).mono ?_
              rintro e w9 ⟨rfl, rfl⟩
              go_wp2_with fail
              refine (HS2.out _).mono ?_
              rintro e w3 ⟨rfl, hb⟩
              replace HB := Lib.hid (HB.out.trans (hb.mono HB.out.size))
              replace HZ := Lib.hid (HZ.out.call hb)
              clear hb
              go_wp2
              go_quiet ((go_at_call 36; exact Calls.quiet_of_same (HI3.out _)))
              have hz := HZ.out.lt
              obtain ⟨d0, d1, e0, e1⟩ := HZ.out.two
              go_wp2
              refine bodyPost_ret (v := .tuple #[.agg #[.string ⟨#[]⟩, .string ⟨#[]⟩], .string ⟨#[]⟩, .bool false]) (by simp [results, Tryd.results66, go_sem, *]) rfl ⟨by rw [HE.out]; rfl, ?_⟩
              first | exact ((HB.out.setCell (p := ⟨w.heap.size, _, none⟩) (Nat.le_refl _) _).setCell (p := ⟨w.heap.size, _, none⟩) (Nat.le_refl _) _) | exact (((below_drew HB.out ⟨_, rfl⟩).setCell (p := ⟨w.heap.size, _, none⟩) (Nat.le_refl _) _).setCell (p := ⟨w.heap.size, _, none⟩) (Nat.le_refl _) _)
            · have HI3 : Hid (∀ W, Calls Tryd.prog 36 #[.string (X2.extract 1 X2.size), .int .u8 39] W fun e w' => e = .returned (.int .i64 (-1)) ∧ w' = W) := fun W => HI2.out W
              clear HI2
              have HB := HB0
              have HZ := HZ0
              clear HB0 HZ0
              go_enter Tryd.func66, Tryd.ntmps66
              go_wp2_with fail
              refine (HCN2.out _).mono ?_
              rintro e w1 ⟨rfl, hd⟩
              replace HB := Lib.hid (HB.out.trans (hd.below _))
              replace HZ := Lib.hid (HZ.out.drew hd)
              clear hd
              go_wp2_with fail
              refine (HSk.out _).mono ?_
              rintro e w2 ⟨rfl, hb⟩
              replace HB := Lib.hid (HB.out.trans (hb.mono HB.out.size))
              replace HZ := Lib.hid (HZ.out.call hb)
              clear hb
              go_wp2_with fail
              refine (HP1.out _).mono ?_
              rintro e w9 ⟨rfl, rfl⟩
              go_wp2_with fail
              refine (HS2.out _).mono ?_
              rintro e w3 ⟨rfl, hb⟩
              replace HB := Lib.hid (HB.out.trans (hb.mono HB.out.size))
              replace HZ := Lib.hid (HZ.out.call hb)
              clear hb
              go_wp2
              go_quiet ((go_at_call 36; exact Calls.quiet_of_same (HI3.out _)))
              have hz := HZ.out.lt
              obtain ⟨d0, d1, e0, e1⟩ := HZ.out.two
              go_wp2
              refine bodyPost_ret (v := .tuple #[.agg #[.string ⟨#[]⟩, .string ⟨#[]⟩], .string ⟨#[]⟩, .bool false]) (by simp [results, Tryd.results66, go_sem, *]) rfl ⟨by rw [HE.out]; rfl, ?_⟩
              first | exact ((HB.out.setCell (p := ⟨w.heap.size, _, none⟩) (Nat.le_refl _) _).setCell (p := ⟨w.heap.size, _, none⟩) (Nat.le_refl _) _) | exact (((below_drew HB.out ⟨_, rfl⟩).setCell (p := ⟨w.heap.size, _, none⟩) (Nat.le_refl _) _).setCell (p := ⟨w.heap.size, _, none⟩) (Nat.le_refl _) _)
          · have han := List.length_pos_iff.2 ha
            have hbl := Mk.bef_len q r2
            obtain ⟨a, hal⟩ : ∃ a, (Mk.bef q r2).length = a := ⟨_, rfl⟩
            rw [hal] at hbl
            obtain ⟨u, hu⟩ : ∃ u : Nat, a + 1 = u := ⟨_, rfl⟩
            obtain ⟨v, hv⟩ : ∃ v : Nat, a + 2 = v := ⟨_, rfl⟩
            have hui : (a : Int) + 1 = (u : Int) := by omega
            have hvi : (a : Int) + 2 = (v : Int) := by omega
            have us : (u : Int) ≤ (X2.size : Int) := by omega
            have vs : (v : Int) ≤ (X2.size : Int) := by omega
            have u1 : (1 : Int) ≤ (u : Int) := by omega
            have v0 : (0 : Int) ≤ (v : Int) := by omega
            have xs : (X2.size : Int) ≤ 100000001 := by omega
            have n1 : ¬ (a : Int) < 0 := by omega
            have HI2 : Hid (∀ W, Calls Tryd.prog 36 #[.string (X2.extract 1 X2.size), .int .u8 (q.toNat : Int)] W fun e w' => e = .returned (.int .i64 (a : Int)) ∧ w' = W) := fun W => by
              have h := HI.out W
              rw [Mk.ib, if_neg ha, hal] at h
              exact h
            have hmid : tl (X2.extract 1 u) = Mk.bef q r2 := by
              rw [Mk.tl_mid, HX2.out, ← hu, Mk.bef_take q r2, hal]
              rfl
            have HM1 : Hid (Mk.bts (Mk.bef q r2) = X2.extract 1 u) := by show _ = _; rw [← hmid]; rfl
            have HM2 : Hid (Mk.bts ((Mk.aft q r2).drop 1) = X2.extract v X2.size) := by
              show _ = _
              rw [← Mk.bts_drop X2 v, HX2.out, Mk.aft_drop q r2, hal, List.drop_drop, ← hv]
              rfl
            have HI4 := Lib.hid (fun W => Mk.idx_any (X2.extract 1 u) 60 W)
            rw [hmid] at HI4
            rw [if_neg ha] at HRe
            clear HI ha han hbl hal hu hv hmid h2s h2l hx3 hx4
            by_cases hb60 : Mk.aft 60 (Mk.bef q r2) = []
            · have HE : Hid (R = some ((N1, Mk.bef q r2), (Mk.aft q r2).drop 1)) := by show _ = _; rw [HRe.out, if_pos hb60, HN1.out]
              have HI5 : Hid (∀ W, Calls Tryd.prog 36 #[.string (X2.extract 1 u), .int .u8 60] W fun e w' => e = .returned (.int .i64 (-1)) ∧ w' = W) := fun W => by
                have h := HI4.out W
                rw [Mk.ib, if_pos hb60] at h
                exact h
              clear HI4 HRe hb60
              rcases h4 with rfl | rfl

              · have HI3 : Hid (∀ W, Calls Tryd.prog 36 #[.string (X2.extract 1 X2.size), .int .u8 34] W fun e w' => e = .returned (.int .i64 (a : Int)) ∧ w' = W) := fun W => HI2.out W
                clear HI2
                have HB := HB0
                have HZ := HZ0
                clear HB0 HZ0
                go_enter Tryd.func66, Tryd.ntmps66
                go_wp2_with fail
                refine (HCN2.out _).mono ?_
                rintro e w1 ⟨rfl, hd⟩
                replace HB := Lib.hid (HB.out.trans (hd.below _))
                replace HZ := Lib.hid (HZ.out.drew hd)
                clear hd
                go_wp2_with fail
                refine (HSk.out _).mono ?_
                rintro e w2 ⟨rfl, hb⟩
                replace HB := Lib.hid (HB.out.trans (hb.mono HB.out.size))
                replace HZ := Lib.hid (HZ.out.call hb)
                clear hb
                go_wp2_with fail
                refine (HP1.out _).mono ?_
                rintro e w9 ⟨rfl, rfl⟩
                go_wp2_with fail
                refine (HS2.out _).mono ?_
                rintro e w3 ⟨rfl, hb⟩
                replace HB := Lib.hid (HB.out.trans (hb.mono HB.out.size))
                replace HZ := Lib.hid (HZ.out.call hb)
                clear hb
                have hz := HZ.out.lt
                obtain ⟨d0, d1, e0, e1⟩ := HZ.out.two
                go_wp2
                go_quiet ((go_at_call 36; exact Calls.quiet_of_same (HI3.out _)))
                go_wp2_with (refine (HI5.out _).mono ?_; rintro e w' ⟨rfl, rfl⟩)
                go_region
                all_goals go_wp2
                all_goals refine bodyPost_ret (v := .tuple #[.agg #[.string B1, .string (X2.extract 1 u)], .string (X2.extract v X2.size), .bool true]) (by simp [results, Tryd.results66, go_sem, *]) rfl ⟨by rw [HE.out]; show _ = Ending.returned (.tuple #[.agg #[.string (Mk.bts N1), .string (Mk.bts _)], .string (Mk.bts _), .bool true]); rw [HBN.out, HM1.out, HM2.out], ?_⟩
                all_goals first | exact ((HB.out.setCell (p := ⟨w.heap.size, _, none⟩) (Nat.le_refl _) _).setCell (p := ⟨w.heap.size, _, none⟩) (Nat.le_refl _) _) | exact (((below_drew HB.out ⟨_, rfl⟩).setCell (p := ⟨w.heap.size, _, none⟩) (Nat.le_refl _) _).setCell (p := ⟨w.heap.size, _, none⟩) (Nat.le_refl _) _)
              · have HI3 : Hid (∀ W, Calls Tryd.prog 36 #[.string (X2.extract 1 X2.size), .int .u8 39] W fun e w' => e = .returned (.int .i64 (a : Int)) ∧ w' = W) := fun W => HI2.out W
                clear HI2
                have HB := HB0
                have HZ := HZ0
                clear HB0 HZ0
                go_enter Tryd.func66, Tryd.ntmps66
                go_wp2_with fail
                refine (HCN2.out _).mono ?_
                rintro e w1 ⟨rfl, hd⟩
                replace HB := Lib.hid (HB.out.trans (hd.below _))
                replace HZ := Lib.hid (HZ.out.drew hd)
                clear hd
                go_wp2_with fail
                refine (HSk.out _).mono ?_
                rintro e w2 ⟨rfl, hb⟩
                replace HB := Lib.hid (HB.out.trans (hb.mono HB.out.size))
                replace HZ := Lib.hid (HZ.out.call hb)
                clear hb
                go_wp2_with fail
                refine (HP1.out _).mono ?_
                rintro e w9 ⟨rfl, rfl⟩
                go_wp2_with fail
                refine (HS2.out _).mono ?_
                rintro e w3 ⟨rfl, hb⟩
                replace HB := Lib.hid (HB.out.trans (hb.mono HB.out.size))
                replace HZ := Lib.hid (HZ.out.call hb)
                clear hb
                have hz := HZ.out.lt
                obtain ⟨d0, d1, e0, e1⟩ := HZ.out.two
                go_wp2
                go_quiet ((go_at_call 36; exact Calls.quiet_of_same (HI3.out _)))
                go_wp2_with (refine (HI5.out _).mono ?_; rintro e w' ⟨rfl, rfl⟩)
                go_region
                all_goals go_wp2
                all_goals refine bodyPost_ret (v := .tuple #[.agg #[.string B1, .string (X2.extract 1 u)], .string (X2.extract v X2.size), .bool true]) (by simp [results, Tryd.results66, go_sem, *]) rfl ⟨by rw [HE.out]; show _ = Ending.returned (.tuple #[.agg #[.string (Mk.bts N1), .string (Mk.bts _)], .string (Mk.bts _), .bool true]); rw [HBN.out, HM1.out, HM2.out], ?_⟩
                all_goals first | exact ((HB.out.setCell (p := ⟨w.heap.size, _, none⟩) (Nat.le_refl _) _).setCell (p := ⟨w.heap.size, _, none⟩) (Nat.le_refl _) _) | exact (((below_drew HB.out ⟨_, rfl⟩).setCell (p := ⟨w.heap.size, _, none⟩) (Nat.le_refl _) _).setCell (p := ⟨w.heap.size, _, none⟩) (Nat.le_refl _) _)
            · have HE : Hid (R = none) := by show _ = _; rw [HRe.out, if_neg hb60]
              obtain ⟨m, hm⟩ : ∃ m, (Mk.bef 60 (Mk.bef q r2)).length = m := ⟨_, rfl⟩
              have m0 : (0 : Int) ≤ (m : Int) := by omega
              have HI5 : Hid (∀ W, Calls Tryd.prog 36 #[.string (X2.extract 1 u), .int .u8 60] W fun e w' => e = .returned (.int .i64 (m : Int)) ∧ w' = W) := fun W => by
                have h := HI4.out W
                rw [Mk.ib, if_neg hb60, hm] at h
                exact h
              clear HI4 HRe hb60 hm HM1 HM2
              rcases h4 with rfl | rfl
              · have HI3 : Hid (∀ W, Calls Tryd.prog 36 #[.string (X2.extract 1 X2.size), .int .u8 34] W fun e w' => e = .returned (.int .i64 (a : Int)) ∧ w' = W) := fun W => HI2.out W
                clear HI2
                have HB := HB0
                have HZ := HZ0
                clear HB0 HZ0
                go_enter Tryd.func66, Tryd.ntmps66
                go_wp2_with fail
                refine (HCN2.out _).mono ?_
                rintro e w1 ⟨rfl, hd⟩
                replace HB := Lib.hid (HB.out.trans (hd.below _))
                replace HZ := Lib.hid (HZ.out.drew hd)
                clear hd
                go_wp2_with fail
                refine (HSk.out _).mono ?_
                rintro e w2 ⟨rfl, hb⟩
                replace HB := Lib.hid (HB.out.trans (hb.mono HB.out.size))
                replace HZ := Lib.hid (HZ.out.call hb)
                clear hb
                go_wp2_with fail
                refine (HP1.out _).mono ?_
                rintro e w9 ⟨rfl, rfl⟩
                go_wp2_with fail
                refine (HS2.out _).mono ?_
                rintro e w3 ⟨rfl, hb⟩
                replace HB := Lib.hid (HB.out.trans (hb.mono HB.out.size))
                replace HZ := Lib.hid (HZ.out.call hb)
                clear hb
                have hz := HZ.out.lt
                obtain ⟨d0, d1, e0, e1⟩ := HZ.out.two
                go_wp2
                go_quiet ((go_at_call 36; exact Calls.quiet_of_same (HI3.out _)))
                go_wp2_with (refine (HI5.out _).mono ?_; rintro e w' ⟨rfl, rfl⟩)
                refine bodyPost_ret (v := .tuple #[.agg #[.string ⟨#[]⟩, .string ⟨#[]⟩], .string ⟨#[]⟩, .bool false]) (by simp [results, Tryd.results66, go_sem, *]) rfl ⟨by rw [HE.out]; rfl, ?_⟩
                first | exact ((HB.out.setCell (p := ⟨w.heap.size, _, none⟩) (Nat.le_refl _) _).setCell (p := ⟨w.heap.size, _, none⟩) (Nat.le_refl _) _) | exact (((below_drew HB.out ⟨_, rfl⟩).setCell (p := ⟨w.heap.size, _, none⟩) (Nat.le_refl _) _).setCell (p := ⟨w.heap.size, _, none⟩) (Nat.le_refl _) _)
              · have HI3 : Hid (∀ W, Calls Tryd.prog 36 #[.string (X2.extract 1 X2.size), .int .u8 39] W fun e w' => e = .returned (.int .i64 (a : Int)) ∧ w' = W) := fun W => HI2.out W
                clear HI2
                have HB := HB0
                have HZ := HZ0
                clear HB0 HZ0
                go_enter Tryd.func66, Tryd.ntmps66
                go_wp2_with fail
                refine (HCN2.out _).mono ?_
                rintro e w1 ⟨rfl, hd⟩
                replace HB := Lib.hid (HB.out.trans (hd.below _))
                replace HZ := Lib.hid (HZ.out.drew hd)
                clear hd
                go_wp2_with fail
                refine (HSk.out _).mono ?_
                rintro e w2 ⟨rfl, hb⟩
                replace HB := Lib.hid (HB.out.trans (hb.mono HB.out.size))
                replace HZ := Lib.hid (HZ.out.call hb)
                clear hb
                go_wp2_with fail
                refine (HP1.out _).mono ?_
                rintro e w9 ⟨rfl, rfl⟩
                go_wp2_with fail
                refine (HS2.out _).mono ?_
                rintro e w3 ⟨rfl, hb⟩
                replace HB := Lib.hid (HB.out.trans (hb.mono HB.out.size))
                replace HZ := Lib.hid (HZ.out.call hb)
                clear hb
                have hz := HZ.out.lt
                obtain ⟨d0, d1, e0, e1⟩ := HZ.out.two
                go_wp2
                go_quiet ((go_at_call 36; exact Calls.quiet_of_same (HI3.out _)))
                go_wp2_with (refine (HI5.out _).mono ?_; rintro e w' ⟨rfl, rfl⟩)
                refine bodyPost_ret (v := .tuple #[.agg #[.string ⟨#[]⟩, .string ⟨#[]⟩], .string ⟨#[]⟩, .bool false]) (by simp [results, Tryd.results66, go_sem, *]) rfl ⟨by rw [HE.out]; rfl, ?_⟩
                first | exact ((HB.out.setCell (p := ⟨w.heap.size, _, none⟩) (Nat.le_refl _) _).setCell (p := ⟨w.heap.size, _, none⟩) (Nat.le_refl _) _) | exact (((below_drew HB.out ⟨_, rfl⟩).setCell (p := ⟨w.heap.size, _, none⟩) (Nat.le_refl _) _).setCell (p := ⟨w.heap.size, _, none⟩) (Nat.le_refl _) _)
        · have g34 : q.toNat ≠ 34 := fun e => h4 (.inl (UInt8.toNat_inj.1 e))
          have g39 : q.toNat ≠ 39 := fun e => h4 (.inr (UInt8.toNat_inj.1 e))
          have e34 : ((q.toNat : Int) == 34) = false := by rw [beq_eq_false_iff_ne]; omega
          have f34 : ¬ (q.toNat : Int) = 34 := by omega
          have e39 : ((q.toNat : Int) == 39) = false := by rw [beq_eq_false_iff_ne]; omega
          have f39 : ¬ (q.toNat : Int) = 39 := by omega
          have m34 : ((q.toNat : Int) != 34) = true := by rw [bne, e34]; rfl
          have m39 : ((q.toNat : Int) != 39) = true := by rw [bne, e39]; rfl
          have HE : Hid (R = none) := by show _ = _; rw [← HR.out]; exact Mk.ra_quote HNe.out HSr.out (fun q' r2' e => by rw [HT2.out] at e; cases e; exact h4)
          clear h2s h2l h4 g34 g39
          have HB := HB0
          have HZ := HZ0
          clear HB0 HZ0
          go_enter Tryd.func66, Tryd.ntmps66
          go_wp2_with fail
          refine (HCN2.out _).mono ?_
          rintro e w1 ⟨rfl, hd⟩
          replace HB := Lib.hid (HB.out.trans (hd.below _))
          replace HZ := Lib.hid (HZ.out.drew hd)
          clear hd
          go_wp2_with fail
          refine (HSk.out _).mono ?_
          rintro e w2 ⟨rfl, hb⟩
          replace HB := Lib.hid (HB.out.trans (hb.mono HB.out.size))
          replace HZ := Lib.hid (HZ.out.call hb)
          clear hb
          go_wp2_with fail
          refine (HP1.out _).mono ?_
          rintro e w9 ⟨rfl, rfl⟩
          go_wp2_with fail
          refine (HS2.out _).mono ?_
          rintro e w3 ⟨rfl, hb⟩
          replace HB := Lib.hid (HB.out.trans (hb.mono HB.out.size))
          replace HZ := Lib.hid (HZ.out.call hb)
          clear hb
          have hz := HZ.out.lt
          obtain ⟨d0, d1, e0, e1⟩ := HZ.out.two
          go_wp2
          refine bodyPost_ret (v := .tuple #[.agg #[.string ⟨#[]⟩, .string ⟨#[]⟩], .string ⟨#[]⟩, .bool false]) (by simp [results, Tryd.results66, go_sem, *]) rfl ⟨by rw [HE.out]; rfl, ?_⟩
          exact ((HB.out.setCell (p := ⟨w.heap.size, _, none⟩) (Nat.le_refl _) _).setCell (p := ⟨w.heap.size, _, none⟩) (Nat.le_refl _) _)
end Go.Proofs.YthmhadgbhakdlaaDoor
