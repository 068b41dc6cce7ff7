/- markup.Resolve: a text with what stands for each reference in its place. -/
import Derived.Test.YtjbgmbhifnihaaaDoorMkBuild
namespace Go.Proofs.YtjbgmbhifnihaaaDoor
open Go.RowKit

namespace Mk
theorem wr64 (n : Nat) (h : n ≤ 1000000000) : wrap64 (n : Int) = (n : Int) := by unfold wrap64; omega
theorem wri64 (n : Nat) (h : n ≤ 1000000000) : IntKind.i64.wrap (n : Int) = (n : Int) := by rw [IntKind.wrap_i64]; omega
def RAt (w : World) (s : ByteArray) (R : Txt × Nat × Nat) (i : Value) (wr : World) : Prop :=
  ∃ (p f : Nat) (acc : Txt), p ≤ s.size ∧ s.size ≤ p + f ∧ i = .int .i64 (p : Int) ∧ Hid (res (f + 1) ((tl s).drop p) p acc = R) ∧ Hid (acc.length ≤ 4 * p) ∧ Hid (IsB wr w.heap.size acc) ∧ Hid (Below w.heap.size w wr)
end Mk
set_option maxHeartbeats 4000000 in
set_option maxRecDepth 100000 in
theorem resolve_any (s : ByteArray) (hs : s.size ≤ 100000000) (w : World) :
    Calls Tryd.prog 10 #[.string s] w fun e w' => e = .returned (.tuple #[.string (Mk.bts (Mk.resolve (tl s)).1), .int .i64 ((Mk.resolve (tl s)).2.1 : Int), .int .i64 ((Mk.resolve (tl s)).2.2 : Int)]) ∧ Below w.heap.size w w' := by
  have hmax : IntKind.i64.wrap (s.size : Int) = s.size := by rw [IntKind.wrap_i64]; omega
  have HL := Lib.hid (tl_length s)
  obtain ⟨R, hR⟩ : ∃ R, Mk.resolve (tl s) = R := ⟨_, rfl⟩
  have HR0 : Hid (Mk.res (s.size + 1) ((tl s).drop 0) 0 [] = R) := by rw [← hR, ← tl_length s]; rfl
  rw [hR]
  clear hR
  go_enter Tryd.func10, Tryd.ntmps10
  go_wp2_with fail
  go_loopw [6] (fun i wr => Mk.RAt w s R i wr) (fun i _ => s.size + 1 - (intOf i).toNat)
  case atStart => exact ⟨0, s.size, [], Nat.zero_le _, by omega, rfl, HR0.out, by show 0 ≤ _; omega, Mk.fresh w, Mk.below_new w _⟩
  case round =>
    obtain ⟨p, f, acc, hp, hf, rfl, HR, HLe, HI, HB⟩ := hrel
    have p0 : (0 : Int) ≤ (p : Int) := by omega
    have p1 : (p : Int) ≤ (s.size : Int) := by omega
    obtain ⟨L, hL⟩ : ∃ L, (tl s).drop p = L := ⟨_, rfl⟩
    have HLL : Hid (tl (s.extract p s.size) = L) := by show _ = _; rw [Mk.tl_from, hL]
    have HLn : Hid (L.length = s.size - p) := by show _ = _; rw [← hL, List.length_drop, tl_length]
    have HLd : Hid (∀ k, (tl s).drop (p + k) = L.drop k) := fun k => by rw [← hL, List.drop_drop]
    rw [hL] at HR
    clear hL
    have HI1 : Hid (∀ W, Calls Tryd.prog 23 #[.string (s.extract p s.size), .int .u8 38] W fun e w' => e = .returned (.int .i64 (Mk.ib 38 L)) ∧ w' = W) := fun W => by
      have h := Mk.idx_any (s.extract p s.size) 38 W
      rw [HLL.out] at h
      exact h
    have hsi : (s.size : Int) ≤ 100000000 := by omega
    have hacc : acc.length ≤ 400000000 := by have := HLe.out; omega
    by_cases hA : Mk.aft 38 L = []
    · have HE : Hid (R = (acc ++ L, 0, 0)) := by show _ = _; rw [← HR.out]; exact Mk.res_end hA
      have HI2 : Hid (∀ W, Calls Tryd.prog 23 #[.string (s.extract p s.size), .int .u8 38] W fun e w' => e = .returned (.int .i64 (-1)) ∧ w' = W) := fun W => by
        have h := HI1.out W
        rw [Mk.ib, if_pos hA] at h
        exact h
      clear HI1 hA HR
      go_wp2_with (refine (HI2.out _).mono ?_; rintro e w' ⟨rfl, rfl⟩)
      refine (Mk.putS (s.extract p s.size) HI.out (by omega) (by simp only [ByteArray.size_extract]; omega)).mono ?_
      rintro e w2 ⟨rfl, hI, hb⟩
      rw [HLL.out] at hI
      have HI3 := Lib.hid hI
      have HB3 := Lib.hid (HB.out.trans hb)
      clear hI hb
      go_wp2_with fail
      refine (Mk.takeS HI3.out).mono ?_
      rintro e w3 ⟨rfl, hb⟩
      have HB4 := Lib.hid (HB3.out.trans hb)
      clear hb
      go_wp2_with fail
      go_ret3
      exact ⟨by rw [HE.out]; rfl, HB4.out⟩
    · obtain ⟨a, ha⟩ : ∃ a, (Mk.bef 38 L).length = a := ⟨_, rfl⟩
      obtain ⟨L2, hL2⟩ : ∃ x, Mk.aft 38 L = x := ⟨_, rfl⟩
      have hsum := Mk.bef_len 38 L
      rw [ha, hL2] at hsum
      have hL2n : L2.length ≠ 0 := fun e => hA (by rw [hL2]; exact List.eq_nil_of_length_eq_zero e)
      obtain ⟨q, hq⟩ : ∃ q : Nat, p + a = q := ⟨_, rfl⟩
      have hqs : q < s.size := by have := HLn.out; omega
      have HL2d : Hid ((tl s).drop q = L2) := by show _ = _; rw [← hq, HLd.out a, ← hL2, Mk.aft_drop 38 L, ha]
      have HP : Hid (tl (s.extract p q) = Mk.bef 38 L) := by
        show _ = _
        rw [Mk.tl_mid, ← Mk.tl_from, HLL.out, Mk.bef_take 38 L, ha, ← hq, Nat.add_sub_cancel_left]
      have hqi : (p : Int) + (a : Int) = (q : Int) := by omega
      have q0 : (0 : Int) ≤ (q : Int) := by omega
      have q1 : (q : Int) ≤ (s.size : Int) := by omega
      have q2 : (p : Int) ≤ (q : Int) := by omega
      have HI2 : Hid (∀ W, Calls Tryd.prog 23 #[.string (s.extract p s.size), .int .u8 38] W fun e w' => e = .returned (.int .i64 (a : Int)) ∧ w' = W) := fun W => by
        have h := HI1.out W
        rw [Mk.ib, if_neg hA, ha] at h
        exact h
      have n1 : ¬ (a : Int) < 0 := by omega
      obtain ⟨B, hB⟩ : ∃ x, Mk.bef 38 L = x := ⟨_, rfl⟩
      rw [hB] at HP
      have HLL2 : Hid (tl (s.extract q s.size) = L2) := by show _ = _; rw [Mk.tl_from, HL2d.out]
      have HI5 : Hid (∀ W, Calls Tryd.prog 23 #[.string (s.extract q s.size), .int .u8 59] W fun e w' => e = .returned (.int .i64 (Mk.ib 59 L2)) ∧ w' = W) := fun W => by
        have h := Mk.idx_any (s.extract q s.size) 59 W
        rw [HLL2.out] at h
        exact h
      have HBl : Hid (B.length = a) := by show _ = _; rw [← hB]; exact ha
      have HNil : Hid (Mk.aft 38 L ≠ []) := hA
      have HaL2 := Lib.hid hL2
      have HbB := Lib.hid hB
      have Ha := Lib.hid ha
      have Hsum := Lib.hid hsum
      have Hq := Lib.hid hq
      clear hA ha hL2 hB HI1 hsum hq hL2n
      by_cases hC : Mk.aft 59 L2 = []
      · have HE : Hid (R = ([], q, 4)) := by
          show _ = _
          rw [← HR.out, Mk.res_open HNil.out (by rw [HaL2.out]; exact hC), Ha.out, Hq.out]
        have HI6 : Hid (∀ W, Calls Tryd.prog 23 #[.string (s.extract q s.size), .int .u8 59] W fun e w' => e = .returned (.int .i64 (-1)) ∧ w' = W) := fun W => by
          have h := HI5.out W
          rw [Mk.ib, if_pos hC] at h
          exact h
        clear HI5 hC
        go_wp2_with (refine (HI2.out _).mono ?_; rintro e w' ⟨rfl, rfl⟩)
        refine (Mk.putS (s.extract p q) HI.out (by omega) (by simp only [ByteArray.size_extract]; omega)).mono ?_
        rintro e w2 ⟨rfl, hI, hb⟩
        have HB3 := Lib.hid (HB.out.trans hb)
        clear hI hb
        go_wp2_with (refine (HI6.out _).mono ?_; rintro e w' ⟨rfl, rfl⟩)
        go_ret3
        exact ⟨by rw [HE.out]; rfl, HB3.out⟩
      · obtain ⟨m, hm⟩ : ∃ m, (Mk.bef 59 L2).length = m := ⟨_, rfl⟩
        have hsum2 := Mk.bef_len 59 L2
        rw [hm] at hsum2
        have hAn := List.length_pos_iff.2 hC
        have hm1 : 1 ≤ m := by
          rw [← hm]
          have h38 := Mk.aft_head HNil.out
          rw [HaL2.out] at h38
          cases hc : L2 with
          | nil => rw [hc] at h38; cases h38
          | cons x r =>
            rw [hc] at h38
            cases h38
            rw [Mk.bef_cons (by decide), List.length_cons]
            omega
        obtain ⟨r, hr⟩ : ∃ r : Nat, q + m = r := ⟨_, rfl⟩
        have hrs : r < s.size := by have := Hsum.out; have := HLn.out; have := Hq.out; omega
        have hri : (q : Int) + (m : Int) = (r : Int) := by omega
        obtain ⟨u, hu⟩ : ∃ u : Nat, q + 1 = u := ⟨_, rfl⟩
        have hui : (q : Int) + 1 = (u : Int) := by omega
        obtain ⟨v, hv⟩ : ∃ v : Nat, m + 1 = v := ⟨_, rfl⟩
        have hvi : (m : Int) + 1 = (v : Int) := by omega
        obtain ⟨t, ht⟩ : ∃ t : Nat, q + v = t := ⟨_, rfl⟩
        have hti : (q : Int) + (v : Int) = (t : Int) := by omega
        have hts : t ≤ s.size := by omega
        have u0 : (0 : Int) ≤ (u : Int) := by omega
        have r1 : (r : Int) ≤ (s.size : Int) := by omega
        have r2 : (u : Int) ≤ (r : Int) := by omega
        obtain ⟨x, hx⟩ : ∃ x, (Mk.bef 59 L2).drop 1 = x := ⟨_, rfl⟩
        have HX : Hid (tl (s.extract u r) = x) := by
          show _ = _
          rw [Mk.tl_mid, ← hu, ← List.drop_drop, HL2d.out, ← hx, Mk.bef_take 59 L2, hm, show r - (q + 1) = m - 1 by omega, List.drop_take]
        have HRf := Lib.hid (fun W => reference_any (s.extract u r) (by simp only [ByteArray.size_extract, maxLen]; omega) W)
        rw [HX.out] at HRf
        have n2 : ¬ (m : Int) < 0 := by omega
        have HI6 : Hid (∀ W, Calls Tryd.prog 23 #[.string (s.extract q s.size), .int .u8 59] W fun e w' => e = .returned (.int .i64 (m : Int)) ∧ w' = W) := fun W => by
          have h := HI5.out W
          rw [Mk.ib, if_neg hC, hm] at h
          exact h
        have HE1 : Hid ((Mk.ref x).1 ≠ 0 → R = ([], q, (Mk.ref x).1)) := fun h => by
          have h2 := Mk.res_bad (f := f) (a := p) (acc := acc) HNil.out (by rw [HaL2.out]; exact hC) (by rw [HaL2.out, hx]; exact h)
          rw [HaL2.out, hx, Ha.out, Hq.out, HR.out] at h2
          exact h2
        have HTd : Hid ((tl s).drop t = (Mk.aft 59 L2).drop 1) := by
          show _ = _
          rw [Mk.aft_drop 59 L2, hm, List.drop_drop, ← HL2d.out, List.drop_drop]
          congr 1
          omega
        have HE2 : Hid ((Mk.ref x).1 = 0 → Mk.res f ((tl s).drop t) t (acc ++ B ++ (Mk.ref x).2) = R) := fun h => by
          have h2 := Mk.res_more (f := f) (a := p) (acc := acc) HNil.out (by rw [HaL2.out]; exact hC) (by rw [HaL2.out, hx]; exact h)
          rw [HaL2.out, hx, Ha.out, Hq.out, HR.out, HbB.out, hm] at h2
          rw [HTd.out, show t = q + m + 1 by omega]
          exact h2.symm
        have HRl := Lib.hid (Mk.ref_len x)
        obtain ⟨c, hc⟩ : ∃ c, Mk.ref x = c := ⟨_, rfl⟩
        rw [hc] at HRf HE1 HE2 HRl
        have hlen : acc.length + a + 4 ≤ 4 * t := by have := HLe.out; have := Hq.out; omega
        have htp : p < t := by have := Hq.out; omega
        have htf : s.size + 1 ≤ t + f := by have := Hq.out; omega
        have hf1 : 1 ≤ f := by omega
        clear hc hC hx HX HTd hsum2 hAn hm HI5
        go_wp2_with (refine (HI2.out _).mono ?_; rintro e w' ⟨rfl, rfl⟩)
        refine (Mk.putS (s.extract p q) HI.out (by omega) (by simp only [ByteArray.size_extract]; omega)).mono ?_
        rintro e w2 ⟨rfl, hI, hb⟩
        rw [HP.out] at hI
        have HI3 := Lib.hid hI
        have HB3 := Lib.hid (HB.out.trans hb)
        clear hI hb
        go_wp2_with (refine (HI6.out _).mono ?_; rintro e w' ⟨rfl, rfl⟩)
        refine (HRf.out _).mono ?_
        rintro e w3 ⟨rfl, hb⟩
        have HI4 := Lib.hid (HI3.out.call hb)
        have HB4 := Lib.hid (HB3.out.trans (hb.mono (Nat.le_of_lt HI3.out.lt)))
        clear hb
        by_cases h0 : c.1 = 0
        · have c0 : ((c.1 : Int) != 0) = false := by rw [h0]; rfl
          have c1 : (c.1 : Int) = 0 := by omega
          go_wp2_with fail
          refine (Mk.putS (Mk.bts c.2) HI4.out (by rw [List.length_append, HBl.out]; omega) (by rw [Mk.bts_size]; have := HRl.out; omega)).mono ?_
          rintro e w4 ⟨rfl, hI, hb⟩
          have HI5 := Lib.hid hI
          have HB5 := Lib.hid (HB4.out.trans hb)
          clear hI hb
          go_wp2
          go_roundw
          case rel =>
            obtain ⟨f, rfl⟩ : ∃ g, f = g + 1 := ⟨f - 1, by omega⟩
            exact ⟨t, f, acc ++ B ++ c.2, hts, by omega, by go_num, HE2.out h0, by show _ ≤ _; rw [List.length_append, List.length_append, HBl.out]; have := HRl.out; omega, HI5.out, HB5.out⟩
          case measure => simp [intOf]; omega
        · have c0 : ((c.1 : Int) != 0) = true := by rw [bne_iff_ne]; omega
          have c1 : ¬ (c.1 : Int) = 0 := by omega
          go_wp2_with fail
          go_ret3
          exact ⟨by rw [HE1.out h0]; rfl, HB4.out⟩
end Go.Proofs.YtjbgmbhifnihaaaDoor
