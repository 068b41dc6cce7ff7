/- tell.Text: all lines of right years, or why there are none. -/
import Derived.Test.YtlmheieabkdhjaaDoorTellRow
namespace Go.Proofs.YtlmheieabkdhjaaDoor
open Go.RowKit

def TRel (w : World) (l : List Te.M) (i : Value) (wr : World) : Prop :=
  ∃ k : Nat, k ≤ l.length ∧ i = .int .i64 k ∧ Hid (Te.okAll (l.take k) = true) ∧ Hid (Te.IsB wr w.heap.size (Te.text (l.take k))) ∧ Hid (Below w.heap.size w wr)
set_option maxHeartbeats 4000000 in
set_option maxRecDepth 100000 in
theorem tellText_any (A : Option Addr) (n c : Nat) (l : List Te.M) (w : World) (hW : Wt w) (hn : l.length = n) (hn6 : n ≤ 1000000) (hk : ∀ m ∈ l, m.k.size ≤ maxLen) (hr : Reads w w.heap.size 3 A n (Te.rows l)) :
    Calls Tryd.prog 6 #[.slice A n c] w fun e w' => e = .returned (if Te.okAll l then .tuple #[.string (Te.bts (Te.text l)), .int .i64 0] else .tuple #[.string ⟨#[]⟩, .int .i64 2]) ∧ Below w.heap.size w w' := by
  obtain ⟨v, hv⟩ : ∃ v : Value, (if Te.okAll l then Value.tuple #[.string (Te.bts (Te.text l)), .int .i64 0] else .tuple #[.string ⟨#[]⟩, .int .i64 2]) = v := ⟨_, rfl⟩
  rw [hv]
  have HV := Lib.hid hv
  have HN := Lib.hid hn
  have HW := Lib.hid hW
  have HK := Lib.hid hk
  have HR := Lib.hid hr
  clear hv hn hW hk hr
  go_enter Tryd.func6, Tryd.ntmps6
  go_wp2
  go_loopw [11] (fun i wr => TRel w l i wr) (fun i _ => n - (intOf i).toNat)
  case atStart => exact ⟨0, Nat.zero_le _, rfl, rfl, Lib.IsBuilderF.of (Lib.fresh_isBuilder _ _ w), (Below.refl _ _).alloc (Nat.le_refl _) _⟩
  case round =>
    obtain ⟨k, hkl, rfl, HO, HI, HB⟩ := hrel
    by_cases hlt : k < n
    · have q3 : (0 : Int) ≤ (k : Int) := by omega
      have q4 : (k : Int) < (n : Int) := by omega
      obtain ⟨m, hm⟩ : ∃ m, l[k]? = some m := ⟨_, List.getElem?_eq_getElem (by rw [HN.out]; exact hlt)⟩
      obtain ⟨ad, rfl, hab, c0, c1, c2⟩ := Te.row_cells (HR.out.below HB.out) hm hlt
      have HLn := Lib.hid (fun W hw => tellLine_any m (HK.out m (List.mem_of_getElem? hm)) W hw)
      have HM := Lib.hid hm
      have htk : l.take (k + 1) = l.take k ++ [m] := by rw [List.take_add_one, hm]; rfl
      have HTk := Lib.hid htk
      have htl := Te.text_len _ HO.out
      rw [List.length_take] at htl
      have htl2 : (Te.text (l.take k)).length ≤ 77000000 := by omega
      have HL2 := Lib.hid htl2
      clear hm htk htl htl2
      obtain ⟨kk, y, r⟩ := m
      unfold Te.mv at HLn
      simp only at HLn c0 c1 c2
      cases hok : Te.okM ⟨kk, y, r⟩ with
      | false =>
        have HE : Hid (v = .tuple #[.string ⟨#[]⟩, .int .i64 2]) := by
          show v = _
          rw [← HV.out, Te.okAll_take HM.out hok, if_neg (by decide)]
        rw [hok] at HLn
        clear hok
        go_wp2_with fail
        refine (HLn.out _ (HW.out.below (HB.out.alloc HB.out.size _))).mono ?_
        rintro e w1 ⟨rfl, hb⟩
        have HB1 := Lib.hid ((HB.out.alloc HB.out.size (.cells #[.string kk, .int .i64 y, .int .u8 r] 37)).trans (hb.mono (by rw [World.size_alloc]; have := HB.out.size; omega)))
        clear hb
        go_wp2
        go_ret2
        exact ⟨by rw [HE.out]; rfl, HB1.out⟩
      | true =>
        have hll := Te.line_len hok
        have HO2 : Hid (Te.okAll (l.take (k + 1)) = true) := by
          show _ = true
          rw [HTk.out, Te.okAll_snoc, HO.out, hok]; rfl
        rw [hok] at HLn
        have HLL := Lib.hid hll
        clear hok hll
        go_wp2_with fail
        refine (HLn.out _ (HW.out.below (HB.out.alloc HB.out.size _))).mono ?_
        rintro e w1 ⟨rfl, hb⟩
        have HB1 := Lib.hid ((HB.out.alloc HB.out.size (.cells #[.string kk, .int .i64 y, .int .u8 r] 37)).trans (hb.mono (by rw [World.size_alloc]; have := HB.out.size; omega)))
        have HI1 : Hid (Te.IsB w1 w.heap.size (Te.text (l.take k))) := Te.IsB.call (Lib.IsBuilderF.alloc HI.out _) hb
        clear hb HI HB
        go_wp2_with fail
        refine (Tryd.prWriteString w.heap.size w.heap.size _ (Te.bts (Te.line ⟨kk, y, r⟩)) w1 HI1.out (by rw [Lib.byteCells_length, Te.bts_size]; have := HLL.out; have := HL2.out; omega) (Nat.le_of_lt HI1.out.lt)).mono ?_
        rintro e w2 ⟨rfl, hbu, hbe, _⟩
        have HBu := Lib.hid hbu
        have HB2 := Lib.hid (HB1.out.trans hbe)
        clear hbu hbe HI1 HB1
        go_wp2_with fail
        refine (Tryd.prWriteByte w.heap.size w.heap.size _ 10 w2 (.inr HBu.out) (by rw [List.length_append, Lib.byteCells_length, Lib.strCells_length, Te.bts_size]; have := HLL.out; have := HL2.out; omega) (Nat.le_of_lt HBu.out.lt)).mono ?_
        rintro e w3 ⟨rfl, hbu, hbe, _⟩
        have HI3 : Hid (Te.IsB w3 w.heap.size (Te.text (l.take (k + 1)))) := by
          rw [Te.bytes_line] at hbu
          show Te.IsB _ _ _
          rw [HTk.out, Te.text_snoc]
          exact .inr hbu
        have HB3 := Lib.hid (HB2.out.trans hbe)
        clear hbu hbe HBu HB2
        go_wp2
        go_roundw
        case rel => exact ⟨k + 1, by rw [HN.out]; omega, by go_num, HO2, HI3, HB3⟩
        case measure => simp [intOf]; omega
    · have q4 : ¬ (k : Int) < (n : Int) := by omega
      have HE : Hid (v = .tuple #[.string (Te.bts (Te.text l)), .int .i64 0]) := by
        show v = _
        have := HO.out
        rw [List.take_of_length_le (by rw [HN.out]; omega)] at this
        rw [← HV.out, this, if_pos rfl]
      have hI := HI.out
      rw [List.take_of_length_le (by rw [HN.out]; omega)] at hI
      have HIe := Lib.hid hI
      have HStr := Lib.hid fun W h => Tryd.Builder_String_any_k w.heap.size w.heap.size (Te.text l) W h
      clear hI
      go_wp2_with fail
      refine (HStr.out _ HIe.out (Nat.le_of_lt HIe.out.lt)).mono ?_
      rintro e w1 ⟨rfl, _, hb, _⟩
      have HB1 := Lib.hid (HB.out.trans hb)
      clear hb
      go_wp2
      go_ret2
      exact ⟨by rw [HE.out]; rfl, HB1.out⟩
end Go.Proofs.YtlmheieabkdhjaaDoor
