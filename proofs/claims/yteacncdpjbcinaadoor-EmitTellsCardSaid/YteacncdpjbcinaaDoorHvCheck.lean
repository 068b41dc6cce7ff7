/- hive.Check of any hive. -/
import Derived.Test.YteacncdpjbcinaaDoorHvKey
namespace Go.Proofs.YteacncdpjbcinaaDoor
open Go.RowKit

set_option maxHeartbeats 4000000 in
set_option maxRecDepth 100000 in
theorem hvCheck_any (l : List Hv.K) (hl : ∀ k ∈ l, k.Ok) (A : Option Addr) (n c : Nat) (evs : List Value) (w : World) (hn : l.length = n) (hnm : n ≤ maxLen) (hr : Hv.HR w w.heap.size l (.slice A n c) evs) (hW : Wl w) :
    Calls Tryd.prog 13 #[.agg #[.slice A n c]] w fun e w' => e = .returned (.int .i64 (if Hv.hiveB l = true then 0 else 2)) ∧ Below w.heap.size w w' := by
  have hmk := Hv.make_set (n : Int)
  obtain ⟨X, hX⟩ : ∃ X : Int, (if Hv.hiveB l = true then (0 : Int) else 2) = X := ⟨_, rfl⟩
  rw [hX]
  unfold Hv.hiveB at hX
  rw [hn] at hX
  have HR := Lib.hid hr
  have HN := Lib.hid hn
  have HO := Lib.hid hl
  have HX := Lib.hid hX
  have HW := Lib.hid hW
  unfold maxLen at hnm
  obtain ⟨W0, hW0⟩ : ∃ W, w.alloc (.cells #[.slice A n c] 24) = W := ⟨_, rfl⟩
  have HB0 : Hid (Below w.heap.size w W0) := by show Below _ _ _; rw [← hW0]; exact Hv.bl1 _ _
  have HA0 : Hid (At W0 w.heap.size [.slice A n c]) := by show At _ _ _; rw [← hW0]; exact At.new _ _ _
  have a0 := HA0.out.cell 0 _ rfl
  have hlt0 := HA0.out.lt
  have HW0 := Lib.hid hW0
  clear hW0 hX hr hn hl hW
  go_enter Tryd.func13, Tryd.ntmps13
  by_cases hn5 : n ≤ 4096
  case neg =>
    have p5 : (4096 : Int) < (n : Int) := by omega
    have HE : Hid (X = 2) := by show X = 2; rw [← HX.out, decide_eq_false hn5]; rfl
    go_wp2_with fail
    rw [HW0.out]
    go_wp2
    go_ret
    exact ⟨by rw [HE.out]; rfl, HB0.out⟩
  have p5 : ¬ (4096 : Int) < (n : Int) := by omega
  have hx := HX.out
  rw [decide_eq_true hn5, Bool.true_and] at hx
  have HX := Lib.hid hx
  obtain ⟨bm, hbm⟩ : ∃ b, W0.heap.size = b := ⟨_, rfl⟩
  obtain ⟨W2, hW2⟩ : ∃ W, W0.alloc (.map #[] 0) = W := ⟨_, rfl⟩
  have HB2 : Hid (Below w.heap.size w W2) := by show Below _ _ _; rw [← hW2]; exact Hv.bl HB0.out _
  have HM2 : Hid (MapF Tryd.prog 9 W2 bm 0 (Hv.sf [])) := by show MapF _ _ _ _ _ _; rw [← hW2, ← hbm]; exact MapF.made W0
  have HBm : Hid (w.heap.size ≤ bm) := by show _ ≤ _; rw [← hbm]; exact HB0.out.size
  have HW2 : Hid ((w.alloc (.cells #[.slice A n c] 24)).alloc (.map #[] 0) = W2) := by show _ = _; rw [HW0.out]; exact hW2
  have HBq : Hid (w.heap.size + 1 = bm) := by show _ = _; rw [← hbm, ← HW0.out]; simp
  clear hW2 hbm hx
  go_wp2_with fail
  rw [HW2.out, HBq.out]
  clear hmk a0 hlt0
  go_loopw [19] (fun i wr => ∃ k : Nat, k ≤ n ∧ i = .int .i64 (k : Int) ∧ Hid (Below w.heap.size w wr) ∧ Hid (MapF Tryd.prog 9 wr bm k (Hv.sf (Hv.paths (l.take k)))) ∧ Hid ((if Hv.keysB (Hv.paths (l.take k)) (l.drop k) = true then (0 : Int) else 2) = X)) (fun i _ => n - (intOf i).toNat)
  case atStart => exact ⟨0, Nat.zero_le _, rfl, HB2.out, HM2.out, HX.out⟩
  case round =>
    obtain ⟨k, hk, rfl, HB, HM, HV⟩ := hrel
    by_cases hlt : k < n
    · have q1 : (0 : Int) ≤ (k : Int) := by omega
      have q2 : (k : Int) < (n : Int) := by omega
      obtain ⟨ad, x, vA, m, vc, rfl, hab, Hx, c0, c1, HVl, hv1, hv2, HRv⟩ := (HR.out.below HB.out).at_ HN.out hlt
      have hxo := HO.out x (List.mem_of_getElem? Hx.out)
      have h1 := hxo.path
      have hv := HV.out
      rw [Hv.drop_next Hx.out] at hv
      unfold Hv.keysB at hv
      obtain ⟨pt, vs⟩ := x
      simp only at c0 c1 h1 hv HVl HRv
      have hm : m ≤ maxLen := by omega
      have HCk : Hid (∀ W, Below wr.heap.size wr W → Calls Tryd.prog 23 #[.agg #[.string pt, .slice vA m vc]] W fun e w' => e = .returned (.bool (Hv.keyB ⟨pt, vs⟩)) ∧ Below W.heap.size W w') := fun W hb => hvKey_any pt h1 vs hxo.vals vA m vc W HVl.out hm (((HRv.out.more HB.out.size).below hb).more hb.size) (HW.out.below (below_then HB.out hb))
      obtain ⟨vb, hvb⟩ : ∃ b, Hv.keyB ⟨pt, vs⟩ = b := ⟨_, rfl⟩
      rw [hvb] at hv HCk
      have HT := Lib.hid (Hv.paths_next Hx.out)
      obtain ⟨W3, hW3⟩ : ∃ W, wr.alloc (.cells #[.string pt, .slice vA m vc] 40) = W := ⟨_, rfl⟩
      have HB3r : Hid (Below wr.heap.size wr W3) := by show Below _ _ _; rw [← hW3]; exact Hv.bl1 _ _
      have HB3 : Hid (Below w.heap.size w W3) := by show Below _ _ _; rw [← hW3]; exact Hv.bl HB.out _
      have HM3 : Hid (MapF Tryd.prog 9 W3 bm k (Hv.sf (Hv.paths (l.take k)))) := by show MapF _ _ _ _ _ _; rw [← hW3]; exact HM.out.alloc _
      have HA3 : Hid (At W3 wr.heap.size [.string pt, .slice vA m vc]) := by show At _ _ _; rw [← hW3]; exact At.new _ _ _
      have HW3 := Lib.hid hW3
      have hkm : k < maxLen := by unfold maxLen; omega
      clear hW3 hvb hxo hv1 hv2
      go_wp2_with fail
      rw [HW3.out]
      go_wp2_with fail
      refine (HCk.out _ HB3r.out).mono ?_
      rintro e w4 ⟨rfl, hb4⟩
      have HB4 := Lib.hid (below_then HB3.out hb4)
      have HM4 := Lib.hid (HM3.out.below hb4)
      have HA4 := Lib.hid (HA3.out.call hb4)
      have d0 := HA4.out.cell 0 _ rfl
      have hlt4 := HA4.out.lt
      clear hb4 c0 c1 HCk HW3 HA3 HB3 HM3
      cases vb with
      | false =>
        have HE : Hid (X = 2) := by show X = 2; rw [← hv]; rfl
        go_wp2
        go_ret
        exact ⟨by rw [HE.out]; rfl, HB4.out⟩
      | true =>
        rw [Bool.true_and] at hv
        obtain ⟨N, hN⟩ : ∃ N, Hv.paths (l.take k) = N := ⟨_, rfl⟩
        rw [hN] at hv HM4 HT
        by_cases hin : pt ∈ N
        · have hq := Hv.has_iff.2 hin
          rw [hq] at hv
          have HE : Hid (X = 2) := by show X = 2; rw [← hv]; rfl
          have HB5 := Lib.hid (Hv.bl HB4.out (.cells #[] 57))
          clear hin hN hv
          go_wp2_with (at_lookup; refine Hv.look_set _ rfl _ _ bm k _ pt h1 rfl rfl rfl HM4.out true hq ?_)
          go_ret
          exact ⟨by rw [HE.out]; rfl, HB5.out⟩
        · have hq := Hv.has_not hin
          rw [hq, Bool.not_false, Bool.true_and] at hv
          have HB5 := Lib.hid (Hv.bl HB4.out (.cells #[] 57))
          have HM5 := Lib.hid (HM4.out.alloc (.cells #[] 57))
          have HV2 := Lib.hid hv
          clear hin hN hv
          go_wp2_with (first | (at_lookup; refine Hv.look_set _ rfl _ _ bm k _ pt h1 rfl rfl rfl HM4.out false hq ?_) | (at_mapUpdate; refine Hv.store_set _ rfl _ _ _ bm k _ pt h1 hkm rfl rfl rfl rfl HM5.out ?_; intro w6 hM6 hg6; have HM6 := Lib.hid hM6; have HB6 := Lib.hid (HB5.out.grown hg6 HB5.out.size (fun j e => by cases e; exact HBm.out)); clear hM6 hg6))
          go_roundw
          case rel => exact ⟨k + 1, by omega, by go_num, HB6.out, by show MapF _ _ _ _ _ _; rw [HT.out]; exact HM6.out, by show (if Hv.keysB _ _ = true then (0 : Int) else 2) = X; rw [HT.out]; exact HV2.out⟩
          case measure => simp [intOf]; omega
    · have q2 : ¬ (k : Int) < (n : Int) := by omega
      have HE : Hid (X = 0) := by
        show X = 0
        rw [← HV.out, List.drop_eq_nil_of_le (by rw [HN.out]; omega)]
        rfl
      go_wp2
      go_ret
      exact ⟨by rw [HE.out]; rfl, HB.out⟩
end Go.Proofs.YteacncdpjbcinaaDoor
