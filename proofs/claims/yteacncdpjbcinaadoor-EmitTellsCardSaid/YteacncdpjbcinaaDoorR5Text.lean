/- solsticeref35.Text: a small hive's text. -/
import Derived.Test.YteacncdpjbcinaaDoorR5Val
import Derived.Test.YteacncdpjbcinaaDoorR4Check
import Derived.Test.YteacncdpjbcinaaDoorEmText
namespace Go.Proofs.YteacncdpjbcinaaDoor
open Go.RowKit

namespace R5
theorem keyHead_bts (p : ByteArray) : (⟨#[10, 91]⟩ : ByteArray) ++ p ++ ⟨#[93, 10]⟩ = Em.bts (Em.keyHead ⟨p, []⟩) := by
  show Em.bts [10, 91] ++ Em.bts (tl p) ++ Em.bts [93, 10] = _
  rw [Ee.bts_app, Ee.bts_app]
  rfl
end R5
set_option maxHeartbeats 8000000 in
set_option maxRecDepth 100000 in
theorem text5_any (l : List Hv.K) (hfw : Hv.Few l) (hl : ∀ k ∈ l, k.Ok) (A : Option Addr) (n c : Nat) (evs : List Value) (w : World) (hn : l.length = n) (hr : Hv.HR w w.heap.size l (.slice A n c) evs) :
    Calls Tryd.prog 8 #[.agg #[.slice A n c]] w fun e w' => e = .returned (if Hv.hiveB l = true then .tuple #[.string (Em.bts (Em.text l)), .int .i64 0] else .tuple #[.string ⟨#[]⟩, .int .i64 2]) ∧ Below w.heap.size w w' := by
  have HC : Hid (∀ W, Below w.heap.size w W → Calls Tryd.prog 18 #[.agg #[.slice A n c]] W fun e w' => e = .returned (.int .i64 (if Hv.hiveB l = true then 0 else 2)) ∧ Below W.heap.size W w') := fun W hb => check4_any l hfw A n c evs W hn ((hr.below hb).more hb.size)
  obtain ⟨X, hX⟩ : ∃ X : Value, (if Hv.hiveB l = true then Value.tuple #[.string (Em.bts (Em.text l)), .int .i64 0] else .tuple #[.string ⟨#[]⟩, .int .i64 2]) = X := ⟨_, rfl⟩
  rw [hX]
  obtain ⟨W1, hW1⟩ : ∃ W, w.alloc (.cells #[.slice A n c] 24) = W := ⟨_, rfl⟩
  have hA1 : At W1 w.heap.size [.slice A n c] := by rw [← hW1]; exact At.new _ _ _
  have hB1 : Below w.heap.size w W1 := by rw [← hW1]; exact Hv.bl1 _ _
  have HA1 := Lib.hid hA1
  have HB1 := Lib.hid hB1
  have HW1 := Lib.hid hW1
  have HO := Lib.hid hl
  have HN := Lib.hid hn
  have HR := Lib.hid hr
  have hn30 : n ≤ 30 := by rw [← hn]; exact hfw.n
  have HF := Lib.hid hfw.all
  clear hA1 hB1 hW1 hl hn hr hfw
  cases hv : Hv.hiveB l with
  | false =>
    rw [hv] at hX HC
    have HE := Lib.hid hX
    clear hX hv
    go_enter Tryd.func8, Tryd.ntmps8
    go_wp2_with fail
    rw [HW1.out]
    refine (HC.out _ HB1.out).mono ?_
    rintro e w2 ⟨rfl, hb⟩
    have HB2 := Lib.hid (below_then HB1.out hb)
    clear hb
    go_wp2
    go_ret2
    exact ⟨by rw [← HE.out]; rfl, HB2.out⟩
  | true =>
    obtain ⟨hp1, hp2⟩ := Em.hive_parts hv
    rw [hv] at hX HC
    have HE := Lib.hid hX
    have HP2 := Lib.hid hp2
    have HTl := Lib.hid (fun k => Em.text_len_take l k hp2 hp1)
    clear hX hv hp2 hp1
    go_enter Tryd.func8, Tryd.ntmps8
    go_wp2_with fail
    rw [HW1.out]
    refine (HC.out _ HB1.out).mono ?_
    rintro e w2 ⟨rfl, hb⟩
    have HB2 := Lib.hid (below_then HB1.out hb)
    have hA2 := HA1.out.call hb
    have a0 := hA2.cell 0 _ rfl
    have hal := hA2.lt
    clear hb hA2
    go_wp2_with fail
    go_loopw [4, 17] (fun v i wr => ∃ (k : Nat) (G : ByteArray), k ≤ n ∧ i = .int .i64 (k : Int) ∧ v = .string G ∧ Hid (G = Em.bts (Em.text (l.take k))) ∧ Hid (Below w.heap.size w wr)) (fun _ i _ => n - (intOf i).toNat)
    case atStart => exact ⟨0, _, Nat.zero_le _, rfl, rfl, rfl, HB2.out⟩
    case round =>
      clear a0 hal
      obtain ⟨k, G, hk, rfl, rfl, HG, HB⟩ := hrel
      by_cases hlt : k < n
      · have q1 : (0 : Int) ≤ (k : Int) := by omega
        have q2 : (k : Int) < (n : Int) := by omega
        obtain ⟨ad, x, vA, m, vc, rfl, hab, Hx, c0, c1, HVl, hv1, hv2, HRv⟩ := (HR.out.below HB.out).at_ HN.out hlt
        have hxm := List.mem_of_getElem? Hx.out
        have hkp := Em.key_parts (HP2.out x hxm)
        have hxo := HO.out x hxm
        have hxf := HF.out x hxm
        have HT := Lib.hid (Em.text_take Hx.out)
        obtain ⟨pt, vs⟩ := x
        simp only at c0 c1 HVl HRv
        obtain ⟨hk1, hk2, hk3⟩ := hkp
        simp only at hk1 hk2 hk3
        have HVs := Lib.hid hk3
        have HVo := Lib.hid hxo.vals
        have HVf : Hid (∀ v ∈ vs, Hv.SmV v) := hxf.2.2
        have hm5 : m ≤ 512 := by rw [← HVl.out]; exact hk2
        have HLt := Lib.hid (HTl.out k)
        have HVt := Lib.hid (fun j => Em.vals_len_take vs j hk3 hk2)
        obtain ⟨W5, hW5⟩ : ∃ W, wr.alloc (.cells #[.string pt, .slice vA m vc] 40) = W := ⟨_, rfl⟩
        have HB5 : Hid (Below w.heap.size w W5) := by show Below _ _ _; rw [← hW5]; exact Hv.bl HB.out _
        have hA5 : At W5 wr.heap.size [.string pt, .slice vA m vc] := by rw [← hW5]; exact At.new _ _ _
        have HRv5 : Hid (Reads W5 w.heap.size 5 vA m (vs.flatMap Hv.V.cells)) := by
          show Reads _ _ _ _ _ _
          rw [← hW5]
          exact HRv.out.below ((Hv.bl1 wr _).mono HB.out.size)
        have HW5 := Lib.hid hW5
        obtain ⟨P1, hP1⟩ : ∃ P, (⟨#[10, 91]⟩ : ByteArray) ++ pt = P := ⟨_, rfl⟩
        obtain ⟨P, hP⟩ : ∃ P : ByteArray, P1 ++ ⟨#[93, 10]⟩ = P := ⟨_, rfl⟩
        have hPb : P = Em.bts (Em.keyHead ⟨pt, []⟩) := by rw [← hP, ← hP1]; exact R5.keyHead_bts pt
        have hhl : (Em.keyHead ⟨pt, []⟩).length ≤ 300 := by
          unfold Em.keyHead
          simp only [List.length_append, tl_length, List.length_cons, List.length_nil]
          omega
        have s1 : ∀ W, (Op.stringOp .add ⟨#[10, 91]⟩ pt).run Tryd.prog W = .ok (.string P1) W := fun W => by
          rw [← hP1]; exact run_string_add_sum W _ _ (by have : (⟨#[10, 91]⟩ : ByteArray).size = 2 := rfl; omega)
        have s2 : ∀ W, (Op.stringOp .add P1 ⟨#[93, 10]⟩).run Tryd.prog W = .ok (.string P) W := fun W => by
          rw [← hP, ← hP1]
          exact run_string_add_sum W _ _ (by rw [ByteArray.size_append]; have h1 : (⟨#[10, 91]⟩ : ByteArray).size = 2 := rfl; have h2 : (⟨#[93, 10]⟩ : ByteArray).size = 2 := rfl; omega)
        obtain ⟨G1, hG1⟩ : ∃ G1, Em.bts (Em.text (l.take k) ++ Em.keyHead ⟨pt, []⟩) = G1 := ⟨_, rfl⟩
        have s3 : ∀ W, (Op.stringOp .add G P).run Tryd.prog W = .ok (.string G1) W := fun W => by
          rw [HG.out, hPb, ← hG1]; exact R5.add_bts _ _ (by have := HLt.out; omega) W
        have HG1 : Hid (G1 = Em.bts (Em.text (l.take k) ++ Em.keyHead ⟨pt, vs⟩ ++ Em.vals (vs.take 0))) := by
          show _ = _
          rw [← hG1, List.take_zero]
          show _ = Em.bts (_ ++ [])
          rw [List.append_nil]
          rfl
        have HHl := Lib.hid hhl
        clear hW5 hA5 hxm hxo hxf hk3 hk2 hk1 hP hP1 hPb hG1 hhl
        go_wp2_with fail
        rw [HW5.out]
        clear s1 s2 s3 c0 c1
        go_loopw [4, 30] (fun v i wi => ∃ (j : Nat) (M : ByteArray), j ≤ m ∧ i = .int .i64 (j : Int) ∧ v = .string M ∧ Hid (M = Em.bts (Em.text (l.take k) ++ Em.keyHead ⟨pt, vs⟩ ++ Em.vals (vs.take j))) ∧ Hid (Below w.heap.size w wi) ∧ Hid (Below w.heap.size W5 wi)) (fun _ i _ => m - (intOf i).toNat)
        case atStart => exact ⟨0, G1, Nat.zero_le _, rfl, rfl, HG1.out, HB5.out, Below.refl _ _⟩
        case round =>
          obtain ⟨j, M, hj, rfl, rfl, HM, HBi, HBj⟩ := hrel
          by_cases hlj : j < m
          · have q3 : (0 : Int) ≤ (j : Int) := by omega
            have q4 : (j : Int) < (m : Int) := by omega
            obtain ⟨ad2, y, rfl, hab2, Hy, e0, e1, e2, e3, e4⟩ := Hv.val_at (HRv5.out.below HBj.out) HVl.out hlj
            have hym := List.mem_of_getElem? Hy.out
            have hyo := HVo.out y hym
            have hyb := HVs.out y hym
            have hyf := HVf.out y hym
            have HTv := Lib.hid (Em.vals_take Hy.out)
            obtain ⟨nm, kd, tx, nu, by_⟩ := y
            unfold Hv.SmV at hyf
            simp only at e0 e1 e2 e3 e4 hyf
            have hvl := Em.val_len2 hyb
            have HEV : Hid (∀ W, Calls Tryd.prog 10 #[.agg #[.string nm, .int .u8 kd, .string tx, .int .u32 nu, .string by_]] W fun e w' => e = .returned (.tuple #[.string (Em.bts (Em.val ⟨nm, kd, tx, nu, by_⟩)), .int .i64 0]) ∧ Below W.heap.size W w') := by
              intro W
              refine (value5_any ⟨nm, kd, tx, nu, by_⟩ (by show nm.size ≤ _; omega) (by show tx.size ≤ _; omega) (by show by_.size ≤ _; omega) hyo W).mono ?_
              rintro e w' ⟨rfl, hb⟩
              exact ⟨by rw [if_pos hyb], hb⟩
            have hLj := HVt.out j
            obtain ⟨S, hS⟩ : ∃ S, Em.bts (Em.val ⟨nm, kd, tx, nu, by_⟩) = S := ⟨_, rfl⟩
            rw [hS] at HEV
            obtain ⟨S1, hS1⟩ : ∃ S, Em.bts (Em.val ⟨nm, kd, tx, nu, by_⟩ ++ [10]) = S := ⟨_, rfl⟩
            have s1 : ∀ W, (Op.stringOp .add S ⟨#[10]⟩).run Tryd.prog W = .ok (.string S1) W := fun W => by
              rw [← hS, ← hS1]; exact R5.add_bts _ [10] (by simp only [List.length_cons, List.length_nil]; omega) W
            obtain ⟨M2, hM2⟩ : ∃ S, Em.bts (Em.text (l.take k) ++ Em.keyHead ⟨pt, vs⟩ ++ Em.vals (vs.take j) ++ (Em.val ⟨nm, kd, tx, nu, by_⟩ ++ [10])) = S := ⟨_, rfl⟩
            have s2 : ∀ W, (Op.stringOp .add M S1).run Tryd.prog W = .ok (.string M2) W := fun W => by
              rw [HM.out, ← hS1, ← hM2]
              refine R5.add_bts _ _ ?_ W
              have h1 := HLt.out
              have h2 : (Em.keyHead ⟨pt, vs⟩).length ≤ 300 := HHl.out
              simp only [List.length_append, List.length_cons, List.length_nil]
              omega
            have HM2 : Hid (M2 = Em.bts (Em.text (l.take k) ++ Em.keyHead ⟨pt, vs⟩ ++ Em.vals (vs.take (j + 1)))) := by
              show _ = _
              rw [HTv.out, ← hM2, List.append_assoc _ (Em.vals _) _]
            obtain ⟨W7, hW7⟩ : ∃ W, wr.alloc (.cells #[.string nm, .int .u8 kd, .string tx, .int .u32 nu, .string by_] 28) = W := ⟨_, rfl⟩
            have HB7 : Hid (Below w.heap.size w W7) := by show Below _ _ _; rw [← hW7]; exact Hv.bl HBi.out _
            have HJ7 : Hid (Below w.heap.size W5 W7) := by show Below _ _ _; rw [← hW7]; exact HBj.out.trans ((Hv.bl1 wr _).mono HBi.out.size)
            have HW7 := Lib.hid hW7
            clear hym hyo hyb hyf hLj hvl hS hS1 hM2 hW7
            go_wp2_with fail
            rw [HW7.out]
            refine (HEV.out _).mono ?_
            rintro e w8 ⟨rfl, hb⟩
            have HB8 := Lib.hid (below_then HB7.out hb)
            have HJ8 := Lib.hid (HJ7.out.trans (hb.mono HB7.out.size))
            clear hb e0 e1 e2 e3 e4
            go_wp2
            go_roundw
            case rel => exact ⟨j + 1, M2, by omega, by go_num, rfl, HM2.out, HB8.out, HJ8.out⟩
            case measure => simp [intOf]; omega
          · have q4 : ¬ (j : Int) < (m : Int) := by omega
            have HG9 : Hid (M = Em.bts (Em.text (l.take (k + 1)))) := by
              show _ = _
              have hT : vs.take j = vs := List.take_of_length_le (by rw [HVl.out]; omega)
              rw [HT.out, HM.out, hT, List.append_assoc]
              rfl
            go_wp2
            go_roundw
            case rel => exact ⟨k + 1, M, by omega, by go_num, rfl, HG9.out, HBi.out⟩
            case measure => simp [intOf]; omega
      · have q2 : ¬ (k : Int) < (n : Int) := by omega
        have hG := HG.out
        rw [List.take_of_length_le (by rw [HN.out]; omega)] at hG
        have HG9 := Lib.hid hG
        clear hG
        go_wp2
        go_ret2
        exact ⟨by rw [← HE.out, HG9.out]; rfl, HB.out⟩
end Go.Proofs.YteacncdpjbcinaaDoor
