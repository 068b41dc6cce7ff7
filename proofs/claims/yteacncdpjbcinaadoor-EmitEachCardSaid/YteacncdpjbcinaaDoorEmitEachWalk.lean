/- EmitEach of any hive. -/
import Derived.Test.YteacncdpjbcinaaDoorLives35
import Derived.Test.YteacncdpjbcinaaDoorEeMath
import Derived.Test.YteacncdpjbcinaaDoorHvSmall
namespace Go.Proofs.YteacncdpjbcinaaDoor
open Go.RowKit

namespace Ee
open Em
theorem add_bts (a b : Txt) (h : a.length + b.length ≤ 9000000000000000000) (W : World) : (Op.stringOp .add (bts a) (bts b)).run Tryd.prog W = .ok (.string (bts (a ++ b))) W := by
  rw [← bts_app]
  exact run_string_add_sum W _ _ (by rw [bts_size, bts_size]; omega)
theorem stn (b : UInt8) (m : Bool) (c : Nat) (h : ((b.toNat : Int) == 10) = true) : st m c b = 0 := by
  have h1 : (b.toNat : Int) = 10 := by simpa using h
  have : b = 10 := by apply UInt8.toNat_inj.1; show _ = 10; omega
  unfold st
  rw [if_pos this]
theorem ten_not (b : UInt8) (h : ((b.toNat : Int) == 10) = false) : b ≠ 10 := by
  rintro rfl
  revert h
  decide
theorem stc (b : UInt8) (c : Nat) (h : ((b.toNat : Int) == 10) = false) (h2 : ((b.toNat : Int) == 44) = true) : st true c b = c + 1 := by
  have h1 : (b.toNat : Int) = 44 := by simpa using h2
  have : b = 44 := by apply UInt8.toNat_inj.1; show _ = 44; omega
  unfold st
  rw [if_neg (ten_not b h), if_pos ⟨this, rfl⟩]
theorem sto (b : UInt8) (m : Bool) (c : Nat) (h : ((b.toNat : Int) == 10) = false) (h2 : ((b.toNat : Int) == 44) = false ∨ m = false) : st m c b = c := by
  unfold st
  rw [if_neg (ten_not b h), if_neg]
  rintro ⟨rfl, rfl⟩
  rcases h2 with h2 | h2
  · revert h2; decide
  · cases h2
/-- Where the law stands in a value's lines. -/
def CAt (m : Bool) (X : ByteArray) (B : Nat) (v i : Value) : Prop := ∃ c k : Nat, v = .int .i64 (c : Int) ∧ i = .int .i64 (k : Int) ∧ k ≤ X.size ∧ c ≤ B ∧ ok m B c ((tl X).drop k) = true
end Ee
set_option maxHeartbeats 8000000 in
set_option maxRecDepth 100000 in
theorem emitEach_any (l : List Hv.K) (hl : ∀ k ∈ l, k.Ok) (hf : ∀ k ∈ l, ∀ v ∈ k.vals, v.Far) (A : Option Addr) (n c : Nat) (evs : List Value) (w : World) (hn : l.length = n) (hnm : n ≤ maxLen) (hr : Hv.HR w w.heap.size l (.slice A n c) evs) (hW : Wg w) :
    Calls Tryd.prog 4 #[.agg #[.slice A n c]] w fun e w' => e = .returned (.bool true) ∧ Below w.heap.size w w' := by
  have HS : Hid (∀ W, Below w.heap.size w W → Calls Tryd.prog 5 #[.agg #[.slice A n c]] W (Hv.SmRet l W)) := fun W hb => small34_any l (fun k hk => ⟨(hl k hk).path, hf k hk⟩) A n c evs W hn hnm ((hr.below hb).more hb.size)
  have HC : Hid (∀ W, Below w.heap.size w W → Calls Tryd.prog 13 #[.agg #[.slice A n c]] W fun e w' => e = .returned (.int .i64 (if Hv.hiveB l = true then 0 else 2)) ∧ Below W.heap.size W w') := fun W hb => hvCheck_any l hl A n c evs W hn hnm ((hr.below hb).more hb.size) (hW.l.below hb)
  have HT : Hid (∀ W, Below w.heap.size w W → Calls Tryd.prog 7 #[.agg #[.slice A n c]] W fun e w' => e = .returned (if Hv.hiveB l = true then .tuple #[.string (Em.bts (Em.text l)), .int .i64 0] else .tuple #[.string ⟨#[]⟩, .int .i64 2]) ∧ Below W.heap.size W w') := fun W hb => emText_any l hl A n c evs W hn hnm ((hr.below hb).more hb.size) (hW.below hb)
  have HL := Lib.hid (fun W hw => lives35_any W hw)
  obtain ⟨W1, hW1⟩ : ∃ W, w.alloc (.cells #[.slice A n c] 24) = W := ⟨_, rfl⟩
  have hA1 : At W1 w.heap.size [.slice A n c] := by rw [← hW1]; exact At.new _ _ _
  have hB1 : Below w.heap.size w W1 := by rw [← hW1]; exact Hv.bl1 _ _
  have HA1 := Lib.hid hA1
  have HB1 := Lib.hid hB1
  have HW1 := Lib.hid hW1
  have HW := Lib.hid hW
  have HO := Lib.hid hl
  have HN := Lib.hid hn
  have HR := Lib.hid hr
  unfold maxLen at hnm
  clear hA1 hB1 hW1 hW hl hn hr hf
  go_enter Tryd.func4, Tryd.ntmps4
  go_wp2_with fail
  rw [HW1.out]
  refine (HL.out _ (HW.out.below HB1.out)).mono ?_
  rintro e w2 ⟨rfl, hb⟩
  have HB2 := Lib.hid (below_then HB1.out hb)
  have HA2 := Lib.hid (HA1.out.call hb)
  have a2 := HA2.out.cell 0 _ rfl
  have l2 := HA2.out.lt
  clear hb
  go_wp2_with fail
  refine (HS.out _ HB2.out).mono ?_
  rintro e w3 ⟨he, hb⟩
  have HB3 := Lib.hid (below_then HB2.out hb)
  have HA3 := Lib.hid (HA2.out.call hb)
  have a3 := HA3.out.cell 0 _ rfl
  have l3 := HA3.out.lt
  clear hb a2 l2
  rcases he with rfl | ⟨rfl, _⟩
  · go_wp2
    go_ret
    exact ⟨rfl, HB3.out⟩
  go_wp2_with fail
  refine (HT.out _ HB3.out).mono ?_
  rintro e w4 ⟨rfl, hb⟩
  have HB4 := Lib.hid (below_then HB3.out hb)
  have HA4 := Lib.hid (HA3.out.call hb)
  have a4 := HA4.out.cell 0 _ rfl
  have l4 := HA4.out.lt
  clear hb a3 l3
  cases hv : Hv.hiveB l with
  | false =>
    have HC' := HC
    rw [hv] at HC'
    have e1 : (if false = true then (0 : Int) else 2) = 2 := rfl
    rw [if_neg (by decide)]
    rw [e1] at HC'
    clear hv e1
    go_wp2_with fail
    refine (HC'.out _ HB4.out).mono ?_
    rintro e w5 ⟨rfl, hb⟩
    have HB5 := Lib.hid (below_then HB4.out hb)
    clear hb
    go_wp2
    go_ret
    exact ⟨rfl, HB5.out⟩
  | true =>
  rw [if_pos rfl]
  obtain ⟨hp1, hp2⟩ := Em.hive_parts hv
  have HP2 := Lib.hid hp2
  have HTl := Lib.hid (fun k => Em.text_len_take l k hp2 hp1)
  rw [HN.out] at hp1
  clear hv hp2 HC HS HL
  have HT0 : Hid (∀ W, Wg W → Calls Tryd.prog 7 #[.agg #[.slice none 0 0]] W fun e w' => e = .returned (.tuple #[.string (Em.bts Em.head), .int .i64 0]) ∧ Below W.heap.size W w') := by
    intro W hw
    refine (emText_any [] (fun k hk => by cases hk) none 0 0 [] W rfl (by decide) ⟨⟨none, 0, rfl, Nat.le_refl _, by decide, rfl, fun h => absurd h (by decide)⟩, rfl, fun p hp => by cases hp⟩ hw).mono ?_
    rintro e w' ⟨rfl, hb⟩
    refine ⟨?_, hb⟩
    rw [if_pos (by decide)]
    rfl
  obtain ⟨S, hS⟩ : ∃ S, Em.bts (Em.text l) = S := ⟨_, rfl⟩
  rw [hS]
  have HSx := Lib.hid hS
  clear hS
  go_wp2_with fail
  refine (HT0.out _ (HW.out.below HB4.out)).mono ?_
  rintro e w5 ⟨rfl, hb⟩
  have HB5 := Lib.hid (below_then HB4.out hb)
  have HA5 := Lib.hid (HA4.out.call hb)
  have a5 := HA5.out.cell 0 _ rfl
  have l5 := HA5.out.lt
  obtain ⟨N, hN⟩ : ∃ N, Em.bts Em.head = N := ⟨_, rfl⟩
  rw [hN]
  have hN11 : N.size = 11 := by rw [← hN]; rfl
  have HNx := Lib.hid hN
  clear hb a4 l4 hN
  go_wp2_with fail
  go_loopw [7, 47] (fun v i wr => ∃ (k : Nat) (G : ByteArray), k ≤ n ∧ i = .int .i64 (k : Int) ∧ v = .string G ∧ Hid (G = Em.bts (Em.text (l.take k))) ∧ Hid (Below w.heap.size w wr)) (fun _ i _ => n - (intOf i).toNat)
  case atStart => exact ⟨0, N, Nat.zero_le _, rfl, rfl, HNx.out.symm, HB5.out⟩
  case round =>
    clear a5 l5
    obtain ⟨k, G, hk, rfl, rfl, HG, HB⟩ := hrel
    by_cases hlt : k < n
    · have q1 : (0 : Int) ≤ (k : Int) := by omega
      have q2 : (k : Int) < (n : Int) := by omega
      obtain ⟨ad, x, vA, m, vc, rfl, hab, Hx, c0, c1, HVl, hv1, hv2, HRv⟩ := (HR.out.below HB.out).at_ HN.out hlt
      have hxm := List.mem_of_getElem? Hx.out
      have hkb := HP2.out x hxm
      have hkp := Em.key_parts hkb
      have hxo := HO.out x hxm
      have HTk := Lib.hid (Em.text_take Hx.out)
      obtain ⟨pt, vs⟩ := x
      simp only at c0 c1 HVl HRv
      obtain ⟨hk1, hk2, hk3⟩ := hkp
      simp only at hk1 hk2 hk3
      have HVs := Lib.hid hk3
      have HVo := Lib.hid hxo.vals
      have hm5 : m ≤ 512 := by rw [← HVl.out]; exact hk2
      have HLt := Lib.hid (HTl.out k)
      have HLk := Lib.hid (Em.key_len hkb)
      have HVt := Lib.hid (fun j => Em.vals_len_take vs j hk3 hk2)
      -- the blocks of a round
      obtain ⟨W6, hW6⟩ : ∃ W, (wr.alloc (.cells #[.string pt, .slice vA m vc] 40)).alloc (.cells #[.string pt, .slice vA m vc] 40) = W := ⟨_, rfl⟩
      have HB6 : Hid (Below w.heap.size w W6) := by show Below _ _ _; rw [← hW6]; exact Hv.bl (Hv.bl HB.out _) _
      have hA6 : At W6 wr.heap.size [.string pt, .slice vA m vc] := by rw [← hW6]; exact (At.new _ _ _).allocO _
      have hS6 : At W6 (wr.heap.size + 1) [.string pt, .slice vA m vc] := by
        have h := At.new (wr.alloc (.cells #[.string pt, .slice vA m vc] 40)) #[.string pt, .slice vA m vc] 40
        rw [World.size_alloc] at h
        rw [← hW6]
        exact h
      have hRv6 : Reads W6 w.heap.size 5 vA m (vs.flatMap Hv.V.cells) := by
        rw [← hW6]
        exact HRv.out.below ((Hv.bl (Hv.bl1 wr _) _).mono HB.out.size)
      have hH6 : Hv.HR W6 W6.heap.size [⟨pt, vs⟩] (.slice (some ⟨wr.heap.size + 1, 0, none⟩) 1 1) [.slice vA m vc] := by
        refine ⟨⟨_, _, rfl, Nat.le_refl _, by decide, Em.reads_of_at hS6 rfl⟩, rfl, fun p hp => ?_⟩
        rw [List.mem_singleton.1 hp]
        exact ⟨vA, vc, by rw [← HVl.out], by rw [HVl.out]; exact hv1, hv2, by rw [HVl.out]; exact hRv6.more HB6.out.size⟩
      have HT6 : Hid (Calls Tryd.prog 7 #[.agg #[.slice (some ⟨wr.heap.size + 1, 0, none⟩) 1 1]] W6 fun e w' => e = .returned (.tuple #[.string (Em.bts (Em.text [⟨pt, vs⟩])), .int .i64 0]) ∧ Below W6.heap.size W6 w') := by
        refine (emText_any [⟨pt, vs⟩] (fun k hk => by rw [List.mem_singleton.1 hk]; exact hxo) _ 1 1 _ W6 rfl (by decide) hH6 (HW.out.below HB6.out)).mono ?_
        rintro e w' ⟨rfl, hb⟩
        exact ⟨by rw [if_pos (Ee.hive_one hkb)], hb⟩
      have HA6 := Lib.hid hA6
      have HRv6 := Lib.hid hRv6
      have HW6 := Lib.hid hW6
      obtain ⟨T, hT⟩ : ∃ T, Em.bts (Em.text [⟨pt, vs⟩]) = T := ⟨_, rfl⟩
      rw [hT] at HT6
      have htl : (Em.text [⟨pt, vs⟩]).length = 11 + (Em.key ⟨pt, vs⟩).length := by rw [Ee.text_one, List.length_append]; rfl
      have hTs : T.size = 11 + (Em.key ⟨pt, vs⟩).length := by rw [← hT, Em.bts_size, htl]
      have t1 : ¬ (T.size : Int) < 11 := by omega
      have t2 : (11 : Int) ≤ (T.size : Int) := by omega
      have x1 : T.extract 0 11 = N := by rw [← hT, ← HNx.out, Ee.text_one]; exact Ee.bts_ext0 _ _ _ rfl
      have x2 : T.extract 11 T.size = Em.bts (Em.key ⟨pt, vs⟩) := by rw [← hT, Ee.text_one]; exact Ee.bts_ext1 _ _ _ _ rfl (by rw [Em.bts_size])
      have HX1 := Lib.hid x1
      have HX2 := Lib.hid x2
      have HTx := Lib.hid hT
      have hTb : T.size ≤ 200000000 := by rw [hTs]; have := HLk.out; omega
      obtain ⟨P1, hP1⟩ : ∃ P, Em.bts (Em.head ++ [10, 91]) = P := ⟨_, rfl⟩
      obtain ⟨P2, hP2⟩ : ∃ P, Em.bts (Em.head ++ [10, 91] ++ tl pt) = P := ⟨_, rfl⟩
      obtain ⟨M0, hM0⟩ : ∃ P, Em.bts (Em.head ++ [10, 91] ++ tl pt ++ [93, 10]) = P := ⟨_, rfl⟩
      have HM0 : Hid (M0 = Em.bts (Ee.mine ⟨pt, vs⟩ 0)) := by
        show _ = _
        rw [← hM0]
        unfold Ee.mine Em.keyHead
        simp [Em.vals]
      have s1 : ∀ W, (Op.stringOp .add N ⟨#[10, 91]⟩).run Tryd.prog W = .ok (.string P1) W := fun W => by
        rw [← HNx.out, ← hP1]; exact Ee.add_bts Em.head [10, 91] (by decide) W
      have s2 : ∀ W, (Op.stringOp .add P1 pt).run Tryd.prog W = .ok (.string P2) W := fun W => by
        rw [← hP1, ← hP2]; exact Ee.add_bts (Em.head ++ [10, 91]) (tl pt) (by rw [tl_length]; show 13 + _ ≤ _; omega) W
      have s3 : ∀ W, (Op.stringOp .add P2 ⟨#[93, 10]⟩).run Tryd.prog W = .ok (.string M0) W := fun W => by
        rw [← hP2, ← hM0]; exact Ee.add_bts (Em.head ++ [10, 91] ++ tl pt) [93, 10] (by rw [List.length_append, tl_length]; show 13 + _ + 2 ≤ _; omega) W
      have HMl : Hid (∀ j, (Ee.mine ⟨pt, vs⟩ j).length ≤ 200000000) := by
        intro j
        have h1 := HVt.out j
        unfold Ee.mine Em.keyHead
        simp only [List.length_append, tl_length]
        show 11 + (2 + pt.size + 2) + _ ≤ _
        omega
      clear hW6 hA6 hS6 hRv6 hH6 hT htl hTs hxm hkb hxo hk1 hk2 hk3 x2 hP1 hP2 hM0
      go_wp2_with fail
      rw [HW6.out]
      refine HT6.out.mono ?_
      rintro e w7 ⟨rfl, hb⟩
      have HB7 := Lib.hid (below_then HB6.out hb)
      have hA7 := HA6.out.call hb
      have d0 := hA7.cell 0 _ rfl
      have d1 := hA7.cell 1 _ rfl
      have dl := hA7.lt
      have HRv7 : Hid (Reads w7 w.heap.size 5 vA m (vs.flatMap Hv.V.cells)) := HRv6.out.below (hb.mono HB6.out.size)
      clear hb hA7 c0 c1
      go_wp2_with fail
      clear d0 d1 dl s1 s2 s3 x1
      go_loopw [12, 84] (fun v i wi => ∃ (j : Nat) (M : ByteArray), j ≤ m ∧ i = .int .i64 (j : Int) ∧ v = .string M ∧ Hid (M = Em.bts (Ee.mine ⟨pt, vs⟩ j)) ∧ Hid (Below w.heap.size w wi) ∧ Hid (Below w.heap.size w7 wi)) (fun _ i _ => m - (intOf i).toNat)
      case atStart => exact ⟨0, M0, Nat.zero_le _, rfl, rfl, HM0.out, HB7.out, Below.refl _ _⟩
      case round =>
        obtain ⟨j, M, hj, rfl, rfl, HM, HBi, HBj⟩ := hrel
        by_cases hlj : j < m
        · have q3 : (0 : Int) ≤ (j : Int) := by omega
          have q4 : (j : Int) < (m : Int) := by omega
          obtain ⟨ad2, y, rfl, hab2, Hy, e0, e1, e2, e3, e4⟩ := Hv.val_at (HRv7.out.below HBj.out) HVl.out hlj
          have hym := List.mem_of_getElem? Hy.out
          have hyo := HVo.out y hym
          have hyb := HVs.out y hym
          have HMn := Lib.hid (Ee.mine_next (k := ⟨pt, vs⟩) Hy.out)
          have hvk := fun mm => Ee.val_ok y mm
          have hvs := Em.val_small hyb
          have hvl := Em.val_len2 hyb
          obtain ⟨nm, kd, tx, nu, by_⟩ := y
          simp only at e0 e1 e2 e3 e4 hvk hvs
          have HYo := Lib.hid hyo
          have HEV : Hid (∀ W, Wg W → Calls Tryd.prog 9 #[.agg #[.string nm, .int .u8 kd, .string tx, .int .u32 nu, .string by_]] W fun e w' => e = .returned (.tuple #[.string (Em.bts (Em.val ⟨nm, kd, tx, nu, by_⟩)), .int .i64 0]) ∧ Below W.heap.size W w') := by
            intro W hw
            refine (emValue_any nm kd tx nu by_ hyo W hw).mono ?_
            rintro e w' ⟨rfl, hb⟩
            exact ⟨by rw [if_pos hyb], hb⟩
          obtain ⟨X, hX⟩ : ∃ X, Em.bts (Em.val ⟨nm, kd, tx, nu, by_⟩) = X := ⟨_, rfl⟩
          rw [hX] at HEV
          have hXs : X.size ≤ 300000 := by rw [← hX, Em.bts_size]; exact hvl
          obtain ⟨Y, hY⟩ : ∃ Y, Em.bts (Em.val ⟨nm, kd, tx, nu, by_⟩ ++ [10]) = Y := ⟨_, rfl⟩
          obtain ⟨M2, hM2⟩ : ∃ M2, Em.bts (Ee.mine ⟨pt, vs⟩ j ++ (Em.val ⟨nm, kd, tx, nu, by_⟩ ++ [10])) = M2 := ⟨_, rfl⟩
          have s1 : ∀ W, (Op.stringOp .add X ⟨#[10]⟩).run Tryd.prog W = .ok (.string Y) W := fun W => by
            rw [← hX, ← hY]; exact Ee.add_bts _ [10] (by simp only [List.length_cons, List.length_nil]; omega) W
          have s2 : ∀ W, (Op.stringOp .add M Y).run Tryd.prog W = .ok (.string M2) W := fun W => by
            rw [HM.out, ← hY, ← hM2]; exact Ee.add_bts _ _ (by rw [List.length_append]; have := HMl.out j; simp only [List.length_cons, List.length_nil]; omega) W
          have HM2 : Hid (M2 = Em.bts (Ee.mine ⟨pt, vs⟩ (j + 1))) := by show _ = _; rw [HMn.out, hM2]
          have hvk : ∀ mm : Bool, (mm = true → kd = 3) → Ee.ok mm (20 + nm.size) 0 (tl X) = true := fun mm h => by rw [← hX]; exact hvk mm h
          have hn64 : nm.size ≤ 64 := hvs.1
          have HVk := Lib.hid hvk
          obtain ⟨W8, hW8⟩ : ∃ W, wr.alloc (.cells #[.string nm, .int .u8 kd, .string tx, .int .u32 nu, .string by_] 28) = W := ⟨_, rfl⟩
          have HB8 : Hid (Below w.heap.size w W8) := by show Below _ _ _; rw [← hW8]; exact Hv.bl HBi.out _
          have HJ8 : Hid (Below w.heap.size w7 W8) := by show Below _ _ _; rw [← hW8]; exact HBj.out.trans ((Hv.bl1 wr _).mono HBi.out.size)
          have HA8 : Hid (At W8 wr.heap.size [.string nm, .int .u8 kd, .string tx, .int .u32 nu, .string by_]) := by show At _ _ _; rw [← hW8]; exact At.new _ _ _
          have HW8 := Lib.hid hW8
          clear hym hyo hyb hvk hvs hvl hX hY hM2 hW8
          go_wp2_with fail
          rw [HW8.out]
          refine (HEV.out _ (HW.out.below HB8.out)).mono ?_
          rintro e w9 ⟨rfl, hb⟩
          have HB9 := Lib.hid (below_then HB8.out hb)
          have HJ9 := Lib.hid (HJ8.out.trans (hb.mono HB8.out.size))
          have hA9 := HA8.out.call hb
          have f0 := hA9.cell 0 _ rfl
          have f1 := hA9.cell 1 _ rfl
          have fl := hA9.lt
          clear hb hA9 e0 e1 e2 e3 e4
          obtain ⟨mb, hmb⟩ : ∃ b, (kd == 3) = b := ⟨_, rfl⟩
          have HVk1 := Lib.hid (HVk.out mb (fun e => by rw [e] at hmb; simpa using hmb))
          go_wp2_with fail
          go_loopw [17, 101] (fun v i wi => Ee.CAt mb X (20 + nm.size) v i ∧ wi = w9) (fun _ i _ => X.size - (intOf i).toNat)
          case atStart => exact ⟨⟨0, 0, rfl, rfl, Nat.zero_le _, Nat.zero_le _, HVk1.out⟩, rfl⟩
          case round =>
            clear s1 s2
            obtain ⟨⟨c, k3, rfl, rfl, hk3, hc3, hok⟩, rfl⟩ := hrel
            by_cases hl3 : k3 < X.size
            · have q5 : (0 : Int) ≤ (k3 : Int) := by omega
              have q6 : (k3 : Int) < (X.size : Int) := by omega
              obtain ⟨b, hb⟩ : ∃ b, X[k3]'hl3 = b := ⟨_, rfl⟩
              rw [Ee.drop_byte X k3 hl3, hb] at hok
              obtain ⟨hs, hok⟩ := Ee.ok_next hok
              have HOk := Lib.hid hok
              clear hok
              cases h10 : ((b.toNat : Int) == 10) with
              | true =>
                have HE := Lib.hid (Ee.stn b mb c h10)
                have q7 : ¬ (20 : Int) + (nm.size : Int) < 0 := by omega
                clear hs
                go_wp2
                go_roundw
                case rel => exact ⟨⟨0, k3 + 1, rfl, by go_num, by omega, Nat.zero_le _, by have h := HOk.out; rw [HE.out] at h; exact h⟩, trivial⟩
                case measure => simp [intOf]; omega
              | false =>
                cases h44 : ((b.toNat : Int) == 44) with
                | false =>
                  have HE := Lib.hid (Ee.sto b mb c h10 (.inl h44))
                  have q7 : ¬ (20 : Int) + (nm.size : Int) < (c : Int) := by omega
                  clear hs
                  go_wp2
                  go_roundw
                  case rel => exact ⟨⟨c, k3 + 1, rfl, by go_num, by omega, hc3, by have h := HOk.out; rw [HE.out] at h; exact h⟩, trivial⟩
                  case measure => simp [intOf]; omega
                | true =>
                  cases mb with
                  | false =>
                    have HE := Lib.hid (Ee.sto b false c h10 (.inr rfl))
                    have q7 : ¬ (20 : Int) + (nm.size : Int) < (c : Int) := by omega
                    clear hs
                    go_wp2
                    go_roundw
                    case rel => exact ⟨⟨c, k3 + 1, rfl, by go_num, by omega, hc3, by have h := HOk.out; rw [HE.out] at h; exact h⟩, trivial⟩
                    case measure => simp [intOf]; omega
                  | true =>
                    have he := Ee.stc b c h10 h44
                    rw [he] at hs
                    have HE := Lib.hid he
                    have hs2 := hs
                    have q7 : ¬ (20 : Int) + (nm.size : Int) < (c : Int) + 1 := by omega
                    clear he hs
                    go_wp2
                    go_roundw
                    case rel => exact ⟨⟨c + 1, k3 + 1, by go_num, by go_num, by omega, hs2, by have h := HOk.out; rw [HE.out] at h; exact h⟩, trivial⟩
                    case measure => simp [intOf]; omega
            · have q6 : ¬ (k3 : Int) < (X.size : Int) := by omega
              go_wp2
              go_roundw
              case rel => exact ⟨j + 1, M2, by omega, by go_num, rfl, HM2.out, HB9.out, HJ9.out⟩
              case measure => simp [intOf]; omega
        · have q4 : ¬ (j : Int) < (m : Int) := by omega
          have hMT : M = T := by
            rw [HM.out, Ee.mine_all _ _ (by show vs.length ≤ j; rw [HVl.out]; omega)]
            exact HTx.out
          subst hMT
          obtain ⟨K, hK⟩ : ∃ K, Em.bts (Em.key ⟨pt, vs⟩) = K := ⟨_, rfl⟩
          obtain ⟨G2, hG2⟩ : ∃ G2, Em.bts (Em.text (l.take k) ++ Em.key ⟨pt, vs⟩) = G2 := ⟨_, rfl⟩
          have x2 : M.extract 11 M.size = K := by rw [HX2.out, hK]
          have s4 : ∀ W, (Op.stringOp .add G K).run Tryd.prog W = .ok (.string G2) W := fun W => by
            rw [HG.out, ← hK, ← hG2]; exact Ee.add_bts _ _ (by have h1 := HLt.out; have h2 := HLk.out; omega) W
          have HG2 : Hid (G2 = Em.bts (Em.text (l.take (k + 1)))) := by show _ = _; rw [HTk.out, hG2]
          clear hK hG2
          go_wp2
          go_roundw
          case rel => exact ⟨k + 1, G2, by omega, by go_num, rfl, HG2.out, HBi.out⟩
          case measure => simp [intOf]; omega
    · have q2 : ¬ (k : Int) < (n : Int) := by omega
      have hGS : G = S := by
        rw [HG.out, List.take_of_length_le (by rw [HN.out]; omega)]
        exact HSx.out
      subst hGS
      go_wp2
      go_ret
      exact ⟨rfl, HB.out⟩
/-- The same, its arguments in the row's order. -/
theorem emitEach_row (l : List Hv.K) (A : Option Addr) (n c : Nat) (evs : List Value) (w : World) (hW : Wg w) (hr : Hv.HR w w.heap.size l (.slice A n c) evs) (hn : l.length = n) (hnm : n ≤ maxLen) (hl : ∀ k ∈ l, k.Ok) (hf : ∀ k ∈ l, ∀ v ∈ k.vals, v.Far) :
    Calls Tryd.prog 4 #[.agg #[.slice A n c]] w fun e w' => e = .returned (.bool true) ∧ Below w.heap.size w w' := emitEach_any l hl hf A n c evs w hn hnm hr hW
end Go.Proofs.YteacncdpjbcinaaDoor
