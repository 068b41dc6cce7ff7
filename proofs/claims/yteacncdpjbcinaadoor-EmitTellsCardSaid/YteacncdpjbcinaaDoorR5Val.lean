/- solsticeref35.Value: a value's lines. -/
import Derived.Test.YteacncdpjbcinaaDoorR5Small
import Derived.Test.YteacncdpjbcinaaDoorR4Val
import Derived.Test.YteacncdpjbcinaaDoorEmMath
namespace Go.Proofs.YteacncdpjbcinaaDoor
open Go.RowKit

set_option maxHeartbeats 4000000 in
set_option maxRecDepth 100000 in
theorem value5_bad (nm : ByteArray) (kd : Int) (tx : ByteArray) (nu : Int) (bs : ByteArray) (w : World) (HCv : Hid (∀ W, Calls Tryd.prog 20 #[.agg #[.string nm, .int .u8 kd, .string tx, .int .u32 nu, .string bs]] W fun e w' => e = .returned (.int .i64 2) ∧ Below W.heap.size W w')) :
    Calls Tryd.prog 10 #[.agg #[.string nm, .int .u8 kd, .string tx, .int .u32 nu, .string bs]] w fun e w' => e = .returned (.tuple #[.string ⟨#[]⟩, .int .i64 2]) ∧ Below w.heap.size w w' := by
  obtain ⟨W0, hW0⟩ : ∃ W, w.alloc (.cells #[.string nm, .int .u8 kd, .string tx, .int .u32 nu, .string bs] 28) = W := ⟨_, rfl⟩
  have HB0 : Hid (Below w.heap.size w W0) := by show Below _ _ _; rw [← hW0]; exact Hv.bl1 _ _
  have HA0 : Hid (At W0 w.heap.size [.string nm, .int .u8 kd, .string tx, .int .u32 nu, .string bs]) := by show At _ _ _; rw [← hW0]; exact At.new _ _ _
  have HW0 := Lib.hid hW0
  clear hW0
  go_enter Tryd.func10, Tryd.ntmps10
  go_wp2_with fail
  rw [HW0.out]
  refine (HCv.out _).mono ?_
  rintro e w1 ⟨rfl, hb⟩
  have HB1 := Lib.hid (below_then HB0.out hb)
  clear hb
  go_wp2
  go_ret2
  exact ⟨rfl, HB1.out⟩
set_option maxHeartbeats 4000000 in
set_option maxRecDepth 100000 in
theorem value5_text (nm : ByteArray) (tx : ByteArray) (nu : Int) (bs : ByteArray) (h1 : nm.size ≤ 64) (h2 : tx.size ≤ 4096) (w : World) (HCv : Hid (∀ W, Calls Tryd.prog 20 #[.agg #[.string nm, .int .u8 1, .string tx, .int .u32 nu, .string bs]] W fun e w' => e = .returned (.int .i64 0) ∧ Below W.heap.size W w')) :
    Calls Tryd.prog 10 #[.agg #[.string nm, .int .u8 1, .string tx, .int .u32 nu, .string bs]] w fun e w' => e = .returned (.tuple #[.string (Em.bts (Em.val ⟨nm, 1, tx, nu, bs⟩)), .int .i64 0]) ∧ Below w.heap.size w w' := by
  obtain ⟨W0, hW0⟩ : ∃ W, w.alloc (.cells #[.string nm, .int .u8 1, .string tx, .int .u32 nu, .string bs] 28) = W := ⟨_, rfl⟩
  have HB0 : Hid (Below w.heap.size w W0) := by show Below _ _ _; rw [← hW0]; exact Hv.bl1 _ _
  have HA0 : Hid (At W0 w.heap.size [.string nm, .int .u8 1, .string tx, .int .u32 nu, .string bs]) := by show At _ _ _; rw [← hW0]; exact At.new _ _ _
  have HW0 := Lib.hid hW0
  clear hW0
  have hql := Em.quote_len (tl nm)
  rw [tl_length] at hql
  obtain ⟨X, hX⟩ : ∃ X, Em.bts (Em.val ⟨nm, 1, tx, nu, bs⟩) = X := ⟨_, rfl⟩
  rw [hX]
  obtain ⟨Q, hQ⟩ : ∃ Q, Em.bts (Em.quote (tl nm)) = Q := ⟨_, rfl⟩
  obtain ⟨Q1, hQ1⟩ : ∃ Q1, Em.bts (Em.quote (tl nm) ++ [61]) = Q1 := ⟨_, rfl⟩
  have s1 : ∀ W, (Op.stringOp .add Q ⟨#[61]⟩).run Tryd.prog W = .ok (.string Q1) W := fun W => by rw [← hQ, ← hQ1]; exact R5.add_bts _ [61] (by simp only [List.length_cons, List.length_nil]; omega) W
  have HQn := Lib.hid (fun W => quote5_any nm (by omega) W)
  rw [hQ] at HQn
  have htl := Em.quote_len (tl tx)
  rw [tl_length] at htl
  obtain ⟨R, hR⟩ : ∃ Q, Em.bts (Em.quote (tl tx)) = Q := ⟨_, rfl⟩
  have s2 : ∀ W, (Op.stringOp .add Q1 R).run Tryd.prog W = .ok (.string X) W := fun W => by
    rw [← hQ1, ← hR, R5.add_bts _ _ (by rw [List.length_append]; simp only [List.length_cons, List.length_nil]; omega) W, ← hX]
    unfold Em.val Em.rest
    simp
  have HQt := Lib.hid (fun W => quote5_any tx (by omega) W)
  rw [hR] at HQt
  clear hX hQ hQ1 hR hql htl
  go_enter Tryd.func10, Tryd.ntmps10
  go_wp2_with fail
  rw [HW0.out]
  refine (HCv.out _).mono ?_
  rintro e w1 ⟨rfl, hb⟩
  have HB1 := Lib.hid (below_then HB0.out hb)
  have HA1 := Lib.hid (HA0.out.call hb)
  clear hb
  have c0 := HA1.out.cell 0 _ rfl
  have c1 := HA1.out.cell 1 _ rfl
  have c2 := HA1.out.cell 2 _ rfl
  have c3 := HA1.out.cell 3 _ rfl
  have c4 := HA1.out.cell 4 _ rfl
  have cl := HA1.out.lt
  go_wp2_with fail
  refine (HQn.out _).mono ?_
  rintro e w2 ⟨rfl, hb⟩
  have HB2 := Lib.hid (below_then HB1.out hb)
  have HA2 := Lib.hid (HA1.out.call hb)
  clear hb c0 c1 c2 c3 c4 cl
  have c0 := HA2.out.cell 0 _ rfl
  have c1 := HA2.out.cell 1 _ rfl
  have c2 := HA2.out.cell 2 _ rfl
  have c3 := HA2.out.cell 3 _ rfl
  have c4 := HA2.out.cell 4 _ rfl
  have cl := HA2.out.lt
  go_wp2_with fail
  refine (HQt.out _).mono ?_
  rintro e w3 ⟨rfl, hb⟩
  have HB3 := Lib.hid (below_then HB2.out hb)
  clear hb c0 c1 c2 c3 c4 cl
  go_wp2
  go_ret2
  exact ⟨rfl, HB3.out⟩
set_option maxHeartbeats 4000000 in
set_option maxRecDepth 100000 in
theorem value5_num (nm : ByteArray) (tx : ByteArray) (nu : Nat) (bs : ByteArray) (h1 : nm.size ≤ 64) (hn : nu < 4294967296) (w : World) (HCv : Hid (∀ W, Calls Tryd.prog 20 #[.agg #[.string nm, .int .u8 2, .string tx, .int .u32 nu, .string bs]] W fun e w' => e = .returned (.int .i64 0) ∧ Below W.heap.size W w')) :
    Calls Tryd.prog 10 #[.agg #[.string nm, .int .u8 2, .string tx, .int .u32 nu, .string bs]] w fun e w' => e = .returned (.tuple #[.string (Em.bts (Em.val ⟨nm, 2, tx, nu, bs⟩)), .int .i64 0]) ∧ Below w.heap.size w w' := by
  obtain ⟨W0, hW0⟩ : ∃ W, w.alloc (.cells #[.string nm, .int .u8 2, .string tx, .int .u32 nu, .string bs] 28) = W := ⟨_, rfl⟩
  have HB0 : Hid (Below w.heap.size w W0) := by show Below _ _ _; rw [← hW0]; exact Hv.bl1 _ _
  have HA0 : Hid (At W0 w.heap.size [.string nm, .int .u8 2, .string tx, .int .u32 nu, .string bs]) := by show At _ _ _; rw [← hW0]; exact At.new _ _ _
  have HW0 := Lib.hid hW0
  clear hW0
  have hql := Em.quote_len (tl nm)
  rw [tl_length] at hql
  obtain ⟨X, hX⟩ : ∃ X, Em.bts (Em.val ⟨nm, 2, tx, nu, bs⟩) = X := ⟨_, rfl⟩
  rw [hX]
  obtain ⟨Q, hQ⟩ : ∃ Q, Em.bts (Em.quote (tl nm)) = Q := ⟨_, rfl⟩
  obtain ⟨Q1, hQ1⟩ : ∃ Q1, Em.bts (Em.quote (tl nm) ++ [61]) = Q1 := ⟨_, rfl⟩
  have s1 : ∀ W, (Op.stringOp .add Q ⟨#[61]⟩).run Tryd.prog W = .ok (.string Q1) W := fun W => by rw [← hQ, ← hQ1]; exact R5.add_bts _ [61] (by simp only [List.length_cons, List.length_nil]; omega) W
  have HQn := Lib.hid (fun W => quote5_any nm (by omega) W)
  rw [hQ] at HQn
  obtain ⟨R, hR⟩ : ∃ Q, Em.bts (Em.num nu) = Q := ⟨_, rfl⟩
  obtain ⟨Q2, hQ2⟩ : ∃ Q, Em.bts (Em.quote (tl nm) ++ [61] ++ [110, 117, 109, 98, 101, 114, 58]) = Q := ⟨_, rfl⟩
  have s2 : ∀ W, (Op.stringOp .add Q1 ⟨#[110, 117, 109, 98, 101, 114, 58]⟩).run Tryd.prog W = .ok (.string Q2) W := fun W => by rw [← hQ1, ← hQ2]; exact R5.add_bts _ [110, 117, 109, 98, 101, 114, 58] (by rw [List.length_append]; simp only [List.length_cons, List.length_nil]; omega) W
  have s3 : ∀ W, (Op.stringOp .add Q2 R).run Tryd.prog W = .ok (.string X) W := fun W => by
    rw [← hQ2, ← hR, R5.add_bts _ _ (by rw [List.length_append, List.length_append, Em.num_len]; simp only [List.length_cons, List.length_nil]; omega) W, ← hX]
    unfold Em.val Em.rest
    simp
  have HQt := Lib.hid (fun W => eight_any nu hn W)
  rw [hR] at HQt
  clear hX hQ hQ1 hQ2 hR hql
  go_enter Tryd.func10, Tryd.ntmps10
  go_wp2_with fail
  rw [HW0.out]
  refine (HCv.out _).mono ?_
  rintro e w1 ⟨rfl, hb⟩
  have HB1 := Lib.hid (below_then HB0.out hb)
  have HA1 := Lib.hid (HA0.out.call hb)
  clear hb
  have c0 := HA1.out.cell 0 _ rfl
  have c1 := HA1.out.cell 1 _ rfl
  have c2 := HA1.out.cell 2 _ rfl
  have c3 := HA1.out.cell 3 _ rfl
  have c4 := HA1.out.cell 4 _ rfl
  have cl := HA1.out.lt
  go_wp2_with fail
  refine (HQn.out _).mono ?_
  rintro e w2 ⟨rfl, hb⟩
  have HB2 := Lib.hid (below_then HB1.out hb)
  have HA2 := Lib.hid (HA1.out.call hb)
  clear hb c0 c1 c2 c3 c4 cl
  have c0 := HA2.out.cell 0 _ rfl
  have c1 := HA2.out.cell 1 _ rfl
  have c2 := HA2.out.cell 2 _ rfl
  have c3 := HA2.out.cell 3 _ rfl
  have c4 := HA2.out.cell 4 _ rfl
  have cl := HA2.out.lt
  go_wp2_with fail
  refine (HQt.out _).mono ?_
  rintro e w3 ⟨rfl, hb⟩
  have HB3 := Lib.hid (below_then HB2.out hb)
  clear hb c0 c1 c2 c3 c4 cl
  go_wp2
  go_ret2
  exact ⟨rfl, HB3.out⟩
namespace R5
def base (nm : ByteArray) : Em.Txt := Em.quote (tl nm) ++ [61] ++ [98, 121, 116, 101, 115, 58]
theorem base_val (nm tx : ByteArray) (nu : Int) (bs : ByteArray) : Em.val ⟨nm, 3, tx, nu, bs⟩ = base nm ++ bx 0 (tl bs) := by
  rw [bx_bytes]
  unfold Em.val Em.rest base
  simp
end R5
set_option maxHeartbeats 4000000 in
set_option maxRecDepth 100000 in
theorem value5_bytes (nm : ByteArray) (tx : ByteArray) (nu : Int) (bs : ByteArray) (h1 : nm.size ≤ 64) (h3 : bs.size ≤ 4096) (w : World) (HCv : Hid (∀ W, Calls Tryd.prog 20 #[.agg #[.string nm, .int .u8 3, .string tx, .int .u32 nu, .string bs]] W fun e w' => e = .returned (.int .i64 0) ∧ Below W.heap.size W w')) :
    Calls Tryd.prog 10 #[.agg #[.string nm, .int .u8 3, .string tx, .int .u32 nu, .string bs]] w fun e w' => e = .returned (.tuple #[.string (Em.bts (Em.val ⟨nm, 3, tx, nu, bs⟩)), .int .i64 0]) ∧ Below w.heap.size w w' := by
  obtain ⟨W0, hW0⟩ : ∃ W, w.alloc (.cells #[.string nm, .int .u8 3, .string tx, .int .u32 nu, .string bs] 28) = W := ⟨_, rfl⟩
  have HB0 : Hid (Below w.heap.size w W0) := by show Below _ _ _; rw [← hW0]; exact Hv.bl1 _ _
  have HA0 : Hid (At W0 w.heap.size [.string nm, .int .u8 3, .string tx, .int .u32 nu, .string bs]) := by show At _ _ _; rw [← hW0]; exact At.new _ _ _
  have HW0 := Lib.hid hW0
  clear hW0
  have hql := Em.quote_len (tl nm)
  rw [tl_length] at hql
  obtain ⟨X, hX⟩ : ∃ X, Em.bts (Em.val ⟨nm, 3, tx, nu, bs⟩) = X := ⟨_, rfl⟩
  rw [hX]
  obtain ⟨Q, hQ⟩ : ∃ Q, Em.bts (Em.quote (tl nm)) = Q := ⟨_, rfl⟩
  obtain ⟨Q1, hQ1⟩ : ∃ Q1, Em.bts (Em.quote (tl nm) ++ [61]) = Q1 := ⟨_, rfl⟩
  have s1 : ∀ W, (Op.stringOp .add Q ⟨#[61]⟩).run Tryd.prog W = .ok (.string Q1) W := fun W => by rw [← hQ, ← hQ1]; exact R5.add_bts _ [61] (by simp only [List.length_cons, List.length_nil]; omega) W
  have HQn := Lib.hid (fun W => quote5_any nm (by omega) W)
  rw [hQ] at HQn
  obtain ⟨B0, hB0⟩ : ∃ Q, Em.bts (R5.base nm) = Q := ⟨_, rfl⟩
  have s2 : ∀ W, (Op.stringOp .add Q1 ⟨#[98, 121, 116, 101, 115, 58]⟩).run Tryd.prog W = .ok (.string B0) W := fun W => by rw [← hQ1, ← hB0]; exact R5.add_bts _ [98, 121, 116, 101, 115, 58] (by rw [List.length_append]; simp only [List.length_cons, List.length_nil]; omega) W
  have hbl : (R5.base nm).length ≤ 300 := by unfold R5.base; rw [List.length_append, List.length_append]; simp only [List.length_cons, List.length_nil]; omega
  have HX : Hid (X = Em.bts (R5.base nm ++ R5.bx 0 (tl bs))) := by show _ = _; rw [← hX, R5.base_val]
  have HBb := Lib.hid hB0
  have HBl := Lib.hid hbl
  clear hX hQ hQ1 hB0 hql hbl
  go_enter Tryd.func10, Tryd.ntmps10
  go_wp2_with fail
  rw [HW0.out]
  refine (HCv.out _).mono ?_
  rintro e w1 ⟨rfl, hb⟩
  have HB1 := Lib.hid (below_then HB0.out hb)
  have HA1 := Lib.hid (HA0.out.call hb)
  clear hb
  have c0 := HA1.out.cell 0 _ rfl
  have c1 := HA1.out.cell 1 _ rfl
  have c2 := HA1.out.cell 2 _ rfl
  have c3 := HA1.out.cell 3 _ rfl
  have c4 := HA1.out.cell 4 _ rfl
  have cl := HA1.out.lt
  go_wp2_with fail
  refine (HQn.out _).mono ?_
  rintro e w2 ⟨rfl, hb⟩
  have HB2 := Lib.hid (below_then HB1.out hb)
  have HA2 := Lib.hid (HA1.out.call hb)
  clear hb c0 c1 c2 c3 c4 cl
  have c0 := HA2.out.cell 0 _ rfl
  have c1 := HA2.out.cell 1 _ rfl
  have c2 := HA2.out.cell 2 _ rfl
  have c3 := HA2.out.cell 3 _ rfl
  have c4 := HA2.out.cell 4 _ rfl
  have cl := HA2.out.lt
  go_wp2_with fail
  clear s1 s2 c0 c1 c2 c3 c4 cl
  go_loopw [4, 5] (fun v i wr => ∃ (k : Nat) (O : ByteArray), k ≤ bs.size ∧ i = .int .i64 (k : Int) ∧ v = .string O ∧ Hid (O = Em.bts (R5.base nm ++ R5.bx 0 ((tl bs).take k))) ∧ Hid (Below w.heap.size w wr) ∧ Hid (At wr w.heap.size [.string nm, .int .u8 3, .string tx, .int .u32 nu, .string bs])) (fun _ i _ => bs.size - (intOf i).toNat)
  case atStart => exact ⟨0, B0, Nat.zero_le _, rfl, rfl, by show _ = _; rw [← HBb.out, List.take_zero, R5.bx, List.append_nil], HB2.out, HA2.out⟩
  case round =>
    obtain ⟨k, O, hk, rfl, rfl, HO, HBr, HAr⟩ := hrel
    have c0 := HAr.out.cell 0 _ rfl
    have c1 := HAr.out.cell 1 _ rfl
    have c2 := HAr.out.cell 2 _ rfl
    have c3 := HAr.out.cell 3 _ rfl
    have c4 := HAr.out.cell 4 _ rfl
    have cl := HAr.out.lt
    by_cases hlt : k < bs.size
    · have q1 : (0 : Int) ≤ (k : Int) := by omega
      have q2 : (k : Int) < (bs.size : Int) := by omega
      have q3 : (k : Int) + 1 ≤ (bs.size : Int) := by omega
      have q4 : ((k : Int) + 1).toNat = k + 1 := by omega
      have q5 : (k : Int) ≤ (k : Int) + 1 := by omega
      obtain ⟨b, hb⟩ : ∃ b, bs[k]'hlt = b := ⟨_, rfl⟩
      have HBx := Lib.hid (R5.bx_next (tl bs) k b (Em.byte_at bs k hlt b hb))
      obtain ⟨P, hP⟩ : ∃ P, bs.extract k (k + 1) = P := ⟨_, rfl⟩
      have hPb : P = Em.bts [b] := by rw [← hP, R5.byte_cut bs k hlt, hb]
      have hHc := fun W => hex3_any P (by rw [hPb, Em.bts_size]; simp) W
      rw [hPb, Em.tl_bts] at hHc
      rw [← hPb] at hHc
      obtain ⟨H, hH⟩ : ∃ H, Em.bts (Em.hexs [b]) = H := ⟨_, rfl⟩
      rw [hH] at hHc
      have HHc := Lib.hid hHc
      have HHx : Hid (H = Em.bts (Em.hexb b)) := by show _ = _; rw [← hH]; simp [Em.hexs]
      have HLn : Hid ((R5.base nm ++ R5.bx 0 ((tl bs).take k)).length ≤ 1000000) := by
        show _ ≤ _
        have h1 := HBl.out
        have h2 := R5.bx_len (tl bs) k
        rw [tl_length] at h2
        rw [List.length_append]
        omega
      clear hHc hPb hH hb
      by_cases h0 : k = 0
      · have t0 : ¬ (0 : Int) < (k : Int) := by omega
        obtain ⟨O9, hO9⟩ : ∃ O9, Em.bts (R5.base nm ++ R5.bx 0 ((tl bs).take k) ++ Em.hexb b) = O9 := ⟨_, rfl⟩
        have s9 : ∀ W, (Op.stringOp .add O H).run Tryd.prog W = .ok (.string O9) W := fun W => by rw [HO.out, HHx.out, ← hO9]; exact R5.add_bts _ _ (by have := HLn.out; simp only [List.length_append, Em.hexb_len] at this ⊢; omega) W
        have HN9 : Hid (O9 = Em.bts (R5.base nm ++ R5.bx 0 ((tl bs).take (k + 1)))) := by
          show _ = _
          rw [HBx.out, ← hO9]
          unfold R5.sepx
          rw [if_pos h0]
          simp only [List.append_assoc, List.nil_append]
        clear hO9 h0
        go_wp2_with fail
        refine (HHc.out _).mono ?_
        rintro e w4 ⟨rfl, hb4⟩
        have HB4 := Lib.hid (below_then HBr.out hb4)
        have HA4 := Lib.hid (HAr.out.call hb4)
        clear hb4 c0 c1 c2 c3 c4 cl
        go_wp2
        go_roundw
        case rel => exact ⟨k + 1, O9, by omega, by go_num, rfl, HN9.out, HB4.out, HA4.out⟩
        case measure => simp [intOf]; omega
      · have t0 : (0 : Int) < (k : Int) := by omega
        obtain ⟨m, hm⟩ : ∃ m, k % 20 = m := ⟨_, rfl⟩
        have em : (k : Int) % 20 = (m : Int) := by omega
        by_cases h20 : k % 20 = 0
        · have t1 : ((m : Int) == 0) = true := by rw [beq_iff_eq]; omega
          have hm0 : m = 0 := by omega
          clear hm
          subst hm0
          obtain ⟨O1, hO1⟩ : ∃ O1, Em.bts (R5.base nm ++ R5.bx 0 ((tl bs).take k) ++ [44]) = O1 := ⟨_, rfl⟩
          have s2 : ∀ W, (Op.stringOp .add O ⟨#[44]⟩).run Tryd.prog W = .ok (.string O1) W := fun W => by rw [HO.out, ← hO1]; exact R5.add_bts _ [44] (by have := HLn.out; simp only [List.length_cons, List.length_nil]; omega) W
          obtain ⟨O2, hO2⟩ : ∃ O2, Em.bts (R5.base nm ++ R5.bx 0 ((tl bs).take k) ++ [44] ++ [92, 10, 32, 32]) = O2 := ⟨_, rfl⟩
          have s3 : ∀ W, (Op.stringOp .add O1 ⟨#[92, 10, 32, 32]⟩).run Tryd.prog W = .ok (.string O2) W := fun W => by rw [← hO1, ← hO2]; exact R5.add_bts _ [92, 10, 32, 32] (by have := HLn.out; rw [List.length_append]; simp only [List.length_cons, List.length_nil]; omega) W
          obtain ⟨O9, hO9⟩ : ∃ O9, Em.bts (R5.base nm ++ R5.bx 0 ((tl bs).take k) ++ [44] ++ [92, 10, 32, 32] ++ Em.hexb b) = O9 := ⟨_, rfl⟩
          have s9 : ∀ W, (Op.stringOp .add O2 H).run Tryd.prog W = .ok (.string O9) W := fun W => by rw [← hO2, HHx.out, ← hO9]; exact R5.add_bts _ _ (by have := HLn.out; simp only [List.length_append, Em.hexb_len, List.length_cons, List.length_nil] at this ⊢; omega) W
          have HN9 : Hid (O9 = Em.bts (R5.base nm ++ R5.bx 0 ((tl bs).take (k + 1)))) := by
            show _ = _
            rw [HBx.out, ← hO9]
            unfold R5.sepx
            rw [if_neg h0, if_pos h20]
            simp only [List.append_assoc, List.nil_append, Em.go, List.cons_append]
          clear hO1 hO2 hO9 h0 h20
          go_wp2_with fail
          refine (HHc.out _).mono ?_
          rintro e w4 ⟨rfl, hb4⟩
          have HB4 := Lib.hid (below_then HBr.out hb4)
          have HA4 := Lib.hid (HAr.out.call hb4)
          clear hb4 c0 c1 c2 c3 c4 cl
          go_wp2
          go_roundw
          case rel => exact ⟨k + 1, O9, by omega, by go_num, rfl, HN9.out, HB4.out, HA4.out⟩
          case measure => simp [intOf]; omega
        · have t1 : ((m : Int) == 0) = false := by rw [beq_eq_false_iff_ne]; omega
          clear hm
          obtain ⟨O1, hO1⟩ : ∃ O1, Em.bts (R5.base nm ++ R5.bx 0 ((tl bs).take k) ++ [44]) = O1 := ⟨_, rfl⟩
          have s2 : ∀ W, (Op.stringOp .add O ⟨#[44]⟩).run Tryd.prog W = .ok (.string O1) W := fun W => by rw [HO.out, ← hO1]; exact R5.add_bts _ [44] (by have := HLn.out; simp only [List.length_cons, List.length_nil]; omega) W
          obtain ⟨O9, hO9⟩ : ∃ O9, Em.bts (R5.base nm ++ R5.bx 0 ((tl bs).take k) ++ [44] ++ Em.hexb b) = O9 := ⟨_, rfl⟩
          have s9 : ∀ W, (Op.stringOp .add O1 H).run Tryd.prog W = .ok (.string O9) W := fun W => by rw [← hO1, HHx.out, ← hO9]; exact R5.add_bts _ _ (by have := HLn.out; simp only [List.length_append, Em.hexb_len, List.length_cons, List.length_nil] at this ⊢; omega) W
          have HN9 : Hid (O9 = Em.bts (R5.base nm ++ R5.bx 0 ((tl bs).take (k + 1)))) := by
            show _ = _
            rw [HBx.out, ← hO9]
            unfold R5.sepx
            rw [if_neg h0, if_neg h20]
            simp only [List.append_assoc]
          clear hO1 hO9 h0 h20
          go_wp2_with fail
          refine (HHc.out _).mono ?_
          rintro e w4 ⟨rfl, hb4⟩
          have HB4 := Lib.hid (below_then HBr.out hb4)
          have HA4 := Lib.hid (HAr.out.call hb4)
          clear hb4 c0 c1 c2 c3 c4 cl
          go_wp2
          go_roundw
          case rel => exact ⟨k + 1, O9, by omega, by go_num, rfl, HN9.out, HB4.out, HA4.out⟩
          case measure => simp [intOf]; omega
    · have q2 : ¬ (k : Int) < (bs.size : Int) := by omega
      have hOX : O = X := by
        rw [HO.out, HX.out, List.take_of_length_le (by rw [tl_length]; omega)]
      subst hOX
      go_wp2
      go_ret2
      exact ⟨rfl, HBr.out⟩
theorem value5_any (v : Hv.V) (h1 : v.name.size ≤ 1000000) (h2 : v.text.size ≤ 1000000) (h3 : v.bytes.size ≤ 1000000) (ho : v.Ok) (w : World) :
    Calls Tryd.prog 10 #[.agg #[.string v.name, .int .u8 v.kind, .string v.text, .int .u32 v.num, .string v.bytes]] w fun e w' => e = .returned (if Hv.valB v = true then .tuple #[.string (Em.bts (Em.val v)), .int .i64 0] else .tuple #[.string ⟨#[]⟩, .int .i64 2]) ∧ Below w.heap.size w w' := by
  have hC := fun W => r4val_any v h1 h2 h3 W
  unfold Hv.V.v at hC
  cases hv : Hv.valB v with
  | false =>
    rw [hv] at hC
    rw [if_neg (by decide)]
    exact value5_bad v.name v.kind v.text v.num v.bytes w (Lib.hid hC)
  | true =>
    rw [hv] at hC
    rw [if_pos rfl]
    obtain ⟨g1, g2, g3, g4, _⟩ := Em.val_small hv
    have hn0 := ho.n0
    have hn1 := ho.n1
    obtain ⟨nm, kd, tx, nu, bs⟩ := v
    simp only at hC g1 g2 g3 g4 hn0 hn1 ⊢
    rcases g4 with rfl | rfl | rfl
    · exact value5_text nm tx nu bs g1 g2 w (Lib.hid hC)
    · obtain ⟨n, rfl⟩ : ∃ n : Nat, nu = (n : Int) := ⟨nu.toNat, by omega⟩
      exact value5_num nm tx n bs g1 (by omega) w (Lib.hid hC)
    · exact value5_bytes nm tx nu bs g1 g3 w (Lib.hid hC)
end Go.Proofs.YteacncdpjbcinaaDoor
