/- strconv.FormatUint at base 16: a number's digits; emit.number. -/
import Derived.Test.YteacncdpjbcinaaDoorEmPlain
import Derived.Deep.QuietTactic
import Derived.Deep.DeepMust
import Derived.Lib.UnsafeStr
namespace Go.Proofs.YteacncdpjbcinaaDoor
open Go.RowKit

namespace Em
theorem and15 (m : Nat) (h : m < 18446744073709551616) : bits .and .u64 (m : Int) 15 = ((m % 16 : Nat) : Int) := by
  have e : (BitVec.ofInt 64 (m : Int) &&& BitVec.ofInt 64 (15 : Int)).toNat = m % 16 := by
    rw [BitVec.toNat_and]
    have e1 : (BitVec.ofInt 64 (m : Int)).toNat = m := by rw [BitVec.toNat_ofInt]; omega
    have e2 : (BitVec.ofInt 64 (15 : Int)).toNat = 2 ^ 4 - 1 := by decide
    rw [e1, e2, Nat.and_two_pow_sub_one_eq_mod]
  show IntKind.u64.wrap (((BitVec.ofInt 64 (m : Int) &&& BitVec.ofInt 64 (15 : Int)).toNat : Nat) : Int) = _
  rw [e]
  exact IntWalk.u64_in _ (by omega)
/-- The digits of all bases. -/
def dg : ByteArray := ⟨#[48, 49, 50, 51, 52, 53, 54, 55, 56, 57, 97, 98, 99, 100, 101, 102, 103, 104, 105, 106, 107, 108, 109, 110, 111, 112, 113, 114, 115, 116, 117, 118, 119, 120, 121, 122]⟩
theorem dg_hex (x : Nat) (h : x < 16) (h' : x < dg.size) : (dg[x]'h') = hexd x := by
  have : ∀ x : Fin 16, dg.data[x.val]? = some (hexd x.val) := by decide +kernel
  have h2 := this ⟨x, h⟩
  have h3 : dg.data[x]? = some (dg[x]'h') := by
    show _ = some (dg.data[x]'h')
    exact Array.getElem?_eq_getElem h'
  rw [h3] at h2
  exact Option.some.inj h2
theorem drop_set {l : List Value} {p : Nat} (v : Value) (h : p < l.length) : (l.set p v).drop p = v :: l.drop (p + 1) := by
  rw [List.drop_eq_getElem_cons (by simpa using h), List.getElem_set_self, List.drop_set_of_lt (Nat.lt_succ_self p)]
end Em
/-- What the table of the library says. -/
structure Wh (w : World) : Prop where
  t : w.cell? ⟨3, 15, none⟩ = some (.int .u8 4)
theorem Wh.below {w w' : World} (h : Wh w) (hb : Below w.heap.size w w') : Wh w' :=
  ⟨(hb.cell (p := ⟨_, 15, none⟩) (block_lt_of_cell h.t)).trans h.t⟩
theorem Wh.below' {w w' : World} {B : Nat} (h : Wh w) (hb : Below B w w') (hB : 3 < B) : Wh w' :=
  ⟨(hb.cell (p := ⟨_, 15, none⟩) hB).trans h.t⟩
set_option maxHeartbeats 2000000 in
set_option maxRecDepth 100000 in
theorem trail16 (w : World) (hW : Wh w) : Calls Tryd.prog 73 #[.int .u64 16] w fun e w' => e = .returned (.int .i64 4) ∧ Drew w w' := by
  have ht := hW.t
  have e1 : IntKind.u64.wrap (-16) = 18446744073709551600 := by decide +kernel
  have e2 : bits .and .u64 16 18446744073709551600 = 16 := by decide +kernel
  have e3 : IntKind.u64.wrap (16 * 285870213051353865) = 4573923408821661840 := by decide +kernel
  go_enter Tryd.func73, Tryd.ntmps73
  go_wp2
  go_ret
  exact ⟨rfl, Drew.refl _⟩
theorem pow16 (w : World) : Calls Tryd.prog 62 #[.int .i64 16] w fun e w' => e = .returned (.bool true) ∧ Drew w w' := by
  have e1 : bits .and .i64 16 15 = 0 := by decide +kernel
  go_enter Tryd.func62, Tryd.ntmps62
  go_wp2
  go_ret
  exact ⟨rfl, Drew.refl _⟩
set_option maxHeartbeats 2000000 in
set_option maxRecDepth 100000 in
theorem trail (w : World) (hW : Wh w) : Calls Tryd.prog 63 #[.int .u64 16] w fun e w' => e = .returned (.int .i64 4) ∧ Drew w w' := by
  have HT := Lib.hid (fun W hW => trail16 W hW)
  go_enter Tryd.func63, Tryd.ntmps63
  go_wp2_with (refine (HT.out _ hW).mono ?_; rintro e w' ⟨rfl, hd⟩)
  go_ret
  exact ⟨rfl, hd⟩
theorem Wh.drew {w w' : World} (h : Wh w) (hd : Drew w w') : Wh w' := h.below (hd.below _)
theorem slice65 (g p : Nat) (h1 : 1 ≤ p) (h2 : p ≤ 64) (W : World) : (Instr.sliceAt 101 (.pointer (some ⟨g, 0, none⟩)) (some (.int .i64 (p : Int))) none none).run Tryd.prog W = .ok (.slice (some ⟨g, p, none⟩) (65 - p) (65 - p)) W := by
  have hl : Tryd.prog.arrayLen 101 = 65 := by kernel_rfl
  have hs : (sizeOf (Tryd.prog.elem 101)).run Tryd.prog W = .ok 1 W := by kernel_rfl
  rw [run_sliceAt_array_l W 101 ⟨g, 0, none⟩ (by kernel_rfl) .i64 (p : Int) (by omega) (by rw [hl]; omega), hs, hl]
  show Result.ok (slicedAt ⟨g, 0, none⟩ (p : Int).toNat 65 65 1) W = _
  unfold slicedAt Addr.add
  rw [Int.toNat_natCast, if_neg (by omega), if_neg (by omega)]
  simp
set_option maxHeartbeats 4000000 in
set_option maxRecDepth 100000 in
theorem fbits (n : Nat) (hn : n < 4294967296) (w : World) (hW : Wh w) :
    Calls Tryd.prog 49 #[.slice none 0 0, .int .u64 n, .int .i64 16, .bool false, .bool false] w fun e w' => e = .returned (.tuple #[.slice none 0 0, .string (Em.bts (Em.digs 7 n []))]) ∧ Below w.heap.size w w' := by
  have HT := Lib.hid (fun W hW => trail W hW)
  have HP := Lib.hid pow16
  have HW := Lib.hid hW
  clear hW
  obtain ⟨D, hD⟩ : ∃ D, Em.digs 7 n [] = D := ⟨_, rfl⟩
  rw [hD]
  have HD := Lib.hid hD
  obtain ⟨g, hg⟩ : ∃ g, w.heap.size = g := ⟨_, rfl⟩
  obtain ⟨W0, hW0⟩ : ∃ W, w.alloc (.cells Tryd.zeroCells101 101) = W := ⟨_, rfl⟩
  have HB0 : Hid (Below w.heap.size w W0) := by show Below _ _ _; rw [← hW0]; exact Hv.bl1 _ _
  have HA0 : Hid (At W0 g Tryd.zeroCells101.toList) := by show At _ _ _; rw [← hW0, ← hg]; exact At.new _ _ _
  have hz : Tryd.zeroCells101.toList.length = 65 := by kernel_rfl
  have HZ := Lib.hid hz
  have HW0 := Lib.hid hW0
  have HG := Lib.hid hg
  clear hD hg hW0 hz
  go_enter Tryd.func49, Tryd.ntmps49
  go_wp2_with fail
  rw [HW0.out, HG.out]
  refine (HP.out _).mono ?_
  rintro e w1 ⟨rfl, hd1⟩
  have HB1 := Lib.hid (HB0.out.trans (hd1.below _))
  have HA1 := Lib.hid (HA0.out.drew hd1)
  clear hd1
  go_wp2_with fail
  refine (HT.out _ (HW.out.below HB1.out)).mono ?_
  rintro e w2 ⟨rfl, hd2⟩
  have HB2 := Lib.hid (HB1.out.trans (hd2.below _))
  have HA2 := Lib.hid (HA1.out.drew hd2)
  clear hd2
  go_wp2_with fail
  go_loopw [1, 13] (fun u i wr => ∃ (k m p : Nat) (acc : Em.Txt), u = .int .u64 (m : Int) ∧ i = .int .i64 ((p : Int) + 1) ∧ k + p = 64 ∧ k ≤ 7 ∧ Hid (m < 16 ^ (8 - k)) ∧ Hid (Em.digs (7 - k) m acc = D) ∧ Hid (acc.length = k) ∧ Hid (∃ cs, At wr g cs ∧ cs.length = 65 ∧ cs.drop (p + 1) = Lib.byteCells acc) ∧ Hid (Below w.heap.size w wr)) (fun u _ _ => (intOf u).toNat)
  case atStart => exact ⟨0, n, 64, [], rfl, rfl, by omega, by omega, by show n < 16 ^ 8; omega, HD.out, rfl, ⟨_, HA2.out, HZ.out, by rw [List.drop_eq_nil_of_le (by rw [HZ.out]; omega)]; rfl⟩, HB2.out⟩
  case round =>
    obtain ⟨k, m, p, acc, rfl, rfl, hkp, hk, HM, HDg, HL, HC, HB⟩ := hrel
    obtain ⟨cs, hA, hcl, hcd⟩ := HC.out
    have hm16 : m < 4294967296 := Nat.lt_of_lt_of_le HM.out (show 16 ^ (8 - k) ≤ 16 ^ 8 from Nat.pow_le_pow_right (by omega) (by omega))
    have w1 : IntKind.i64.wrap ((p : Int) + 1 - 1) = (p : Int) := by rw [IntKind.wrap_i64]; omega
    have w2 : wrap64 ((p : Int) + 1 - 1) = (p : Int) := by unfold wrap64; omega
    have p0 : (0 : Int) ≤ (p : Int) := by omega
    have p1 : (p : Int) < 65 := by omega
    have hpl : p < cs.length := by omega
    obtain ⟨u0, hu0⟩ : ∃ u, cs[p]? = some u := ⟨_, List.getElem?_eq_getElem hpl⟩
    have s0 := hA.cell p _ hu0
    have s1 := hA.free p _ hu0
    have HAt := Lib.hid hA
    have HCl := Lib.hid hcl
    have HCd := Lib.hid hcd
    have HGb : Hid (w.heap.size ≤ g) := Nat.le_of_eq HG.out
    by_cases h16 : 16 ≤ m
    · have q1 : (16 : Int) ≤ (m : Int) := by omega
      have hand := Em.and15 m (by omega)
      have hk6 : k ≤ 6 := by
        rcases Nat.lt_or_ge k 7 with h | h
        · omega
        · have h7 : k = 7 := by omega
          have := HM.out
          rw [h7] at this
          omega
      have HM2 : Hid (m / 16 < 16 ^ (8 - (k + 1))) := by
        show _ < _
        have h := HM.out
        rw [show 8 - k = (8 - (k + 1)) + 1 by omega, Nat.pow_succ] at h
        exact Nat.div_lt_of_lt_mul (by rw [Nat.mul_comm]; exact h)
      have hdg := HDg.out
      rw [show 7 - k = (7 - (k + 1)) + 1 by omega] at hdg
      unfold Em.digs at hdg
      rw [if_pos h16] at hdg
      obtain ⟨x, hx⟩ : ∃ x, m % 16 = x := ⟨_, rfl⟩
      rw [hx] at hand hdg
      have x0 : (0 : Int) ≤ (x : Int) := by omega
      have x1 : (x : Int) < 36 := by omega
      have x2 : x < 16 := by omega
      have HD2 := Lib.hid hdg
      have HX := Lib.hid (fun h => Em.dg_hex x x2 h)
      have HMi : Hid ((m : Int) / 16 = ((m / 16 : Nat) : Int)) := by show _ = _; omega
      have HPi : Hid ((p : Int) = (((p - 1 : Nat)) : Int) + 1) := by show _ = _; omega
      have hmd : m / 16 < m := Nat.div_lt_self (by omega) (by omega)
      clear hx hdg hA hcl hcd hu0 hpl
      go_wp2_with fail
      go_roundw
      case rel =>
        refine ⟨k + 1, m / 16, p - 1, Em.hexd x :: acc, congrArg (Value.int .u64) HMi.out, congrArg (Value.int .i64) HPi.out, by omega, by omega, HM2.out, HD2.out, by show _ = _; rw [List.length_cons, HL.out], ⟨_, HAt.out.set p _, by rw [List.length_set]; exact HCl.out, ?_⟩, HB.out.setCell HGb.out _⟩
        rw [show p - 1 + 1 = p by omega, Em.drop_set _ (by rw [HCl.out]; omega), HCd.out]
        exact congrArg (fun b : UInt8 => Value.int .u8 (b.toNat : Int) :: Lib.byteCells acc) (HX.out _)
      case measure => rw [HMi.out]; simp only [intOf, Int.toNat_natCast]; exact hmd
    · have q1 : ¬ (16 : Int) ≤ (m : Int) := by omega
      have hdg := HDg.out
      have hdn : Em.digs (7 - k) m acc = Em.hexd m :: acc := by
        cases hq : 7 - k with
        | zero => rfl
        | succ j => unfold Em.digs; rw [if_neg h16]
      rw [hdn] at hdg
      have x0 : (0 : Int) ≤ (m : Int) := by omega
      have x1 : (m : Int) < 36 := by omega
      have x2 : m < 16 := by omega
      have hms : m < Em.dg.size := by show m < 36; omega
      have hsl := slice65 g p (by omega) (by omega)
      have HDl : Hid (D.length = 65 - p) := by show _ = _; rw [← hdg, List.length_cons, HL.out]; omega
      have HD2 := Lib.hid hdg
      have hcv : ∀ cb : UInt8, cb = Em.hexd m → (convert 43 9 (.slice (some ⟨g, p, none⟩) (65 - p) (65 - p))).run Tryd.prog (wr.setCell ⟨g, p, none⟩ (.int .u8 (cb.toNat : Int))) = .ok (.string (Em.bts D)) (wr.setCell ⟨g, p, none⟩ (.int .u8 (cb.toNat : Int))) := by
        intro cb hcb
        rw [hcb]
        have h := run_convert_bytes_back (P := Tryd.prog) (wr.setCell ⟨g, p, none⟩ (.int .u8 ((Em.hexd m).toNat : Int))) 43 9 5 ⟨g, p, none⟩ (65 - p) D Tryd.underlying43 Tryd.underlying5 Tryd.underlying9 ?_
        · rw [HDl.out] at h
          exact h
        · intro j hj
          have h2 := (hA.set p (.int .u8 ((Em.hexd m).toNat : Int))).cell (p + j) (.int .u8 (D[j].toNat : Int)) (by
            rw [← List.getElem?_drop, Em.drop_set _ hpl, hcd]
            show (Lib.byteCells (Em.hexd m :: acc))[j]? = _
            subst hdg
            unfold Lib.byteCells
            rw [List.getElem?_map, List.getElem?_eq_getElem hj]
            rfl)
          rw [← h2]
          congr 1
          unfold Addr.add
          split <;> simp_all
      have HCv := Lib.hid hcv
      clear hcv hdg hdn hA hcl hcd hu0 hpl
      go_wp2_with fail
      rw [HCv.out]
      rotate_left
      · exact Em.dg_hex m x2 hms
      clear HCv hsl
      go_wp2_with fail
      go_ret2
      exact ⟨rfl, HB.out.setCell HGb.out _⟩
theorem fuint_in (n : Nat) (hn : n < 4294967296) (w : World) (hW : Wh w) :
    Calls Tryd.prog 40 #[.int .u64 n, .int .i64 16] w fun e w' => e = .returned (.string (Em.bts (Em.digs 7 n []))) ∧ Below w.heap.size w w' := by
  have HF := Lib.hid (fbits n hn w hW)
  clear hW
  go_enter Tryd.func40, Tryd.ntmps40
  go_wp2_with (refine HF.out.mono ?_; rintro e w1 ⟨rfl, hb⟩)
  go_ret
  exact ⟨rfl, hb⟩
theorem fuint (n : Nat) (hn : n < 4294967296) (w : World) (hW : Wh w) :
    Calls Tryd.prog 33 #[.int .u64 n, .int .i64 16] w fun e w' => e = .returned (.string (Em.bts (Em.digs 7 n []))) ∧ Below w.heap.size w w' := by
  have HF := Lib.hid (fuint_in n hn w hW)
  clear hW
  go_enter Tryd.func33, Tryd.ntmps33
  go_wp2_with (refine HF.out.mono ?_; rintro e w1 ⟨rfl, hb⟩)
  go_ret
  exact ⟨rfl, hb⟩
namespace Em
theorem bts_app (a b : Txt) : bts a ++ bts b = bts (a ++ b) := by
  apply ByteArray.ext
  unfold bts
  simp
theorem noughts (l : Txt) (h : l.length ≤ 8) : (⟨#[48, 48, 48, 48, 48, 48, 48, 48]⟩ : ByteArray).extract (bts l).size 8 ++ bts l = bts (List.replicate (8 - l.length) 48 ++ l) := by
  have hx : ∀ k : Fin 9, (⟨#[48, 48, 48, 48, 48, 48, 48, 48]⟩ : ByteArray).extract k.val 8 = bts (List.replicate (8 - k.val) 48) := by
    intro k
    apply ByteArray.ext
    revert k
    decide +kernel
  have h2 := hx ⟨l.length, by omega⟩
  simp only at h2
  rw [bts_size, h2, bts_app]
end Em
set_option maxHeartbeats 2000000 in
theorem number_any (n : Nat) (hn : n < 4294967296) (w : World) (hW : Wh w) :
    Calls Tryd.prog 25 #[.int .u32 n] w fun e w' => e = .returned (.string (Em.bts (Em.num n))) ∧ Below w.heap.size w w' := by
  have HF := Lib.hid (fuint n hn w hW)
  have hl := Em.digs_len 7 n []
  obtain ⟨D, hD⟩ : ∃ D, Em.bts (Em.digs 7 n []) = D := ⟨_, rfl⟩
  have hs : D.size ≤ 8 := by rw [← hD, Em.bts_size]; simpa using hl
  rw [hD] at HF
  have HD := Lib.hid hD
  have q1 : (D.size : Int) ≤ 8 := by omega
  have q0 : (0 : Int) ≤ (D.size : Int) := by omega
  clear hW hl hD
  go_enter Tryd.func25, Tryd.ntmps25
  go_wp2_with (refine HF.out.mono ?_; rintro e w1 ⟨rfl, hb⟩)
  go_ret
  refine ⟨?_, hb⟩
  show Ending.returned (Value.string (_ ++ D)) = _
  rw [← HD.out, Em.noughts _ (by simpa using Em.digs_len 7 n [])]
  rfl
end Go.Proofs.YteacncdpjbcinaaDoor
