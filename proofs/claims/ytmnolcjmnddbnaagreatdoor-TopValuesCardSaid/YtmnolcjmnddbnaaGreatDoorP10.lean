/- strconv.FormatUint at base 16: a number's digits; emit.number. -/
import Derived.Test.YtmnolcjmnddbnaaGreatDoorP01
import Derived.Deep.QuietTactic
import Derived.Deep.DeepMust
import Derived.Lib.UnsafeStr
import Derived.RangeFuncNested
import Derived.RangeFuncBound
import Derived.RangeFuncCalls
import Derived.RangeFuncLeaves
import Derived.Shelf.Abstract
import Derived.Shelf.AbstractIn
import Derived.Shelf.RegionOpen
import Derived.OwnWalkIn
import Derived.TacticsInMore
import Derived.LoopNIn
import Derived.LoopIn
import Derived.Test.YtmnolcjmnddbnaaGreatDoorP09
import Derived.Test.YtmnolcjmnddbnaaGreatDoorP05
import Derived.Test.YtmnolcjmnddbnaaGreatDoorP04
import Derived.Laws.EntriesVeiled

namespace Go.Proofs.YtmnolcjmnddbnaaGreatDoor
open Go.RowKit

namespace Em
theorem and15 (m : Nat) (h : m < 18446744073709551616) : bits .and .u64 (m : Int) 15 = ((m % 16 : Nat) : Int) := by
  have e : (BitVec.ofInt 64 (m : Int) &&& BitVec.ofInt 64 (15 : Int)).toNat = m % 16 := by
    rw [BitVec.toNat_and]
    have e1 : (BitVec.ofInt 64 (m : Int)).toNat = m := by rw [BitVec.toNat_ofInt]; omega
    have e2 : (BitVec.ofInt 64 (15 : Int)).toNat = 2 ^ 4 - 1 := by decide
    rw [e1, e2, Nat.and_two_pow_sub_one_eq_mod]
  show IntKind.u64.wrap (((BitVec.ofInt 64 (m : Int) &&& BitVec.ofInt 64 (15 : Int)).toNat : Nat) : Int) = _
  rw [e]
  exact IntWalk.u64_in _ (by omega)
/-- The digits of all bases. -/
def dg : ByteArray := ⟨#[48, 49, 50, 51, 52, 53, 54, 55, 56, 57, 97, 98, 99, 100, 101, 102, 103, 104, 105, 106, 107, 108, 109, 110, 111, 112, 113, 114, 115, 116, 117, 118, 119, 120, 121, 122]⟩
theorem dg_hex (x : Nat) (h : x < 16) (h' : x < dg.size) : (dg[x]'h') = hexd x := by
  have : ∀ x : Fin 16, dg.data[x.val]? = some (hexd x.val) := by decide +kernel
  have h2 := this ⟨x, h⟩
  have h3 : dg.data[x]? = some (dg[x]'h') := by
    show _ = some (dg.data[x]'h')
    exact Array.getElem?_eq_getElem h'
  rw [h3] at h2
  exact Option.some.inj h2
theorem drop_set {l : List Value} {p : Nat} (v : Value) (h : p < l.length) : (l.set p v).drop p = v :: l.drop (p + 1) := by
  rw [List.drop_eq_getElem_cons (by simpa using h), List.getElem_set_self, List.drop_set_of_lt (Nat.lt_succ_self p)]
end Em
/-- What the table of the library says. -/
structure Wh (w : World) : Prop where
  t : w.cell? ⟨7, 15, none⟩ = some (.int .u8 4)
theorem Wh.below {w w' : World} (h : Wh w) (hb : Below w.heap.size w w') : Wh w' :=
  ⟨(hb.cell (p := ⟨_, 15, none⟩) (block_lt_of_cell h.t)).trans h.t⟩
theorem Wh.below' {w w' : World} {B : Nat} (h : Wh w) (hb : Below B w w') (hB : 7 < B) : Wh w' :=
  ⟨(hb.cell (p := ⟨_, 15, none⟩) hB).trans h.t⟩
set_option maxHeartbeats 2000000 in
set_option maxRecDepth 100000 in
theorem trail16 (w : World) (hW : Wh w) : Calls Tryz.prog 112 #[.int .u64 16] w fun e w' => e = .returned (.int .i64 4) ∧ Drew w w' := by
  have ht := hW.t
  have e1 : IntKind.u64.wrap (-16) = 18446744073709551600 := by decide +kernel
  have e2 : bits .and .u64 16 18446744073709551600 = 16 := by decide +kernel
  have e3 : IntKind.u64.wrap (16 * 285870213051353865) = 4573923408821661840 := by decide +kernel
  go_enter Tryz.func112, Tryz.ntmps112
  go_wp2
  go_ret
  exact ⟨rfl, Drew.refl _⟩
theorem pow16 (w : World) : Calls Tryz.prog 104 #[.int .i64 16] w fun e w' => e = .returned (.bool true) ∧ Drew w w' := by
  have e1 : bits .and .i64 16 15 = 0 := by decide +kernel
  go_enter Tryz.func104, Tryz.ntmps104
  go_wp2
  go_ret
  exact ⟨rfl, Drew.refl _⟩
set_option maxHeartbeats 2000000 in
set_option maxRecDepth 100000 in
theorem trail (w : World) (hW : Wh w) : Calls Tryz.prog 105 #[.int .u64 16] w fun e w' => e = .returned (.int .i64 4) ∧ Drew w w' := by
  have HT := Lib.hid (fun W hW => trail16 W hW)
  go_enter Tryz.func105, Tryz.ntmps105
  go_wp2_with (refine (HT.out _ hW).mono ?_; rintro e w' ⟨rfl, hd⟩)
  go_ret
  exact ⟨rfl, hd⟩
theorem Wh.drew {w w' : World} (h : Wh w) (hd : Drew w w') : Wh w' := h.below (hd.below _)
theorem slice65 (g p : Nat) (h1 : 1 ≤ p) (h2 : p ≤ 64) (W : World) : (Instr.sliceAt 141 (.pointer (some ⟨g, 0, none⟩)) (some (.int .i64 (p : Int))) none none).run Tryz.prog W = .ok (.slice (some ⟨g, p, none⟩) (65 - p) (65 - p)) W := by
  have hl : Tryz.prog.arrayLen 141 = 65 := by kernel_rfl
  have hs : (sizeOf (Tryz.prog.elem 141)).run Tryz.prog W = .ok 1 W := by kernel_rfl
  rw [run_sliceAt_array_l W 141 ⟨g, 0, none⟩ (by kernel_rfl) .i64 (p : Int) (by omega) (by rw [hl]; omega), hs, hl]
  show Result.ok (slicedAt ⟨g, 0, none⟩ (p : Int).toNat 65 65 1) W = _
  unfold slicedAt Addr.add
  rw [Int.toNat_natCast, if_neg (by omega), if_neg (by omega)]
  simp
set_option maxHeartbeats 4000000 in
set_option maxRecDepth 100000 in
theorem fbits (n : Nat) (hn : n < 4294967296) (w : World) (hW : Wh w) :
    Calls Tryz.prog 90 #[.slice none 0 0, .int .u64 n, .int .i64 16, .bool false, .bool false] w fun e w' => e = .returned (.tuple #[.slice none 0 0, .string (Em.bts (Em.digs 7 n []))]) ∧ Below w.heap.size w w' := by
  have HT := Lib.hid (fun W hW => trail W hW)
  have HP := Lib.hid pow16
  have HW := Lib.hid hW
  clear hW
  obtain ⟨D, hD⟩ : ∃ D, Em.digs 7 n [] = D := ⟨_, rfl⟩
  rw [hD]
  have HD := Lib.hid hD
  obtain ⟨g, hg⟩ : ∃ g, w.heap.size = g := ⟨_, rfl⟩
  obtain ⟨W0, hW0⟩ : ∃ W, w.alloc (.cells Tryz.zeroCells141 141) = W := ⟨_, rfl⟩
  have HB0 : Hid (Below w.heap.size w W0) := by show Below _ _ _; rw [← hW0]; exact Hv.bl1 _ _
  have HA0 : Hid (At W0 g Tryz.zeroCells141.toList) := by show At _ _ _; rw [← hW0, ← hg]; exact At.new _ _ _
  have hz : Tryz.zeroCells141.toList.length = 65 := by kernel_rfl
  have HZ := Lib.hid hz
  have HW0 := Lib.hid hW0
  have HG := Lib.hid hg
  clear hD hg hW0 hz
  go_enter Tryz.func90, Tryz.ntmps90
  go_wp2_with fail
  rw [HW0.out, HG.out]
  refine (HP.out _).mono ?_
  rintro e w1 ⟨rfl, hd1⟩
  have HB1 := Lib.hid (HB0.out.trans (hd1.below _))
  have HA1 := Lib.hid (HA0.out.drew hd1)
  clear hd1
  go_wp2_with fail
  refine (HT.out _ (HW.out.below HB1.out)).mono ?_
  rintro e w2 ⟨rfl, hd2⟩
  have HB2 := Lib.hid (HB1.out.trans (hd2.below _))
  have HA2 := Lib.hid (HA1.out.drew hd2)
  clear hd2
  go_wp2_with fail
  go_loopw [1, 13] (fun u i wr => ∃ (k m p : Nat) (acc : Em.Txt), u = .int .u64 (m : Int) ∧ i = .int .i64 ((p : Int) + 1) ∧ k + p = 64 ∧ k ≤ 7 ∧ Hid (m < 16 ^ (8 - k)) ∧ Hid (Em.digs (7 - k) m acc = D) ∧ Hid (acc.length = k) ∧ Hid (∃ cs, At wr g cs ∧ cs.length = 65 ∧ cs.drop (p + 1) = Lib.byteCells acc) ∧ Hid (Below w.heap.size w wr)) (fun u _ _ => (intOf u).toNat)
  case atStart => exact ⟨0, n, 64, [], rfl, rfl, by omega, by omega, by show n < 16 ^ 8; omega, HD.out, rfl, ⟨_, HA2.out, HZ.out, by rw [List.drop_eq_nil_of_le (by rw [HZ.out]; omega)]; rfl⟩, HB2.out⟩
  case round =>
    obtain ⟨k, m, p, acc, rfl, rfl, hkp, hk, HM, HDg, HL, HC, HB⟩ := hrel
    obtain ⟨cs, hA, hcl, hcd⟩ := HC.out
    have hm16 : m < 4294967296 := Nat.lt_of_lt_of_le HM.out (show 16 ^ (8 - k) ≤ 16 ^ 8 from Nat.pow_le_pow_right (by omega) (by omega))
    have w1 : IntKind.i64.wrap ((p : Int) + 1 - 1) = (p : Int) := by rw [IntKind.wrap_i64]; omega
    have w2 : wrap64 ((p : Int) + 1 - 1) = (p : Int) := by unfold wrap64; omega
    have p0 : (0 : Int) ≤ (p : Int) := by omega
    have p1 : (p : Int) < 65 := by omega
    have hpl : p < cs.length := by omega
    obtain ⟨u0, hu0⟩ : ∃ u, cs[p]? = some u := ⟨_, List.getElem?_eq_getElem hpl⟩
    have s0 := hA.cell p _ hu0
    have s1 := hA.free p _ hu0
    have HAt := Lib.hid hA
    have HCl := Lib.hid hcl
    have HCd := Lib.hid hcd
    have HGb : Hid (w.heap.size ≤ g) := Nat.le_of_eq HG.out
    by_cases h16 : 16 ≤ m
    · have q1 : (16 : Int) ≤ (m : Int) := by omega
      have hand := Em.and15 m (by omega)
      have hk6 : k ≤ 6 := by
        rcases Nat.lt_or_ge k 7 with h | h
        · omega
        · have h7 : k = 7 := by omega
          have := HM.out
          rw [h7] at this
          omega
      have HM2 : Hid (m / 16 < 16 ^ (8 - (k + 1))) := by
        show _ < _
        have h := HM.out
        rw [show 8 - k = (8 - (k + 1)) + 1 by omega, Nat.pow_succ] at h
        exact Nat.div_lt_of_lt_mul (by rw [Nat.mul_comm]; exact h)
      have hdg := HDg.out
      rw [show 7 - k = (7 - (k + 1)) + 1 by omega] at hdg
      unfold Em.digs at hdg
      rw [if_pos h16] at hdg
      obtain ⟨x, hx⟩ : ∃ x, m % 16 = x := ⟨_, rfl⟩
      rw [hx] at hand hdg
      have x0 : (0 : Int) ≤ (x : Int) := by omega
      have x1 : (x : Int) < 36 := by omega
      have x2 : x < 16 := by omega
      have HD2 := Lib.hid hdg
      have HX := Lib.hid (fun h => Em.dg_hex x x2 h)
      have HMi : Hid ((m : Int) / 16 = ((m / 16 : Nat) : Int)) := by show _ = _; omega
      have HPi : Hid ((p : Int) = (((p - 1 : Nat)) : Int) + 1) := by show _ = _; omega
      have hmd : m / 16 < m := Nat.div_lt_self (by omega) (by omega)
      clear hx hdg hA hcl hcd hu0 hpl
      go_wp2_with fail
      go_roundw
      case rel =>
        refine ⟨k + 1, m / 16, p - 1, Em.hexd x :: acc, congrArg (Value.int .u64) HMi.out, congrArg (Value.int .i64) HPi.out, by omega, by omega, HM2.out, HD2.out, by show _ = _; rw [List.length_cons, HL.out], ⟨_, HAt.out.set p _, by rw [List.length_set]; exact HCl.out, ?_⟩, HB.out.setCell HGb.out _⟩
        rw [show p - 1 + 1 = p by omega, Em.drop_set _ (by rw [HCl.out]; omega), HCd.out]
        exact congrArg (fun b : UInt8 => Value.int .u8 (b.toNat : Int) :: Lib.byteCells acc) (HX.out _)
      case measure => rw [HMi.out]; simp only [intOf, Int.toNat_natCast]; exact hmd
    · have q1 : ¬ (16 : Int) ≤ (m : Int) := by omega
      have hdg := HDg.out
      have hdn : Em.digs (7 - k) m acc = Em.hexd m :: acc := by
        cases hq : 7 - k with
        | zero => rfl
        | succ j => unfold Em.digs; rw [if_neg h16]
      rw [hdn] at hdg
      have x0 : (0 : Int) ≤ (m : Int) := by omega
      have x1 : (m : Int) < 36 := by omega
      have x2 : m < 16 := by omega
      have hms : m < Em.dg.size := by show m < 36; omega
      have hsl := slice65 g p (by omega) (by omega)
      have HDl : Hid (D.length = 65 - p) := by show _ = _; rw [← hdg, List.length_cons, HL.out]; omega
      have HD2 := Lib.hid hdg
      have hcv : ∀ cb : UInt8, cb = Em.hexd m → (convert 31 9 (.slice (some ⟨g, p, none⟩) (65 - p) (65 - p))).run Tryz.prog (wr.setCell ⟨g, p, none⟩ (.int .u8 (cb.toNat : Int))) = .ok (.string (Em.bts D)) (wr.setCell ⟨g, p, none⟩ (.int .u8 (cb.toNat : Int))) := by
        intro cb hcb
        rw [hcb]
        have h := run_convert_bytes_back (P := Tryz.prog) (wr.setCell ⟨g, p, none⟩ (.int .u8 ((Em.hexd m).toNat : Int))) 31 9 5 ⟨g, p, none⟩ (65 - p) D Tryz.underlying31 Tryz.underlying5 Tryz.underlying9 ?_
        · rw [HDl.out] at h
          exact h
        · intro j hj
          have h2 := (hA.set p (.int .u8 ((Em.hexd m).toNat : Int))).cell (p + j) (.int .u8 (D[j].toNat : Int)) (by
            rw [← List.getElem?_drop, Em.drop_set _ hpl, hcd]
            show (Lib.byteCells (Em.hexd m :: acc))[j]? = _
            subst hdg
            unfold Lib.byteCells
            rw [List.getElem?_map, List.getElem?_eq_getElem hj]
            rfl)
          rw [← h2]
          congr 1
          unfold Addr.add
          split <;> simp_all
      have HCv := Lib.hid hcv
      clear hcv hdg hdn hA hcl hcd hu0 hpl
      go_wp2_with fail
      rw [HCv.out]
      rotate_left
      · exact Em.dg_hex m x2 hms
      clear HCv hsl
      go_wp2_with fail
      go_ret2
      exact ⟨rfl, HB.out.setCell HGb.out _⟩
theorem fuint_in (n : Nat) (hn : n < 4294967296) (w : World) (hW : Wh w) :
    Calls Tryz.prog 74 #[.int .u64 n, .int .i64 16] w fun e w' => e = .returned (.string (Em.bts (Em.digs 7 n []))) ∧ Below w.heap.size w w' := by
  have HF := Lib.hid (fbits n hn w hW)
  clear hW
  go_enter Tryz.func74, Tryz.ntmps74
  go_wp2_with (refine HF.out.mono ?_; rintro e w1 ⟨rfl, hb⟩)
  go_ret
  exact ⟨rfl, hb⟩
theorem fuint (n : Nat) (hn : n < 4294967296) (w : World) (hW : Wh w) :
    Calls Tryz.prog 53 #[.int .u64 n, .int .i64 16] w fun e w' => e = .returned (.string (Em.bts (Em.digs 7 n []))) ∧ Below w.heap.size w w' := by
  have HF := Lib.hid (fuint_in n hn w hW)
  clear hW
  go_enter Tryz.func53, Tryz.ntmps53
  go_wp2_with (refine HF.out.mono ?_; rintro e w1 ⟨rfl, hb⟩)
  go_ret
  exact ⟨rfl, hb⟩
namespace Em
theorem bts_app (a b : Txt) : bts a ++ bts b = bts (a ++ b) := by
  apply ByteArray.ext
  unfold bts
  simp
theorem noughts (l : Txt) (h : l.length ≤ 8) : (⟨#[48, 48, 48, 48, 48, 48, 48, 48]⟩ : ByteArray).extract (bts l).size 8 ++ bts l = bts (List.replicate (8 - l.length) 48 ++ l) := by
  have hx : ∀ k : Fin 9, (⟨#[48, 48, 48, 48, 48, 48, 48, 48]⟩ : ByteArray).extract k.val 8 = bts (List.replicate (8 - k.val) 48) := by
    intro k
    apply ByteArray.ext
    revert k
    decide +kernel
  have h2 := hx ⟨l.length, by omega⟩
  simp only at h2
  rw [bts_size, h2, bts_app]
end Em
set_option maxHeartbeats 2000000 in
theorem number_any (n : Nat) (hn : n < 4294967296) (w : World) (hW : Wh w) :
    Calls Tryz.prog 32 #[.int .u32 n] w fun e w' => e = .returned (.string (Em.bts (Em.num n))) ∧ Below w.heap.size w w' := by
  have HF := Lib.hid (fuint n hn w hW)
  have hl := Em.digs_len 7 n []
  obtain ⟨D, hD⟩ : ∃ D, Em.bts (Em.digs 7 n []) = D := ⟨_, rfl⟩
  have hs : D.size ≤ 8 := by rw [← hD, Em.bts_size]; simpa using hl
  rw [hD] at HF
  have HD := Lib.hid hD
  have q1 : (D.size : Int) ≤ 8 := by omega
  have q0 : (0 : Int) ≤ (D.size : Int) := by omega
  clear hW hl hD
  go_enter Tryz.func32, Tryz.ntmps32
  go_wp2_with (refine HF.out.mono ?_; rintro e w1 ⟨rfl, hb⟩)
  go_ret
  refine ⟨?_, hb⟩
  show Ending.returned (Value.string (_ ++ D)) = _
  rw [← HD.out, Em.noughts _ (by simpa using Em.digs_len 7 n [])]
  rfl
end Go.Proofs.YtmnolcjmnddbnaaGreatDoor

/- emit.parts: as many bytes as stand in a line at once, by a range over a function. -/
namespace Go.Proofs.YtmnolcjmnddbnaaGreatDoor
open Go.RowKit Go.Shelf
attribute [local go_sem] Oper.semAt_some

namespace Em
theorem parts_more (f : Nat) (l : Txt) (h : 20 < l.length) (hf : l.length ≤ f) : ∃ g, (l.drop 20).length ≤ g ∧ parts f l = l.take 20 :: parts g (l.drop 20) := by
  obtain ⟨g, rfl⟩ : ∃ g, f = g + 1 := ⟨f - 1, by omega⟩
  refine ⟨g, by rw [List.length_drop]; omega, ?_⟩
  rw [parts, if_pos h]
theorem parts_last (f : Nat) (l : Txt) (h : ¬ 20 < l.length) (hf : l.length ≤ f) : parts f l = if l = [] then [] else [l] := by
  cases f with
  | zero =>
    have : l = [] := List.eq_nil_of_length_eq_zero (by omega)
    subst this
    rfl
  | succ g => rw [parts, if_neg h]
/-- All parts of a text. -/
def pts (s : ByteArray) : List Txt := parts (tl s).length (tl s)
def enc (p : Txt) : Array Value := #[.string (bts (p.take 20))]
def PtRet (s : ByteArray) (JY JX : List Txt → World → Prop) (e : Ending) (W' : World) : Prop :=
  (∃ v, e = .returned v) ∧ ((∃ ys, ys = pts s ∧ JY ys W') ∨ (∃ pre : List Txt, True ∧ JX pre W'))
/-- Where the iterator stands. -/
def PtAt (s : ByteArray) (JY : List Txt → World → Prop) (v : Value) (W : World) : Prop :=
  ∃ (r : ByteArray) (f : Nat) (pre : List Txt), v = .string r ∧ (tl r).length ≤ f ∧ pre ++ parts f (tl r) = pts s ∧ JY pre W
def strSize (v : Value) : Nat := match v with | .string s => s.size | _ => 0
theorem tl_ext (r : ByteArray) (a b : Nat) : tl (r.extract a b) = ((tl r).take b).drop a := by
  unfold tl
  rw [ByteArray.data_extract, Array.toList_extract]
  simp [List.extract, List.drop_take]
theorem tl_rest (r : ByteArray) : tl (r.extract 20 r.size) = (tl r).drop 20 := by
  rw [tl_ext, List.take_of_length_le (by rw [tl_length]; exact Nat.le_refl _)]
theorem bts_ext (r : ByteArray) : bts ((tl r).take 20) = r.extract 0 20 := by
  apply ByteArray.ext
  unfold bts tl
  apply Array.toList_inj.1
  rw [ByteArray.data_extract, Array.toList_extract]
  simp [List.extract]
end Em
theorem parts_any (s : ByteArray) (w : World) :
    Calls Tryz.prog 33 #[.string s] w fun e w' => e = .returned (.func (.func 54) #[] #[.pointer (some ⟨w.heap.size, 0, none⟩)]) ∧ w.alloc (.cells #[.string s] 9) = w' := by
  go_enter Tryz.func33, Tryz.ntmps33
  go_wp2
  go_ret
  exact ⟨rfl, rfl⟩
set_option maxRecDepth 100000 in
set_option maxHeartbeats 4000000 in
theorem parts1_in (n : Nat) (hn : 1 ≤ n) (l bs : Nat) (s : ByteArray) (hs : s.size ≤ maxLen) (JY JX : List Em.Txt → World → Prop)
    (hY : ∀ pre (p : Em.Txt) W, JY pre W → pre.length < (Em.pts s).length → YieldAt Fence.wide (n - 1) Tryz.prog l (Em.enc p) W fun e W' =>
      (e = .returned (.bool true) ∧ JY (pre ++ [p]) W' ∧ True) ∨ (e = .returned (.bool false) ∧ JX (pre ++ [p]) W'))
    (W : World) (hc : W.cell? ⟨bs, 0, none⟩ = some (.string s)) (h0 : JY [] W) :
    CallsIn Fence.wide n Tryz.prog 54 #[.func (.yield l) #[] #[], .pointer (some ⟨bs, 0, none⟩)] W (Em.PtRet s JY JX) := by
  unfold maxLen at hs
  refine callsIn_of_wp Tryz.func54 rfl trivial ?_ rfl
  simp only [Tryz.ntmps54, List.size_toArray, List.length_cons, List.length_nil, Nat.reduceAdd, Nat.reduceSub, Array.replicate_succ, Array.replicate_zero, List.push_toArray, List.append_toArray, List.nil_append, List.cons_append]
  gi_wp2
  clear hc
  gi_loopw [3] (fun v wr => Em.PtAt s JY v wr ∧ Em.strSize v ≤ s.size) (fun v _ => Em.strSize v)
  case atStart => exact ⟨⟨s, (tl s).length, [], rfl, Nat.le_refl _, rfl, h0⟩, Nat.le_refl _⟩
  case round =>
    obtain ⟨⟨r, f, pre, rfl, hf, hp, hJ⟩, hsz⟩ := hrel
    unfold Em.strSize at hsz
    simp only at hsz
    have hsz : r.size ≤ s.size := hsz
    have hrl := tl_length r
    by_cases h20 : 20 < r.size
    · have q1 : (20 : Int) < (r.size : Int) := by omega
      have q2 : (20 : Int) ≤ (r.size : Int) := by omega
      obtain ⟨g, hg, hpm⟩ := Em.parts_more f (tl r) (by omega) hf
      have hlt : pre.length < (Em.pts s).length := by rw [← hp, hpm, List.length_append, List.length_cons]; omega
      obtain ⟨fn, tmps, assign, body, hy, hR⟩ := hY pre ((tl r).take 20) wr hJ hlt
      unfold Em.enc at hy
      rw [show (((tl r).take 20).take 20) = (tl r).take 20 by rw [List.take_take]; rfl, Em.bts_ext] at hy
      have hp2 : (pre ++ [(tl r).take 20]) ++ Em.parts g (tl (r.extract 20 r.size)) = Em.pts s := by
        rw [Em.tl_rest, List.append_assoc, ← hp, hpm]
        rfl
      have hg2 : (tl (r.extract 20 r.size)).length ≤ g := by
        rw [Em.tl_rest]
        exact hg
      have HP := Lib.hid hp2
      have HG := Lib.hid hg2
      clear hp hpm hg hlt hp2 hg2 hrl
      gi_wp2
      refine hR.mono ?_
      rintro e W3 (⟨rfl, hJ3, _⟩ | ⟨rfl, hJx3⟩)
      · have HJ3 := Lib.hid hJ3
        clear hJ3
        gi_wp2
        go_roundw
        case rel => exact ⟨⟨_, g, _, rfl, HG.out, HP.out, HJ3.out⟩, by unfold Em.strSize; simp only; rw [ByteArray.size_extract]; omega⟩
        case measure => unfold Em.strSize; simp only; rw [ByteArray.size_extract]; omega
      · have HX := Lib.hid hJx3
        clear hJx3
        gi_wp2
        refine bodyPost_ret (results_none rfl _ _ _) rfl ?_
        exact ⟨⟨_, rfl⟩, .inr ⟨_, trivial, HX.out⟩⟩
    · have q1 : ¬ (20 : Int) < (r.size : Int) := by omega
      have hpl := Em.parts_last f (tl r) (by omega) hf
      rw [hpl] at hp
      by_cases h0e : tl r = []
      · rw [if_pos h0e, List.append_nil] at hp
        have he : r.toList = [] := by rw [ByteArray.toList_eq]; exact h0e
        have he2 : (!r.toList.isEmpty) = false := by rw [he]; rfl
        have HP := Lib.hid hp
        have HJ := Lib.hid hJ
        clear hp hpl h0e he hJ
        gi_wp2
        go_end0
        exact ⟨⟨_, rfl⟩, .inl ⟨_, HP.out, HJ.out⟩⟩
      · rw [if_neg h0e] at hp
        have he : r.toList.isEmpty = false := by
          rw [ByteArray.toList_eq]
          cases e : r.data.toList with
          | nil => exact absurd e h0e
          | cons _ _ => rfl
        have hlt : pre.length < (Em.pts s).length := by rw [← hp, List.length_append]; simp
        obtain ⟨fn, tmps, assign, body, hy, hR⟩ := hY pre (tl r) wr hJ hlt
        unfold Em.enc at hy
        rw [List.take_of_length_le (by omega), Em.bts_tl] at hy
        have HP := Lib.hid hp
        clear hp hpl h0e hlt
        gi_wp2
        refine hR.mono ?_
        rintro e W3 (⟨rfl, hJ3, _⟩ | ⟨rfl, hJx3⟩)
        · have HJ3 := Lib.hid hJ3
          clear hJ3
          gi_wp2
          go_end0
          exact ⟨⟨_, rfl⟩, .inl ⟨_, HP.out, HJ3.out⟩⟩
        · have HX := Lib.hid hJx3
          clear hJx3
          gi_wp2
          go_end0
          exact ⟨⟨_, rfl⟩, .inr ⟨_, trivial, HX.out⟩⟩
end Go.Proofs.YtmnolcjmnddbnaaGreatDoor

/- emit.write: a value's lines, put to a builder. -/
namespace Go.Proofs.YtmnolcjmnddbnaaGreatDoor
open Go.RowKit Go.Shelf Go.Sort
attribute [local go_sem] Oper.semAt_some

namespace Em
/-- Block k holds these cells, of a type. -/
def Blk (W : World) (k : Nat) (cs : Array Value) (T : TypeId) : Prop := W.heap[k]? = some (.cells cs T (0, 0))
theorem Blk.new (w : World) (cs : Array Value) (t : TypeId) : Blk (w.alloc (.cells cs t)) w.heap.size cs t := World.alloc_heap_new w _
theorem Blk.lt {W : World} {k : Nat} {cs : Array Value} {T : TypeId} (h : Blk W k cs T) : k < W.heap.size := (Array.getElem?_eq_some_iff.1 h).1
theorem Blk.below {W W' : World} {B k : Nat} {cs : Array Value} {T : TypeId} (h : Blk W k cs T) (hb : Below B W W') (hk : k < B) : Blk W' k cs T := (hb.block k hk).trans h
theorem Blk.call {W W' : World} {k : Nat} {cs : Array Value} {T : TypeId} (h : Blk W k cs T) (hb : Below W.heap.size W W') : Blk W' k cs T := h.below hb h.lt
theorem Blk.alloc {W : World} {k : Nat} {cs : Array Value} {T : TypeId} (h : Blk W k cs T) (o : Obj) : Blk (W.alloc o) k cs T := h.call (Hv.bl1 W o)
theorem Blk.others {W W' : World} {k g : Nat} {cs : Array Value} {T e : TypeId} (h : Blk W k cs T) (ho : Lib.OthersKept e (some g) W W') (hk : k ≠ g) (hT : T ≠ e) : Blk W' k cs T :=
  ho k _ h (fun q => hk (Option.some.inj q)) (fun c fz q => by injection q with _ q _; exact hT q)
theorem Blk.at_ {W : World} {k : Nat} {cs : Array Value} {T : TypeId} (h : Blk W k cs T) : At W k cs.toList := by
  refine ⟨h.lt, fun i v hi => ?_⟩
  have h' : W.heap[k]? = some (.cells cs T (0, 0)) := h
  constructor
  · simp [World.cell?, h']
    simpa using hi
  · simp [World.frozen?, h']
theorem Blk.set {W : World} {k : Nat} {cs : Array Value} {T : TypeId} (h : Blk W k cs T) (p : Addr) (v : Value) (hp : p.block ≠ k) : Blk (W.setCell p v) k cs T := (Below.heap_setCell _ _ _ _ (fun e => hp e.symm)).trans h
theorem Blk.grown {W W' : World} {row : Option Nat} {k : Nat} {cs : Array Value} {T : TypeId} (h : Blk W k cs T) (hg : W.grownBy W' row) (hr : ∀ r, row = some r → ∃ o : Obj, W.heap[r]? = some o ∧ o.isCells = false) : Blk W' k cs T :=
  (hg.block k h.lt (fun e => by
    obtain ⟨o, ho, hc⟩ := hr k e.symm
    have h' : W.heap[k]? = some (.cells cs T (0, 0)) := h
    rw [h'] at ho
    cases ho
    cases hc)).trans h
theorem atF_grown {w w' : World} {row : Option Nat} {B b : Nat} {T e : TypeId} {p : Value} {bs : List Value} (h : Lib.BuilderAtF T e B b p bs w) (hg : w.grownBy w' row) (hr : ∀ r, row = some r → ∃ o : Obj, w.heap[r]? = some o ∧ o.isCells = false) : Lib.BuilderAtF T e B b p bs w' := by
  obtain ⟨hB2, v, hbk, hown, hne⟩ := h
  have hB3 : w'.heap[b]? = some (.cells #[p, v] T (0, 0)) := Blk.grown (k := b) (show Blk w b #[p, v] T from hbk) hg hr
  refine ⟨hB2, v, hB3, hown.kept hg ?_, hne⟩
  cases hv : v.ownBlock with
  | none => exact .inl rfl
  | some k =>
    right
    intro e2
    obtain ⟨o, ho, hc⟩ := hr k e2.symm
    rcases hown.2 with ⟨rfl, _⟩ | ⟨g, cap, cur, fz, rfl, _, hgg, _⟩
    · cases hv
    · injection hv with hv
      rw [← hv] at ho
      have := hgg.symm.trans ho
      injection this with this
      rw [← this] at hc
      cases hc
theorem IsB.grown {w w' : World} {row : Option Nat} {b : Nat} {l : Txt} (h : IsB w b l) (hg : w.grownBy w' row) (hr : ∀ r, row = some r → ∃ o : Obj, w.heap[r]? = some o ∧ o.isCells = false) : IsB w' b l :=
  h.elim (fun x => .inl (atF_grown x hg hr)) (fun x => .inr (atF_grown x hg hr))
theorem IsB.drew {w w' : World} {b : Nat} {l : Txt} (h : IsB w b l) (hd : Drew w w') : IsB w' b l := h.call (hd.below _)
theorem IsB.drew1 {w : World} {b : Nat} {l : Txt} (h : IsB w b l) : IsB w.drew b l := h.drew ⟨1, rfl⟩
theorem Blk.drew1 {w : World} {k : Nat} {cs : Array Value} {T : TypeId} (h : Blk w k cs T) : Blk w.drew k cs T := h
theorem Blk.set_self {W : World} {k : Nat} {cs : Array Value} {T : TypeId} (h : Blk W k cs T) (i : Nat) (v : Value) : Blk (W.setCell ⟨k, i, none⟩ v) k (cs.setIfInBounds i v) T := by
  have h' : W.heap[k]? = some (.cells cs T (0, 0)) := h
  unfold Blk
  simp [World.setCell, Array.getElem?_modify, h']
theorem IsB.set {w : World} {b : Nat} {l : Txt} {cs : Array Value} {T : TypeId} {p : Addr} (h : IsB w b l) (hk : Blk w p.block cs T) (hT : T ≠ 5) (hb : p.block ≠ b) (v : Value) : IsB (w.setCell p v) b l := by
  have key : ∀ q : Value, Lib.BuilderAtF 54 5 b b q (Lib.byteCells l) w → Lib.BuilderAtF 54 5 b b q (Lib.byteCells l) (w.setCell p v) := by
    rintro q ⟨hB, u, hbk, hown, hne⟩
    refine ⟨hB, u, (Below.heap_setCell _ _ _ _ (fun e => hb e.symm)).trans hbk, ?_, hne⟩
    refine ⟨hown.1, ?_⟩
    rcases hown.2 with hn | ⟨g, cap, cur, fz, hv, hbs, hgg, rest⟩
    · exact .inl hn
    · refine .inr ⟨g, cap, cur, fz, hv, hbs, (Below.heap_setCell _ _ _ _ (fun e => ?_)).trans hgg, rest⟩
      have hk' : w.heap[p.block]? = some (.cells cs T (0, 0)) := hk
      rw [← e] at hk'
      have := hk'.symm.trans hgg
      injection this with this
      injection this with _ h2 _
      exact hT h2
  exact h.elim (fun x => .inl (key _ x)) (fun x => .inr (key _ x))
theorem isEmpty_snoc (pre : List Txt) (x : Txt) : (pre ++ [x]).isEmpty = false := by cases pre <;> rfl
end Em
set_option maxHeartbeats 4000000 in
set_option maxRecDepth 100000 in
theorem write_text (g : Nat) (L : Em.Txt) (nm tx by_ : ByteArray) (nu : Int) (hn : nm.size ≤ 64) (ht : tx.size ≤ 4096) (_hb : by_.size ≤ 4096) (w : World) (hI : Em.IsB w g L) (hL : L.length ≤ 10000000000000) :
    Calls Tryz.prog 15 #[.pointer (some ⟨g, 0, none⟩), .agg #[.string nm, .int .u8 1, .string tx, .int .u32 nu, .string by_]] w fun e w' => e = .returned (.tuple #[]) ∧ Em.IsB w' g (L ++ Em.val ⟨nm, 1, tx, nu, by_⟩) ∧ Below g w w' := by
  obtain ⟨h, hh⟩ : ∃ h, w.heap.size = h := ⟨_, rfl⟩
  obtain ⟨W2, hW2⟩ : ∃ W, (w.alloc (.cells #[.pointer (some ⟨g, 0, none⟩)] 52)).alloc (.cells #[.string nm, .int .u8 1, .string tx, .int .u32 nu, .string by_] 25) = W := ⟨_, rfl⟩
  have hP2 : Em.Blk W2 h #[.pointer (some ⟨g, 0, none⟩)] 52 := by rw [← hW2, ← hh]; exact (Em.Blk.new _ _ _).alloc _
  have hQ2 : Em.Blk W2 (h + 1) #[.string nm, .int .u8 1, .string tx, .int .u32 nu, .string by_] 25 := by
    have hx := Em.Blk.new (w.alloc (.cells #[.pointer (some ⟨g, 0, none⟩)] 52)) #[.string nm, .int .u8 1, .string tx, .int .u32 nu, .string by_] 25
    rw [World.size_alloc, hh] at hx
    rw [← hW2]
    exact hx
  have hI2 : Em.IsB W2 g L := by rw [← hW2]; exact (hI.call (Hv.bl1 w _)).call (Hv.bl1 _ _)
  have hgh : g < h := by rw [← hh]; exact hI.lt
  have hB2 : Below g w W2 := by rw [← hW2]; exact (Hv.bl (Hv.bl1 w _) _).mono (Nat.le_of_lt hI.lt)
  have hS2 : h + 2 ≤ W2.heap.size := by rw [← hW2, World.size_alloc, World.size_alloc, hh]; omega
  have HP2 := Lib.hid hP2
  have HQ2 := Lib.hid hQ2
  have HI2 := Lib.hid hI2
  have HB2 := Lib.hid hB2
  have HS2 := Lib.hid hS2
  have HW2 := Lib.hid hW2
  have HH := Lib.hid hh
  have HL := Lib.hid hL
  have z2 : h < W2.heap.size := by omega
  have z3 : h + 1 < W2.heap.size := by omega
  clear hP2 hQ2 hI2 hB2 hS2 hW2 hI hL
  go_enter Tryz.func15, Tryz.ntmps15
  have HLq := Lib.hid (show (Em.bts (Em.quote (tl nm))).size ≤ 200 by rw [Em.bts_size]; have := Em.quote_len (tl nm); rw [tl_length] at this; omega)
  go_wp2_with fail
  rw [HW2.out]
  have c0_3 := HP2.out.at_.cell 0 _ rfl
  have k0_3 := cell_regrown c0_3
  have c1_3 := HQ2.out.at_.cell 0 _ rfl
  have k1_3 := cell_regrown c1_3
  have zP3 := HP2.out.lt
  have zQ3 := HQ2.out.lt
  have cS : ∀ dd os, Calls Tryz.prog 6 #[.string nm] (grow (redrawn W2 dd) os) fun e w'' => e = .returned (.string (Em.bts (Em.quote (tl nm)))) ∧ ∃ p : Regrown, w'' = grow (redrawn W2 p.d) p.os := fun dd os => Calls.regrown_of (quote_any nm (by omega) _)
  refine wp_region_tail 4 (by kernel_rfl) (by kernel_rfl) ?_
  repeat (quiet_step (exact cS _ _))
  refine wpQuiet_nil ?_
  intro W3 hwz
  obtain ⟨⟨dq, osq⟩, hwz⟩ := hwz
  have hbz : Below W2.heap.size W2 W3 := by rw [hwz]; exact below_regrown _ _ _
  have HP3 := Lib.hid (HP2.out.call hbz)
  have HQ3 := Lib.hid (HQ2.out.call hbz)
  have HI3 := Lib.hid (HI2.out.call hbz)
  have HB3 := Lib.hid (HB2.out.trans (hbz.mono (by have := HI2.out.lt; omega)))
  clear hwz hbz cS k0_3 k1_3 c0_3 c1_3 zP3 zQ3
  show wpList _ _ _ (_ :: _) _ _
  go_wp2_with fail
  refine (Em.putS (Em.bts (Em.quote (tl nm))) HI3.out (by have := HL.out; omega) (by have := HLq.out; omega)).mono ?_
  rintro e W4 ⟨rfl, hI, hb, ho⟩
  have HP4 := Lib.hid (HP3.out.others ho (by omega) (by decide))
  have HQ4 := Lib.hid (HQ3.out.others ho (by omega) (by decide))
  have HI4 := Lib.hid hI
  have HB4 := Lib.hid (HB3.out.trans hb)
  clear hI hb ho
  have c0_4 := HP4.out.at_.cell 0 _ rfl
  have zP4 := HP4.out.lt
  go_wp2_with fail
  refine (Em.putB 61 HI4.out (by have h1 := HL.out; have h2 := HLq.out; rw [Em.bts_size] at h2; rw [List.length_append, Em.tl_bts]; omega)).mono ?_
  rintro e W5 ⟨rfl, hI, hb, ho⟩
  have HP5 := Lib.hid (HP4.out.others ho (by omega) (by decide))
  have HQ5 := Lib.hid (HQ4.out.others ho (by omega) (by decide))
  have HI5 := Lib.hid hI
  have HB5 := Lib.hid (HB4.out.trans hb)
  clear hI hb ho
  clear c0_4 zP4
  have c1_5 := HQ5.out.at_.cell 1 _ rfl
  have zQ5 := HQ5.out.lt
  go_wp2_with fail
  clear c1_5 zQ5
  have c0_6 := HP5.out.at_.cell 0 _ rfl
  have k0_6 := cell_regrown c0_6
  have c1_6 := HQ5.out.at_.cell 2 _ rfl
  have k1_6 := cell_regrown c1_6
  have zP6 := HP5.out.lt
  have zQ6 := HQ5.out.lt
  have cS : ∀ dd os, Calls Tryz.prog 6 #[.string tx] (grow (redrawn W5 dd) os) fun e w'' => e = .returned (.string (Em.bts (Em.quote (tl tx)))) ∧ ∃ p : Regrown, w'' = grow (redrawn W5 p.d) p.os := fun dd os => Calls.regrown_of (quote_any tx (by omega) _)
  refine wp_region_tail 4 (by kernel_rfl) (by kernel_rfl) ?_
  repeat (quiet_step (exact cS _ _))
  refine wpQuiet_nil ?_
  intro W6 hwz
  obtain ⟨⟨dq, osq⟩, hwz⟩ := hwz
  have hbz : Below W5.heap.size W5 W6 := by rw [hwz]; exact below_regrown _ _ _
  have HP6 := Lib.hid (HP5.out.call hbz)
  have HQ6 := Lib.hid (HQ5.out.call hbz)
  have HI6 := Lib.hid (HI5.out.call hbz)
  have HB6 := Lib.hid (HB5.out.trans (hbz.mono (by have := HI5.out.lt; omega)))
  clear hwz hbz cS k0_6 k1_6 c0_6 c1_6 zP6 zQ6
  show wpList _ _ _ (_ :: _) _ _
  go_wp2_with fail
  refine (Em.putS (Em.bts (Em.quote (tl tx))) HI6.out (by have h1 := HL.out; have h2 := HLq.out; rw [Em.bts_size] at h2; rw [List.length_append, List.length_append, Em.tl_bts]; simp only [List.length_cons, List.length_nil]; omega) (by rw [Em.bts_size]; have := Em.quote_len (tl tx); rw [tl_length] at this; omega)).mono ?_
  rintro e W7 ⟨rfl, hI, hb, ho⟩
  have HP7 := Lib.hid (HP6.out.others ho (by omega) (by decide))
  have HQ7 := Lib.hid (HQ6.out.others ho (by omega) (by decide))
  have HI7 := Lib.hid hI
  have HB7 := Lib.hid (HB6.out.trans hb)
  clear hI hb ho
  go_wp2
  go_end0
  refine ⟨rfl, ?_, HB7.out⟩
  have h := HI7.out
  show Em.IsB _ _ (L ++ (Em.quote (tl nm) ++ 61 :: Em.quote (tl tx)))
  simp only [Em.tl_bts, List.append_assoc, List.singleton_append] at h
  exact h
set_option maxHeartbeats 4000000 in
set_option maxRecDepth 100000 in
theorem write_num (g : Nat) (L : Em.Txt) (nm tx by_ : ByteArray) (nu : Nat) (hnu : nu < 4294967296) (hn : nm.size ≤ 64) (_ht : tx.size ≤ 4096) (_hb : by_.size ≤ 4096) (w : World) (hW : Wh w) (hgt : 7 < g) (hI : Em.IsB w g L) (hL : L.length ≤ 10000000000000) :
    Calls Tryz.prog 15 #[.pointer (some ⟨g, 0, none⟩), .agg #[.string nm, .int .u8 2, .string tx, .int .u32 nu, .string by_]] w fun e w' => e = .returned (.tuple #[]) ∧ Em.IsB w' g (L ++ Em.val ⟨nm, 2, tx, nu, by_⟩) ∧ Below g w w' := by
  obtain ⟨h, hh⟩ : ∃ h, w.heap.size = h := ⟨_, rfl⟩
  obtain ⟨W2, hW2⟩ : ∃ W, (w.alloc (.cells #[.pointer (some ⟨g, 0, none⟩)] 52)).alloc (.cells #[.string nm, .int .u8 2, .string tx, .int .u32 nu, .string by_] 25) = W := ⟨_, rfl⟩
  have hP2 : Em.Blk W2 h #[.pointer (some ⟨g, 0, none⟩)] 52 := by rw [← hW2, ← hh]; exact (Em.Blk.new _ _ _).alloc _
  have hQ2 : Em.Blk W2 (h + 1) #[.string nm, .int .u8 2, .string tx, .int .u32 nu, .string by_] 25 := by
    have hx := Em.Blk.new (w.alloc (.cells #[.pointer (some ⟨g, 0, none⟩)] 52)) #[.string nm, .int .u8 2, .string tx, .int .u32 nu, .string by_] 25
    rw [World.size_alloc, hh] at hx
    rw [← hW2]
    exact hx
  have hI2 : Em.IsB W2 g L := by rw [← hW2]; exact (hI.call (Hv.bl1 w _)).call (Hv.bl1 _ _)
  have hgh : g < h := by rw [← hh]; exact hI.lt
  have hB2 : Below g w W2 := by rw [← hW2]; exact (Hv.bl (Hv.bl1 w _) _).mono (Nat.le_of_lt hI.lt)
  have hS2 : h + 2 ≤ W2.heap.size := by rw [← hW2, World.size_alloc, World.size_alloc, hh]; omega
  have HP2 := Lib.hid hP2
  have HQ2 := Lib.hid hQ2
  have HI2 := Lib.hid hI2
  have HB2 := Lib.hid hB2
  have HS2 := Lib.hid hS2
  have HW2 := Lib.hid hW2
  have HH := Lib.hid hh
  have HL := Lib.hid hL
  have z2 : h < W2.heap.size := by omega
  have z3 : h + 1 < W2.heap.size := by omega
  clear hP2 hQ2 hI2 hB2 hS2 hW2 hI hL
  have HW := Lib.hid hW
  have HGlt := Lib.hid hgt
  clear hW hgt
  go_enter Tryz.func15, Tryz.ntmps15
  have HLq := Lib.hid (show (Em.bts (Em.quote (tl nm))).size ≤ 200 by rw [Em.bts_size]; have := Em.quote_len (tl nm); rw [tl_length] at this; omega)
  go_wp2_with fail
  rw [HW2.out]
  have c0_3 := HP2.out.at_.cell 0 _ rfl
  have k0_3 := cell_regrown c0_3
  have c1_3 := HQ2.out.at_.cell 0 _ rfl
  have k1_3 := cell_regrown c1_3
  have zP3 := HP2.out.lt
  have zQ3 := HQ2.out.lt
  have cS : ∀ dd os, Calls Tryz.prog 6 #[.string nm] (grow (redrawn W2 dd) os) fun e w'' => e = .returned (.string (Em.bts (Em.quote (tl nm)))) ∧ ∃ p : Regrown, w'' = grow (redrawn W2 p.d) p.os := fun dd os => Calls.regrown_of (quote_any nm (by omega) _)
  refine wp_region_tail 4 (by kernel_rfl) (by kernel_rfl) ?_
  repeat (quiet_step (exact cS _ _))
  refine wpQuiet_nil ?_
  intro W3 hwz
  obtain ⟨⟨dq, osq⟩, hwz⟩ := hwz
  have hbz : Below W2.heap.size W2 W3 := by rw [hwz]; exact below_regrown _ _ _
  have HP3 := Lib.hid (HP2.out.call hbz)
  have HQ3 := Lib.hid (HQ2.out.call hbz)
  have HI3 := Lib.hid (HI2.out.call hbz)
  have HB3 := Lib.hid (HB2.out.trans (hbz.mono (by have := HI2.out.lt; omega)))
  clear hwz hbz cS k0_3 k1_3 c0_3 c1_3 zP3 zQ3
  show wpList _ _ _ (_ :: _) _ _
  go_wp2_with fail
  refine (Em.putS (Em.bts (Em.quote (tl nm))) HI3.out (by have := HL.out; omega) (by have := HLq.out; omega)).mono ?_
  rintro e W4 ⟨rfl, hI, hb, ho⟩
  have HP4 := Lib.hid (HP3.out.others ho (by omega) (by decide))
  have HQ4 := Lib.hid (HQ3.out.others ho (by omega) (by decide))
  have HI4 := Lib.hid hI
  have HB4 := Lib.hid (HB3.out.trans hb)
  clear hI hb ho
  have c0_4 := HP4.out.at_.cell 0 _ rfl
  have zP4 := HP4.out.lt
  go_wp2_with fail
  refine (Em.putB 61 HI4.out (by have h1 := HL.out; have h2 := HLq.out; rw [Em.bts_size] at h2; rw [List.length_append, Em.tl_bts]; omega)).mono ?_
  rintro e W5 ⟨rfl, hI, hb, ho⟩
  have HP5 := Lib.hid (HP4.out.others ho (by omega) (by decide))
  have HQ5 := Lib.hid (HQ4.out.others ho (by omega) (by decide))
  have HI5 := Lib.hid hI
  have HB5 := Lib.hid (HB4.out.trans hb)
  clear hI hb ho
  clear c0_4 zP4
  have c1_5 := HQ5.out.at_.cell 1 _ rfl
  have zQ5 := HQ5.out.lt
  have c0_5 := HP5.out.at_.cell 0 _ rfl
  have zP5 := HP5.out.lt
  go_wp2_with fail
  refine (Em.putS ⟨#[110, 117, 109, 98, 101, 114, 58]⟩ HI5.out (by have h1 := HL.out; have h2 := HLq.out; rw [Em.bts_size] at h2; rw [List.length_append, List.length_append, Em.tl_bts]; simp only [List.length_cons, List.length_nil]; omega) (by decide)).mono ?_
  rintro e W6 ⟨rfl, hI, hb, ho⟩
  have HP6 := Lib.hid (HP5.out.others ho (by omega) (by decide))
  have HQ6 := Lib.hid (HQ5.out.others ho (by omega) (by decide))
  have HI6 := Lib.hid hI
  have HB6 := Lib.hid (HB5.out.trans hb)
  clear hI hb ho
  clear c1_5 zQ5 c0_5 zP5
  have HW6 : Hid (∀ W, Below W6.heap.size W6 W → Wh W) := fun W hb => HW.out.below' (HB6.out.trans (hb.mono (Nat.le_of_lt HI6.out.lt))) HGlt.out
  go_wp2_with fail
  have c0_7 := HP6.out.at_.cell 0 _ rfl
  have k0_7 := cell_regrown c0_7
  have c1_7 := HQ6.out.at_.cell 3 _ rfl
  have k1_7 := cell_regrown c1_7
  have zP7 := HP6.out.lt
  have zQ7 := HQ6.out.lt
  have cS : ∀ dd os, Calls Tryz.prog 32 #[.int .u32 nu] (grow (redrawn W6 dd) os) fun e w'' => e = .returned (.string (Em.bts (Em.num nu))) ∧ ∃ p : Regrown, w'' = grow (redrawn W6 p.d) p.os := fun dd os => Calls.regrown_of (number_any nu hnu _ (HW6.out _ (below_regrown _ _ _)))
  refine wp_region_tail 4 (by kernel_rfl) (by kernel_rfl) ?_
  repeat (quiet_step (exact cS _ _))
  refine wpQuiet_nil ?_
  intro W7 hwz
  obtain ⟨⟨dq, osq⟩, hwz⟩ := hwz
  have hbz : Below W6.heap.size W6 W7 := by rw [hwz]; exact below_regrown _ _ _
  have HP7 := Lib.hid (HP6.out.call hbz)
  have HQ7 := Lib.hid (HQ6.out.call hbz)
  have HI7 := Lib.hid (HI6.out.call hbz)
  have HB7 := Lib.hid (HB6.out.trans (hbz.mono (by have := HI6.out.lt; omega)))
  clear hwz hbz cS k0_7 k1_7 c0_7 c1_7 zP7 zQ7
  show wpList _ _ _ (_ :: _) _ _
  go_wp2_with fail
  refine (Em.putS (Em.bts (Em.num nu)) HI7.out (by have h1 := HL.out; have h2 := HLq.out; rw [Em.bts_size] at h2; rw [List.length_append, List.length_append, List.length_append, Em.tl_bts]; simp only [List.length_cons, List.length_nil]; show _ + _ + _ + 7 ≤ _; omega) (by rw [Em.bts_size, Em.num_len]; omega)).mono ?_
  rintro e W8 ⟨rfl, hI, hb, ho⟩
  have HP8 := Lib.hid (HP7.out.others ho (by omega) (by decide))
  have HQ8 := Lib.hid (HQ7.out.others ho (by omega) (by decide))
  have HI8 := Lib.hid hI
  have HB8 := Lib.hid (HB7.out.trans hb)
  clear hI hb ho
  go_wp2
  go_end0
  refine ⟨rfl, ?_, HB8.out⟩
  have h := HI8.out
  show Em.IsB _ _ (L ++ (Em.quote (tl nm) ++ 61 :: ([110, 117, 109, 98, 101, 114, 58] ++ Em.num (nu : Int).toNat)))
  simp only [Em.tl_bts, List.append_assoc, List.singleton_append] at h
  exact h
namespace Em
/-- What stands between two rounds of the range over the parts. -/
structure RI (g h f0 : Nat) (w : World) (B : Txt) (pre : List Txt) (W : World) : Prop where
  b : IsB W g (B ++ joined (pre.map fun p => p.take 20))
  p : Blk W h #[.pointer (some ⟨g, 0, none⟩)] 52
  f : Blk W f0 #[.bool pre.isEmpty] 4
  l : Below g w W
theorem RI.grown {g h f0 : Nat} {w : World} {B : Txt} {pre : List Txt} {W W' : World} {row : Option Nat} (k : RI g h f0 w B pre W) (hg : W.grownBy W' row) (hr : ∀ r, row = some r → g ≤ r ∧ ∃ o : Obj, W.heap[r]? = some o ∧ o.isCells = false) (hw : g ≤ w.heap.size) : RI g h f0 w B pre W' :=
  ⟨k.b.grown hg (fun r e => (hr r e).2), k.p.grown hg (fun r e => (hr r e).2), k.f.grown hg (fun r e => (hr r e).2), k.l.grown hg (Nat.le_trans hw k.l.size) (fun r e => (hr r e).1)⟩
theorem others_from {e : TypeId} {g B : Nat} {W W' : World} (h : Lib.OthersKept e (some g) W W') (hs : W.heap.size ≤ W'.heap.size) (hg : g < B) : KeepsFrom B W W' :=
  ⟨hs, fun k o hB hk ho => h k o hk (fun q => by injection q with q; omega) (fun c fz q => by rw [q] at ho; cases ho)⟩
theorem below_from {B : Nat} {W W' : World} (h : Below W.heap.size W W') : KeepsFrom B W W' :=
  ⟨h.size, fun k _ _ hk _ => (h.block k (Array.getElem?_eq_some_iff.1 hk).1).trans hk⟩
theorem joined_next (pre : List Txt) (x : Txt) : joined ((pre ++ [x]).map fun p => p.take 20) = joined (pre.map fun p => p.take 20) ++ ((if pre = [] then [] else go) ++ hexs (x.take 20)) := by
  rw [List.map_append, List.map_singleton, joined_snoc]
  by_cases h : pre = []
  · subst h; rfl
  · rw [if_neg (by simpa using h), if_neg h]
theorem map_take_all (s : ByteArray) : (pts s).map (fun p => p.take 20) = pts s := by
  have h : ∀ l : List Txt, (∀ p ∈ l, p.length ≤ 20) → l.map (fun p => p.take 20) = l := by
    intro l
    induction l with
    | nil => intro _; rfl
    | cons a r ih =>
      intro hl
      rw [List.map_cons, ih fun p hp => hl p (by simp [hp]), List.take_of_length_le (hl a (by simp))]
  exact h _ (parts_le _ _)
theorem joined_le {pre : List Txt} {s : ByteArray} (h : pre.length ≤ (pts s).length) (hs : s.size ≤ 4096) : (joined (pre.map fun p => p.take 20)).length ≤ 300000 := by
  have h1 := joined_len (pre.map fun p => p.take 20) (by
    intro p hp
    rw [List.mem_map] at hp
    obtain ⟨q, _, rfl⟩ := hp
    exact List.length_take_le _ _)
  have h2 := parts_n (tl s).length (tl s)
  rw [tl_length] at h2
  rw [List.length_map] at h1
  unfold pts at h
  rw [tl_length] at h
  omega
end Em
set_option maxHeartbeats 4000000 in
set_option maxRecDepth 100000 in
theorem write_bytes (g : Nat) (L : Em.Txt) (nm tx by_ : ByteArray) (nu : Int) (hn : nm.size ≤ 64) (_ht : tx.size ≤ 4096) (hb : by_.size ≤ 4096) (w : World) (hI : Em.IsB w g L) (hL : L.length ≤ 10000000000000) :
    Calls Tryz.prog 15 #[.pointer (some ⟨g, 0, none⟩), .agg #[.string nm, .int .u8 3, .string tx, .int .u32 nu, .string by_]] w fun e w' => e = .returned (.tuple #[]) ∧ Em.IsB w' g (L ++ Em.val ⟨nm, 3, tx, nu, by_⟩) ∧ Below g w w' := by
  obtain ⟨h, hh⟩ : ∃ h, w.heap.size = h := ⟨_, rfl⟩
  obtain ⟨W2, hW2⟩ : ∃ W, (w.alloc (.cells #[.pointer (some ⟨g, 0, none⟩)] 52)).alloc (.cells #[.string nm, .int .u8 3, .string tx, .int .u32 nu, .string by_] 25) = W := ⟨_, rfl⟩
  have hP2 : Em.Blk W2 h #[.pointer (some ⟨g, 0, none⟩)] 52 := by rw [← hW2, ← hh]; exact (Em.Blk.new _ _ _).alloc _
  have hQ2 : Em.Blk W2 (h + 1) #[.string nm, .int .u8 3, .string tx, .int .u32 nu, .string by_] 25 := by
    have hx := Em.Blk.new (w.alloc (.cells #[.pointer (some ⟨g, 0, none⟩)] 52)) #[.string nm, .int .u8 3, .string tx, .int .u32 nu, .string by_] 25
    rw [World.size_alloc, hh] at hx
    rw [← hW2]
    exact hx
  have hI2 : Em.IsB W2 g L := by rw [← hW2]; exact (hI.call (Hv.bl1 w _)).call (Hv.bl1 _ _)
  have hgh : g < h := by rw [← hh]; exact hI.lt
  have hB2 : Below g w W2 := by rw [← hW2]; exact (Hv.bl (Hv.bl1 w _) _).mono (Nat.le_of_lt hI.lt)
  have hS2 : h + 2 ≤ W2.heap.size := by rw [← hW2, World.size_alloc, World.size_alloc, hh]; omega
  have HP2 := Lib.hid hP2
  have HQ2 := Lib.hid hQ2
  have HI2 := Lib.hid hI2
  have HB2 := Lib.hid hB2
  have HS2 := Lib.hid hS2
  have HW2 := Lib.hid hW2
  have HH := Lib.hid hh
  have HL := Lib.hid hL
  have z2 : h < W2.heap.size := by omega
  have z3 : h + 1 < W2.heap.size := by omega
  clear hP2 hQ2 hI2 hB2 hS2 hW2 hI hL
  refine (callsIn_wide (n := 5)).1 ?_
  refine callsIn_of_wp_marks Tryz.func15 rfl trivial ?_ rfl
  simp only [Tryz.ntmps15, List.size_toArray, List.length_cons, List.length_nil, Nat.reduceAdd, Nat.reduceSub, Array.replicate_succ, Array.replicate_zero, List.push_toArray, List.append_toArray, List.nil_append, List.cons_append]
  refine wpIn_wide.2 ?_
  have HLq := Lib.hid (show (Em.bts (Em.quote (tl nm))).size ≤ 200 by rw [Em.bts_size]; have := Em.quote_len (tl nm); rw [tl_length] at this; omega)
  go_wp2_with fail
  rw [HW2.out]
  have c0_3 := HP2.out.at_.cell 0 _ rfl
  have k0_3 := cell_regrown c0_3
  have c1_3 := HQ2.out.at_.cell 0 _ rfl
  have k1_3 := cell_regrown c1_3
  have zP3 := HP2.out.lt
  have zQ3 := HQ2.out.lt
  have cS : ∀ dd os, Calls Tryz.prog 6 #[.string nm] (grow (redrawn W2 dd) os) fun e w'' => e = .returned (.string (Em.bts (Em.quote (tl nm)))) ∧ ∃ p : Regrown, w'' = grow (redrawn W2 p.d) p.os := fun dd os => Calls.regrown_of (quote_any nm (by omega) _)
  refine wp_region_tail 4 (by kernel_rfl) (by kernel_rfl) ?_
  repeat (quiet_step (exact cS _ _))
  refine wpQuiet_nil ?_
  intro W3 hwz
  obtain ⟨⟨dq, osq⟩, hwz⟩ := hwz
  have hbz : Below W2.heap.size W2 W3 := by rw [hwz]; exact below_regrown _ _ _
  have HP3 := Lib.hid (HP2.out.call hbz)
  have HQ3 := Lib.hid (HQ2.out.call hbz)
  have HI3 := Lib.hid (HI2.out.call hbz)
  have HB3 := Lib.hid (HB2.out.trans (hbz.mono (by have := HI2.out.lt; omega)))
  clear hwz hbz cS k0_3 k1_3 c0_3 c1_3 zP3 zQ3
  show wpList _ _ _ (_ :: _) _ _
  go_wp2_with fail
  refine (Em.putS (Em.bts (Em.quote (tl nm))) HI3.out (by have := HL.out; omega) (by have := HLq.out; omega)).mono ?_
  rintro e W4 ⟨rfl, hI, hb, ho⟩
  have HP4 := Lib.hid (HP3.out.others ho (by omega) (by decide))
  have HQ4 := Lib.hid (HQ3.out.others ho (by omega) (by decide))
  have HI4 := Lib.hid hI
  have HB4 := Lib.hid (HB3.out.trans hb)
  clear hI hb ho
  have c0_4 := HP4.out.at_.cell 0 _ rfl
  have zP4 := HP4.out.lt
  go_wp2_with fail
  refine (Em.putB 61 HI4.out (by have h1 := HL.out; have h2 := HLq.out; rw [Em.bts_size] at h2; rw [List.length_append, Em.tl_bts]; omega)).mono ?_
  rintro e W5 ⟨rfl, hI, hb, ho⟩
  have HP5 := Lib.hid (HP4.out.others ho (by omega) (by decide))
  have HQ5 := Lib.hid (HQ4.out.others ho (by omega) (by decide))
  have HI5 := Lib.hid hI
  have HB5 := Lib.hid (HB4.out.trans hb)
  clear hI hb ho
  clear c0_4 zP4
  have c1_5 := HQ5.out.at_.cell 1 _ rfl
  have zQ5 := HQ5.out.lt
  have c0_5 := HP5.out.at_.cell 0 _ rfl
  have zP5 := HP5.out.lt
  go_wp2_with fail
  refine (Em.putS ⟨#[98, 121, 116, 101, 115, 58]⟩ HI5.out (by have h1 := HL.out; have h2 := HLq.out; rw [Em.bts_size] at h2; rw [List.length_append, List.length_append, Em.tl_bts]; simp only [List.length_cons, List.length_nil]; omega) (by decide)).mono ?_
  rintro e W6 ⟨rfl, hI, hb, ho⟩
  have HP6 := Lib.hid (HP5.out.others ho (by omega) (by decide))
  have HQ6 := Lib.hid (HQ5.out.others ho (by omega) (by decide))
  have HI6 := Lib.hid hI
  have HB6 := Lib.hid (HB5.out.trans hb)
  clear hI hb ho
  clear c0_5 zP5 c1_5 zQ5
  obtain ⟨f0, hf0⟩ : ∃ f, W6.heap.size = f := ⟨_, rfl⟩
  obtain ⟨W7, hW7⟩ : ∃ W, W6.alloc (.cells #[.bool true] 4) = W := ⟨_, rfl⟩
  have hF7 : Em.Blk W7 f0 #[.bool true] 4 := by rw [← hW7, ← hf0]; exact Em.Blk.new _ _ _
  have hb7 : Below W6.heap.size W6 W7 := by rw [← hW7]; exact Hv.bl1 _ _
  have HP7 := Lib.hid (HP6.out.call hb7)
  have HQ7 := Lib.hid (HQ6.out.call hb7)
  have HI7 := Lib.hid (HI6.out.call hb7)
  have HB7 := Lib.hid (HB6.out.trans (hb7.mono (Nat.le_of_lt HI6.out.lt)))
  have hs7 : f0 + 1 = W7.heap.size := by rw [← hW7, World.size_alloc, hf0]
  have HF7 := Lib.hid hF7
  have HW7 := Lib.hid hW7
  have HF0 := Lib.hid hf0
  have HS7 := Lib.hid hs7
  have c4 := HQ6.out.at_.cell 4 _ rfl
  have zQ := HQ6.out.lt
  have hhf : h + 1 < f0 := by rw [← hf0]; exact HQ6.out.lt
  clear hF7 hb7 hW7 hf0 hs7
  go_wp2_with fail
  rw [HW7.out, HF0.out]
  refine (parts_any by_ _).mono ?_
  rintro e W8 ⟨rfl, hW8⟩
  have hb8 : Below W7.heap.size W7 W8 := by rw [← hW8]; exact Hv.bl1 _ _
  have hc8 := (At.new W7 #[.string by_] 9).cell 0 _ rfl
  rw [hW8, ← HS7.out] at hc8
  have hs8 : W8.heap.size = f0 + 2 := by rw [← hW8, World.size_alloc, ← HS7.out]
  have HRI : Hid (Em.RI g h f0 w (L ++ tl (Em.bts (Em.quote (tl nm))) ++ [61] ++ tl ⟨#[98, 121, 116, 101, 115, 58]⟩) [] W8) :=
    ⟨by show Em.IsB _ _ (_ ++ []); rw [List.append_nil]; exact HI7.out.call hb8, HP7.out.call hb8, HF7.out.call hb8, HB7.out.trans (hb8.mono (Nat.le_of_lt HI7.out.lt))⟩
  have HC8 := Lib.hid hc8
  have HS8 := Lib.hid hs8
  clear hb8 hc8 hW8 hs8 c4 zQ
  rw [show W7.heap.size = f0 + 1 from HS7.out.symm]
  go_wp2_with fail
  refine (wpIn_wide (n := 5)).1 ?_
  refine wpIn_rangeFunc_ownG (F := Fence.wide) (n := 5) rfl (by decide) (gf := 54) (lb := #[.pointer (some ⟨f0 + 1, 0, none⟩)]) rfl trivial (enters_of Tryz.func54 (by kernel_rfl) rfl)
    (encs := fun p : Em.Txt => #[Value.string (Em.bts (p.take 20))]) (Kp := fun _ _ => True) (S := fun ys => ys = Em.pts by_) (Sp := fun _ => True) (N := (Em.pts by_).length) (w0 := W8)
    (fun l' JY JX W hW _ _ hY h0 => parts1_in 4 (by decide) l' (f0 + 1) by_ (by unfold maxLen; omega) JY JX hY W ((hW.cell (p := ⟨f0 + 1, 0, none⟩) (by rw [HS8.out]; show f0 + 1 < f0 + 2; omega)).trans HC8.out) h0)
    (fun _ _ => trivial) (fun _ _ _ _ _ _ _ _ => trivial) (Below.refl _ _) (fun _ => rfl)
    (Em.RI g h f0 w (L ++ tl (Em.bts (Em.quote (tl nm))) ++ [61] ++ tl ⟨#[98, 121, 116, 101, 115, 58]⟩)) (fun _ _ _ => False)
    (fun s A B row hs hg hr => hs.grown hg (fun r e => ⟨by have := (hr r e).1; have := HS8.out; omega, (hr r e).2⟩) (by rw [HH.out]; omega))
    (fun _ _ _ _ _ hs _ _ => hs)
    HRI.out ?a₁ ?assign ?body ?done ?stop
  case assign =>
    intro l' x W K hK
    gi_wp2
    exact hK
  case body =>
    intro l' pre x W hR hlt
    have hmx : Tryz.prog.follows .mixedOrders = true := by kernel_rfl
    have hd1 : 1 ≤ 5 - 1 - 1 := by omega
    have hjl := Em.joined_le (Nat.le_of_lt hlt) hb
    have hn := Em.joined_next pre x
    have hp := hR.p.at_.cell 0 _ rfl
    have hzp := hR.p.lt
    have hzf := hR.f.lt
    have hzS : W8.heap.size = f0 + 2 := HS8.out
    obtain ⟨q, hq⟩ : ∃ q : Em.Txt, x.take 20 = q := ⟨_, rfl⟩
    have hq20 : q.length ≤ 20 := by rw [← hq]; exact List.length_take_le _ _
    have HX := Lib.hid (fun W => hex_any (Em.bts q) (by rw [Em.bts_size]; omega) W)
    have HXl := Lib.hid (Em.hexs_len q)
    rw [hq] at hn ⊢
    obtain ⟨J, hJ⟩ : ∃ J : Em.Txt, Em.joined (pre.map fun p => p.take 20) = J := ⟨_, rfl⟩
    have hRb := hR.b
    rw [hJ] at hn hjl hRb
    have HN := Lib.hid hn
    have HJl := Lib.hid hjl
    have HRb := Lib.hid hRb
    have HRp := Lib.hid hR.p
    have HRf := Lib.hid hR.f
    have HRl := Lib.hid hR.l
    have HZS := Lib.hid hzS
    clear hR hlt hjl hn hJ hRb hzS hq
    by_cases he : pre = []
    · subst he
      have hf := HRf.out.at_.cell 0 _ rfl
      gi_wp2
      gi_region_with_o (first
        | (refine ⟨trivial, ?_⟩; gi_at_call 13; refine (CallsIn.inRound l' (callsIn_wide.2 (HX.out _))).mono ?_; rintro e w3 ⟨rfl, hb3⟩; have hp3 := (hb3.cell (p := ⟨h, 0, none⟩) hzp).trans hp; have HB3 := Lib.hid hb3; clear hb3)
        | (refine ⟨trivial, ?_⟩; gi_at_call 31; refine (CallsIn.inRound l' (callsIn_wide.2 (Em.putS (Em.bts (Em.hexs (tl (Em.bts q)))) (HRb.out.drew1.call HB3.out) (by have h1 := HL.out; have h2 := HLq.out; have h3 := HJl.out; rw [Em.bts_size] at h2; simp only [List.length_append, Em.tl_bts, List.length_cons, List.length_nil]; show _ + _ + _ + 6 + _ ≤ _; omega) (by rw [Em.bts_size, Em.tl_bts]; have := HXl.out; omega)))).mono ?_; rintro e w4 ⟨rfl, hI4, hb4, ho4⟩; have hF4 := (HRf.out.drew1.call HB3.out).others ho4 (by omega) (by decide); have f4 := hF4.at_.cell 0 _ rfl; have g4 := hF4.at_.free 0 _ rfl; have HF4 := Lib.hid hF4; have HI4 := Lib.hid hI4; have HB4 := Lib.hid hb4; have HO4 := Lib.hid ho4; clear hI4 hb4 ho4 hF4))
      all_goals
        have hP4 := (HRp.out.drew1.call HB3.out).others HO4.out (by omega) (by decide)
        have hS4 : w4.heap.size ≥ W.heap.size := Nat.le_trans HB3.out.size HB4.out.size
        have hK : KeepsFrom W8.heap.size W w4 := ((Em.below_from ((show Drew W W.drew from ⟨1, rfl⟩).below _)).trans (Em.below_from HB3.out)).trans (Em.others_from HO4.out HB4.out.size (by have := HZS.out; omega))
        have HK := Lib.hid (hK.trans ((KeepsOthers.setCell w4 ⟨f0, 0, none⟩ (.bool false)).from W8.heap.size))
        have hl4 : Below g w w4 := ((HRl.out.trans ((show Drew W W.drew from ⟨1, rfl⟩).below _)).trans (HB3.out.mono (by have := HRp.out.lt; show _ ≤ W.heap.size; omega))).trans HB4.out
        have HL4 := Lib.hid hl4
        have HP4 := Lib.hid hP4
        clear hP4 hS4 hK hl4
        gi_wp2
        refine ⟨HK.out, trivial, ⟨?_, HP4.out.set _ _ (by show f0 ≠ h; omega), ?_, HL4.out.setCell (by show g ≤ f0; omega) _⟩⟩
        · rw [HN.out]
          have h2 := HI4.out.set (p := ⟨f0, 0, none⟩) HF4.out (by decide) (by show f0 ≠ g; omega) (.bool false)
          simp only [Em.tl_bts, List.append_assoc] at h2
          rw [if_pos trivial, List.nil_append]
          simp only [Em.tl_bts, List.append_assoc]
          exact h2
        · rw [Em.isEmpty_snoc]
          exact HF4.out.set_self 0 (.bool false)
    · have hem : pre.isEmpty = false := by
        cases pre with
        | nil => exact absurd rfl he
        | cons _ _ => rfl
      rw [hem] at HRf
      have hf := HRf.out.at_.cell 0 _ rfl
      have HE := Lib.hid he
      clear he hem
      gi_wp2_with (refine ⟨trivial, ?_⟩; gi_at_call 31; refine (CallsIn.inRound l' (callsIn_wide.2 (Em.putS ⟨#[44, 92, 10, 32, 32]⟩ HRb.out (by have h1 := HL.out; have h2 := HLq.out; have h3 := HJl.out; rw [Em.bts_size] at h2; simp only [List.length_append, Em.tl_bts, List.length_cons, List.length_nil]; show _ + _ + _ + 6 + _ ≤ _; omega) (by decide)))).mono ?_; rintro e w2 ⟨rfl, hI2, hb2, ho2⟩; have hp2 := (HRp.out.others ho2 (by omega) (by decide)).at_.cell 0 _ rfl; have hzp2 := (HRp.out.others ho2 (by omega) (by decide)).lt; have HRp2 := Lib.hid (HRp.out.others ho2 (by omega) (by decide)); have HRf2 := Lib.hid (HRf.out.others ho2 (by omega) (by decide)); have HRb2 := Lib.hid hI2; have HRl2 := Lib.hid (HRl.out.trans hb2); have HKf := Lib.hid (Em.others_from (B := W8.heap.size) ho2 hb2.size (by have := HZS.out; omega)); clear hI2 hb2 ho2)
      gi_region_with_o (first
        | (refine ⟨trivial, ?_⟩; gi_at_call 13; refine (CallsIn.inRound l' (callsIn_wide.2 (HX.out _))).mono ?_; rintro e w3 ⟨rfl, hb3⟩; have hp3 := (hb3.cell (p := ⟨h, 0, none⟩) hzp2).trans hp2; have HB3 := Lib.hid hb3; clear hb3)
        | (refine ⟨trivial, ?_⟩; gi_at_call 31; refine (CallsIn.inRound l' (callsIn_wide.2 (Em.putS (Em.bts (Em.hexs (tl (Em.bts q)))) (HRb2.out.drew1.call HB3.out) (by have h1 := HL.out; have h2 := HLq.out; have h3 := HJl.out; rw [Em.bts_size] at h2; simp only [List.length_append, Em.tl_bts, List.length_cons, List.length_nil]; show _ + _ + _ + 6 + _ + 5 ≤ _; omega) (by rw [Em.bts_size, Em.tl_bts]; have := HXl.out; omega)))).mono ?_; rintro e w4 ⟨rfl, hI4, hb4, ho4⟩; have hF4 := (HRf2.out.drew1.call HB3.out).others ho4 (by omega) (by decide); have f4 := hF4.at_.cell 0 _ rfl; have g4 := hF4.at_.free 0 _ rfl; have HF4 := Lib.hid hF4; have HI4 := Lib.hid hI4; have HB4 := Lib.hid hb4; have HO4 := Lib.hid ho4; clear hI4 hb4 ho4 hF4))
      all_goals
        have hP4 := (HRp2.out.drew1.call HB3.out).others HO4.out (by omega) (by decide)
        have hS4 : w4.heap.size ≥ w2.heap.size := Nat.le_trans HB3.out.size HB4.out.size
        have hK : KeepsFrom W8.heap.size w2 w4 := ((Em.below_from ((show Drew w2 w2.drew from ⟨1, rfl⟩).below _)).trans (Em.below_from HB3.out)).trans (Em.others_from HO4.out HB4.out.size (by have := HZS.out; omega))
        have HK := Lib.hid (HKf.out.trans <| hK.trans ((KeepsOthers.setCell w4 ⟨f0, 0, none⟩ (.bool false)).from W8.heap.size))
        have hl4 : Below g w w4 := ((HRl2.out.trans ((show Drew w2 w2.drew from ⟨1, rfl⟩).below _)).trans (HB3.out.mono (by have := HRp2.out.lt; show _ ≤ w2.heap.size; omega))).trans HB4.out
        have HL4 := Lib.hid hl4
        have HP4 := Lib.hid hP4
        clear hP4 hS4 hK hl4
        gi_wp2
        refine ⟨HK.out, trivial, ⟨?_, HP4.out.set _ _ (by show f0 ≠ h; omega), ?_, HL4.out.setCell (by show g ≤ f0; omega) _⟩⟩
        · rw [HN.out]
          have h2 := HI4.out.set (p := ⟨f0, 0, none⟩) HF4.out (by decide) (by show f0 ≠ g; omega) (.bool false)
          simp only [Em.tl_bts, List.append_assoc] at h2
          rw [if_neg HE.out]
          simp only [Em.tl_bts, List.append_assoc]
          exact h2
        · rw [Em.isEmpty_snoc]
          exact HF4.out.set_self 0 (.bool false)
  case stop =>
    intro D c pre W _ _ h _
    exact h.elim
  case done =>
    intro D ys W hD hys hR hK
    subst hys
    have hI := hR.b
    rw [Em.map_take_all] at hI
    have HI9 := Lib.hid hI
    have HB9 := Lib.hid hR.l
    have HK9 := Lib.hid hK
    clear hI hR hK
    gi_wp2
    refine ⟨by simp, .inl ⟨_, _, rfl, run_takeDeferred HK9.out, ?_⟩⟩
    refine ⟨_, results_none rfl _ _ _, rfl, ?_, HB9.out.trans (belowK_b (w := w) (by rw [HH.out]; omega) W D _ _ (by rw [HH.out]; rw [HS8.out] at hD; omega) HK9.out rfl rfl)⟩
    have h2 := HI9.out.grown (grownBy_putObj' W D (.deferred none)) (fun r e => by cases e; exact ⟨_, HK9.out, rfl⟩)
    show Em.IsB _ _ (L ++ (Em.quote (tl nm) ++ 61 :: ([98, 121, 116, 101, 115, 58] ++ Em.bytes (tl by_))))
    have e : L ++ (Em.quote (tl nm) ++ 61 :: ([98, 121, 116, 101, 115, 58] ++ Em.bytes (tl by_))) = L ++ tl (Em.bts (Em.quote (tl nm))) ++ [61] ++ tl ⟨#[98, 121, 116, 101, 115, 58]⟩ ++ Em.joined (Em.pts by_) := by
      simp only [Em.tl_bts, List.append_assoc, List.singleton_append]
      rfl
    rw [e]
    exact h2
end Go.Proofs.YtmnolcjmnddbnaaGreatDoor
