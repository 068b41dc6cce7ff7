/- emit.Quote: a quoted text. -/
import Derived.Test.YthmhadgbhakdlaaGreatDoorK01
import Derived.Test.YthmhadgbhakdlaaGreatDoorK14
import Derived.Deep.QuietTactic
import Derived.Deep.DeepMust
import Derived.Lib.UnsafeStr
import Derived.RangeFuncNested
import Derived.RangeFuncBound
import Derived.RangeFuncCalls
import Derived.RangeFuncLeaves
import Derived.Shelf.Abstract
import Derived.Shelf.AbstractIn
import Derived.Shelf.RegionOpen
import Derived.OwnWalkIn
import Derived.TacticsInMore
import Derived.LoopNIn
import Derived.LoopIn

namespace Go.Proofs.YthmhadgbhakdlaaGreatDoor
open Go.RowKit

namespace Em
/-- A builder in block b, that holds these bytes. -/
abbrev IsB (w : World) (b : Nat) (l : Txt) : Prop := Lib.IsBuilderF 109 5 b b (Lib.byteCells l) w
theorem atF_call {w w' : World} {B b : Nat} {T e : TypeId} {p : Value} {bs : List Value} (h : Lib.BuilderAtF T e B b p bs w) (hb : Below w.heap.size w w') : Lib.BuilderAtF T e B b p bs w' := by
  have hlt := h.lt
  obtain ⟨hB, v, hbk, hown, hne⟩ := h
  refine ⟨hB, v, (hb.block b hlt).trans hbk, ?_, hne⟩
  refine hown.kept (row := none) ⟨hb.os, hb.tape, hb.output, hb.size, fun k hk _ => hb.block k hk⟩ ?_
  cases v.ownBlock <;> simp
theorem IsB.call {w w' : World} {b : Nat} {l : Txt} (h : IsB w b l) (hb : Below w.heap.size w w') : IsB w' b l := h.elim (fun x => .inl (atF_call x hb)) (fun x => .inr (atF_call x hb))
theorem IsB.lt {w : World} {b : Nat} {l : Txt} (h : IsB w b l) : b < w.heap.size := h.elim (fun x => x.lt) (fun x => x.lt)
theorem bytes_app (a b : Txt) : Lib.byteCells (a ++ b) = Lib.byteCells a ++ Lib.byteCells b := by unfold Lib.byteCells; rw [List.map_append]
theorem bytes_one (l : Txt) (c : UInt8) : Lib.byteCells l ++ [.int .u8 (c.toNat : Int)] = Lib.byteCells (l ++ [c]) := by rw [bytes_app]; rfl
theorem bytes_str (l t : Txt) : Lib.byteCells l ++ Lib.strCells (bts t) = Lib.byteCells (l ++ t) := by rw [bytes_app]; rfl
theorem cells_len (l : Txt) : (Lib.byteCells l).length = l.length := by unfold Lib.byteCells; rw [List.length_map]
/-- A byte more. -/
theorem putB {g : Nat} {l : Txt} {w : World} (c : UInt8) (h : IsB w g l) (hl : l.length ≤ 100000000000000) :
    Calls Tryz.prog 45 #[.pointer (some ⟨g, 0, none⟩), .int .u8 (c.toNat : Int)] w fun e w' => e = .returned .nilIface ∧ IsB w' g (l ++ [c]) ∧ Below g w w' ∧ Lib.OthersKept 5 (some g) w w' :=
  (Tryz.prWriteByte g g _ (c.toNat : Int) w h (by rw [cells_len]; omega) (Nat.le_of_lt h.lt)).mono fun _ _ h2 => ⟨h2.1, by show Lib.IsBuilderF _ _ _ _ _ _; rw [← bytes_one]; exact .inr h2.2.1, h2.2.2.1, h2.2.2.2⟩
/-- A text more. -/
theorem putS {g : Nat} {l : Txt} {w : World} (t : ByteArray) (h : IsB w g l) (hl : l.length ≤ 100000000000000) (ht : t.size ≤ 100000000) :
    Calls Tryz.prog 43 #[.pointer (some ⟨g, 0, none⟩), .string t] w fun e w' => e = .returned (.tuple #[.int .i64 t.size, .nilIface]) ∧ IsB w' g (l ++ tl t) ∧ Below g w w' ∧ Lib.OthersKept 5 (some g) w w' :=
  (Tryz.prWriteString g g _ t w h (by rw [cells_len]; omega) (Nat.le_of_lt h.lt)).mono fun _ _ h2 => ⟨h2.1, by show Lib.IsBuilderF _ _ _ _ _ _; rw [← bytes_str]; exact .inr h2.2.1, h2.2.2.1, h2.2.2.2⟩
theorem tl_bts_ (l : Txt) : tl (bts l) = l := rfl
theorem tl_take_next (s : ByteArray) (k : Nat) (h : k < s.size) : (tl s).take (k + 1) = (tl s).take k ++ [s[k]] := by
  unfold tl
  rw [List.take_succ_eq_append_getElem (by simpa using h)]
  rfl
theorem esc_cases (b : UInt8) : (esc1 b = [92] ++ [b] ∧ ((b.toNat : Int) == 92) = true) ∨ (esc1 b = [92] ++ [b] ∧ ((b.toNat : Int) == 92) = false ∧ ((b.toNat : Int) == 34) = true) ∨ (esc1 b = [b] ∧ ((b.toNat : Int) == 92) = false ∧ ((b.toNat : Int) == 34) = false) := by
  have : ∀ b : UInt8, (esc1 b = [92] ++ [b] ∧ ((b.toNat : Int) == 92) = true) ∨ (esc1 b = [92] ++ [b] ∧ ((b.toNat : Int) == 92) = false ∧ ((b.toNat : Int) == 34) = true) ∨ (esc1 b = [b] ∧ ((b.toNat : Int) == 92) = false ∧ ((b.toNat : Int) == 34) = false) := by
    intro b
    have h : ∀ n : Fin 256, (esc1 (UInt8.ofNat n) = [92] ++ [UInt8.ofNat n] ∧ (((UInt8.ofNat n).toNat : Int) == 92) = true) ∨ (esc1 (UInt8.ofNat n) = [92] ++ [UInt8.ofNat n] ∧ (((UInt8.ofNat n).toNat : Int) == 92) = false ∧ (((UInt8.ofNat n).toNat : Int) == 34) = true) ∨ (esc1 (UInt8.ofNat n) = [UInt8.ofNat n] ∧ (((UInt8.ofNat n).toNat : Int) == 92) = false ∧ (((UInt8.ofNat n).toNat : Int) == 34) = false) := by decide +kernel
    have h2 := h ⟨b.toNat, b.toNat_lt⟩
    simpa using h2
  exact this b
def QAt (w : World) (s : ByteArray) (i : Value) (wr : World) : Prop :=
  ∃ k : Nat, k ≤ s.size ∧ i = .int .i64 (k : Int) ∧ Hid (IsB wr w.heap.size (34 :: esc ((tl s).take k))) ∧ Hid (Below w.heap.size w wr)
theorem q_len {s : ByteArray} (k : Nat) (h : s.size ≤ 100000000) : (34 :: esc ((tl s).take k)).length ≤ 200000001 := by
  have := esc_len ((tl s).take k)
  rw [List.length_take, tl_length] at this
  rw [List.length_cons]
  omega
theorem q_next (s : ByteArray) (k : Nat) (h : k < s.size) (b : UInt8) (hb : s[k] = b) : (34 :: esc ((tl s).take (k + 1))) = (34 :: esc ((tl s).take k)) ++ esc1 b := by
  rw [tl_take_next s k h, esc_snoc, hb]; rfl
end Em
set_option maxHeartbeats 4000000 in
set_option maxRecDepth 100000 in
theorem quote_any (s : ByteArray) (hs : s.size ≤ 100000000) (w : World) :
    Calls Tryz.prog 25 #[.string s] w fun e w' => e = .returned (.string (Em.bts (Em.quote (tl s)))) ∧ Below w.heap.size w w' := by
  go_enter Tryz.func25, Tryz.ntmps25
  go_wp2_with fail
  refine (Em.putB (g := w.heap.size) (l := []) 34 (Lib.IsBuilderF.of (Lib.fresh_isBuilder _ _ w)) (by simp)).mono ?_
  rintro e w1 ⟨rfl, hI, hb, _⟩
  have HI1 := Lib.hid hI
  have HB1 := Lib.hid ((Hv.bl1 w (.cells #[.pointer none, .slice none 0 0] 109)).trans hb)
  clear hI hb
  go_wp2_with fail
  go_loopw [4] (fun i wr => Em.QAt w s i wr) (fun i _ => s.size - (intOf i).toNat)
  case atStart => exact ⟨0, Nat.zero_le _, rfl, HI1.out, HB1.out⟩
  case round =>
    obtain ⟨k, hk, rfl, HI, HB⟩ := hrel
    by_cases hlt : k < s.size
    · have q1 : (0 : Int) ≤ (k : Int) := by omega
      have q2 : (k : Int) < (s.size : Int) := by omega
      obtain ⟨b, hb⟩ : ∃ b, s[k]'hlt = b := ⟨_, rfl⟩
      have HN := Lib.hid (Em.q_next s k hlt b hb)
      have HL := Lib.hid (Em.q_len (s := s) k hs)
      rcases Em.esc_cases b with ⟨hE, p1⟩ | ⟨hE, p1, p2⟩ | ⟨hE, p1, p2⟩
      · have HE := Lib.hid hE
        clear hE
        have hbk := hb
        go_wp2_with fail
        refine (Em.putB 92 HI.out (by have := HL.out; omega)).mono ?_
        rintro e w2 ⟨rfl, hI, hb2, _⟩
        have HI2 := Lib.hid hI
        have HB2 := Lib.hid (HB.out.trans hb2)
        clear hI hb2
        go_wp2_with fail
        refine (Em.putB b HI2.out (by have := HL.out; rw [List.length_append]; simp; simp at this; omega)).mono ?_
        rintro e w9 ⟨rfl, hI, hb9, _⟩
        have HI9 : Hid (Em.IsB w9 w.heap.size (34 :: Em.esc ((tl s).take (k + 1)))) := by
          show Em.IsB _ _ _
          rw [HN.out, HE.out]
          first | exact hI | (rw [List.append_assoc] at hI; exact hI)
        have HB9 := Lib.hid (HB2.out.trans hb9)
        clear hI hb9
        go_wp2
        go_roundw
        case rel => exact ⟨k + 1, by omega, by go_num, HI9.out, HB9.out⟩
        case measure => simp [intOf]; omega
      · have HE := Lib.hid hE
        clear hE
        go_wp2_with fail
        refine (Em.putB 92 HI.out (by have := HL.out; omega)).mono ?_
        rintro e w2 ⟨rfl, hI, hb2, _⟩
        have HI2 := Lib.hid hI
        have HB2 := Lib.hid (HB.out.trans hb2)
        clear hI hb2
        go_wp2_with fail
        refine (Em.putB b HI2.out (by have := HL.out; rw [List.length_append]; simp; simp at this; omega)).mono ?_
        rintro e w9 ⟨rfl, hI, hb9, _⟩
        have HI9 : Hid (Em.IsB w9 w.heap.size (34 :: Em.esc ((tl s).take (k + 1)))) := by
          show Em.IsB _ _ _
          rw [HN.out, HE.out]
          first | exact hI | (rw [List.append_assoc] at hI; exact hI)
        have HB9 := Lib.hid (HB2.out.trans hb9)
        clear hI hb9
        go_wp2
        go_roundw
        case rel => exact ⟨k + 1, by omega, by go_num, HI9.out, HB9.out⟩
        case measure => simp [intOf]; omega
      · have HE := Lib.hid hE
        clear hE
        go_wp2_with fail
        refine (Em.putB b HI.out (by have := HL.out; omega)).mono ?_
        rintro e w9 ⟨rfl, hI, hb9, _⟩
        have HI9 : Hid (Em.IsB w9 w.heap.size (34 :: Em.esc ((tl s).take (k + 1)))) := by
          show Em.IsB _ _ _
          rw [HN.out, HE.out]
          first | exact hI | (rw [List.append_assoc] at hI; exact hI)
        have HB9 := Lib.hid (HB.out.trans hb9)
        clear hI hb9
        go_wp2
        go_roundw
        case rel => exact ⟨k + 1, by omega, by go_num, HI9.out, HB9.out⟩
        case measure => simp [intOf]; omega
    · have q2 : ¬ (k : Int) < (s.size : Int) := by omega
      have hI := HI.out
      rw [List.take_of_length_le (by rw [tl_length]; omega)] at hI
      have HI2 := Lib.hid hI
      have HQ := Lib.hid (Em.quote_len (tl s))
      have HL : Hid ((34 :: Em.esc (tl s)).length ≤ 200000001) := by
        show _ ≤ _
        have := Em.esc_len (tl s)
        rw [tl_length] at this
        rw [List.length_cons]
        omega
      clear hI
      go_wp2_with fail
      refine (Em.putB 34 HI2.out (by have := HL.out; omega)).mono ?_
      rintro e w2 ⟨rfl, hI, hb, _⟩
      have HI3 := Lib.hid hI
      have HB2 := Lib.hid (HB.out.trans hb)
      clear hI hb
      go_wp2_with fail
      refine (Tryz.Builder_String_any_k w.heap.size w.heap.size _ w2 HI3.out (Nat.le_of_lt HI3.out.lt)).mono ?_
      rintro e w3 ⟨rfl, _, hb, _⟩
      have HB3 := Lib.hid (HB2.out.trans hb)
      clear hb
      go_wp2
      go_ret
      exact ⟨rfl, HB3.out⟩
end Go.Proofs.YthmhadgbhakdlaaGreatDoor

/- strconv.FormatUint at base 16: a number's digits; emit.number. -/
namespace Go.Proofs.YthmhadgbhakdlaaGreatDoor
open Go.RowKit

namespace Em
theorem and15 (m : Nat) (h : m < 18446744073709551616) : bits .and .u64 (m : Int) 15 = ((m % 16 : Nat) : Int) := by
  have e : (BitVec.ofInt 64 (m : Int) &&& BitVec.ofInt 64 (15 : Int)).toNat = m % 16 := by
    rw [BitVec.toNat_and]
    have e1 : (BitVec.ofInt 64 (m : Int)).toNat = m := by rw [BitVec.toNat_ofInt]; omega
    have e2 : (BitVec.ofInt 64 (15 : Int)).toNat = 2 ^ 4 - 1 := by decide
    rw [e1, e2, Nat.and_two_pow_sub_one_eq_mod]
  show IntKind.u64.wrap (((BitVec.ofInt 64 (m : Int) &&& BitVec.ofInt 64 (15 : Int)).toNat : Nat) : Int) = _
  rw [e]
  exact IntWalk.u64_in _ (by omega)
/-- The digits of all bases. -/
def dg : ByteArray := ⟨#[48, 49, 50, 51, 52, 53, 54, 55, 56, 57, 97, 98, 99, 100, 101, 102, 103, 104, 105, 106, 107, 108, 109, 110, 111, 112, 113, 114, 115, 116, 117, 118, 119, 120, 121, 122]⟩
theorem dg_hex (x : Nat) (h : x < 16) (h' : x < dg.size) : (dg[x]'h') = hexd x := by
  have : ∀ x : Fin 16, dg.data[x.val]? = some (hexd x.val) := by decide +kernel
  have h2 := this ⟨x, h⟩
  have h3 : dg.data[x]? = some (dg[x]'h') := by
    show _ = some (dg.data[x]'h')
    exact Array.getElem?_eq_getElem h'
  rw [h3] at h2
  exact Option.some.inj h2
theorem drop_set {l : List Value} {p : Nat} (v : Value) (h : p < l.length) : (l.set p v).drop p = v :: l.drop (p + 1) := by
  rw [List.drop_eq_getElem_cons (by simpa using h), List.getElem_set_self, List.drop_set_of_lt (Nat.lt_succ_self p)]
end Em
/-- What the table of the library says. -/
structure Wh (w : World) : Prop where
  t : w.cell? ⟨8, 15, none⟩ = some (.int .u8 4)
theorem Wh.below {w w' : World} (h : Wh w) (hb : Below w.heap.size w w') : Wh w' :=
  ⟨(hb.cell (p := ⟨_, 15, none⟩) (block_lt_of_cell h.t)).trans h.t⟩
theorem Wh.below' {w w' : World} {B : Nat} (h : Wh w) (hb : Below B w w') (hB : 8 < B) : Wh w' :=
  ⟨(hb.cell (p := ⟨_, 15, none⟩) hB).trans h.t⟩
set_option maxHeartbeats 2000000 in
set_option maxRecDepth 100000 in
theorem trail16 (w : World) (hW : Wh w) : Calls Tryz.prog 214 #[.int .u64 16] w fun e w' => e = .returned (.int .i64 4) ∧ Drew w w' := by
  have ht := hW.t
  have e1 : IntKind.u64.wrap (-16) = 18446744073709551600 := by decide +kernel
  have e2 : bits .and .u64 16 18446744073709551600 = 16 := by decide +kernel
  have e3 : IntKind.u64.wrap (16 * 285870213051353865) = 4573923408821661840 := by decide +kernel
  go_enter Tryz.func214, Tryz.ntmps214
  go_wp2
  go_ret
  exact ⟨rfl, Drew.refl _⟩
theorem pow16 (w : World) : Calls Tryz.prog 204 #[.int .i64 16] w fun e w' => e = .returned (.bool true) ∧ Drew w w' := by
  have e1 : bits .and .i64 16 15 = 0 := by decide +kernel
  go_enter Tryz.func204, Tryz.ntmps204
  go_wp2
  go_ret
  exact ⟨rfl, Drew.refl _⟩
set_option maxHeartbeats 2000000 in
set_option maxRecDepth 100000 in
theorem trail (w : World) (hW : Wh w) : Calls Tryz.prog 205 #[.int .u64 16] w fun e w' => e = .returned (.int .i64 4) ∧ Drew w w' := by
  have HT := Lib.hid (fun W hW => trail16 W hW)
  go_enter Tryz.func205, Tryz.ntmps205
  go_wp2_with (refine (HT.out _ hW).mono ?_; rintro e w' ⟨rfl, hd⟩)
  go_ret
  exact ⟨rfl, hd⟩
theorem Wh.drew {w w' : World} (h : Wh w) (hd : Drew w w') : Wh w' := h.below (hd.below _)
theorem slice65 (g p : Nat) (h1 : 1 ≤ p) (h2 : p ≤ 64) (W : World) : (Instr.sliceAt 246 (.pointer (some ⟨g, 0, none⟩)) (some (.int .i64 (p : Int))) none none).run Tryz.prog W = .ok (.slice (some ⟨g, p, none⟩) (65 - p) (65 - p)) W := by
  have hl : Tryz.prog.arrayLen 246 = 65 := by kernel_rfl
  have hs : (sizeOf (Tryz.prog.elem 246)).run Tryz.prog W = .ok 1 W := by kernel_rfl
  rw [run_sliceAt_array_l W 246 ⟨g, 0, none⟩ (by kernel_rfl) .i64 (p : Int) (by omega) (by rw [hl]; omega), hs, hl]
  show Result.ok (slicedAt ⟨g, 0, none⟩ (p : Int).toNat 65 65 1) W = _
  unfold slicedAt Addr.add
  rw [Int.toNat_natCast, if_neg (by omega), if_neg (by omega)]
  simp
set_option maxHeartbeats 4000000 in
set_option maxRecDepth 100000 in
theorem fbits (n : Nat) (hn : n < 4294967296) (w : World) (hW : Wh w) :
    Calls Tryz.prog 187 #[.slice none 0 0, .int .u64 n, .int .i64 16, .bool false, .bool false] w fun e w' => e = .returned (.tuple #[.slice none 0 0, .string (Em.bts (Em.digs 7 n []))]) ∧ Below w.heap.size w w' := by
  have HT := Lib.hid (fun W hW => trail W hW)
  have HP := Lib.hid pow16
  have HW := Lib.hid hW
  clear hW
  obtain ⟨D, hD⟩ : ∃ D, Em.digs 7 n [] = D := ⟨_, rfl⟩
  rw [hD]
  have HD := Lib.hid hD
  obtain ⟨g, hg⟩ : ∃ g, w.heap.size = g := ⟨_, rfl⟩
  obtain ⟨W0, hW0⟩ : ∃ W, w.alloc (.cells Tryz.zeroCells246 246) = W := ⟨_, rfl⟩
  have HB0 : Hid (Below w.heap.size w W0) := by show Below _ _ _; rw [← hW0]; exact Hv.bl1 _ _
  have HA0 : Hid (At W0 g Tryz.zeroCells246.toList) := by show At _ _ _; rw [← hW0, ← hg]; exact At.new _ _ _
  have hz : Tryz.zeroCells246.toList.length = 65 := by kernel_rfl
  have HZ := Lib.hid hz
  have HW0 := Lib.hid hW0
  have HG := Lib.hid hg
  clear hD hg hW0 hz
  go_enter Tryz.func187, Tryz.ntmps187
  go_wp2_with fail
  rw [HW0.out, HG.out]
  refine (HP.out _).mono ?_
  rintro e w1 ⟨rfl, hd1⟩
  have HB1 := Lib.hid (HB0.out.trans (hd1.below _))
  have HA1 := Lib.hid (HA0.out.drew hd1)
  clear hd1
  go_wp2_with fail
  refine (HT.out _ (HW.out.below HB1.out)).mono ?_
  rintro e w2 ⟨rfl, hd2⟩
  have HB2 := Lib.hid (HB1.out.trans (hd2.below _))
  have HA2 := Lib.hid (HA1.out.drew hd2)
  clear hd2
  go_wp2_with fail
  go_loopw [1, 13] (fun u i wr => ∃ (k m p : Nat) (acc : Em.Txt), u = .int .u64 (m : Int) ∧ i = .int .i64 ((p : Int) + 1) ∧ k + p = 64 ∧ k ≤ 7 ∧ Hid (m < 16 ^ (8 - k)) ∧ Hid (Em.digs (7 - k) m acc = D) ∧ Hid (acc.length = k) ∧ Hid (∃ cs, At wr g cs ∧ cs.length = 65 ∧ cs.drop (p + 1) = Lib.byteCells acc) ∧ Hid (Below w.heap.size w wr)) (fun u _ _ => (intOf u).toNat)
  case atStart => exact ⟨0, n, 64, [], rfl, rfl, by omega, by omega, by show n < 16 ^ 8; omega, HD.out, rfl, ⟨_, HA2.out, HZ.out, by rw [List.drop_eq_nil_of_le (by rw [HZ.out]; omega)]; rfl⟩, HB2.out⟩
  case round =>
    obtain ⟨k, m, p, acc, rfl, rfl, hkp, hk, HM, HDg, HL, HC, HB⟩ := hrel
    obtain ⟨cs, hA, hcl, hcd⟩ := HC.out
    have hm16 : m < 4294967296 := Nat.lt_of_lt_of_le HM.out (show 16 ^ (8 - k) ≤ 16 ^ 8 from Nat.pow_le_pow_right (by omega) (by omega))
    have w1 : IntKind.i64.wrap ((p : Int) + 1 - 1) = (p : Int) := by rw [IntKind.wrap_i64]; omega
    have w2 : wrap64 ((p : Int) + 1 - 1) = (p : Int) := by unfold wrap64; omega
    have p0 : (0 : Int) ≤ (p : Int) := by omega
    have p1 : (p : Int) < 65 := by omega
    have hpl : p < cs.length := by omega
    obtain ⟨u0, hu0⟩ : ∃ u, cs[p]? = some u := ⟨_, List.getElem?_eq_getElem hpl⟩
    have s0 := hA.cell p _ hu0
    have s1 := hA.free p _ hu0
    have HAt := Lib.hid hA
    have HCl := Lib.hid hcl
    have HCd := Lib.hid hcd
    have HGb : Hid (w.heap.size ≤ g) := Nat.le_of_eq HG.out
    by_cases h16 : 16 ≤ m
    · have q1 : (16 : Int) ≤ (m : Int) := by omega
      have hand := Em.and15 m (by omega)
      have hk6 : k ≤ 6 := by
        rcases Nat.lt_or_ge k 7 with h | h
        · omega
        · have h7 : k = 7 := by omega
          have := HM.out
          rw [h7] at this
          omega
      have HM2 : Hid (m / 16 < 16 ^ (8 - (k + 1))) := by
        show _ < _
        have h := HM.out
        rw [show 8 - k = (8 - (k + 1)) + 1 by omega, Nat.pow_succ] at h
        exact Nat.div_lt_of_lt_mul (by rw [Nat.mul_comm]; exact h)
      have hdg := HDg.out
      rw [show 7 - k = (7 - (k + 1)) + 1 by omega] at hdg
      unfold Em.digs at hdg
      rw [if_pos h16] at hdg
      obtain ⟨x, hx⟩ : ∃ x, m % 16 = x := ⟨_, rfl⟩
      rw [hx] at hand hdg
      have x0 : (0 : Int) ≤ (x : Int) := by omega
      have x1 : (x : Int) < 36 := by omega
      have x2 : x < 16 := by omega
      have HD2 := Lib.hid hdg
      have HX := Lib.hid (fun h => Em.dg_hex x x2 h)
      have HMi : Hid ((m : Int) / 16 = ((m / 16 : Nat) : Int)) := by show _ = _; omega
      have HPi : Hid ((p : Int) = (((p - 1 : Nat)) : Int) + 1) := by show _ = _; omega
      have hmd : m / 16 < m := Nat.div_lt_self (by omega) (by omega)
      clear hx hdg hA hcl hcd hu0 hpl
      go_wp2_with fail
      go_roundw
      case rel =>
        refine ⟨k + 1, m / 16, p - 1, Em.hexd x :: acc, congrArg (Value.int .u64) HMi.out, congrArg (Value.int .i64) HPi.out, by omega, by omega, HM2.out, HD2.out, by show _ = _; rw [List.length_cons, HL.out], ⟨_, HAt.out.set p _, by rw [List.length_set]; exact HCl.out, ?_⟩, HB.out.setCell HGb.out _⟩
        rw [show p - 1 + 1 = p by omega, Em.drop_set _ (by rw [HCl.out]; omega), HCd.out]
        exact congrArg (fun b : UInt8 => Value.int .u8 (b.toNat : Int) :: Lib.byteCells acc) (HX.out _)
      case measure => rw [HMi.out]; simp only [intOf, Int.toNat_natCast]; exact hmd
    · have q1 : ¬ (16 : Int) ≤ (m : Int) := by omega
      have hdg := HDg.out
      have hdn : Em.digs (7 - k) m acc = Em.hexd m :: acc := by
        cases hq : 7 - k with
        | zero => rfl
        | succ j => unfold Em.digs; rw [if_neg h16]
      rw [hdn] at hdg
      have x0 : (0 : Int) ≤ (m : Int) := by omega
      have x1 : (m : Int) < 36 := by omega
      have x2 : m < 16 := by omega
      have hms : m < Em.dg.size := by show m < 36; omega
      have hsl := slice65 g p (by omega) (by omega)
      have HDl : Hid (D.length = 65 - p) := by show _ = _; rw [← hdg, List.length_cons, HL.out]; omega
      have HD2 := Lib.hid hdg
      have hcv : ∀ cb : UInt8, cb = Em.hexd m → (convert 58 9 (.slice (some ⟨g, p, none⟩) (65 - p) (65 - p))).run Tryz.prog (wr.setCell ⟨g, p, none⟩ (.int .u8 (cb.toNat : Int))) = .ok (.string (Em.bts D)) (wr.setCell ⟨g, p, none⟩ (.int .u8 (cb.toNat : Int))) := by
        intro cb hcb
        rw [hcb]
        have h := run_convert_bytes_back (P := Tryz.prog) (wr.setCell ⟨g, p, none⟩ (.int .u8 ((Em.hexd m).toNat : Int))) 58 9 5 ⟨g, p, none⟩ (65 - p) D Tryz.underlying58 Tryz.underlying5 Tryz.underlying9 ?_
        · rw [HDl.out] at h
          exact h
        · intro j hj
          have h2 := (hA.set p (.int .u8 ((Em.hexd m).toNat : Int))).cell (p + j) (.int .u8 (D[j].toNat : Int)) (by
            rw [← List.getElem?_drop, Em.drop_set _ hpl, hcd]
            show (Lib.byteCells (Em.hexd m :: acc))[j]? = _
            subst hdg
            unfold Lib.byteCells
            rw [List.getElem?_map, List.getElem?_eq_getElem hj]
            rfl)
          rw [← h2]
          congr 1
          unfold Addr.add
          split <;> simp_all
      have HCv := Lib.hid hcv
      clear hcv hdg hdn hA hcl hcd hu0 hpl
      go_wp2_with fail
      rw [HCv.out]
      rotate_left
      · exact Em.dg_hex m x2 hms
      clear HCv hsl
      go_wp2_with fail
      go_ret2
      exact ⟨rfl, HB.out.setCell HGb.out _⟩
theorem fuint_in (n : Nat) (hn : n < 4294967296) (w : World) (hW : Wh w) :
    Calls Tryz.prog 166 #[.int .u64 n, .int .i64 16] w fun e w' => e = .returned (.string (Em.bts (Em.digs 7 n []))) ∧ Below w.heap.size w w' := by
  have HF := Lib.hid (fbits n hn w hW)
  clear hW
  go_enter Tryz.func166, Tryz.ntmps166
  go_wp2_with (refine HF.out.mono ?_; rintro e w1 ⟨rfl, hb⟩)
  go_ret
  exact ⟨rfl, hb⟩
theorem fuint (n : Nat) (hn : n < 4294967296) (w : World) (hW : Wh w) :
    Calls Tryz.prog 134 #[.int .u64 n, .int .i64 16] w fun e w' => e = .returned (.string (Em.bts (Em.digs 7 n []))) ∧ Below w.heap.size w w' := by
  have HF := Lib.hid (fuint_in n hn w hW)
  clear hW
  go_enter Tryz.func134, Tryz.ntmps134
  go_wp2_with (refine HF.out.mono ?_; rintro e w1 ⟨rfl, hb⟩)
  go_ret
  exact ⟨rfl, hb⟩
namespace Em
theorem bts_app (a b : Txt) : bts a ++ bts b = bts (a ++ b) := by
  apply ByteArray.ext
  unfold bts
  simp
theorem noughts (l : Txt) (h : l.length ≤ 8) : (⟨#[48, 48, 48, 48, 48, 48, 48, 48]⟩ : ByteArray).extract (bts l).size 8 ++ bts l = bts (List.replicate (8 - l.length) 48 ++ l) := by
  have hx : ∀ k : Fin 9, (⟨#[48, 48, 48, 48, 48, 48, 48, 48]⟩ : ByteArray).extract k.val 8 = bts (List.replicate (8 - k.val) 48) := by
    intro k
    apply ByteArray.ext
    revert k
    decide +kernel
  have h2 := hx ⟨l.length, by omega⟩
  simp only at h2
  rw [bts_size, h2, bts_app]
end Em
set_option maxHeartbeats 2000000 in
theorem number_any (n : Nat) (hn : n < 4294967296) (w : World) (hW : Wh w) :
    Calls Tryz.prog 93 #[.int .u32 n] w fun e w' => e = .returned (.string (Em.bts (Em.num n))) ∧ Below w.heap.size w w' := by
  have HF := Lib.hid (fuint n hn w hW)
  have hl := Em.digs_len 7 n []
  obtain ⟨D, hD⟩ : ∃ D, Em.bts (Em.digs 7 n []) = D := ⟨_, rfl⟩
  have hs : D.size ≤ 8 := by rw [← hD, Em.bts_size]; simpa using hl
  rw [hD] at HF
  have HD := Lib.hid hD
  have q1 : (D.size : Int) ≤ 8 := by omega
  have q0 : (0 : Int) ≤ (D.size : Int) := by omega
  clear hW hl hD
  go_enter Tryz.func93, Tryz.ntmps93
  go_wp2_with (refine HF.out.mono ?_; rintro e w1 ⟨rfl, hb⟩)
  go_ret
  refine ⟨?_, hb⟩
  show Ending.returned (Value.string (_ ++ D)) = _
  rw [← HD.out, Em.noughts _ (by simpa using Em.digs_len 7 n [])]
  rfl
end Go.Proofs.YthmhadgbhakdlaaGreatDoor

/- emit.parts: as many bytes as stand in a line at once, by a range over a function. -/
namespace Go.Proofs.YthmhadgbhakdlaaGreatDoor
open Go.RowKit Go.Shelf
attribute [local go_sem] Oper.semAt_some

namespace Em
theorem parts_more (f : Nat) (l : Txt) (h : 20 < l.length) (hf : l.length ≤ f) : ∃ g, (l.drop 20).length ≤ g ∧ parts f l = l.take 20 :: parts g (l.drop 20) := by
  obtain ⟨g, rfl⟩ : ∃ g, f = g + 1 := ⟨f - 1, by omega⟩
  refine ⟨g, by rw [List.length_drop]; omega, ?_⟩
  rw [parts, if_pos h]
theorem parts_last (f : Nat) (l : Txt) (h : ¬ 20 < l.length) (hf : l.length ≤ f) : parts f l = if l = [] then [] else [l] := by
  cases f with
  | zero =>
    have : l = [] := List.eq_nil_of_length_eq_zero (by omega)
    subst this
    rfl
  | succ g => rw [parts, if_neg h]
/-- All parts of a text. -/
def pts (s : ByteArray) : List Txt := parts (tl s).length (tl s)
def enc (p : Txt) : Array Value := #[.string (bts (p.take 20))]
def PtRet (s : ByteArray) (JY JX : List Txt → World → Prop) (e : Ending) (W' : World) : Prop :=
  (∃ v, e = .returned v) ∧ ((∃ ys, ys = pts s ∧ JY ys W') ∨ (∃ pre : List Txt, True ∧ JX pre W'))
/-- Where the iterator stands. -/
def PtAt (s : ByteArray) (JY : List Txt → World → Prop) (v : Value) (W : World) : Prop :=
  ∃ (r : ByteArray) (f : Nat) (pre : List Txt), v = .string r ∧ (tl r).length ≤ f ∧ pre ++ parts f (tl r) = pts s ∧ JY pre W
def strSize (v : Value) : Nat := match v with | .string s => s.size | _ => 0
theorem tl_ext (r : ByteArray) (a b : Nat) : tl (r.extract a b) = ((tl r).take b).drop a := by
  unfold tl
  rw [ByteArray.data_extract, Array.toList_extract]
  simp [List.extract, List.drop_take]
theorem tl_rest (r : ByteArray) : tl (r.extract 20 r.size) = (tl r).drop 20 := by
  rw [tl_ext, List.take_of_length_le (by rw [tl_length]; exact Nat.le_refl _)]
theorem bts_ext (r : ByteArray) : bts ((tl r).take 20) = r.extract 0 20 := by
  apply ByteArray.ext
  unfold bts tl
  apply Array.toList_inj.1
  rw [ByteArray.data_extract, Array.toList_extract]
  simp [List.extract]
end Em
theorem parts_any (s : ByteArray) (w : World) :
    Calls Tryz.prog 94 #[.string s] w fun e w' => e = .returned (.func (.func 135) #[] #[.pointer (some ⟨w.heap.size, 0, none⟩)]) ∧ w.alloc (.cells #[.string s] 9) = w' := by
  go_enter Tryz.func94, Tryz.ntmps94
  go_wp2
  go_ret
  exact ⟨rfl, rfl⟩
set_option maxRecDepth 100000 in
set_option maxHeartbeats 4000000 in
theorem parts1_in (n : Nat) (hn : 1 ≤ n) (l bs : Nat) (s : ByteArray) (hs : s.size ≤ maxLen) (JY JX : List Em.Txt → World → Prop)
    (hY : ∀ pre (p : Em.Txt) W, JY pre W → pre.length < (Em.pts s).length → YieldAt Fence.wide (n - 1) Tryz.prog l (Em.enc p) W fun e W' =>
      (e = .returned (.bool true) ∧ JY (pre ++ [p]) W' ∧ True) ∨ (e = .returned (.bool false) ∧ JX (pre ++ [p]) W'))
    (W : World) (hc : W.cell? ⟨bs, 0, none⟩ = some (.string s)) (h0 : JY [] W) :
    CallsIn Fence.wide n Tryz.prog 135 #[.func (.yield l) #[] #[], .pointer (some ⟨bs, 0, none⟩)] W (Em.PtRet s JY JX) := by
  unfold maxLen at hs
  refine callsIn_of_wp Tryz.func135 rfl trivial ?_ rfl
  simp only [Tryz.ntmps135, List.size_toArray, List.length_cons, List.length_nil, Nat.reduceAdd, Nat.reduceSub, Array.replicate_succ, Array.replicate_zero, List.push_toArray, List.append_toArray, List.nil_append, List.cons_append]
  gi_wp2
  clear hc
  gi_loopw [3] (fun v wr => Em.PtAt s JY v wr ∧ Em.strSize v ≤ s.size) (fun v _ => Em.strSize v)
  case atStart => exact ⟨⟨s, (tl s).length, [], rfl, Nat.le_refl _, rfl, h0⟩, Nat.le_refl _⟩
  case round =>
    obtain ⟨⟨r, f, pre, rfl, hf, hp, hJ⟩, hsz⟩ := hrel
    unfold Em.strSize at hsz
    simp only at hsz
    have hsz : r.size ≤ s.size := hsz
    have hrl := tl_length r
    by_cases h20 : 20 < r.size
    · have q1 : (20 : Int) < (r.size : Int) := by omega
      have q2 : (20 : Int) ≤ (r.size : Int) := by omega
      obtain ⟨g, hg, hpm⟩ := Em.parts_more f (tl r) (by omega) hf
      have hlt : pre.length < (Em.pts s).length := by rw [← hp, hpm, List.length_append, List.length_cons]; omega
      obtain ⟨fn, tmps, assign, body, hy, hR⟩ := hY pre ((tl r).take 20) wr hJ hlt
      unfold Em.enc at hy
      rw [show (((tl r).take 20).take 20) = (tl r).take 20 by rw [List.take_take]; rfl, Em.bts_ext] at hy
      have hp2 : (pre ++ [(tl r).take 20]) ++ Em.parts g (tl (r.extract 20 r.size)) = Em.pts s := by
        rw [Em.tl_rest, List.append_assoc, ← hp, hpm]
        rfl
      have hg2 : (tl (r.extract 20 r.size)).length ≤ g := by
        rw [Em.tl_rest]
        exact hg
      have HP := Lib.hid hp2
      have HG := Lib.hid hg2
      clear hp hpm hg hlt hp2 hg2 hrl
      gi_wp2
      refine hR.mono ?_
      rintro e W3 (⟨rfl, hJ3, _⟩ | ⟨rfl, hJx3⟩)
      · have HJ3 := Lib.hid hJ3
        clear hJ3
        gi_wp2
        go_roundw
        case rel => exact ⟨⟨_, g, _, rfl, HG.out, HP.out, HJ3.out⟩, by unfold Em.strSize; simp only; rw [ByteArray.size_extract]; omega⟩
        case measure => unfold Em.strSize; simp only; rw [ByteArray.size_extract]; omega
      · have HX := Lib.hid hJx3
        clear hJx3
        gi_wp2
        refine bodyPost_ret (results_none rfl _ _ _) rfl ?_
        exact ⟨⟨_, rfl⟩, .inr ⟨_, trivial, HX.out⟩⟩
    · have q1 : ¬ (20 : Int) < (r.size : Int) := by omega
      have hpl := Em.parts_last f (tl r) (by omega) hf
      rw [hpl] at hp
      by_cases h0e : tl r = []
      · rw [if_pos h0e, List.append_nil] at hp
        have he : r.toList = [] := by rw [ByteArray.toList_eq]; exact h0e
        have he2 : (!r.toList.isEmpty) = false := by rw [he]; rfl
        have HP := Lib.hid hp
        have HJ := Lib.hid hJ
        clear hp hpl h0e he hJ
        gi_wp2
        go_end0
        exact ⟨⟨_, rfl⟩, .inl ⟨_, HP.out, HJ.out⟩⟩
      · rw [if_neg h0e] at hp
        have he : r.toList.isEmpty = false := by
          rw [ByteArray.toList_eq]
          cases e : r.data.toList with
          | nil => exact absurd e h0e
          | cons _ _ => rfl
        have hlt : pre.length < (Em.pts s).length := by rw [← hp, List.length_append]; simp
        obtain ⟨fn, tmps, assign, body, hy, hR⟩ := hY pre (tl r) wr hJ hlt
        unfold Em.enc at hy
        rw [List.take_of_length_le (by omega), Em.bts_tl] at hy
        have HP := Lib.hid hp
        clear hp hpl h0e hlt
        gi_wp2
        refine hR.mono ?_
        rintro e W3 (⟨rfl, hJ3, _⟩ | ⟨rfl, hJx3⟩)
        · have HJ3 := Lib.hid hJ3
          clear hJ3
          gi_wp2
          go_end0
          exact ⟨⟨_, rfl⟩, .inl ⟨_, HP.out, HJ3.out⟩⟩
        · have HX := Lib.hid hJx3
          clear hJx3
          gi_wp2
          go_end0
          exact ⟨⟨_, rfl⟩, .inr ⟨_, trivial, HX.out⟩⟩
end Go.Proofs.YthmhadgbhakdlaaGreatDoor
