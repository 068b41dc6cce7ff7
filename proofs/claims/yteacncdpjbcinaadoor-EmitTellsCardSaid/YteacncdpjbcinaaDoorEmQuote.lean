/- emit.Quote: a quoted text. -/
import Derived.Test.YteacncdpjbcinaaDoorEmPlain
import Derived.Test.YteacncdpjbcinaaDoorShelfBuild
namespace Go.Proofs.YteacncdpjbcinaaDoor
open Go.RowKit

namespace Em
/-- A builder in block b, that holds these bytes. -/
abbrev IsB (w : World) (b : Nat) (l : Txt) : Prop := Lib.IsBuilderF 45 5 b b (Lib.byteCells l) w
theorem atF_call {w w' : World} {B b : Nat} {T e : TypeId} {p : Value} {bs : List Value} (h : Lib.BuilderAtF T e B b p bs w) (hb : Below w.heap.size w w') : Lib.BuilderAtF T e B b p bs w' := by
  have hlt := h.lt
  obtain ⟨hB, v, hbk, hown, hne⟩ := h
  refine ⟨hB, v, (hb.block b hlt).trans hbk, ?_, hne⟩
  refine hown.kept (row := none) ⟨hb.os, hb.tape, hb.output, hb.size, fun k hk _ => hb.block k hk⟩ ?_
  cases v.ownBlock <;> simp
theorem IsB.call {w w' : World} {b : Nat} {l : Txt} (h : IsB w b l) (hb : Below w.heap.size w w') : IsB w' b l := h.elim (fun x => .inl (atF_call x hb)) (fun x => .inr (atF_call x hb))
theorem IsB.lt {w : World} {b : Nat} {l : Txt} (h : IsB w b l) : b < w.heap.size := h.elim (fun x => x.lt) (fun x => x.lt)
theorem bytes_app (a b : Txt) : Lib.byteCells (a ++ b) = Lib.byteCells a ++ Lib.byteCells b := by unfold Lib.byteCells; rw [List.map_append]
theorem bytes_one (l : Txt) (c : UInt8) : Lib.byteCells l ++ [.int .u8 (c.toNat : Int)] = Lib.byteCells (l ++ [c]) := by rw [bytes_app]; rfl
theorem bytes_str (l t : Txt) : Lib.byteCells l ++ Lib.strCells (bts t) = Lib.byteCells (l ++ t) := by rw [bytes_app]; rfl
theorem cells_len (l : Txt) : (Lib.byteCells l).length = l.length := by unfold Lib.byteCells; rw [List.length_map]
/-- A byte more. -/
theorem putB {g : Nat} {l : Txt} {w : World} (c : UInt8) (h : IsB w g l) (hl : l.length ≤ 100000000000000) :
    Calls Tryd.prog 16 #[.pointer (some ⟨g, 0, none⟩), .int .u8 (c.toNat : Int)] w fun e w' => e = .returned .nilIface ∧ IsB w' g (l ++ [c]) ∧ Below g w w' ∧ Lib.OthersKept 5 (some g) w w' :=
  (Tryd.prWriteByte g g _ (c.toNat : Int) w h (by rw [cells_len]; omega) (Nat.le_of_lt h.lt)).mono fun _ _ h2 => ⟨h2.1, by show Lib.IsBuilderF _ _ _ _ _ _; rw [← bytes_one]; exact .inr h2.2.1, h2.2.2.1, h2.2.2.2⟩
/-- A text more. -/
theorem putS {g : Nat} {l : Txt} {w : World} (t : ByteArray) (h : IsB w g l) (hl : l.length ≤ 100000000000000) (ht : t.size ≤ 100000000) :
    Calls Tryd.prog 14 #[.pointer (some ⟨g, 0, none⟩), .string t] w fun e w' => e = .returned (.tuple #[.int .i64 t.size, .nilIface]) ∧ IsB w' g (l ++ tl t) ∧ Below g w w' ∧ Lib.OthersKept 5 (some g) w w' :=
  (Tryd.prWriteString g g _ t w h (by rw [cells_len]; omega) (Nat.le_of_lt h.lt)).mono fun _ _ h2 => ⟨h2.1, by show Lib.IsBuilderF _ _ _ _ _ _; rw [← bytes_str]; exact .inr h2.2.1, h2.2.2.1, h2.2.2.2⟩
theorem tl_bts_ (l : Txt) : tl (bts l) = l := rfl
theorem tl_take_next (s : ByteArray) (k : Nat) (h : k < s.size) : (tl s).take (k + 1) = (tl s).take k ++ [s[k]] := by
  unfold tl
  rw [List.take_succ_eq_append_getElem (by simpa using h)]
  rfl
theorem esc_cases (b : UInt8) : (esc1 b = [92] ++ [b] ∧ ((b.toNat : Int) == 92) = true) ∨ (esc1 b = [92] ++ [b] ∧ ((b.toNat : Int) == 92) = false ∧ ((b.toNat : Int) == 34) = true) ∨ (esc1 b = [b] ∧ ((b.toNat : Int) == 92) = false ∧ ((b.toNat : Int) == 34) = false) := by
  have : ∀ b : UInt8, (esc1 b = [92] ++ [b] ∧ ((b.toNat : Int) == 92) = true) ∨ (esc1 b = [92] ++ [b] ∧ ((b.toNat : Int) == 92) = false ∧ ((b.toNat : Int) == 34) = true) ∨ (esc1 b = [b] ∧ ((b.toNat : Int) == 92) = false ∧ ((b.toNat : Int) == 34) = false) := by
    intro b
    have h : ∀ n : Fin 256, (esc1 (UInt8.ofNat n) = [92] ++ [UInt8.ofNat n] ∧ (((UInt8.ofNat n).toNat : Int) == 92) = true) ∨ (esc1 (UInt8.ofNat n) = [92] ++ [UInt8.ofNat n] ∧ (((UInt8.ofNat n).toNat : Int) == 92) = false ∧ (((UInt8.ofNat n).toNat : Int) == 34) = true) ∨ (esc1 (UInt8.ofNat n) = [UInt8.ofNat n] ∧ (((UInt8.ofNat n).toNat : Int) == 92) = false ∧ (((UInt8.ofNat n).toNat : Int) == 34) = false) := by decide +kernel
    have h2 := h ⟨b.toNat, b.toNat_lt⟩
    simpa using h2
  exact this b
def QAt (w : World) (s : ByteArray) (i : Value) (wr : World) : Prop :=
  ∃ k : Nat, k ≤ s.size ∧ i = .int .i64 (k : Int) ∧ Hid (IsB wr w.heap.size (34 :: esc ((tl s).take k))) ∧ Hid (Below w.heap.size w wr)
theorem q_len {s : ByteArray} (k : Nat) (h : s.size ≤ 100000000) : (34 :: esc ((tl s).take k)).length ≤ 200000001 := by
  have := esc_len ((tl s).take k)
  rw [List.length_take, tl_length] at this
  rw [List.length_cons]
  omega
theorem q_next (s : ByteArray) (k : Nat) (h : k < s.size) (b : UInt8) (hb : s[k] = b) : (34 :: esc ((tl s).take (k + 1))) = (34 :: esc ((tl s).take k)) ++ esc1 b := by
  rw [tl_take_next s k h, esc_snoc, hb]; rfl
end Em
set_option maxHeartbeats 4000000 in
set_option maxRecDepth 100000 in
theorem quote_any (s : ByteArray) (hs : s.size ≤ 100000000) (w : World) :
    Calls Tryd.prog 11 #[.string s] w fun e w' => e = .returned (.string (Em.bts (Em.quote (tl s)))) ∧ Below w.heap.size w w' := by
  go_enter Tryd.func11, Tryd.ntmps11
  go_wp2_with fail
  refine (Em.putB (g := w.heap.size) (l := []) 34 (Lib.IsBuilderF.of (Lib.fresh_isBuilder _ _ w)) (by simp)).mono ?_
  rintro e w1 ⟨rfl, hI, hb, _⟩
  have HI1 := Lib.hid hI
  have HB1 := Lib.hid ((Hv.bl1 w (.cells #[.pointer none, .slice none 0 0] 45)).trans hb)
  clear hI hb
  go_wp2_with fail
  go_loopw [4] (fun i wr => Em.QAt w s i wr) (fun i _ => s.size - (intOf i).toNat)
  case atStart => exact ⟨0, Nat.zero_le _, rfl, HI1.out, HB1.out⟩
  case round =>
    obtain ⟨k, hk, rfl, HI, HB⟩ := hrel
    by_cases hlt : k < s.size
    · have q1 : (0 : Int) ≤ (k : Int) := by omega
      have q2 : (k : Int) < (s.size : Int) := by omega
      obtain ⟨b, hb⟩ : ∃ b, s[k]'hlt = b := ⟨_, rfl⟩
      have HN := Lib.hid (Em.q_next s k hlt b hb)
      have HL := Lib.hid (Em.q_len (s := s) k hs)
      rcases Em.esc_cases b with ⟨hE, p1⟩ | ⟨hE, p1, p2⟩ | ⟨hE, p1, p2⟩
      · have HE := Lib.hid hE
        clear hE
        have hbk := hb
        go_wp2_with fail
        refine (Em.putB 92 HI.out (by have := HL.out; omega)).mono ?_
        rintro e w2 ⟨rfl, hI, hb2, _⟩
        have HI2 := Lib.hid hI
        have HB2 := Lib.hid (HB.out.trans hb2)
        clear hI hb2
        go_wp2_with fail
        refine (Em.putB b HI2.out (by have := HL.out; rw [List.length_append]; simp; simp at this; omega)).mono ?_
        rintro e w9 ⟨rfl, hI, hb9, _⟩
        have HI9 : Hid (Em.IsB w9 w.heap.size (34 :: Em.esc ((tl s).take (k + 1)))) := by
          show Em.IsB _ _ _
          rw [HN.out, HE.out]
          first | exact hI | (rw [List.append_assoc] at hI; exact hI)
        have HB9 := Lib.hid (HB2.out.trans hb9)
        clear hI hb9
        go_wp2
        go_roundw
        case rel => exact ⟨k + 1, by omega, by go_num, HI9.out, HB9.out⟩
        case measure => simp [intOf]; omega
      · have HE := Lib.hid hE
        clear hE
        go_wp2_with fail
        refine (Em.putB 92 HI.out (by have := HL.out; omega)).mono ?_
        rintro e w2 ⟨rfl, hI, hb2, _⟩
        have HI2 := Lib.hid hI
        have HB2 := Lib.hid (HB.out.trans hb2)
        clear hI hb2
        go_wp2_with fail
        refine (Em.putB b HI2.out (by have := HL.out; rw [List.length_append]; simp; simp at this; omega)).mono ?_
        rintro e w9 ⟨rfl, hI, hb9, _⟩
        have HI9 : Hid (Em.IsB w9 w.heap.size (34 :: Em.esc ((tl s).take (k + 1)))) := by
          show Em.IsB _ _ _
          rw [HN.out, HE.out]
          first | exact hI | (rw [List.append_assoc] at hI; exact hI)
        have HB9 := Lib.hid (HB2.out.trans hb9)
        clear hI hb9
        go_wp2
        go_roundw
        case rel => exact ⟨k + 1, by omega, by go_num, HI9.out, HB9.out⟩
        case measure => simp [intOf]; omega
      · have HE := Lib.hid hE
        clear hE
        go_wp2_with fail
        refine (Em.putB b HI.out (by have := HL.out; omega)).mono ?_
        rintro e w9 ⟨rfl, hI, hb9, _⟩
        have HI9 : Hid (Em.IsB w9 w.heap.size (34 :: Em.esc ((tl s).take (k + 1)))) := by
          show Em.IsB _ _ _
          rw [HN.out, HE.out]
          first | exact hI | (rw [List.append_assoc] at hI; exact hI)
        have HB9 := Lib.hid (HB.out.trans hb9)
        clear hI hb9
        go_wp2
        go_roundw
        case rel => exact ⟨k + 1, by omega, by go_num, HI9.out, HB9.out⟩
        case measure => simp [intOf]; omega
    · have q2 : ¬ (k : Int) < (s.size : Int) := by omega
      have hI := HI.out
      rw [List.take_of_length_le (by rw [tl_length]; omega)] at hI
      have HI2 := Lib.hid hI
      have HQ := Lib.hid (Em.quote_len (tl s))
      have HL : Hid ((34 :: Em.esc (tl s)).length ≤ 200000001) := by
        show _ ≤ _
        have := Em.esc_len (tl s)
        rw [tl_length] at this
        rw [List.length_cons]
        omega
      clear hI
      go_wp2_with fail
      refine (Em.putB 34 HI2.out (by have := HL.out; omega)).mono ?_
      rintro e w2 ⟨rfl, hI, hb, _⟩
      have HI3 := Lib.hid hI
      have HB2 := Lib.hid (HB.out.trans hb)
      clear hI hb
      go_wp2_with fail
      refine (Tryd.Builder_String_any_k w.heap.size w.heap.size _ w2 HI3.out (Nat.le_of_lt HI3.out.lt)).mono ?_
      rintro e w3 ⟨rfl, _, hb, _⟩
      have HB3 := Lib.hid (HB2.out.trans hb)
      clear hb
      go_wp2
      go_ret
      exact ⟨rfl, HB3.out⟩
end Go.Proofs.YteacncdpjbcinaaDoor
