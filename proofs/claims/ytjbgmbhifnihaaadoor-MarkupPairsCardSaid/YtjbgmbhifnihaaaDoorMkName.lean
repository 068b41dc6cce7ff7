/- markup: the first bad byte, names, white. -/
import Derived.Test.YtjbgmbhifnihaaaDoorMkKit
import Derived.Shelf.Strings.SlTrimAscii
namespace Go.Proofs.YtjbgmbhifnihaaaDoor
open Go.RowKit

namespace Mk
def lowAt (l : Txt) (n : Int) : Prop := (n = -1 ∧ ∀ b ∈ l, low b = false) ∨ ∃ k : Nat, n = (k : Int) ∧ k < l.length ∧ ∃ b ∈ l, low b = true
theorem low_none {l : Txt} {k : Nat} (h : upto (fun b => !low b) l k) (hk : l.length ≤ k) : ∀ b ∈ l, low b = false := by
  intro b hb
  obtain ⟨j, hj, rfl⟩ := List.mem_iff_getElem.1 hb
  obtain ⟨c, hc, hp⟩ := h j (by omega)
  rw [List.getElem?_eq_getElem hj] at hc
  cases hc
  simpa using hp
theorem cut_none {s : ByteArray} (h : begins (tl s) = false) : bts (cutN (tl s)).1 = ByteArray.empty ∧ bts (cutN (tl s)).2 = s := by
  have e : cutN (tl s) = ([], tl s) := by unfold cutN; rw [h]; rfl
  rw [e]
  exact ⟨rfl, rfl⟩
theorem empty_of {s : ByteArray} (h : s.size = 0) : s = ByteArray.empty := ByteArray.ext (Array.eq_empty_of_size_eq_zero h)
theorem cut_some {s : ByteArray} {k : Nat} (h : begins (tl s) = true) (h1 : upto sign (tl s) k) (h2 : ∀ b, (tl s)[k]? = some b → sign b = false) : bts (cutN (tl s)).1 = s.extract 0 k ∧ bts (cutN (tl s)).2 = s.extract k s.size := by
  have e : cutN (tl s) = ((tl s).take k, (tl s).drop k) := by unfold cutN; rw [h, if_pos rfl, (upto_cut _ _ h1 h2).1, (upto_cut _ _ h1 h2).2]
  rw [e]
  exact ⟨bts_take s k, bts_drop s k⟩
theorem begins_at {s : ByteArray} (h : 0 < s.size) : begins (tl s) = letter s[0] := by
  have := at_tl s 0 h
  cases e : tl s with
  | nil => rw [e] at this; cases this
  | cons b r => rw [e] at this; cases this; rfl
theorem begins_none {s : ByteArray} (h : s.size = 0) : begins (tl s) = false := by
  cases e : tl s with
  | nil => rfl
  | cons b r => have := tl_length s; rw [e, List.length_cons] at this; omega
end Mk
set_option maxHeartbeats 2000000 in
set_option maxRecDepth 100000 in
theorem badByte_any (s : ByteArray) (hs : s.size ≤ maxLen) (w : World) :
    Calls Tryd.prog 18 #[.string s] w fun e w' => (∃ n : Int, e = .returned (.int .i64 n) ∧ Mk.lowAt (tl s) n) ∧ w = w' := by
  unfold maxLen at hs
  have HSz := Lib.hid (tl_length s)
  have hmax : IntKind.i64.wrap (s.size : Int) = s.size := by rw [IntKind.wrap_i64]; omega
  go_enter Tryd.func18, Tryd.ntmps18
  go_wp2
  go_loopw [6] (fun i wr => ∃ k : Nat, k ≤ s.size ∧ i = .int .i64 (k : Int) ∧ Hid (Mk.upto (fun b => !Mk.low b) (tl s) k) ∧ wr = w) (fun i _ => s.size - (intOf i).toNat)
  case atStart => exact ⟨0, Nat.zero_le _, rfl, Mk.upto_zero _ _, rfl⟩
  case round =>
    obtain ⟨k, hk, rfl, HU, rfl⟩ := hrel
    by_cases hlt : k < s.size
    · have q1 : (0 : Int) ≤ (k : Int) := by omega
      have q2 : (k : Int) < (s.size : Int) := by omega
      obtain ⟨b, hb⟩ : ∃ b, s[k]'hlt = b := ⟨_, rfl⟩
      have HA : Hid ((tl s)[k]? = some b) := by show _ = _; rw [← hb]; exact Mk.at_tl s k hlt
      have hbk := hb
      obtain ⟨v, hv⟩ : ∃ v, Mk.white b = v := ⟨_, rfl⟩
      have HW : Hid (∀ W, Calls Tryd.prog 32 #[.int .u8 (b.toNat : Int)] W fun e w' => e = .returned (.bool v) ∧ W = w') := fun W => by rw [← hv]; exact isWhite_any b W
      have HV := Lib.hid hv
      clear hv
      by_cases hl : (b.toNat : Int) < 32
      · cases v with
        | true =>
          have HN : Hid (Mk.upto (fun b => !Mk.low b) (tl s) (k + 1)) := Mk.upto_succ HU.out b HA.out (by unfold Mk.low; rw [HV.out]; simp)
          go_wp2_with (refine (HW.out _).mono ?_; rintro e w' ⟨rfl, rfl⟩)
          go_wp2
          go_roundw
          case rel => exact ⟨k + 1, by omega, by go_num, HN, trivial⟩
          case measure => simp [intOf]; omega
        | false =>
          have HN : Hid (Mk.low b = true) := by show _ = _; unfold Mk.low; rw [HV.out]; simp; omega
          go_wp2_with (refine (HW.out _).mono ?_; rintro e w' ⟨rfl, rfl⟩)
          go_wp2
          go_ret
          exact ⟨⟨_, rfl, .inr ⟨k, rfl, by rw [HSz.out]; exact hlt, b, List.mem_of_getElem? HA.out, HN.out⟩⟩, rfl⟩
      · have HN : Hid (Mk.upto (fun b => !Mk.low b) (tl s) (k + 1)) := Mk.upto_succ HU.out b HA.out (by unfold Mk.low; simp; omega)
        go_wp2
        go_roundw
        case rel => exact ⟨k + 1, by omega, by go_num, HN, trivial⟩
        case measure => simp [intOf]; omega
    · have q2 : ¬ (k : Int) < (s.size : Int) := by omega
      go_wp2
      go_ret
      exact ⟨⟨_, rfl, .inl ⟨rfl, Mk.low_none HU.out (by rw [HSz.out]; omega)⟩⟩, rfl⟩
set_option maxHeartbeats 2000000 in
set_option maxRecDepth 100000 in
theorem cutName_any (s : ByteArray) (hs : s.size ≤ maxLen) (w : World) :
    Calls Tryd.prog 36 #[.string s] w fun e w' => e = .returned (.tuple #[.string (Mk.bts (Mk.cutN (tl s)).1), .string (Mk.bts (Mk.cutN (tl s)).2)]) ∧ Drew w w' := by
  unfold maxLen at hs
  have hmax : IntKind.i64.wrap (s.size : Int) = s.size := by rw [IntKind.wrap_i64]; omega
  have c0 : (0 : Int) ≤ 0 := by omega
  have c1 : (0 : Int) ≤ (s.size : Int) := by omega
  have HN := Lib.hid (fun h => Mk.cut_none (s := s) h)
  have HS := Lib.hid (fun k h h1 h2 => Mk.cut_some (s := s) (k := k) h h1 h2)
  obtain ⟨R1, hR1⟩ : ∃ x, Mk.bts (Mk.cutN (tl s)).1 = x := ⟨_, rfl⟩
  obtain ⟨R2, hR2⟩ : ∃ x, Mk.bts (Mk.cutN (tl s)).2 = x := ⟨_, rfl⟩
  rw [hR1, hR2] at HN HS ⊢
  clear hR1 hR2
  by_cases h0 : s.size = 0
  · have he := Mk.emp_yes h0
    obtain ⟨e1, e2⟩ := HN.out (Mk.begins_none h0)
    rw [Mk.empty_of h0] at e2
    subst e1 e2
    clear HN HS
    go_enter Tryd.func36, Tryd.ntmps36
    go_wp2
    go_quiet (fail)
    go_wp2
    go_ret2
    exact ⟨rfl, by first | exact Drew.refl _ | exact ⟨_, rfl⟩⟩
  · have hp : 0 < s.size := by omega
    have he := Mk.emp_no hp
    have HB := Lib.hid (Mk.begins_at hp)
    obtain ⟨b, hb⟩ : ∃ b, s[0]'hp = b := ⟨_, rfl⟩
    rw [hb] at HB
    have q0 : (0 : Int) < (s.size : Int) := by omega
    obtain ⟨v, hv⟩ : ∃ v, Mk.letter b = v := ⟨_, rfl⟩
    have HL : Hid (∀ W, Calls Tryd.prog 53 #[.int .u8 (b.toNat : Int)] W fun e w' => e = .returned (.bool v) ∧ W = w') := fun W => by rw [← hv]; exact isLetter_any b W
    rw [hv] at HB
    clear hv
    cases v with
    | false =>
      obtain ⟨e1, e2⟩ := HN.out HB.out
      subst e1 e2
      clear HN HS
      go_enter Tryd.func36, Tryd.ntmps36
      go_wp2_with (refine (HL.out _).mono ?_; rintro e w' ⟨rfl, rfl⟩)
      go_wp2
      go_quiet (fail)
      go_wp2
      go_ret2
      exact ⟨rfl, by first | exact Drew.refl _ | exact ⟨_, rfl⟩⟩
    | true =>
      go_enter Tryd.func36, Tryd.ntmps36
      go_wp2_with (refine (HL.out _).mono ?_; rintro e w' ⟨rfl, rfl⟩)
      go_loopw [4] (fun i wr => ∃ k : Nat, k ≤ s.size ∧ i = .int .i64 (k : Int) ∧ Hid (Mk.upto Mk.sign (tl s) k) ∧ wr = w) (fun i _ => s.size - (intOf i).toNat)
      case atStart => exact ⟨0, Nat.zero_le _, rfl, Mk.upto_zero _ _, rfl⟩
      case round =>
        obtain ⟨k, hk, rfl, HU, rfl⟩ := hrel
        have p1 : (0 : Int) ≤ (k : Int) := by omega
        have p2 : (k : Int) ≤ (s.size : Int) := by omega
        by_cases hlt : k < s.size
        · have q2 : (k : Int) < (s.size : Int) := by omega
          obtain ⟨c, hc⟩ : ∃ b, s[k]'hlt = b := ⟨_, rfl⟩
          have HA : Hid ((tl s)[k]? = some c) := by show _ = _; rw [← hc]; exact Mk.at_tl s k hlt
          have hck := hc
          obtain ⟨v, hv⟩ : ∃ v, Mk.sign c = v := ⟨_, rfl⟩
          have HW : Hid (∀ W, Calls Tryd.prog 54 #[.int .u8 (c.toNat : Int)] W fun e w' => e = .returned (.bool v) ∧ W = w') := fun W => by rw [← hv]; exact isSign_any c W
          have HV := Lib.hid hv
          clear hv
          cases v with
          | true =>
            have HX : Hid (Mk.upto Mk.sign (tl s) (k + 1)) := Mk.upto_succ HU.out c HA.out HV.out
            go_wp2_with (refine (HW.out _).mono ?_; rintro e w' ⟨rfl, rfl⟩)
            go_wp2
            go_roundw
            case rel => exact ⟨k + 1, by omega, by go_num, HX, trivial⟩
            case measure => simp [intOf]; omega
          | false =>
            obtain ⟨e1, e2⟩ := HS.out k HB.out HU.out (fun b hb => by rw [HA.out] at hb; cases hb; exact HV.out)
            subst e1 e2
            clear HN HS
            go_wp2_with (refine (HW.out _).mono ?_; rintro e w' ⟨rfl, rfl⟩)
            go_wp2
            go_quiet (fail)
            go_wp2
            go_ret2
            exact ⟨rfl, by first | exact Drew.refl _ | exact ⟨_, rfl⟩⟩
        · have q2 : ¬ (k : Int) < (s.size : Int) := by omega
          obtain ⟨e1, e2⟩ := HS.out k HB.out HU.out (fun b hb => by
            have h1 := List.getElem?_eq_some_iff.1 hb
            obtain ⟨h2, _⟩ := h1
            rw [tl_length] at h2
            omega)
          subst e1 e2
          clear HN HS
          go_wp2
          go_quiet (fail)
          go_wp2
          go_ret2
          exact ⟨rfl, by first | exact Drew.refl _ | exact ⟨_, rfl⟩⟩
theorem skip_eq (s : ByteArray) : (⟨(Lib.trimLeftS s.data.toList (⟨#[32, 9, 10, 13]⟩ : ByteArray).data.toList).toArray⟩ : ByteArray) = Mk.bts (Mk.skip (tl s)) := by
  unfold Mk.bts Mk.skip Lib.trimLeftS
  have h : (fun x => (⟨#[32, 9, 10, 13]⟩ : ByteArray).data.toList.contains x) = Mk.white := by
    funext b
    exact Mk.byte_all (P := fun b => List.contains [32, 9, 10, 13] b = Mk.white b) (by decide +kernel) b
  rw [h]
  rfl
theorem trimLeft_any (s : ByteArray) (w : World) :
    Calls Tryd.prog 71 #[.string s, .string ⟨#[32, 9, 10, 13]⟩] w fun e w' => e = .returned (.string (Mk.bts (Mk.skip (tl s)))) ∧ Below w.heap.size w w' := by
  rw [← skip_eq]
  exact Any.strings_TrimLeft_laid Tryd.lays161 (by kernel_rfl) s ⟨#[32, 9, 10, 13]⟩ w (by decide) (ascii_of_all (by decide))
theorem skipWhite_any (s : ByteArray) (w : World) :
    Calls Tryd.prog 57 #[.string s] w fun e w' => e = .returned (.string (Mk.bts (Mk.skip (tl s)))) ∧ Below w.heap.size w w' := by
  have HT := Lib.hid (fun W => trimLeft_any s W)
  go_enter Tryd.func57, Tryd.ntmps57
  go_wp2_with (refine (HT.out _).mono ?_; rintro e w' ⟨rfl, hb⟩)
  go_ret
  exact ⟨rfl, hb⟩
end Go.Proofs.YtjbgmbhifnihaaaDoor
