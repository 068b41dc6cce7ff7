/- markup.Escape: a text with references for the five. -/
import Derived.Test.YtjbgmbhifnihaaaDoorMkBuild
namespace Go.Proofs.YtjbgmbhifnihaaaDoor
open Go.RowKit

namespace Mk
theorem esc_app (a b : Txt) : esc (a ++ b) = esc a ++ esc b := by unfold esc; rw [List.flatMap_append]
theorem tk_next (s : ByteArray) (k : Nat) (h : k < s.size) : (tl s).take (k + 1) = (tl s).take k ++ [s[k]] := by
  unfold tl
  rw [List.take_succ_eq_append_getElem (by simpa using h)]
  rfl
theorem esc_one (b : UInt8) : esc [b] = esc1 b := by unfold esc; rw [List.flatMap_cons, List.flatMap_nil, List.append_nil]
theorem esc_next (s : ByteArray) (k : Nat) (h : k < s.size) (b : UInt8) (hb : s[k] = b) : esc ((tl s).take (k + 1)) = esc ((tl s).take k) ++ esc1 b := by rw [tk_next s k h, esc_app, hb, esc_one]
theorem esc_tk (s : ByteArray) (k : Nat) (h : s.size ≤ 100000000) : (esc ((tl s).take k)).length ≤ 600000000 := by
  have := (esc_len ((tl s).take k)).2
  rw [List.length_take, tl_length] at this
  omega
theorem putC {g : Nat} {l : Txt} {w : World} (t : Txt) (h : IsB w g l) (hl : l.length ≤ 600000000) (ht : t.length ≤ 6) :
    Calls Tryd.prog 19 #[.pointer (some ⟨g, 0, none⟩), .string (bts t)] w fun e w' => (∃ v, e = .returned v) ∧ IsB w' g (l ++ t) ∧ Below g w w' :=
  (putS (bts t) h (by omega) (by rw [bts_size]; omega)).mono fun _ _ h2 => ⟨⟨_, h2.1⟩, h2.2.1, h2.2.2⟩
/-- What Escape answers. -/
def EscR (s : ByteArray) (E : ByteArray) (v : Int) : Prop := (v = 0 ∧ E = bts (esc (tl s)) ∧ Te.right s = true ∧ ∀ b ∈ tl s, low b = false) ∨ (v = 11 ∧ E = ByteArray.empty ∧ ¬ (Te.right s = true ∧ ∀ b ∈ tl s, low b = false))
end Mk
set_option maxHeartbeats 2000000 in
set_option maxRecDepth 100000 in
theorem escape_any (s : ByteArray) (hs : s.size ≤ 100000000) (w : World) :
    Calls Tryd.prog 8 #[.string s] w fun e w' => (∃ E v, e = .returned (.tuple #[.string E, .int .i64 v]) ∧ Mk.EscR s E v) ∧ Below w.heap.size w w' := by
  have hmax : IntKind.i64.wrap (s.size : Int) = s.size := by rw [IntKind.wrap_i64]; omega
  have HCk := Lib.hid (fun W => utfCheck_any s (by unfold maxLen; omega) W)
  have HBb := Lib.hid (fun W => badByte_any s (by unfold maxLen; omega) W)
  obtain ⟨rt, hrt⟩ : ∃ b, Te.right s = b := ⟨_, rfl⟩
  have HRt := Lib.hid hrt
  rw [hrt] at HCk
  clear hrt
  cases rt with
  | false =>
    have HC2 : Hid (∀ W, Calls Tryd.prog 9 #[.string s] W fun e w' => (∃ i : Int, e = .returned (.tuple #[.int .i64 i, .int .i64 11])) ∧ Below W.heap.size W w') := fun W => HCk.out W
    clear HCk
    go_enter Tryd.func8, Tryd.ntmps8
    go_wp2_with fail
    refine (HC2.out _).mono ?_
    rintro e w1 ⟨⟨i, rfl⟩, hb⟩
    have HB1 := Lib.hid hb
    clear hb
    go_wp2_with fail
    go_ret2
    exact ⟨⟨_, _, rfl, .inr ⟨rfl, rfl, fun h => by have h1 := h.1; rw [HRt.out] at h1; cases h1⟩⟩, HB1.out⟩
  | true =>
    have HC2 : Hid (∀ W, Calls Tryd.prog 9 #[.string s] W fun e w' => (∃ i : Int, e = .returned (.tuple #[.int .i64 i, .int .i64 0])) ∧ Below W.heap.size W w') := fun W => HCk.out W
    clear HCk
    go_enter Tryd.func8, Tryd.ntmps8
    go_wp2_with fail
    refine (HC2.out _).mono ?_
    rintro e w1 ⟨⟨i, rfl⟩, hb⟩
    have HB1 := Lib.hid hb
    clear hb
    go_wp2_with fail
    refine (HBb.out _).mono ?_
    rintro e w2 ⟨⟨n, rfl, hn⟩, rfl⟩
    rcases hn with ⟨hn, hall⟩ | ⟨k, hn, hk, hbad⟩
    · subst hn
      have HAll := Lib.hid hall
      clear hall
      have HL1 := Lib.hid HB1.out.size
      have HI1 := Lib.hid (Mk.fresh w1)
      have HB2 := Lib.hid (HB1.out.trans ((Mk.below_new w1 (.cells #[.pointer none, .slice none 0 0] 58)).mono HL1.out))
      go_wp2_with fail
      go_loopw [22] (fun i wr => ∃ k : Nat, k ≤ s.size ∧ i = .int .i64 (k : Int) ∧ Hid (Mk.IsB wr w1.heap.size (Mk.esc ((tl s).take k))) ∧ Hid (Below w.heap.size w wr)) (fun i _ => s.size - (intOf i).toNat)
      case atStart => exact ⟨0, Nat.zero_le _, rfl, HI1.out, HB2.out⟩
      case round =>
        obtain ⟨k, hk, rfl, HI, HB⟩ := hrel
        by_cases hlt : k < s.size
        · have q1 : (0 : Int) ≤ (k : Int) := by omega
          have q2 : (k : Int) < (s.size : Int) := by omega
          obtain ⟨b, hb⟩ : ∃ b, s[k]'hlt = b := ⟨_, rfl⟩
          have HN := Lib.hid (Mk.esc_next s k hlt b hb)
          have HL := Lib.hid (Mk.esc_tk s k hs)
          have hbk := hb
          by_cases h0 : b = 38
          · have hE : Mk.esc1 b = [38, 97, 109, 112, 59] := by subst h0; rfl
            have HE := Lib.hid hE
            clear hE
            have e0 : ((b.toNat : Int) == 38) = true := by rw [h0]; rfl
            have f0 : (b.toNat : Int) = 38 := by rw [h0]; rfl
            clear h0 
            go_wp2_with fail
            refine (Mk.putC [38, 97, 109, 112, 59] HI.out HL.out (by decide)).mono ?_
            rintro e w9 ⟨⟨v9, rfl⟩, hI, hb9⟩
            rw [← HE.out, ← HN.out] at hI
            have HI9 := Lib.hid hI
            have HB9 := Lib.hid (HB.out.trans (hb9.mono HL1.out))
            clear hI hb9
            go_wp2
            go_roundw
            case rel => exact ⟨k + 1, by omega, by go_num, HI9.out, HB9.out⟩
            case measure => simp [intOf]; omega
          have g0 : b.toNat ≠ 38 := fun e => h0 (UInt8.toNat_inj.1 e)
          have e0 : ((b.toNat : Int) == 38) = false := by rw [beq_eq_false_iff_ne]; omega
          have f0 : ¬ (b.toNat : Int) = 38 := by omega
          by_cases h1 : b = 60
          · have hE : Mk.esc1 b = [38, 108, 116, 59] := by subst h1; rfl
            have HE := Lib.hid hE
            clear hE
            have e1 : ((b.toNat : Int) == 60) = true := by rw [h1]; rfl
            have f1 : (b.toNat : Int) = 60 := by rw [h1]; rfl
            clear h0 h1 g0
            go_wp2_with fail
            refine (Mk.putC [38, 108, 116, 59] HI.out HL.out (by decide)).mono ?_
            rintro e w9 ⟨⟨v9, rfl⟩, hI, hb9⟩
            rw [← HE.out, ← HN.out] at hI
            have HI9 := Lib.hid hI
            have HB9 := Lib.hid (HB.out.trans (hb9.mono HL1.out))
            clear hI hb9
            go_wp2
            go_roundw
            case rel => exact ⟨k + 1, by omega, by go_num, HI9.out, HB9.out⟩
            case measure => simp [intOf]; omega
          have g1 : b.toNat ≠ 60 := fun e => h1 (UInt8.toNat_inj.1 e)
          have e1 : ((b.toNat : Int) == 60) = false := by rw [beq_eq_false_iff_ne]; omega
          have f1 : ¬ (b.toNat : Int) = 60 := by omega
          by_cases h2 : b = 62
          · have hE : Mk.esc1 b = [38, 103, 116, 59] := by subst h2; rfl
            have HE := Lib.hid hE
            clear hE
            have e2 : ((b.toNat : Int) == 62) = true := by rw [h2]; rfl
            have f2 : (b.toNat : Int) = 62 := by rw [h2]; rfl
            clear h0 h1 h2 g0 g1
            go_wp2_with fail
            refine (Mk.putC [38, 103, 116, 59] HI.out HL.out (by decide)).mono ?_
            rintro e w9 ⟨⟨v9, rfl⟩, hI, hb9⟩
            rw [← HE.out, ← HN.out] at hI
            have HI9 := Lib.hid hI
            have HB9 := Lib.hid (HB.out.trans (hb9.mono HL1.out))
            clear hI hb9
            go_wp2
            go_roundw
            case rel => exact ⟨k + 1, by omega, by go_num, HI9.out, HB9.out⟩
            case measure => simp [intOf]; omega
          have g2 : b.toNat ≠ 62 := fun e => h2 (UInt8.toNat_inj.1 e)
          have e2 : ((b.toNat : Int) == 62) = false := by rw [beq_eq_false_iff_ne]; omega
          have f2 : ¬ (b.toNat : Int) = 62 := by omega
          by_cases h3 : b = 34
          · have hE : Mk.esc1 b = [38, 113, 117, 111, 116, 59] := by subst h3; rfl
            have HE := Lib.hid hE
            clear hE
            have e3 : ((b.toNat : Int) == 34) = true := by rw [h3]; rfl
            have f3 : (b.toNat : Int) = 34 := by rw [h3]; rfl
            clear h0 h1 h2 h3 g0 g1 g2
            go_wp2_with fail
            refine (Mk.putC [38, 113, 117, 111, 116, 59] HI.out HL.out (by decide)).mono ?_
            rintro e w9 ⟨⟨v9, rfl⟩, hI, hb9⟩
            rw [← HE.out, ← HN.out] at hI
            have HI9 := Lib.hid hI
            have HB9 := Lib.hid (HB.out.trans (hb9.mono HL1.out))
            clear hI hb9
            go_wp2
            go_roundw
            case rel => exact ⟨k + 1, by omega, by go_num, HI9.out, HB9.out⟩
            case measure => simp [intOf]; omega
          have g3 : b.toNat ≠ 34 := fun e => h3 (UInt8.toNat_inj.1 e)
          have e3 : ((b.toNat : Int) == 34) = false := by rw [beq_eq_false_iff_ne]; omega
          have f3 : ¬ (b.toNat : Int) = 34 := by omega
          by_cases h4 : b = 39
          · have hE : Mk.esc1 b = [38, 97, 112, 111, 115, 59] := by subst h4; rfl
            have HE := Lib.hid hE
            clear hE
            have e4 : ((b.toNat : Int) == 39) = true := by rw [h4]; rfl
            have f4 : (b.toNat : Int) = 39 := by rw [h4]; rfl
            clear h0 h1 h2 h3 h4 g0 g1 g2 g3
            go_wp2_with fail
            refine (Mk.putC [38, 97, 112, 111, 115, 59] HI.out HL.out (by decide)).mono ?_
            rintro e w9 ⟨⟨v9, rfl⟩, hI, hb9⟩
            rw [← HE.out, ← HN.out] at hI
            have HI9 := Lib.hid hI
            have HB9 := Lib.hid (HB.out.trans (hb9.mono HL1.out))
            clear hI hb9
            go_wp2
            go_roundw
            case rel => exact ⟨k + 1, by omega, by go_num, HI9.out, HB9.out⟩
            case measure => simp [intOf]; omega
          have g4 : b.toNat ≠ 39 := fun e => h4 (UInt8.toNat_inj.1 e)
          have e4 : ((b.toNat : Int) == 39) = false := by rw [beq_eq_false_iff_ne]; omega
          have f4 : ¬ (b.toNat : Int) = 39 := by omega
          have hE : Mk.esc1 b = [b] := by unfold Mk.esc1; rw [if_neg h0, if_neg h1, if_neg h2, if_neg h3, if_neg h4]
          have HE := Lib.hid hE
          clear hE h0 h1 h2 h3 h4 g0 g1 g2 g3 g4
          go_wp2_with fail
          refine (Mk.putB b HI.out (by have := HL.out; omega)).mono ?_
          rintro e w9 ⟨rfl, hI, hb9⟩
          rw [← HE.out, ← HN.out] at hI
          have HI9 := Lib.hid hI
          have HB9 := Lib.hid (HB.out.trans (hb9.mono HL1.out))
          clear hI hb9
          go_wp2
          go_roundw
          case rel => exact ⟨k + 1, by omega, by go_num, HI9.out, HB9.out⟩
          case measure => simp [intOf]; omega
        · have q2 : ¬ (k : Int) < (s.size : Int) := by omega
          have hI := HI.out
          rw [List.take_of_length_le (by rw [tl_length]; omega)] at hI
          have HI2 := Lib.hid hI
          clear hI
          go_wp2_with fail
          refine (Mk.takeS HI2.out).mono ?_
          rintro e w3 ⟨rfl, hb⟩
          have HB3 := Lib.hid (HB.out.trans (hb.mono HL1.out))
          clear hb
          go_wp2_with fail
          go_ret2
          exact ⟨⟨_, _, rfl, .inl ⟨rfl, rfl, HRt.out, HAll.out⟩⟩, HB3.out⟩
    · have hn0 : (0 : Int) ≤ n := by omega
      have HBad := Lib.hid hbad
      clear hn hk hbad
      go_wp2_with fail
      go_ret2
      exact ⟨⟨_, _, rfl, .inr ⟨rfl, rfl, fun h => by obtain ⟨b, hb, hl⟩ := HBad.out; rw [h.2 b hb] at hl; cases hl⟩⟩, HB1.out⟩
end Go.Proofs.YtjbgmbhifnihaaaDoor
