/- markup.Escape: a text with references for the five. -/
import Derived.Test.YthmhadgbhakdlaaDoorP06
import Derived.Test.YthmhadgbhakdlaaDoorP01

namespace Go.Proofs.YthmhadgbhakdlaaDoor
open Go.RowKit

namespace Mk
theorem esc_app (a b : Txt) : esc (a ++ b) = esc a ++ esc b := by unfold esc; rw [List.flatMap_append]
theorem tk_next (s : ByteArray) (k : Nat) (h : k < s.size) : (tl s).take (k + 1) = (tl s).take k ++ [s[k]] := by
  unfold tl
  rw [List.take_succ_eq_append_getElem (by simpa using h)]
  rfl
theorem esc_one (b : UInt8) : esc [b] = esc1 b := by unfold esc; rw [List.flatMap_cons, List.flatMap_nil, List.append_nil]
theorem esc_next (s : ByteArray) (k : Nat) (h : k < s.size) (b : UInt8) (hb : s[k] = b) : esc ((tl s).take (k + 1)) = esc ((tl s).take k) ++ esc1 b := by rw [tk_next s k h, esc_app, hb, esc_one]
theorem esc_tk (s : ByteArray) (k : Nat) (h : s.size ≤ 100000000) : (esc ((tl s).take k)).length ≤ 600000000 := by
  have := (esc_len ((tl s).take k)).2
  rw [List.length_take, tl_length] at this
  omega
theorem putC {g : Nat} {l : Txt} {w : World} (t : Txt) (h : IsB w g l) (hl : l.length ≤ 600000000) (ht : t.length ≤ 6) :
    Calls Tryd.prog 12 #[.pointer (some ⟨g, 0, none⟩), .string (bts t)] w fun e w' => (∃ v, e = .returned v) ∧ IsB w' g (l ++ t) ∧ Below g w w' :=
  (putS (bts t) h (by omega) (by rw [bts_size]; omega)).mono fun _ _ h2 => ⟨⟨_, h2.1⟩, h2.2.1, h2.2.2⟩
/-- What Escape answers. -/
def EscR (s : ByteArray) (E : ByteArray) (v : Int) : Prop := (v = 0 ∧ E = bts (esc (tl s)) ∧ Te.right s = true ∧ ∀ b ∈ tl s, low b = false) ∨ (v = 11 ∧ E = ByteArray.empty ∧ ¬ (Te.right s = true ∧ ∀ b ∈ tl s, low b = false))
end Mk
set_option maxHeartbeats 2000000 in
set_option maxRecDepth 100000 in
theorem escape_any (s : ByteArray) (hs : s.size ≤ 100000000) (w : World) :
    Calls Tryd.prog 7 #[.string s] w fun e w' => (∃ E v, e = .returned (.tuple #[.string E, .int .i64 v]) ∧ Mk.EscR s E v) ∧ Below w.heap.size w w' := by
  have hmax : IntKind.i64.wrap (s.size : Int) = s.size := by rw [IntKind.wrap_i64]; omega
  have HCk := Lib.hid (fun W => utfCheck_any s (by unfold maxLen; omega) W)
  have HBb := Lib.hid (fun W => badByte_any s (by unfold maxLen; omega) W)
  obtain ⟨rt, hrt⟩ : ∃ b, Te.right s = b := ⟨_, rfl⟩
  have HRt := Lib.hid hrt
  rw [hrt] at HCk
  clear hrt
  cases rt with
  | false =>
    have HC2 : Hid (∀ W, Calls Tryd.prog 15 #[.string s] W fun e w' => (∃ i : Int, e = .returned (.tuple #[.int .i64 i, .int .i64 11])) ∧ Below W.heap.size W w') := fun W => HCk.out W
    clear HCk
    go_enter Tryd.func7, Tryd.ntmps7
    go_wp2_with fail
    refine (HC2.out _).mono ?_
    rintro e w1 ⟨⟨i, rfl⟩, hb⟩
    have HB1 := Lib.hid hb
    clear hb
    go_wp2_with fail
    go_ret2
    exact ⟨⟨_, _, rfl, .inr ⟨rfl, rfl, fun h => by have h1 := h.1; rw [HRt.out] at h1; cases h1⟩⟩, HB1.out⟩
  | true =>
    have HC2 : Hid (∀ W, Calls Tryd.prog 15 #[.string s] W fun e w' => (∃ i : Int, e = .returned (.tuple #[.int .i64 i, .int .i64 0])) ∧ Below W.heap.size W w') := fun W => HCk.out W
    clear HCk
    go_enter Tryd.func7, Tryd.ntmps7
    go_wp2_with fail
    refine (HC2.out _).mono ?_
    rintro e w1 ⟨⟨i, rfl⟩, hb⟩
    have HB1 := Lib.hid hb
    clear hb
    go_wp2_with fail
    refine (HBb.out _).mono ?_
    rintro e w2 ⟨⟨n, rfl, hn⟩, rfl⟩
    rcases hn with ⟨hn, hall⟩ | ⟨k, hn, hk, hbad⟩
    · subst hn
      have HAll := Lib.hid hall
      clear hall
      have HL1 := Lib.hid HB1.out.size
      have HI1 := Lib.hid (Mk.fresh w1)
      have HB2 := Lib.hid (HB1.out.trans ((Mk.below_new w1 (.cells #[.pointer none, .slice none 0 0] 42)).mono HL1.out))
      go_wp2_with fail
      go_loopw [22] (fun i wr => ∃ k : Nat, k ≤ s.size ∧ i = .int .i64 (k : Int) ∧ Hid (Mk.IsB wr w1.heap.size (Mk.esc ((tl s).take k))) ∧ Hid (Below w.heap.size w wr)) (fun i _ => s.size - (intOf i).toNat)
      case atStart => exact ⟨0, Nat.zero_le _, rfl, HI1.out, HB2.out⟩
      case round =>
        obtain ⟨k, hk, rfl, HI, HB⟩ := hrel
        by_cases hlt : k < s.size
        · have q1 : (0 : Int) ≤ (k : Int) := by omega
          have q2 : (k : Int) < (s.size : Int) := by omega
          obtain ⟨b, hb⟩ : ∃ b, s[k]'hlt = b := ⟨_, rfl⟩
          have HN := Lib.hid (Mk.esc_next s k hlt b hb)
          have HL := Lib.hid (Mk.esc_tk s k hs)
          have hbk := hb
          by_cases h0 : b = 38
          · have hE : Mk.esc1 b = [38, 97, 109, 112, 59] := by subst h0; rfl
            have HE := Lib.hid hE
            clear hE
            have e0 : ((b.toNat : Int) == 38) = true := by rw [h0]; rfl
            have f0 : (b.toNat : Int) = 38 := by rw [h0]; rfl
            clear h0 
            go_wp2_with fail
            refine (Mk.putC [38, 97, 109, 112, 59] HI.out HL.out (by decide)).mono ?_
            rintro e w9 ⟨⟨v9, rfl⟩, hI, hb9⟩
            rw [← HE.out, ← HN.out] at hI
            have HI9 := Lib.hid hI
            have HB9 := Lib.hid (HB.out.trans (hb9.mono HL1.out))
            clear hI hb9
            go_wp2
            go_roundw
            case rel => exact ⟨k + 1, by omega, by go_num, HI9.out, HB9.out⟩
            case measure => simp [intOf]; omega
          have g0 : b.toNat ≠ 38 := fun e => h0 (UInt8.toNat_inj.1 e)
          have e0 : ((b.toNat : Int) == 38) = false := by rw [beq_eq_false_iff_ne]; omega
          have f0 : ¬ (b.toNat : Int) = 38 := by omega
          by_cases h1 : b = 60
          · have hE : Mk.esc1 b = [38, 108, 116, 59] := by subst h1; rfl
            have HE := Lib.hid hE
            clear hE
            have e1 : ((b.toNat : Int) == 60) = true := by rw [h1]; rfl
            have f1 : (b.toNat : Int) = 60 := by rw [h1]; rfl
            clear h0 h1 g0
            go_wp2_with fail
            refine (Mk.putC [38, 108, 116, 59] HI.out HL.out (by decide)).mono ?_
            rintro e w9 ⟨⟨v9, rfl⟩, hI, hb9⟩
            rw [← HE.out, ← HN.out] at hI
            have HI9 := Lib.hid hI
            have HB9 := Lib.hid (HB.out.trans (hb9.mono HL1.out))
            clear hI hb9
            go_wp2
            go_roundw
            case rel => exact ⟨k + 1, by omega, by go_num, HI9.out, HB9.out⟩
            case measure => simp [intOf]; omega
          have g1 : b.toNat ≠ 60 := fun e => h1 (UInt8.toNat_inj.1 e)
          have e1 : ((b.toNat : Int) == 60) = false := by rw [beq_eq_false_iff_ne]; omega
          have f1 : ¬ (b.toNat : Int) = 60 := by omega
          by_cases h2 : b = 62
          · have hE : Mk.esc1 b = [38, 103, 116, 59] := by subst h2; rfl
            have HE := Lib.hid hE
            clear hE
            have e2 : ((b.toNat : Int) == 62) = true := by rw [h2]; rfl
            have f2 : (b.toNat : Int) = 62 := by rw [h2]; rfl
            clear h0 h1 h2 g0 g1
            go_wp2_with fail
            refine (Mk.putC [38, 103, 116, 59] HI.out HL.out (by decide)).mono ?_
            rintro e w9 ⟨⟨v9, rfl⟩, hI, hb9⟩
            rw [← HE.out, ← HN.out] at hI
            have HI9 := Lib.hid hI
            have HB9 := Lib.hid (HB.out.trans (hb9.mono HL1.out))
            clear hI hb9
            go_wp2
            go_roundw
            case rel => exact ⟨k + 1, by omega, by go_num, HI9.out, HB9.out⟩
            case measure => simp [intOf]; omega
          have g2 : b.toNat ≠ 62 := fun e => h2 (UInt8.toNat_inj.1 e)
          have e2 : ((b.toNat : Int) == 62) = false := by rw [beq_eq_false_iff_ne]; omega
          have f2 : ¬ (b.toNat : Int) = 62 := by omega
          by_cases h3 : b = 34
          · have hE : Mk.esc1 b = [38, 113, 117, 111, 116, 59] := by subst h3; rfl
            have HE := Lib.hid hE
            clear hE
            have e3 : ((b.toNat : Int) == 34) = true := by rw [h3]; rfl
            have f3 : (b.toNat : Int) = 34 := by rw [h3]; rfl
            clear h0 h1 h2 h3 g0 g1 g2
            go_wp2_with fail
            refine (Mk.putC [38, 113, 117, 111, 116, 59] HI.out HL.out (by decide)).mono ?_
            rintro e w9 ⟨⟨v9, rfl⟩, hI, hb9⟩
            rw [← HE.out, ← HN.out] at hI
            have HI9 := Lib.hid hI
            have HB9 := Lib.hid (HB.out.trans (hb9.mono HL1.out))
            clear hI hb9
            go_wp2
            go_roundw
            case rel => exact ⟨k + 1, by omega, by go_num, HI9.out, HB9.out⟩
            case measure => simp [intOf]; omega
          have g3 : b.toNat ≠ 34 := fun e => h3 (UInt8.toNat_inj.1 e)
          have e3 : ((b.toNat : Int) == 34) = false := by rw [beq_eq_false_iff_ne]; omega
          have f3 : ¬ (b.toNat : Int) = 34 := by omega
          by_cases h4 : b = 39
          · have hE : Mk.esc1 b = [38, 97, 112, 111, 115, 59] := by subst h4; rfl
            have HE := Lib.hid hE
            clear hE
            have e4 : ((b.toNat : Int) == 39) = true := by rw [h4]; rfl
            have f4 : (b.toNat : Int) = 39 := by rw [h4]; rfl
            clear h0 h1 h2 h3 h4 g0 g1 g2 g3
            go_wp2_with fail
            refine (Mk.putC [38, 97, 112, 111, 115, 59] HI.out HL.out (by decide)).mono ?_
            rintro e w9 ⟨⟨v9, rfl⟩, hI, hb9⟩
            rw [← HE.out, ← HN.out] at hI
            have HI9 := Lib.hid hI
            have HB9 := Lib.hid (HB.out.trans (hb9.mono HL1.out))
            clear hI hb9
            go_wp2
            go_roundw
            case rel => exact ⟨k + 1, by omega, by go_num, HI9.out, HB9.out⟩
            case measure => simp [intOf]; omega
          have g4 : b.toNat ≠ 39 := fun e => h4 (UInt8.toNat_inj.1 e)
          have e4 : ((b.toNat : Int) == 39) = false := by rw [beq_eq_false_iff_ne]; omega
          have f4 : ¬ (b.toNat : Int) = 39 := by omega
          have hE : Mk.esc1 b = [b] := by unfold Mk.esc1; rw [if_neg h0, if_neg h1, if_neg h2, if_neg h3, if_neg h4]
          have HE := Lib.hid hE
          clear hE h0 h1 h2 h3 h4 g0 g1 g2 g3 g4
          go_wp2_with fail
          refine (Mk.putB b HI.out (by have := HL.out; omega)).mono ?_
          rintro e w9 ⟨rfl, hI, hb9⟩
          rw [← HE.out, ← HN.out] at hI
          have HI9 := Lib.hid hI
          have HB9 := Lib.hid (HB.out.trans (hb9.mono HL1.out))
          clear hI hb9
          go_wp2
          go_roundw
          case rel => exact ⟨k + 1, by omega, by go_num, HI9.out, HB9.out⟩
          case measure => simp [intOf]; omega
        · have q2 : ¬ (k : Int) < (s.size : Int) := by omega
          have hI := HI.out
          rw [List.take_of_length_le (by rw [tl_length]; omega)] at hI
          have HI2 := Lib.hid hI
          clear hI
          go_wp2_with fail
          refine (Mk.takeS HI2.out).mono ?_
          rintro e w3 ⟨rfl, hb⟩
          have HB3 := Lib.hid (HB.out.trans (hb.mono HL1.out))
          clear hb
          go_wp2_with fail
          go_ret2
          exact ⟨⟨_, _, rfl, .inl ⟨rfl, rfl, HRt.out, HAll.out⟩⟩, HB3.out⟩
    · have hn0 : (0 : Int) ≤ n := by omega
      have HBad := Lib.hid hbad
      clear hn hk hbad
      go_wp2_with fail
      go_ret2
      exact ⟨⟨_, _, rfl, .inr ⟨rfl, rfl, fun h => by obtain ⟨b, hb, hl⟩ := HBad.out; rw [h.2 b hb] at hl; cases hl⟩⟩, HB1.out⟩
end Go.Proofs.YthmhadgbhakdlaaDoor

/- The library's bound, as a fact of a world. -/
namespace Go.Proofs.YthmhadgbhakdlaaDoor
open Go.RowKit

/-- The library's bound alone. -/
structure Wl (w : World) : Prop where
  maxl : ∃ m, w.cell? ⟨0, 0, none⟩ = some (.int .i64 m)
theorem Wl.below {w w' : World} (h : Wl w) (hb : Below w.heap.size w w') : Wl w' := by
  obtain ⟨m, hm⟩ := h.maxl
  exact ⟨m, (hb.cell (p := ⟨_, 0, none⟩) (block_lt_of_cell hm)).trans hm⟩
end Go.Proofs.YthmhadgbhakdlaaDoor

/- markup: where a piece ends. -/
namespace Go.Proofs.YthmhadgbhakdlaaDoor
open Go.RowKit

namespace Mk
theorem index_any (s t : ByteArray) (hs : s.size ≤ 100000000) {w : World} (h : Wl w) :
    Calls Tryd.prog 60 #[.string s, .string t] w fun e w' => e = .returned (.int .i64 (Lib.index (tl s) (tl t))) ∧ w' = w := by
  obtain ⟨m, hm⟩ := h.maxl
  exact Tryd.strings_Index s t m w (by omega) hm
/-- The place, told from k on, as the code tells it. -/
def placeI (k : Nat) : Option Nat → Int
  | some n => ((k + n : Nat) : Int)
  | none => -1
theorem idxOf_none {l t : Txt} (h : Lib.index l t = -1) : idxOf l t = none := by unfold idxOf; rw [if_pos h]
theorem idxOf_some {l t : Txt} {n : Nat} (h : Lib.index l t = (n : Int)) : idxOf l t = some n := by unfold idxOf; rw [h, if_neg (by omega)]; rfl
end Mk
set_option maxHeartbeats 1000000 in
set_option maxRecDepth 100000 in
theorem behind_any (s t : ByteArray) (k : Nat) (hk : k ≤ s.size) (hs : s.size ≤ 100000000) (ht : t.size ≤ 100) (w : World) (hw : Wl w) :
    Calls Tryd.prog 52 #[.string s, .int .i64 (k : Int), .string t] w fun e w' => e = .returned (.int .i64 (Mk.placeI (k + t.size) (Mk.idxOf ((tl s).drop k) (tl t)))) ∧ w' = w := by
  have k0 : (0 : Int) ≤ (k : Int) := by omega
  have k1 : (k : Int) ≤ (s.size : Int) := by omega
  have HI := Lib.hid (Mk.index_any (s.extract k s.size) t (by simp only [ByteArray.size_extract]; omega) hw)
  rw [Mk.tl_from] at HI
  have hle : ∀ n : Nat, Lib.index ((tl s).drop k) (tl t) = (n : Int) → n + t.size ≤ s.size - k := fun n h => by
    have := Mk.index_le _ _ _ h
    rw [List.length_drop, tl_length, tl_length] at this
    exact this
  have hge := Mk.index_ge ((tl s).drop k) (tl t)
  by_cases h : Lib.index ((tl s).drop k) (tl t) = -1
  · rw [Mk.idxOf_none h]
    rw [h] at HI
    clear h hle hge
    go_enter Tryd.func52, Tryd.ntmps52
    go_wp2_with (refine HI.out.mono ?_; rintro e w' ⟨rfl, rfl⟩)
    go_ret
    exact ⟨rfl, rfl⟩
  · obtain ⟨n, hn⟩ : ∃ n : Nat, Lib.index ((tl s).drop k) (tl t) = (n : Int) := ⟨(Lib.index ((tl s).drop k) (tl t)).toNat, by omega⟩
    have hb := hle n hn
    rw [Mk.idxOf_some hn]
    rw [hn] at HI
    have n0 : ¬ (n : Int) < 0 := by omega
    have hz : Mk.placeI (k + t.size) (some n) = (k : Int) + (n : Int) + (t.size : Int) := by show ((k + t.size + n : Nat) : Int) = _; omega
    rw [hz]
    have b1 : (k : Int) + (n : Int) + (t.size : Int) ≤ 100000000 := by omega
    have htm : IntKind.i64.wrap (t.size : Int) = t.size := by rw [IntKind.wrap_i64]; omega
    clear h hle hge hn hz
    go_enter Tryd.func52, Tryd.ntmps52
    go_wp2_with (refine HI.out.mono ?_; rintro e w' ⟨rfl, rfl⟩)
    go_ret
    exact ⟨by first | rfl | (apply ret_int; rfl), rfl⟩
namespace Mk
theorem has_eq (l t : Txt) : Lib.hasPrefix l t = t.isPrefixOf l := rfl
def qv : Option UInt8 → UInt8
  | some c => c
  | none => 0
def qOk : Option UInt8 → Prop
  | some c => c = 34 ∨ c = 39
  | none => True
theorem scan_end {q : Option UInt8} {i k : Nat} {l : Txt} (h : l.length ≤ k) : scanQ q i (l.drop k) = none := by
  rw [List.drop_of_length_le h]
  cases q <;> rfl
theorem scan_in1 {c b : UInt8} {i k : Nat} {l : Txt} (h : l[k]? = some b) : scanQ (some c) i (l.drop k) = scanQ (if b = c then none else some c) (i + 1) (l.drop (k + 1)) := by
  obtain ⟨h1, h2⟩ := List.getElem?_eq_some_iff.1 h
  rw [List.drop_eq_getElem_cons h1, h2, scanQ]
theorem scan_q {b : UInt8} {i k : Nat} {l : Txt} (h : l[k]? = some b) (hb : b = 34 ∨ b = 39) : scanQ none i (l.drop k) = scanQ (some b) (i + 1) (l.drop (k + 1)) := by
  obtain ⟨h1, h2⟩ := List.getElem?_eq_some_iff.1 h
  rw [List.drop_eq_getElem_cons h1, h2, scanQ, if_pos hb]
theorem scan_out {b : UInt8} {i k : Nat} {l : Txt} (h : l[k]? = some b) (hb : b = 62) : scanQ none i (l.drop k) = some (i + 1) := by
  obtain ⟨h1, h2⟩ := List.getElem?_eq_some_iff.1 h
  rw [List.drop_eq_getElem_cons h1, h2, scanQ, if_neg (by rw [hb]; decide), if_pos hb]
theorem scan_on {b : UInt8} {i k : Nat} {l : Txt} (h : l[k]? = some b) (h34 : b ≠ 34) (h39 : b ≠ 39) (h62 : b ≠ 62) : scanQ none i (l.drop k) = scanQ none (i + 1) (l.drop (k + 1)) := by
  obtain ⟨h1, h2⟩ := List.getElem?_eq_some_iff.1 h
  rw [List.drop_eq_getElem_cons h1, h2, scanQ, if_neg (by rintro (e | e); exact h34 e; exact h39 e), if_neg h62]
theorem ne_nat {b : UInt8} {c : Nat} (h : b.toNat ≠ c) : ((b.toNat : Int) == (c : Int)) = false := by rw [beq_eq_false_iff_ne]; omega
end Mk
set_option maxHeartbeats 2000000 in
set_option maxRecDepth 100000 in
theorem pieceEnd_any (s : ByteArray) (p : Nat) (hp : p < s.size) (hs : s.size ≤ 100000000) (w : World) (hw : Wl w) :
    Calls Tryd.prog 38 #[.string s, .int .i64 (p : Int)] w fun e w' => e = .returned (.int .i64 (Mk.placeI p (Mk.pieceEnd ((tl s).drop p)))) ∧ w' = w := by
  have p0 : (0 : Int) ≤ (p : Int) := by omega
  have p1 : (p : Int) ≤ (s.size : Int) := by omega
  have p2 : (p : Int) ≤ 100000000 := by omega
  have hmax : IntKind.i64.wrap (s.size : Int) = s.size := by rw [IntKind.wrap_i64]; omega
  have HL := Lib.hid (tl_length s)
  have HC := Lib.hid (fun W => Tryd.strings_HasPrefix (s.extract p s.size) ⟨#[60, 33, 45, 45]⟩ W)
  have HN := Lib.hid (fun W => Tryd.strings_HasPrefix (s.extract p s.size) ⟨#[60, 63]⟩ W)
  obtain ⟨bc, hbc⟩ : ∃ b, Mk.comm.isPrefixOf ((tl s).drop p) = b := ⟨_, rfl⟩
  obtain ⟨bn, hbn⟩ : ∃ b, Mk.note.isPrefixOf ((tl s).drop p) = b := ⟨_, rfl⟩
  have HC2 : Hid (∀ W, Calls Tryd.prog 30 #[.string (s.extract p s.size), .string ⟨#[60, 33, 45, 45]⟩] W fun e w' => e = .returned (.bool bc) ∧ w' = W) := fun W => by
    have h := HC.out W
    rw [show (s.extract p s.size).data.toList = (tl s).drop p from Mk.tl_from s p, show (⟨#[60, 33, 45, 45]⟩ : ByteArray).data.toList = Mk.comm from rfl, Mk.has_eq, hbc] at h
    exact h
  have HN2 : Hid (∀ W, Calls Tryd.prog 30 #[.string (s.extract p s.size), .string ⟨#[60, 63]⟩] W fun e w' => e = .returned (.bool bn) ∧ w' = W) := fun W => by
    have h := HN.out W
    rw [show (s.extract p s.size).data.toList = (tl s).drop p from Mk.tl_from s p, show (⟨#[60, 63]⟩ : ByteArray).data.toList = Mk.note from rfl, Mk.has_eq, hbn] at h
    exact h
  clear HC HN
  obtain ⟨R, hR⟩ : ∃ R, Mk.pieceEnd ((tl s).drop p) = R := ⟨_, rfl⟩
  rw [hR]
  have hlc : ∀ t : Mk.Txt, t.isPrefixOf ((tl s).drop p) = true → p + t.length ≤ s.size := fun t h => by
    have := (List.isPrefixOf_iff_prefix.1 h).length_le
    rw [List.length_drop, tl_length] at this
    omega
  cases bc with
  | true =>
    have h4 : p + 4 ≤ s.size := hlc _ hbc
    have HB := Lib.hid (behind_any s ⟨#[45, 45, 62]⟩ (p + 4) h4 hs (show 3 ≤ 100 by omega) w hw)
    have hr : Mk.placeI (p + 4 + 3) (Mk.idxOf ((tl s).drop (p + 4)) Mk.commEnd) = Mk.placeI p R := by
      rw [← hR]
      unfold Mk.pieceEnd
      rw [if_pos hbc, List.drop_drop]
      cases Mk.idxOf ((tl s).drop (p + 4)) Mk.commEnd with
      | none => rfl
      | some n => show ((p + 4 + 3 + n : Nat) : Int) = ((p + (4 + n + 3) : Nat) : Int); omega
    have HB2 : Hid (Calls Tryd.prog 52 #[.string s, .int .i64 ((p : Int) + 4), .string ⟨#[45, 45, 62]⟩] w fun e w' => e = .returned (.int .i64 (Mk.placeI p R)) ∧ w' = w) := by rw [← hr]; exact HB.out
    clear HB hr hlc hR hbc hbn
    go_enter Tryd.func38, Tryd.ntmps38
    go_wp2_with (refine (HC2.out _).mono ?_; rintro e w' ⟨rfl, rfl⟩)
    go_wp2_with (refine HB2.out.mono ?_; rintro e w' ⟨rfl, rfl⟩)
    go_ret
    exact ⟨rfl, rfl⟩
  | false =>
    cases bn with
    | true =>
      have h4 : p + 2 ≤ s.size := hlc _ hbn
      have HB := Lib.hid (behind_any s ⟨#[63, 62]⟩ (p + 2) h4 hs (show 2 ≤ 100 by omega) w hw)
      have hr : Mk.placeI (p + 2 + 2) (Mk.idxOf ((tl s).drop (p + 2)) Mk.noteEnd) = Mk.placeI p R := by
        rw [← hR]
        unfold Mk.pieceEnd
        rw [if_neg (by rw [hbc]; decide), if_pos hbn, List.drop_drop]
        cases Mk.idxOf ((tl s).drop (p + 2)) Mk.noteEnd with
        | none => rfl
        | some n => show ((p + 2 + 2 + n : Nat) : Int) = ((p + (2 + n + 2) : Nat) : Int); omega
      have HB2 : Hid (Calls Tryd.prog 52 #[.string s, .int .i64 ((p : Int) + 2), .string ⟨#[63, 62]⟩] w fun e w' => e = .returned (.int .i64 (Mk.placeI p R)) ∧ w' = w) := by rw [← hr]; exact HB.out
      clear HB hr hlc hR hbc hbn
      go_enter Tryd.func38, Tryd.ntmps38
      go_wp2_with (refine (HC2.out _).mono ?_; rintro e w' ⟨rfl, rfl⟩)
      go_wp2_with (refine (HN2.out _).mono ?_; rintro e w' ⟨rfl, rfl⟩)
      go_wp2_with (refine HB2.out.mono ?_; rintro e w' ⟨rfl, rfl⟩)
      go_ret
      exact ⟨rfl, rfl⟩
    | false =>
      have HR : Hid (Mk.scanQ none 1 ((tl s).drop (p + 1)) = R) := by
        show _ = _
        rw [← hR]
        unfold Mk.pieceEnd
        rw [if_neg (by rw [hbc]; decide), if_neg (by rw [hbn]; decide), List.drop_drop]
      clear hlc hR hbc hbn
      go_enter Tryd.func38, Tryd.ntmps38
      go_wp2_with (refine (HC2.out _).mono ?_; rintro e w' ⟨rfl, rfl⟩)
      go_wp2_with (refine (HN2.out _).mono ?_; rintro e w' ⟨rfl, rfl⟩)
      go_loopw [5, 6] (fun a i wr => ∃ (q : Option UInt8) (j : Nat), p + 1 + j ≤ s.size ∧ Mk.qOk q ∧ a = .int .u8 ((Mk.qv q).toNat : Int) ∧ i = .int .i64 ((p + 1 + j : Nat) : Int) ∧ Hid (Mk.scanQ q (1 + j) ((tl s).drop (p + 1 + j)) = R) ∧ wr = w') (fun _ i _ => s.size - (intOf i).toNat)
      case atStart => exact ⟨none, 0, by omega, trivial, rfl, by first | rfl | go_num, HR.out, rfl⟩
      case round =>
        obtain ⟨q, j, hj, hq, rfl, rfl, HS, rfl⟩ := hrel
        obtain ⟨k, hk⟩ : ∃ k, p + 1 + j = k := ⟨_, rfl⟩
        rw [hk] at HS hj ⊢
        have HK : Value.int .i64 ((k : Int) + 1) = Value.int .i64 ((p + 1 + (j + 1) : Nat) : Int) := by rw [show p + 1 + (j + 1) = k + 1 by omega]; rfl
        have HG : Hid (∀ q2, Mk.scanQ q2 (1 + j + 1) ((tl s).drop (k + 1)) = R → Mk.scanQ q2 (1 + (j + 1)) ((tl s).drop (p + 1 + (j + 1))) = R) := fun q2 h => by
          rw [show p + 1 + (j + 1) = k + 1 by omega, show 1 + (j + 1) = 1 + j + 1 by omega]
          exact h
        have HKk := Lib.hid HK
        have hkj : k = p + (1 + j) := by omega
        have HKJ := Lib.hid hkj
        have hj2 : k < s.size → p + 1 + (j + 1) ≤ s.size := fun h => by omega
        have HJ := Lib.hid hj2
        have k0 : (0 : Int) ≤ (k : Int) := by omega
        clear HK hkj hj2 hk p0 p1 p2
        by_cases hlt : k < s.size
        · have q2 : (k : Int) < (s.size : Int) := by omega
          obtain ⟨b, hb⟩ : ∃ b, s[k]'hlt = b := ⟨_, rfl⟩
          have HA : Hid ((tl s)[k]? = some b) := by show _ = _; rw [← hb]; exact Mk.at_tl s k hlt
          have hbk := hb
          cases q with
          | some c =>
            rcases hq with rfl | rfl
            · rw [show ((Mk.qv (some 34)).toNat : Int) = 34 from rfl]
              by_cases hc : b = 34
              · have HX : Hid (Mk.scanQ none (1 + (j + 1)) ((tl s).drop (p + 1 + (j + 1))) = R) := HG.out _ (by rw [← HS.out, Mk.scan_in1 HA.out, if_pos hc])
                have e1 : ((b.toNat : Int) == 34) = true := by rw [hc]; rfl
                have f1 : (b.toNat : Int) = 34 := by rw [hc]; rfl
                clear hc
                go_wp2
                go_roundw
                case rel => exact ⟨none, j + 1, HJ.out hlt, trivial, by rfl, HKk.out, HX.out, by first | rfl | trivial⟩
                case measure => simp [intOf]; omega
              · have HX : Hid (Mk.scanQ (some 34) (1 + (j + 1)) ((tl s).drop (p + 1 + (j + 1))) = R) := HG.out _ (by rw [← HS.out, Mk.scan_in1 HA.out, if_neg hc])
                have g1 : b.toNat ≠ 34 := fun e => hc (UInt8.toNat_inj.1 e)
                have e1 : ((b.toNat : Int) == 34) = false := by rw [beq_eq_false_iff_ne]; omega
                have f1 : ¬ (b.toNat : Int) = 34 := by omega
                clear hc g1
                go_wp2
                go_roundw
                case rel => exact ⟨some 34, j + 1, HJ.out hlt, .inl rfl, by rfl, HKk.out, HX.out, by first | rfl | trivial⟩
                case measure => simp [intOf]; omega
            · rw [show ((Mk.qv (some 39)).toNat : Int) = 39 from rfl]
              by_cases hc : b = 39
              · have HX : Hid (Mk.scanQ none (1 + (j + 1)) ((tl s).drop (p + 1 + (j + 1))) = R) := HG.out _ (by rw [← HS.out, Mk.scan_in1 HA.out, if_pos hc])
                have e1 : ((b.toNat : Int) == 39) = true := by rw [hc]; rfl
                have f1 : (b.toNat : Int) = 39 := by rw [hc]; rfl
                clear hc
                go_wp2
                go_roundw
                case rel => exact ⟨none, j + 1, HJ.out hlt, trivial, by rfl, HKk.out, HX.out, by first | rfl | trivial⟩
                case measure => simp [intOf]; omega
              · have HX : Hid (Mk.scanQ (some 39) (1 + (j + 1)) ((tl s).drop (p + 1 + (j + 1))) = R) := HG.out _ (by rw [← HS.out, Mk.scan_in1 HA.out, if_neg hc])
                have g1 : b.toNat ≠ 39 := fun e => hc (UInt8.toNat_inj.1 e)
                have e1 : ((b.toNat : Int) == 39) = false := by rw [beq_eq_false_iff_ne]; omega
                have f1 : ¬ (b.toNat : Int) = 39 := by omega
                clear hc g1
                go_wp2
                go_roundw
                case rel => exact ⟨some 39, j + 1, HJ.out hlt, .inr rfl, by rfl, HKk.out, HX.out, by first | rfl | trivial⟩
                case measure => simp [intOf]; omega
          | none =>
            rw [show ((Mk.qv none).toNat : Int) = 0 from rfl]
            by_cases h0 : b = 34
            · have HX : Hid (Mk.scanQ (some 34) (1 + (j + 1)) ((tl s).drop (p + 1 + (j + 1))) = R) := HG.out _ (by rw [← HS.out, Mk.scan_q HA.out (.inl h0), h0])
              have e0 : ((b.toNat : Int) == 34) = true := by rw [h0]; rfl
              have f0 : (b.toNat : Int) = 34 := by rw [h0]; rfl
              clear h0
              go_wp2
              go_roundw
              case rel => exact ⟨some 34, j + 1, HJ.out hlt, .inl rfl, by first | rfl | (show _ = Value.int .u8 34; rw [f0]) , HKk.out, HX.out, by first | rfl | trivial⟩
              case measure => simp [intOf]; omega
            have g0 : b.toNat ≠ 34 := fun e => h0 (UInt8.toNat_inj.1 e)
            have e0 : ((b.toNat : Int) == 34) = false := by rw [beq_eq_false_iff_ne]; omega
            have f0 : ¬ (b.toNat : Int) = 34 := by omega
            by_cases h1 : b = 39
            · have HX : Hid (Mk.scanQ (some 39) (1 + (j + 1)) ((tl s).drop (p + 1 + (j + 1))) = R) := HG.out _ (by rw [← HS.out, Mk.scan_q HA.out (.inr h1), h1])
              have e1 : ((b.toNat : Int) == 39) = true := by rw [h1]; rfl
              have f1 : (b.toNat : Int) = 39 := by rw [h1]; rfl
              clear h0 h1
              go_wp2
              go_roundw
              case rel => exact ⟨some 39, j + 1, HJ.out hlt, .inr rfl, by first | rfl | (show _ = Value.int .u8 39; rw [f1]) , HKk.out, HX.out, by first | rfl | trivial⟩
              case measure => simp [intOf]; omega
            have g1 : b.toNat ≠ 39 := fun e => h1 (UInt8.toNat_inj.1 e)
            have e1 : ((b.toNat : Int) == 39) = false := by rw [beq_eq_false_iff_ne]; omega
            have f1 : ¬ (b.toNat : Int) = 39 := by omega
            by_cases h2 : b = 62
            · have HX : Hid (R = some (1 + j + 1)) := by show _ = _; rw [← HS.out, Mk.scan_out HA.out h2]
              have e2 : ((b.toNat : Int) == 62) = true := by rw [h2]; rfl
              have f2 : (b.toNat : Int) = 62 := by rw [h2]; rfl
              clear h0 h1 h2 g0 g1
              go_wp2
              go_ret
              exact ⟨by rw [HX.out]; show _ = Ending.returned (.int .i64 ((p + (1 + j + 1) : Nat) : Int)); rw [show p + (1 + j + 1) = k + 1 by have := HKJ.out; omega]; rfl, rfl⟩
            have g2 : b.toNat ≠ 62 := fun e => h2 (UInt8.toNat_inj.1 e)
            have e2 : ((b.toNat : Int) == 62) = false := by rw [beq_eq_false_iff_ne]; omega
            have f2 : ¬ (b.toNat : Int) = 62 := by omega
            have HX : Hid (Mk.scanQ none (1 + (j + 1)) ((tl s).drop (p + 1 + (j + 1))) = R) := HG.out _ (by rw [← HS.out, Mk.scan_on HA.out h0 h1 h2])
            clear h0 h1 h2 g0 g1 g2
            go_wp2
            go_roundw
            case rel => exact ⟨none, j + 1, HJ.out hlt, trivial, by rfl, HKk.out, HX.out, by first | rfl | trivial⟩
            case measure => simp [intOf]; omega
        · have q2 : ¬ (k : Int) < (s.size : Int) := by omega
          have HX : Hid (R = none) := by show _ = _; rw [← HS.out]; exact Mk.scan_end (by rw [HL.out]; omega)
          go_wp2
          go_ret
          exact ⟨by rw [HX.out]; rfl, rfl⟩
end Go.Proofs.YthmhadgbhakdlaaDoor

/- Words for a block of cells: what it holds, kept over all that is done elsewhere. -/
namespace Go.Proofs.YthmhadgbhakdlaaDoor
open Go.RowKit

/-- Block g holds these cells, and none of them is frozen. -/
def At (w : World) (g : Nat) (xs : List Value) : Prop := g < w.heap.size ∧ ∀ i v, xs[i]? = some v → w.cell? ⟨g, i, none⟩ = some v ∧ w.frozen? ⟨g, i, none⟩ = false
section
variable {w w' : World} {g B : Nat} {xs : List Value}
theorem At.new (w : World) (cs : Array Value) (t : TypeId) : At (w.alloc (.cells cs t)) w.heap.size cs.toList := by
  refine ⟨by simp, fun i v h => ⟨?_, ?_⟩⟩
  · rw [World.cell?_alloc_new]
    simpa using h
  · exact World.frozen?_alloc_new ..
theorem At.lt (h : At w g xs) : g < w.heap.size := h.1
theorem At.below (h : At w g xs) (hb : Below B w w') (hg : g < B) : At w' g xs :=
  ⟨Nat.lt_of_lt_of_le h.1 hb.size, fun i v hi => ⟨(hb.cell (p := ⟨g, i, none⟩) hg).trans (h.2 i v hi).1, (hb.frozen (p := ⟨g, i, none⟩) hg).trans (h.2 i v hi).2⟩⟩
theorem At.call (h : At w g xs) (hb : Below w.heap.size w w') : At w' g xs := h.below hb h.1
theorem At.drew (h : At w g xs) (hd : Drew w w') : At w' g xs := by
  obtain ⟨n, rfl⟩ := hd
  exact ⟨h.1, fun i v hi => h.2 i v hi⟩
theorem At.alloc (h : At w g xs) (c : Array Value) (t : TypeId) : At (w.alloc (.cells c t)) g xs :=
  h.below (((Below.refl _ _).alloc (Nat.le_refl _) _) : Below w.heap.size w _) h.1
theorem At.allocO (h : At w g xs) (o : Obj) : At (w.alloc o) g xs :=
  h.below (((Below.refl _ _).alloc (Nat.le_refl _) _) : Below w.heap.size w _) h.1
theorem heap_set (w : World) (p : Addr) (v : Value) : (w.setCell p v).heap.size = w.heap.size := by simp
theorem At.set (h : At w g xs) (i : Nat) (v : Value) : At (w.setCell ⟨g, i, none⟩ v) g (xs.set i v) := by
  refine ⟨by rw [heap_set]; exact h.1, fun j u hj => ⟨?_, ?_⟩⟩
  · by_cases e : i = j
    · subst e
      have hl : i < xs.length := by
        have := (List.getElem?_eq_some_iff.1 hj).1
        simpa using this
      have hu : v = u := by
        rw [List.getElem?_set_self hl] at hj
        exact Option.some.inj hj
      subst hu
      exact World.cell?_setCell_same _ _ _ (h.2 i _ (List.getElem?_eq_getElem hl)).1
    · rw [List.getElem?_set_ne e] at hj
      rw [World.cell?_setCell_other _ _ _ _ (by intro x; injection x with _ y _; exact e y)]
      exact (h.2 j u hj).1
  · rw [World.frozen?_setCell]
    by_cases e : i = j
    · subst e
      have hl : i < xs.length := by
        have := (List.getElem?_eq_some_iff.1 hj).1
        simpa using this
      exact (h.2 i _ (List.getElem?_eq_getElem hl)).2
    · rw [List.getElem?_set_ne e] at hj
      exact (h.2 j u hj).2
theorem At.set_other (h : At w g xs) (p : Addr) (v : Value) (hp : p.block ≠ g) : At (w.setCell p v) g xs := by
  refine ⟨by rw [heap_set]; exact h.1, fun j u hj => ⟨?_, ?_⟩⟩
  · rw [World.cell?_setCell_other _ _ _ _ (by intro x; subst x; exact hp rfl)]
    exact (h.2 j u hj).1
  · rw [World.frozen?_setCell]
    exact (h.2 j u hj).2
theorem At.cell (h : At w g xs) (i : Nat) (v : Value) (hi : xs[i]? = some v) : w.cell? ⟨g, i, none⟩ = some v := (h.2 i v hi).1
theorem At.free (h : At w g xs) (i : Nat) (v : Value) (hi : xs[i]? = some v) : w.frozen? ⟨g, i, none⟩ = false := (h.2 i v hi).2
end
/-- The cells of two, three, .. -/
theorem At.two {w : World} {g : Nat} {a b : Value} (h : At w g [a, b]) : w.cell? ⟨g, 0, none⟩ = some a ∧ w.cell? ⟨g, 1, none⟩ = some b ∧ w.frozen? ⟨g, 0, none⟩ = false ∧ w.frozen? ⟨g, 1, none⟩ = false :=
  ⟨h.cell 0 a rfl, h.cell 1 b rfl, h.free 0 a rfl, h.free 1 b rfl⟩
theorem At.three {w : World} {g : Nat} {a b c : Value} (h : At w g [a, b, c]) : w.cell? ⟨g, 0, none⟩ = some a ∧ w.cell? ⟨g, 1, none⟩ = some b ∧ w.cell? ⟨g, 2, none⟩ = some c ∧
    w.frozen? ⟨g, 0, none⟩ = false ∧ w.frozen? ⟨g, 1, none⟩ = false ∧ w.frozen? ⟨g, 2, none⟩ = false :=
  ⟨h.cell 0 a rfl, h.cell 1 b rfl, h.cell 2 c rfl, h.free 0 a rfl, h.free 1 b rfl, h.free 2 c rfl⟩
theorem At.seven {w : World} {g : Nat} {a b c d e f k : Value} (h : At w g [a, b, c, d, e, f, k]) :
    (w.cell? ⟨g, 0, none⟩ = some a ∧ w.cell? ⟨g, 1, none⟩ = some b ∧ w.cell? ⟨g, 2, none⟩ = some c ∧ w.cell? ⟨g, 3, none⟩ = some d ∧ w.cell? ⟨g, 4, none⟩ = some e ∧ w.cell? ⟨g, 5, none⟩ = some f ∧ w.cell? ⟨g, 6, none⟩ = some k) ∧
    (w.frozen? ⟨g, 0, none⟩ = false ∧ w.frozen? ⟨g, 1, none⟩ = false ∧ w.frozen? ⟨g, 2, none⟩ = false ∧ w.frozen? ⟨g, 3, none⟩ = false ∧ w.frozen? ⟨g, 4, none⟩ = false ∧ w.frozen? ⟨g, 5, none⟩ = false ∧ w.frozen? ⟨g, 6, none⟩ = false) :=
  ⟨⟨h.cell 0 a rfl, h.cell 1 b rfl, h.cell 2 c rfl, h.cell 3 d rfl, h.cell 4 e rfl, h.cell 5 f rfl, h.cell 6 k rfl⟩, ⟨h.free 0 a rfl, h.free 1 b rfl, h.free 2 c rfl, h.free 3 d rfl, h.free 4 e rfl, h.free 5 f rfl, h.free 6 k rfl⟩⟩
end Go.Proofs.YthmhadgbhakdlaaDoor
