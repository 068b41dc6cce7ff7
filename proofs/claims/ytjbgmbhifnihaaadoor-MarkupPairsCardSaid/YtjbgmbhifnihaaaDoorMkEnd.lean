/- markup: where a piece ends. -/
import Derived.Test.YtjbgmbhifnihaaaDoorMkEsc
import Derived.Test.YtjbgmbhifnihaaaDoorWl
namespace Go.Proofs.YtjbgmbhifnihaaaDoor
open Go.RowKit

namespace Mk
theorem index_any (s t : ByteArray) (hs : s.size ≤ 100000000) {w : World} (h : Wl w) :
    Calls Tryd.prog 72 #[.string s, .string t] w fun e w' => e = .returned (.int .i64 (Lib.index (tl s) (tl t))) ∧ w' = w := by
  obtain ⟨m, hm⟩ := h.maxl
  exact Tryd.strings_Index s t m w (by omega) hm
/-- The place, told from k on, as the code tells it. -/
def placeI (k : Nat) : Option Nat → Int
  | some n => ((k + n : Nat) : Int)
  | none => -1
theorem idxOf_none {l t : Txt} (h : Lib.index l t = -1) : idxOf l t = none := by unfold idxOf; rw [if_pos h]
theorem idxOf_some {l t : Txt} {n : Nat} (h : Lib.index l t = (n : Int)) : idxOf l t = some n := by unfold idxOf; rw [h, if_neg (by omega)]; rfl
end Mk
set_option maxHeartbeats 1000000 in
set_option maxRecDepth 100000 in
theorem behind_any (s t : ByteArray) (k : Nat) (hk : k ≤ s.size) (hs : s.size ≤ 100000000) (ht : t.size ≤ 100) (w : World) (hw : Wl w) :
    Calls Tryd.prog 58 #[.string s, .int .i64 (k : Int), .string t] w fun e w' => e = .returned (.int .i64 (Mk.placeI (k + t.size) (Mk.idxOf ((tl s).drop k) (tl t)))) ∧ w' = w := by
  have k0 : (0 : Int) ≤ (k : Int) := by omega
  have k1 : (k : Int) ≤ (s.size : Int) := by omega
  have HI := Lib.hid (Mk.index_any (s.extract k s.size) t (by simp only [ByteArray.size_extract]; omega) hw)
  rw [Mk.tl_from] at HI
  have hle : ∀ n : Nat, Lib.index ((tl s).drop k) (tl t) = (n : Int) → n + t.size ≤ s.size - k := fun n h => by
    have := Mk.index_le _ _ _ h
    rw [List.length_drop, tl_length, tl_length] at this
    exact this
  have hge := Mk.index_ge ((tl s).drop k) (tl t)
  by_cases h : Lib.index ((tl s).drop k) (tl t) = -1
  · rw [Mk.idxOf_none h]
    rw [h] at HI
    clear h hle hge
    go_enter Tryd.func58, Tryd.ntmps58
    go_wp2_with (refine HI.out.mono ?_; rintro e w' ⟨rfl, rfl⟩)
    go_ret
    exact ⟨rfl, rfl⟩
  · obtain ⟨n, hn⟩ : ∃ n : Nat, Lib.index ((tl s).drop k) (tl t) = (n : Int) := ⟨(Lib.index ((tl s).drop k) (tl t)).toNat, by omega⟩
    have hb := hle n hn
    rw [Mk.idxOf_some hn]
    rw [hn] at HI
    have n0 : ¬ (n : Int) < 0 := by omega
    have hz : Mk.placeI (k + t.size) (some n) = (k : Int) + (n : Int) + (t.size : Int) := by show ((k + t.size + n : Nat) : Int) = _; omega
    rw [hz]
    have b1 : (k : Int) + (n : Int) + (t.size : Int) ≤ 100000000 := by omega
    have htm : IntKind.i64.wrap (t.size : Int) = t.size := by rw [IntKind.wrap_i64]; omega
    clear h hle hge hn hz
    go_enter Tryd.func58, Tryd.ntmps58
    go_wp2_with (refine HI.out.mono ?_; rintro e w' ⟨rfl, rfl⟩)
    go_ret
    exact ⟨by first | rfl | (apply ret_int; rfl), rfl⟩
namespace Mk
theorem has_eq (l t : Txt) : Lib.hasPrefix l t = t.isPrefixOf l := rfl
def qv : Option UInt8 → UInt8
  | some c => c
  | none => 0
def qOk : Option UInt8 → Prop
  | some c => c = 34 ∨ c = 39
  | none => True
theorem scan_end {q : Option UInt8} {i k : Nat} {l : Txt} (h : l.length ≤ k) : scanQ q i (l.drop k) = none := by
  rw [List.drop_of_length_le h]
  cases q <;> rfl
theorem scan_in1 {c b : UInt8} {i k : Nat} {l : Txt} (h : l[k]? = some b) : scanQ (some c) i (l.drop k) = scanQ (if b = c then none else some c) (i + 1) (l.drop (k + 1)) := by
  obtain ⟨h1, h2⟩ := List.getElem?_eq_some_iff.1 h
  rw [List.drop_eq_getElem_cons h1, h2, scanQ]
theorem scan_q {b : UInt8} {i k : Nat} {l : Txt} (h : l[k]? = some b) (hb : b = 34 ∨ b = 39) : scanQ none i (l.drop k) = scanQ (some b) (i + 1) (l.drop (k + 1)) := by
  obtain ⟨h1, h2⟩ := List.getElem?_eq_some_iff.1 h
  rw [List.drop_eq_getElem_cons h1, h2, scanQ, if_pos hb]
theorem scan_out {b : UInt8} {i k : Nat} {l : Txt} (h : l[k]? = some b) (hb : b = 62) : scanQ none i (l.drop k) = some (i + 1) := by
  obtain ⟨h1, h2⟩ := List.getElem?_eq_some_iff.1 h
  rw [List.drop_eq_getElem_cons h1, h2, scanQ, if_neg (by rw [hb]; decide), if_pos hb]
theorem scan_on {b : UInt8} {i k : Nat} {l : Txt} (h : l[k]? = some b) (h34 : b ≠ 34) (h39 : b ≠ 39) (h62 : b ≠ 62) : scanQ none i (l.drop k) = scanQ none (i + 1) (l.drop (k + 1)) := by
  obtain ⟨h1, h2⟩ := List.getElem?_eq_some_iff.1 h
  rw [List.drop_eq_getElem_cons h1, h2, scanQ, if_neg (by rintro (e | e); exact h34 e; exact h39 e), if_neg h62]
theorem ne_nat {b : UInt8} {c : Nat} (h : b.toNat ≠ c) : ((b.toNat : Int) == (c : Int)) = false := by rw [beq_eq_false_iff_ne]; omega
end Mk
set_option maxHeartbeats 2000000 in
set_option maxRecDepth 100000 in
theorem pieceEnd_any (s : ByteArray) (p : Nat) (hp : p < s.size) (hs : s.size ≤ 100000000) (w : World) (hw : Wl w) :
    Calls Tryd.prog 39 #[.string s, .int .i64 (p : Int)] w fun e w' => e = .returned (.int .i64 (Mk.placeI p (Mk.pieceEnd ((tl s).drop p)))) ∧ w' = w := by
  have p0 : (0 : Int) ≤ (p : Int) := by omega
  have p1 : (p : Int) ≤ (s.size : Int) := by omega
  have p2 : (p : Int) ≤ 100000000 := by omega
  have hmax : IntKind.i64.wrap (s.size : Int) = s.size := by rw [IntKind.wrap_i64]; omega
  have HL := Lib.hid (tl_length s)
  have HC := Lib.hid (fun W => Tryd.strings_HasPrefix (s.extract p s.size) ⟨#[60, 33, 45, 45]⟩ W)
  have HN := Lib.hid (fun W => Tryd.strings_HasPrefix (s.extract p s.size) ⟨#[60, 63]⟩ W)
  obtain ⟨bc, hbc⟩ : ∃ b, Mk.comm.isPrefixOf ((tl s).drop p) = b := ⟨_, rfl⟩
  obtain ⟨bn, hbn⟩ : ∃ b, Mk.note.isPrefixOf ((tl s).drop p) = b := ⟨_, rfl⟩
  have HC2 : Hid (∀ W, Calls Tryd.prog 22 #[.string (s.extract p s.size), .string ⟨#[60, 33, 45, 45]⟩] W fun e w' => e = .returned (.bool bc) ∧ w' = W) := fun W => by
    have h := HC.out W
    rw [show (s.extract p s.size).data.toList = (tl s).drop p from Mk.tl_from s p, show (⟨#[60, 33, 45, 45]⟩ : ByteArray).data.toList = Mk.comm from rfl, Mk.has_eq, hbc] at h
    exact h
  have HN2 : Hid (∀ W, Calls Tryd.prog 22 #[.string (s.extract p s.size), .string ⟨#[60, 63]⟩] W fun e w' => e = .returned (.bool bn) ∧ w' = W) := fun W => by
    have h := HN.out W
    rw [show (s.extract p s.size).data.toList = (tl s).drop p from Mk.tl_from s p, show (⟨#[60, 63]⟩ : ByteArray).data.toList = Mk.note from rfl, Mk.has_eq, hbn] at h
    exact h
  clear HC HN
  obtain ⟨R, hR⟩ : ∃ R, Mk.pieceEnd ((tl s).drop p) = R := ⟨_, rfl⟩
  rw [hR]
  have hlc : ∀ t : Mk.Txt, t.isPrefixOf ((tl s).drop p) = true → p + t.length ≤ s.size := fun t h => by
    have := (List.isPrefixOf_iff_prefix.1 h).length_le
    rw [List.length_drop, tl_length] at this
    omega
  cases bc with
  | true =>
    have h4 : p + 4 ≤ s.size := hlc _ hbc
    have HB := Lib.hid (behind_any s ⟨#[45, 45, 62]⟩ (p + 4) h4 hs (show 3 ≤ 100 by omega) w hw)
    have hr : Mk.placeI (p + 4 + 3) (Mk.idxOf ((tl s).drop (p + 4)) Mk.commEnd) = Mk.placeI p R := by
      rw [← hR]
      unfold Mk.pieceEnd
      rw [if_pos hbc, List.drop_drop]
      cases Mk.idxOf ((tl s).drop (p + 4)) Mk.commEnd with
      | none => rfl
      | some n => show ((p + 4 + 3 + n : Nat) : Int) = ((p + (4 + n + 3) : Nat) : Int); omega
    have HB2 : Hid (Calls Tryd.prog 58 #[.string s, .int .i64 ((p : Int) + 4), .string ⟨#[45, 45, 62]⟩] w fun e w' => e = .returned (.int .i64 (Mk.placeI p R)) ∧ w' = w) := by rw [← hr]; exact HB.out
    clear HB hr hlc hR hbc hbn
    go_enter Tryd.func39, Tryd.ntmps39
    go_wp2_with (refine (HC2.out _).mono ?_; rintro e w' ⟨rfl, rfl⟩)
    go_wp2_with (refine HB2.out.mono ?_; rintro e w' ⟨rfl, rfl⟩)
    go_ret
    exact ⟨rfl, rfl⟩
  | false =>
    cases bn with
    | true =>
      have h4 : p + 2 ≤ s.size := hlc _ hbn
      have HB := Lib.hid (behind_any s ⟨#[63, 62]⟩ (p + 2) h4 hs (show 2 ≤ 100 by omega) w hw)
      have hr : Mk.placeI (p + 2 + 2) (Mk.idxOf ((tl s).drop (p + 2)) Mk.noteEnd) = Mk.placeI p R := by
        rw [← hR]
        unfold Mk.pieceEnd
        rw [if_neg (by rw [hbc]; decide), if_pos hbn, List.drop_drop]
        cases Mk.idxOf ((tl s).drop (p + 2)) Mk.noteEnd with
        | none => rfl
        | some n => show ((p + 2 + 2 + n : Nat) : Int) = ((p + (2 + n + 2) : Nat) : Int); omega
      have HB2 : Hid (Calls Tryd.prog 58 #[.string s, .int .i64 ((p : Int) + 2), .string ⟨#[63, 62]⟩] w fun e w' => e = .returned (.int .i64 (Mk.placeI p R)) ∧ w' = w) := by rw [← hr]; exact HB.out
      clear HB hr hlc hR hbc hbn
      go_enter Tryd.func39, Tryd.ntmps39
      go_wp2_with (refine (HC2.out _).mono ?_; rintro e w' ⟨rfl, rfl⟩)
      go_wp2_with (refine (HN2.out _).mono ?_; rintro e w' ⟨rfl, rfl⟩)
      go_wp2_with (refine HB2.out.mono ?_; rintro e w' ⟨rfl, rfl⟩)
      go_ret
      exact ⟨rfl, rfl⟩
    | false =>
      have HR : Hid (Mk.scanQ none 1 ((tl s).drop (p + 1)) = R) := by
        show _ = _
        rw [← hR]
        unfold Mk.pieceEnd
        rw [if_neg (by rw [hbc]; decide), if_neg (by rw [hbn]; decide), List.drop_drop]
      clear hlc hR hbc hbn
      go_enter Tryd.func39, Tryd.ntmps39
      go_wp2_with (refine (HC2.out _).mono ?_; rintro e w' ⟨rfl, rfl⟩)
      go_wp2_with (refine (HN2.out _).mono ?_; rintro e w' ⟨rfl, rfl⟩)
      go_loopw [5, 6] (fun a i wr => ∃ (q : Option UInt8) (j : Nat), p + 1 + j ≤ s.size ∧ Mk.qOk q ∧ a = .int .u8 ((Mk.qv q).toNat : Int) ∧ i = .int .i64 ((p + 1 + j : Nat) : Int) ∧ Hid (Mk.scanQ q (1 + j) ((tl s).drop (p + 1 + j)) = R) ∧ wr = w') (fun _ i _ => s.size - (intOf i).toNat)
      case atStart => exact ⟨none, 0, by omega, trivial, rfl, by first | rfl | go_num, HR.out, rfl⟩
      case round =>
        obtain ⟨q, j, hj, hq, rfl, rfl, HS, rfl⟩ := hrel
        obtain ⟨k, hk⟩ : ∃ k, p + 1 + j = k := ⟨_, rfl⟩
        rw [hk] at HS hj ⊢
        have HK : Value.int .i64 ((k : Int) + 1) = Value.int .i64 ((p + 1 + (j + 1) : Nat) : Int) := by rw [show p + 1 + (j + 1) = k + 1 by omega]; rfl
        have HG : Hid (∀ q2, Mk.scanQ q2 (1 + j + 1) ((tl s).drop (k + 1)) = R → Mk.scanQ q2 (1 + (j + 1)) ((tl s).drop (p + 1 + (j + 1))) = R) := fun q2 h => by
          rw [show p + 1 + (j + 1) = k + 1 by omega, show 1 + (j + 1) = 1 + j + 1 by omega]
          exact h
        have HKk := Lib.hid HK
        have hkj : k = p + (1 + j) := by omega
        have HKJ := Lib.hid hkj
        have hj2 : k < s.size → p + 1 + (j + 1) ≤ s.size := fun h => by omega
        have HJ := Lib.hid hj2
        have k0 : (0 : Int) ≤ (k : Int) := by omega
        clear HK hkj hj2 hk p0 p1 p2
        by_cases hlt : k < s.size
        · have q2 : (k : Int) < (s.size : Int) := by omega
          obtain ⟨b, hb⟩ : ∃ b, s[k]'hlt = b := ⟨_, rfl⟩
          have HA : Hid ((tl s)[k]? = some b) := by show _ = _; rw [← hb]; exact Mk.at_tl s k hlt
          have hbk := hb
          cases q with
          | some c =>
            rcases hq with rfl | rfl
            · rw [show ((Mk.qv (some 34)).toNat : Int) = 34 from rfl]
              by_cases hc : b = 34
              · have HX : Hid (Mk.scanQ none (1 + (j + 1)) ((tl s).drop (p + 1 + (j + 1))) = R) := HG.out _ (by rw [← HS.out, Mk.scan_in1 HA.out, if_pos hc])
                have e1 : ((b.toNat : Int) == 34) = true := by rw [hc]; rfl
                have f1 : (b.toNat : Int) = 34 := by rw [hc]; rfl
                clear hc
                go_wp2
                go_roundw
                case rel => exact ⟨none, j + 1, HJ.out hlt, trivial, by rfl, HKk.out, HX.out, by first | rfl | trivial⟩
                case measure => simp [intOf]; omega
              · have HX : Hid (Mk.scanQ (some 34) (1 + (j + 1)) ((tl s).drop (p + 1 + (j + 1))) = R) := HG.out _ (by rw [← HS.out, Mk.scan_in1 HA.out, if_neg hc])
                have g1 : b.toNat ≠ 34 := fun e => hc (UInt8.toNat_inj.1 e)
                have e1 : ((b.toNat : Int) == 34) = false := by rw [beq_eq_false_iff_ne]; omega
                have f1 : ¬ (b.toNat : Int) = 34 := by omega
                clear hc g1
                go_wp2
                go_roundw
                case rel => exact ⟨some 34, j + 1, HJ.out hlt, .inl rfl, by rfl, HKk.out, HX.out, by first | rfl | trivial⟩
                case measure => simp [intOf]; omega
            · rw [show ((Mk.qv (some 39)).toNat : Int) = 39 from rfl]
              by_cases hc : b = 39
              · have HX : Hid (Mk.scanQ none (1 + (j + 1)) ((tl s).drop (p + 1 + (j + 1))) = R) := HG.out _ (by rw [← HS.out, Mk.scan_in1 HA.out, if_pos hc])
                have e1 : ((b.toNat : Int) == 39) = true := by rw [hc]; rfl
                have f1 : (b.toNat : Int) = 39 := by rw [hc]; rfl
                clear hc
                go_wp2
                go_roundw
                case rel => exact ⟨none, j + 1, HJ.out hlt, trivial, by rfl, HKk.out, HX.out, by first | rfl | trivial⟩
                case measure => simp [intOf]; omega
              · have HX : Hid (Mk.scanQ (some 39) (1 + (j + 1)) ((tl s).drop (p + 1 + (j + 1))) = R) := HG.out _ (by rw [← HS.out, Mk.scan_in1 HA.out, if_neg hc])
                have g1 : b.toNat ≠ 39 := fun e => hc (UInt8.toNat_inj.1 e)
                have e1 : ((b.toNat : Int) == 39) = false := by rw [beq_eq_false_iff_ne]; omega
                have f1 : ¬ (b.toNat : Int) = 39 := by omega
                clear hc g1
                go_wp2
                go_roundw
                case rel => exact ⟨some 39, j + 1, HJ.out hlt, .inr rfl, by rfl, HKk.out, HX.out, by first | rfl | trivial⟩
                case measure => simp [intOf]; omega
          | none =>
            rw [show ((Mk.qv none).toNat : Int) = 0 from rfl]
            by_cases h0 : b = 34
            · have HX : Hid (Mk.scanQ (some 34) (1 + (j + 1)) ((tl s).drop (p + 1 + (j + 1))) = R) := HG.out _ (by rw [← HS.out, Mk.scan_q HA.out (.inl h0), h0])
              have e0 : ((b.toNat : Int) == 34) = true := by rw [h0]; rfl
              have f0 : (b.toNat : Int) = 34 := by rw [h0]; rfl
              clear h0
              go_wp2
              go_roundw
              case rel => exact ⟨some 34, j + 1, HJ.out hlt, .inl rfl, by first | rfl | (show _ = Value.int .u8 34; rw [f0]) , HKk.out, HX.out, by first | rfl | trivial⟩
              case measure => simp [intOf]; omega
            have g0 : b.toNat ≠ 34 := fun e => h0 (UInt8.toNat_inj.1 e)
            have e0 : ((b.toNat : Int) == 34) = false := by rw [beq_eq_false_iff_ne]; omega
            have f0 : ¬ (b.toNat : Int) = 34 := by omega
            by_cases h1 : b = 39
            · have HX : Hid (Mk.scanQ (some 39) (1 + (j + 1)) ((tl s).drop (p + 1 + (j + 1))) = R) := HG.out _ (by rw [← HS.out, Mk.scan_q HA.out (.inr h1), h1])
              have e1 : ((b.toNat : Int) == 39) = true := by rw [h1]; rfl
              have f1 : (b.toNat : Int) = 39 := by rw [h1]; rfl
              clear h0 h1
              go_wp2
              go_roundw
              case rel => exact ⟨some 39, j + 1, HJ.out hlt, .inr rfl, by first | rfl | (show _ = Value.int .u8 39; rw [f1]) , HKk.out, HX.out, by first | rfl | trivial⟩
              case measure => simp [intOf]; omega
            have g1 : b.toNat ≠ 39 := fun e => h1 (UInt8.toNat_inj.1 e)
            have e1 : ((b.toNat : Int) == 39) = false := by rw [beq_eq_false_iff_ne]; omega
            have f1 : ¬ (b.toNat : Int) = 39 := by omega
            by_cases h2 : b = 62
            · have HX : Hid (R = some (1 + j + 1)) := by show _ = _; rw [← HS.out, Mk.scan_out HA.out h2]
              have e2 : ((b.toNat : Int) == 62) = true := by rw [h2]; rfl
              have f2 : (b.toNat : Int) = 62 := by rw [h2]; rfl
              clear h0 h1 h2 g0 g1
              go_wp2
              go_ret
              exact ⟨by rw [HX.out]; show _ = Ending.returned (.int .i64 ((p + (1 + j + 1) : Nat) : Int)); rw [show p + (1 + j + 1) = k + 1 by have := HKJ.out; omega]; rfl, rfl⟩
            have g2 : b.toNat ≠ 62 := fun e => h2 (UInt8.toNat_inj.1 e)
            have e2 : ((b.toNat : Int) == 62) = false := by rw [beq_eq_false_iff_ne]; omega
            have f2 : ¬ (b.toNat : Int) = 62 := by omega
            have HX : Hid (Mk.scanQ none (1 + (j + 1)) ((tl s).drop (p + 1 + (j + 1))) = R) := HG.out _ (by rw [← HS.out, Mk.scan_on HA.out h0 h1 h2])
            clear h0 h1 h2 g0 g1 g2
            go_wp2
            go_roundw
            case rel => exact ⟨none, j + 1, HJ.out hlt, trivial, by rfl, HKk.out, HX.out, by first | rfl | trivial⟩
            case measure => simp [intOf]; omega
        · have q2 : ¬ (k : Int) < (s.size : Int) := by omega
          have HX : Hid (R = none) := by show _ = _; rw [← HS.out]; exact Mk.scan_end (by rw [HL.out]; omega)
          go_wp2
          go_ret
          exact ⟨by rw [HX.out]; rfl, rfl⟩
end Go.Proofs.YtjbgmbhifnihaaaDoor
