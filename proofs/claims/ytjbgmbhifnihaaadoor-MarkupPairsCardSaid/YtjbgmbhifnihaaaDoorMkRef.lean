/- markup: characters by their numbers, and references. -/
import Derived.Test.YtjbgmbhifnihaaaDoorMkNum
namespace Go.Proofs.YtjbgmbhifnihaaaDoor
open Go.RowKit

namespace Mk
theorem chr_none {l : Txt} (h : chrNum l = none) : chr l = (4, []) := by unfold chr; rw [h]
theorem chr_low {l : Txt} {n : Nat} (h : chrNum l = some n) (h2 : n < 32) (h3 : white (UInt8.ofNat n) = false) : chr l = (1, []) := by
  unfold chr
  rw [h]
  exact if_pos ⟨h2, h3⟩
theorem chr_yes {l : Txt} {n : Nat} (h : chrNum l = some n) (h2 : ¬ (n < 32 ∧ white (UInt8.ofNat n) = false)) (h3 : encodes n = true) : chr l = (0, tl (Utf8.encode (n : Int))) := by
  unfold chr
  rw [h]
  simp only
  rw [if_neg h2, if_pos h3]
theorem chr_no {l : Txt} {n : Nat} (h : chrNum l = some n) (h2 : ¬ (n < 32 ∧ white (UInt8.ofNat n) = false)) (h3 : encodes n = false) : chr l = (1, []) := by
  unfold chr
  rw [h]
  simp only
  rw [if_neg h2, if_neg (by rw [h3]; decide)]
theorem pre_yes {l : Txt} {c : UInt8} (h : Lib.hasPrefix l [c] = true) : ∃ r, l = c :: r := by
  unfold Lib.hasPrefix at h
  cases l with
  | nil => simp at h
  | cons b r =>
    simp at h
    exact ⟨r, by rw [h]⟩
theorem pre_no {l : Txt} {c : UInt8} (h : Lib.hasPrefix l [c] = false) : ∀ r, l ≠ c :: r := by
  intro r e
  rw [e] at h
  unfold Lib.hasPrefix at h
  simp at h
theorem chrNum_x {r : Txt} : chrNum (120 :: r) = num 16 6 r := rfl
theorem chrNum_no {l : Txt} (h : ∀ r, l ≠ 120 :: r) : chrNum l = num 10 7 l := by
  unfold chrNum
  split
  · rename_i r; exact absurd rfl (h r)
  · rfl
theorem chrNum_lt {l : Txt} {n : Nat} (h : chrNum l = some n) : n < 268435456 := by
  unfold chrNum at h
  split at h
  · exact num_le (by decide) (by decide) h
  · exact num_le (by decide) (by decide) h
theorem tl_one {s : ByteArray} {c : UInt8} {r : Txt} (h : tl s = c :: r) : 0 < s.size ∧ tl (s.extract 1 s.size) = r := by
  have := tl_length s
  rw [h, List.length_cons] at this
  exact ⟨by omega, by rw [tl_from, h]; rfl⟩
end Mk
set_option maxHeartbeats 1000000 in
set_option maxRecDepth 100000 in
theorem character_any (s : ByteArray) (hs : s.size ≤ maxLen) (w : World) :
    Calls Tryd.prog 37 #[.string s] w fun e w' => e = .returned (.tuple #[.string (Mk.bts (Mk.chr (tl s)).2), .int .i64 ((Mk.chr (tl s)).1 : Int)]) ∧ w = w' := by
  have H10 := Lib.hid (fun W => number10 s 7 (by decide) hs W)
  have HP := Lib.hid (fun W => Tryd.strings_HasPrefix s ⟨#[120]⟩ W)
  have H16 := Lib.hid (fun W => number16 (s.extract 1 s.size) 6 (by decide) (by simp only [ByteArray.size_extract]; omega) W)
  obtain ⟨A, hA⟩ : ∃ A, Mk.optI (Mk.num 10 7 (tl s)) = A := ⟨_, rfl⟩
  obtain ⟨V, hV⟩ : ∃ V, Mk.chrNum (tl s) = V := ⟨_, rfl⟩
  obtain ⟨pb, hpb⟩ : ∃ b, Lib.hasPrefix s.data.toList [120] = b := ⟨_, rfl⟩
  have HP1 : Hid (∀ W, Calls Tryd.prog 22 #[.string s, .string ⟨#[120]⟩] W fun e w' => e = .returned (.bool pb) ∧ w' = W) := fun W => by
    have h := HP.out W
    rw [show (⟨#[120]⟩ : ByteArray).data.toList = [120] from rfl, hpb] at h
    exact h
  clear HP
  obtain ⟨R, hR⟩ : ∃ R, Mk.chr (tl s) = R := ⟨_, rfl⟩
  have HV := Lib.hid hV
  have HR := Lib.hid hR
  rw [hR]
  rw [hA] at H10
  have hVlt : ∀ n, V = some n → n < 268435456 := fun n e => Mk.chrNum_lt (hV.trans e)
  cases pb with
  | true =>
    obtain ⟨r, hr0⟩ := Mk.pre_yes (l := tl s) hpb
    obtain ⟨h1, h2⟩ := Mk.tl_one hr0
    have h1i : (1 : Int) ≤ (s.size : Int) := by omega
    have h0i : (0 : Int) ≤ 1 := by omega
    have hVx : Mk.optI (Mk.num 16 6 (tl (s.extract 1 s.size))) = Mk.optI V := by rw [h2, ← hV, hr0, Mk.chrNum_x]
    rw [hVx] at H16
    clear hVx h2 hr0 hpb hA hV hR h1
    cases V with
    | none =>
      have HNb : Hid (∀ W, Calls Tryd.prog 55 #[.string (s.extract 1 s.size), .int .i64 16, .int .i64 6] W fun e w' => e = .returned (.int .i64 (-1)) ∧ W = w') := fun W => H16.out W
      have hr : R = (4, []) := by rw [← HR.out]; exact Mk.chr_none HV.out
      subst hr
      clear HV HR
      go_enter Tryd.func37, Tryd.ntmps37
      go_wp2_with (refine (H10.out _).mono ?_; rintro e w' ⟨rfl, rfl⟩)
      go_wp2_with (refine (HP1.out _).mono ?_; rintro e w' ⟨rfl, rfl⟩)
      go_wp2_with (refine (HNb.out _).mono ?_; rintro e w' ⟨rfl, rfl⟩)
      go_wp2
      go_ret2
      exact ⟨rfl, rfl⟩
    | some n =>
      have HNb : Hid (∀ W, Calls Tryd.prog 55 #[.string (s.extract 1 s.size), .int .i64 16, .int .i64 6] W fun e w' => e = .returned (.int .i64 (n : Int)) ∧ W = w') := fun W => H16.out W
      have hn := hVlt n rfl
      have n0 : ¬ (n : Int) < 0 := by omega
      have hwu : n < 32 → IntKind.u8.wrap (n : Int) = n := fun _ => by rw [IntKind.wrap_u8]; omega
      have HE := Lib.hid (fun W => encode_any n (by omega) W)
      by_cases hl : n < 32
      · have n1 : (n : Int) < 32 := by omega
        have hwu2 := hwu hl
        obtain ⟨v, hv⟩ : ∃ v, Mk.white (UInt8.ofNat n) = v := ⟨_, rfl⟩
        have HW : Hid (∀ W, Calls Tryd.prog 32 #[.int .u8 (n : Int)] W fun e w' => e = .returned (.bool v) ∧ W = w') := fun W => by
          have h := isWhite_any (UInt8.ofNat n) W
          rw [hv, show ((UInt8.ofNat n).toNat : Int) = n by rw [UInt8.toNat_ofNat']; omega] at h
          exact h
        cases v with
        | false =>
          have hr : R = (1, []) := by rw [← HR.out]; exact Mk.chr_low HV.out hl hv
          subst hr
          clear HV HR HE hv hwu hl hn hVlt
          go_enter Tryd.func37, Tryd.ntmps37
          go_wp2_with (refine (H10.out _).mono ?_; rintro e w' ⟨rfl, rfl⟩)
          go_wp2_with (refine (HP1.out _).mono ?_; rintro e w' ⟨rfl, rfl⟩)
          go_wp2_with (refine (HNb.out _).mono ?_; rintro e w' ⟨rfl, rfl⟩)
          go_wp2_with (refine (HW.out _).mono ?_; rintro e w' ⟨rfl, rfl⟩)
          go_wp2
          go_ret2
          exact ⟨rfl, rfl⟩
        | true =>
          obtain ⟨X, hX⟩ : ∃ X, Utf8.encode (n : Int) = X := ⟨_, rfl⟩
          rw [hX] at HE
          cases he : Mk.encodes n with
          | true =>
            have hr : R = (0, tl X) := by rw [← HR.out, ← hX]; exact Mk.chr_yes HV.out (fun q => by rw [hv] at q; exact absurd q.2 (by decide)) he
            have HE2 : Hid (∀ W, Calls Tryd.prog 56 #[.int .i64 (n : Int)] W fun e w' => e = .returned (.tuple #[.string X, .int .i64 0]) ∧ W = w') := fun W => by have h := HE.out W; rw [he] at h; exact h
            subst hr
            clear HV HR HE hX he hv hwu hl hn hVlt
            go_enter Tryd.func37, Tryd.ntmps37
            go_wp2_with (refine (H10.out _).mono ?_; rintro e w' ⟨rfl, rfl⟩)
            go_wp2_with (refine (HP1.out _).mono ?_; rintro e w' ⟨rfl, rfl⟩)
            go_wp2_with (refine (HNb.out _).mono ?_; rintro e w' ⟨rfl, rfl⟩)
            go_wp2_with (refine (HW.out _).mono ?_; rintro e w' ⟨rfl, rfl⟩)
            go_wp2_with (refine (HE2.out _).mono ?_; rintro e w' ⟨rfl, rfl⟩)
            go_ret2
            exact ⟨rfl, rfl⟩
          | false =>
            have hr : R = (1, []) := by rw [← HR.out]; exact Mk.chr_no HV.out (fun q => by rw [hv] at q; exact absurd q.2 (by decide)) he
            have HE2 : Hid (∀ W, Calls Tryd.prog 56 #[.int .i64 (n : Int)] W fun e w' => e = .returned (.tuple #[.string ByteArray.empty, .int .i64 1]) ∧ W = w') := fun W => by have h := HE.out W; rw [he] at h; exact h
            subst hr
            clear HV HR HE hX he hv hwu hl hn hVlt
            go_enter Tryd.func37, Tryd.ntmps37
            go_wp2_with (refine (H10.out _).mono ?_; rintro e w' ⟨rfl, rfl⟩)
            go_wp2_with (refine (HP1.out _).mono ?_; rintro e w' ⟨rfl, rfl⟩)
            go_wp2_with (refine (HNb.out _).mono ?_; rintro e w' ⟨rfl, rfl⟩)
            go_wp2_with (refine (HW.out _).mono ?_; rintro e w' ⟨rfl, rfl⟩)
            go_wp2_with (refine (HE2.out _).mono ?_; rintro e w' ⟨rfl, rfl⟩)
            go_ret2
            exact ⟨rfl, rfl⟩
      · have n1 : ¬ (n : Int) < 32 := by omega
        obtain ⟨X, hX⟩ : ∃ X, Utf8.encode (n : Int) = X := ⟨_, rfl⟩
        rw [hX] at HE
        cases he : Mk.encodes n with
        | true =>
          have hr : R = (0, tl X) := by rw [← HR.out, ← hX]; exact Mk.chr_yes HV.out (fun q => hl q.1) he
          have HE2 : Hid (∀ W, Calls Tryd.prog 56 #[.int .i64 (n : Int)] W fun e w' => e = .returned (.tuple #[.string X, .int .i64 0]) ∧ W = w') := fun W => by have h := HE.out W; rw [he] at h; exact h
          subst hr
          clear HV HR HE hX he hwu hl hn hVlt
          go_enter Tryd.func37, Tryd.ntmps37
          go_wp2_with (refine (H10.out _).mono ?_; rintro e w' ⟨rfl, rfl⟩)
          go_wp2_with (refine (HP1.out _).mono ?_; rintro e w' ⟨rfl, rfl⟩)
          go_wp2_with (refine (HNb.out _).mono ?_; rintro e w' ⟨rfl, rfl⟩)
          go_wp2_with (refine (HE2.out _).mono ?_; rintro e w' ⟨rfl, rfl⟩)
          go_ret2
          exact ⟨rfl, rfl⟩
        | false =>
          have hr : R = (1, []) := by rw [← HR.out]; exact Mk.chr_no HV.out (fun q => hl q.1) he
          have HE2 : Hid (∀ W, Calls Tryd.prog 56 #[.int .i64 (n : Int)] W fun e w' => e = .returned (.tuple #[.string ByteArray.empty, .int .i64 1]) ∧ W = w') := fun W => by have h := HE.out W; rw [he] at h; exact h
          subst hr
          clear HV HR HE hX he hwu hl hn hVlt
          go_enter Tryd.func37, Tryd.ntmps37
          go_wp2_with (refine (H10.out _).mono ?_; rintro e w' ⟨rfl, rfl⟩)
          go_wp2_with (refine (HP1.out _).mono ?_; rintro e w' ⟨rfl, rfl⟩)
          go_wp2_with (refine (HNb.out _).mono ?_; rintro e w' ⟨rfl, rfl⟩)
          go_wp2_with (refine (HE2.out _).mono ?_; rintro e w' ⟨rfl, rfl⟩)
          go_ret2
          exact ⟨rfl, rfl⟩
  | false =>
    have hVx : A = Mk.optI V := by rw [← hA, ← hV, Mk.chrNum_no (Mk.pre_no (l := tl s) hpb)]
    rw [hVx] at H10
    clear hVx hpb hA hV hR H16
    cases V with
    | none =>
      have HNb : Hid (∀ W, Calls Tryd.prog 55 #[.string s, .int .i64 10, .int .i64 7] W fun e w' => e = .returned (.int .i64 (-1)) ∧ W = w') := fun W => H10.out W
      have hr : R = (4, []) := by rw [← HR.out]; exact Mk.chr_none HV.out
      subst hr
      clear HV HR
      go_enter Tryd.func37, Tryd.ntmps37
      go_wp2_with (refine (HNb.out _).mono ?_; rintro e w' ⟨rfl, rfl⟩)
      go_wp2_with (refine (HP1.out _).mono ?_; rintro e w' ⟨rfl, rfl⟩)
      go_wp2
      go_ret2
      exact ⟨rfl, rfl⟩
    | some n =>
      have HNb : Hid (∀ W, Calls Tryd.prog 55 #[.string s, .int .i64 10, .int .i64 7] W fun e w' => e = .returned (.int .i64 (n : Int)) ∧ W = w') := fun W => H10.out W
      have hn := hVlt n rfl
      have n0 : ¬ (n : Int) < 0 := by omega
      have hwu : n < 32 → IntKind.u8.wrap (n : Int) = n := fun _ => by rw [IntKind.wrap_u8]; omega
      have HE := Lib.hid (fun W => encode_any n (by omega) W)
      by_cases hl : n < 32
      · have n1 : (n : Int) < 32 := by omega
        have hwu2 := hwu hl
        obtain ⟨v, hv⟩ : ∃ v, Mk.white (UInt8.ofNat n) = v := ⟨_, rfl⟩
        have HW : Hid (∀ W, Calls Tryd.prog 32 #[.int .u8 (n : Int)] W fun e w' => e = .returned (.bool v) ∧ W = w') := fun W => by
          have h := isWhite_any (UInt8.ofNat n) W
          rw [hv, show ((UInt8.ofNat n).toNat : Int) = n by rw [UInt8.toNat_ofNat']; omega] at h
          exact h
        cases v with
        | false =>
          have hr : R = (1, []) := by rw [← HR.out]; exact Mk.chr_low HV.out hl hv
          subst hr
          clear HV HR HE hv hwu hl hn hVlt
          go_enter Tryd.func37, Tryd.ntmps37
          go_wp2_with (refine (HNb.out _).mono ?_; rintro e w' ⟨rfl, rfl⟩)
          go_wp2_with (refine (HP1.out _).mono ?_; rintro e w' ⟨rfl, rfl⟩)
          go_wp2_with (refine (HW.out _).mono ?_; rintro e w' ⟨rfl, rfl⟩)
          go_wp2
          go_ret2
          exact ⟨rfl, rfl⟩
        | true =>
          obtain ⟨X, hX⟩ : ∃ X, Utf8.encode (n : Int) = X := ⟨_, rfl⟩
          rw [hX] at HE
          cases he : Mk.encodes n with
          | true =>
            have hr : R = (0, tl X) := by rw [← HR.out, ← hX]; exact Mk.chr_yes HV.out (fun q => by rw [hv] at q; exact absurd q.2 (by decide)) he
            have HE2 : Hid (∀ W, Calls Tryd.prog 56 #[.int .i64 (n : Int)] W fun e w' => e = .returned (.tuple #[.string X, .int .i64 0]) ∧ W = w') := fun W => by have h := HE.out W; rw [he] at h; exact h
            subst hr
            clear HV HR HE hX he hv hwu hl hn hVlt
            go_enter Tryd.func37, Tryd.ntmps37
            go_wp2_with (refine (HNb.out _).mono ?_; rintro e w' ⟨rfl, rfl⟩)
            go_wp2_with (refine (HP1.out _).mono ?_; rintro e w' ⟨rfl, rfl⟩)
            go_wp2_with (refine (HW.out _).mono ?_; rintro e w' ⟨rfl, rfl⟩)
            go_wp2_with (refine (HE2.out _).mono ?_; rintro e w' ⟨rfl, rfl⟩)
            go_ret2
            exact ⟨rfl, rfl⟩
          | false =>
            have hr : R = (1, []) := by rw [← HR.out]; exact Mk.chr_no HV.out (fun q => by rw [hv] at q; exact absurd q.2 (by decide)) he
            have HE2 : Hid (∀ W, Calls Tryd.prog 56 #[.int .i64 (n : Int)] W fun e w' => e = .returned (.tuple #[.string ByteArray.empty, .int .i64 1]) ∧ W = w') := fun W => by have h := HE.out W; rw [he] at h; exact h
            subst hr
            clear HV HR HE hX he hv hwu hl hn hVlt
            go_enter Tryd.func37, Tryd.ntmps37
            go_wp2_with (refine (HNb.out _).mono ?_; rintro e w' ⟨rfl, rfl⟩)
            go_wp2_with (refine (HP1.out _).mono ?_; rintro e w' ⟨rfl, rfl⟩)
            go_wp2_with (refine (HW.out _).mono ?_; rintro e w' ⟨rfl, rfl⟩)
            go_wp2_with (refine (HE2.out _).mono ?_; rintro e w' ⟨rfl, rfl⟩)
            go_ret2
            exact ⟨rfl, rfl⟩
      · have n1 : ¬ (n : Int) < 32 := by omega
        obtain ⟨X, hX⟩ : ∃ X, Utf8.encode (n : Int) = X := ⟨_, rfl⟩
        rw [hX] at HE
        cases he : Mk.encodes n with
        | true =>
          have hr : R = (0, tl X) := by rw [← HR.out, ← hX]; exact Mk.chr_yes HV.out (fun q => hl q.1) he
          have HE2 : Hid (∀ W, Calls Tryd.prog 56 #[.int .i64 (n : Int)] W fun e w' => e = .returned (.tuple #[.string X, .int .i64 0]) ∧ W = w') := fun W => by have h := HE.out W; rw [he] at h; exact h
          subst hr
          clear HV HR HE hX he hwu hl hn hVlt
          go_enter Tryd.func37, Tryd.ntmps37
          go_wp2_with (refine (HNb.out _).mono ?_; rintro e w' ⟨rfl, rfl⟩)
          go_wp2_with (refine (HP1.out _).mono ?_; rintro e w' ⟨rfl, rfl⟩)
          go_wp2_with (refine (HE2.out _).mono ?_; rintro e w' ⟨rfl, rfl⟩)
          go_ret2
          exact ⟨rfl, rfl⟩
        | false =>
          have hr : R = (1, []) := by rw [← HR.out]; exact Mk.chr_no HV.out (fun q => hl q.1) he
          have HE2 : Hid (∀ W, Calls Tryd.prog 56 #[.int .i64 (n : Int)] W fun e w' => e = .returned (.tuple #[.string ByteArray.empty, .int .i64 1]) ∧ W = w') := fun W => by have h := HE.out W; rw [he] at h; exact h
          subst hr
          clear HV HR HE hX he hwu hl hn hVlt
          go_enter Tryd.func37, Tryd.ntmps37
          go_wp2_with (refine (HNb.out _).mono ?_; rintro e w' ⟨rfl, rfl⟩)
          go_wp2_with (refine (HP1.out _).mono ?_; rintro e w' ⟨rfl, rfl⟩)
          go_wp2_with (refine (HE2.out _).mono ?_; rintro e w' ⟨rfl, rfl⟩)
          go_ret2
          exact ⟨rfl, rfl⟩
namespace Mk
theorem ref0 {l : Txt}  (h0 : l = [97, 109, 112]) : ref l = (0, [38]) := by unfold ref; rw [if_pos h0]
theorem ref1 {l : Txt} (h0 : l ≠ [97, 109, 112]) (h1 : l = [108, 116]) : ref l = (0, [60]) := by unfold ref; rw [if_neg h0, if_pos h1]
theorem ref2 {l : Txt} (h0 : l ≠ [97, 109, 112]) (h1 : l ≠ [108, 116]) (h2 : l = [103, 116]) : ref l = (0, [62]) := by unfold ref; rw [if_neg h0, if_neg h1, if_pos h2]
theorem ref3 {l : Txt} (h0 : l ≠ [97, 109, 112]) (h1 : l ≠ [108, 116]) (h2 : l ≠ [103, 116]) (h3 : l = [113, 117, 111, 116]) : ref l = (0, [34]) := by unfold ref; rw [if_neg h0, if_neg h1, if_neg h2, if_pos h3]
theorem ref4 {l : Txt} (h0 : l ≠ [97, 109, 112]) (h1 : l ≠ [108, 116]) (h2 : l ≠ [103, 116]) (h3 : l ≠ [113, 117, 111, 116]) (h4 : l = [97, 112, 111, 115]) : ref l = (0, [39]) := by unfold ref; rw [if_neg h0, if_neg h1, if_neg h2, if_neg h3, if_pos h4]
theorem ref5 {l : Txt} (h0 : l ≠ [97, 109, 112]) (h1 : l ≠ [108, 116]) (h2 : l ≠ [103, 116]) (h3 : l ≠ [113, 117, 111, 116]) (h4 : l ≠ [97, 112, 111, 115]) (h5 : (cutN l).1 ≠ []) (h6 : (cutN l).2 = []) : ref l = (3, []) := by unfold ref; rw [if_neg h0, if_neg h1, if_neg h2, if_neg h3, if_neg h4, if_pos ⟨h5, h6⟩]
theorem ref6 {l : Txt} (h0 : l ≠ [97, 109, 112]) (h1 : l ≠ [108, 116]) (h2 : l ≠ [103, 116]) (h3 : l ≠ [113, 117, 111, 116]) (h4 : l ≠ [97, 112, 111, 115]) (h5 : ¬ ((cutN l).1 ≠ [] ∧ (cutN l).2 = [])) {r : Txt} (h6 : l = 35 :: r) : ref l = chr r := by unfold ref; rw [if_neg h0, if_neg h1, if_neg h2, if_neg h3, if_neg h4, if_neg h5, h6]; rfl
theorem ref7 {l : Txt} (h0 : l ≠ [97, 109, 112]) (h1 : l ≠ [108, 116]) (h2 : l ≠ [103, 116]) (h3 : l ≠ [113, 117, 111, 116]) (h4 : l ≠ [97, 112, 111, 115]) (h5 : ¬ ((cutN l).1 ≠ [] ∧ (cutN l).2 = [])) (h6 : ∀ r, l ≠ 35 :: r) : ref l = (4, []) := by
  unfold ref
  rw [if_neg h0, if_neg h1, if_neg h2, if_neg h3, if_neg h4, if_neg h5]
  split
  · rename_i r; exact absurd rfl (h6 r)
  · rfl
end Mk
set_option maxHeartbeats 1000000 in
set_option maxRecDepth 100000 in
theorem reference_any (s : ByteArray) (hs : s.size ≤ maxLen) (w : World) :
    Calls Tryd.prog 24 #[.string s] w fun e w' => e = .returned (.tuple #[.string (Mk.bts (Mk.ref (tl s)).2), .int .i64 ((Mk.ref (tl s)).1 : Int)]) ∧ Below w.heap.size w w' := by
  have HCN := Lib.hid (fun W => cutName_any s hs W)
  have HP := Lib.hid (fun W => Tryd.strings_HasPrefix s ⟨#[35]⟩ W)
  have HCh := Lib.hid (fun W => character_any (s.extract 1 s.size) (by simp only [ByteArray.size_extract]; omega) W)
  obtain ⟨R, hR⟩ : ∃ R, Mk.ref (tl s) = R := ⟨_, rfl⟩
  have HR := Lib.hid hR
  rw [hR]
  clear hR
  by_cases h0 : tl s = [97, 109, 112]
  · have hr : R = (0, [38]) := by rw [← HR.out]; exact Mk.ref0 h0
    subst hr
    have q0 := Mk.is_list h0
    clear HR HCN HP HCh h0
    go_enter Tryd.func24, Tryd.ntmps24
    go_wp2
    go_ret2
    exact ⟨rfl, Below.refl _ _⟩
  by_cases h1 : tl s = [108, 116]
  · have hr : R = (0, [60]) := by rw [← HR.out]; exact Mk.ref1 h0 h1
    subst hr
    have q0 := Mk.not_list h0
    have q1 := Mk.is_list h1
    clear HR HCN HP HCh h0 h1
    go_enter Tryd.func24, Tryd.ntmps24
    go_wp2
    go_ret2
    exact ⟨rfl, Below.refl _ _⟩
  by_cases h2 : tl s = [103, 116]
  · have hr : R = (0, [62]) := by rw [← HR.out]; exact Mk.ref2 h0 h1 h2
    subst hr
    have q0 := Mk.not_list h0
    have q1 := Mk.not_list h1
    have q2 := Mk.is_list h2
    clear HR HCN HP HCh h0 h1 h2
    go_enter Tryd.func24, Tryd.ntmps24
    go_wp2
    go_ret2
    exact ⟨rfl, Below.refl _ _⟩
  by_cases h3 : tl s = [113, 117, 111, 116]
  · have hr : R = (0, [34]) := by rw [← HR.out]; exact Mk.ref3 h0 h1 h2 h3
    subst hr
    have q0 := Mk.not_list h0
    have q1 := Mk.not_list h1
    have q2 := Mk.not_list h2
    have q3 := Mk.is_list h3
    clear HR HCN HP HCh h0 h1 h2 h3
    go_enter Tryd.func24, Tryd.ntmps24
    go_wp2
    go_ret2
    exact ⟨rfl, Below.refl _ _⟩
  by_cases h4 : tl s = [97, 112, 111, 115]
  · have hr : R = (0, [39]) := by rw [← HR.out]; exact Mk.ref4 h0 h1 h2 h3 h4
    subst hr
    have q0 := Mk.not_list h0
    have q1 := Mk.not_list h1
    have q2 := Mk.not_list h2
    have q3 := Mk.not_list h3
    have q4 := Mk.is_list h4
    clear HR HCN HP HCh h0 h1 h2 h3 h4
    go_enter Tryd.func24, Tryd.ntmps24
    go_wp2
    go_ret2
    exact ⟨rfl, Below.refl _ _⟩
  have HNo : Hid (tl s ≠ [97, 109, 112] ∧ tl s ≠ [108, 116] ∧ tl s ≠ [103, 116] ∧ tl s ≠ [113, 117, 111, 116] ∧ tl s ≠ [97, 112, 111, 115]) := ⟨h0, h1, h2, h3, h4⟩
  have q0 := Mk.not_list h0
  have q1 := Mk.not_list h1
  have q2 := Mk.not_list h2
  have q3 := Mk.not_list h3
  have q4 := Mk.not_list h4
  clear h0 h1 h2 h3 h4
  obtain ⟨N1, hN1⟩ : ∃ x, (Mk.cutN (tl s)).1 = x := ⟨_, rfl⟩
  obtain ⟨N2, hN2⟩ : ∃ x, (Mk.cutN (tl s)).2 = x := ⟨_, rfl⟩
  rw [hN1, hN2] at HCN
  have HN1 := Lib.hid hN1
  have HN2 := Lib.hid hN2
  clear hN1 hN2
  have HCN2 : Hid (∀ W, Calls Tryd.prog 36 #[.string s] W fun e w' => e = .returned (.tuple #[.string (Mk.bts N1), .string (Mk.bts N2)]) ∧ Drew W w') := fun W => HCN.out W
  clear HCN
  obtain ⟨B1, hB1⟩ : ∃ x, Mk.bts N1 = x := ⟨_, rfl⟩
  obtain ⟨B2, hB2⟩ : ∃ x, Mk.bts N2 = x := ⟨_, rfl⟩
  rw [hB1, hB2] at HCN2
  have HE : Hid ((N1 ≠ [] ∧ N2 = []) → R = (3, [])) := fun h => by
    obtain ⟨h0, h1, h2, h3, h4⟩ := HNo.out
    rw [← HR.out]; exact Mk.ref5 h0 h1 h2 h3 h4 (by rw [HN1.out]; exact h.1) (by rw [HN2.out]; exact h.2)
  have HX : Hid (¬ (N1 ≠ [] ∧ N2 = []) → ∀ r, tl s = 35 :: r → R = Mk.chr r) := fun h r e => by
    obtain ⟨h0, h1, h2, h3, h4⟩ := HNo.out
    rw [← HR.out]; exact Mk.ref6 h0 h1 h2 h3 h4 (by rw [HN1.out, HN2.out]; exact h) e
  have HY : Hid (¬ (N1 ≠ [] ∧ N2 = []) → (∀ r, tl s ≠ 35 :: r) → R = (4, [])) := fun h e => by
    obtain ⟨h0, h1, h2, h3, h4⟩ := HNo.out
    rw [← HR.out]; exact Mk.ref7 h0 h1 h2 h3 h4 (by rw [HN1.out, HN2.out]; exact h) e
  clear HR HNo HN1 HN2
  have HB1 : Hid ((N1 = [] → B1.toList.isEmpty = true) ∧ (N1 ≠ [] → B1.toList.isEmpty = false)) := by
    rw [← hB1]
    exact ⟨fun e => Mk.emp_yes (by rw [e]; rfl), fun e => Mk.emp_no (List.length_pos_iff.2 e)⟩
  have HB2 : Hid ((N2 = [] → B2.toList.isEmpty = true) ∧ (N2 ≠ [] → B2.toList.isEmpty = false)) := by
    rw [← hB2]
    exact ⟨fun e => Mk.emp_yes (by rw [e]; rfl), fun e => Mk.emp_no (List.length_pos_iff.2 e)⟩
  clear hB1 hB2
  obtain ⟨pb, hpb⟩ : ∃ b, Lib.hasPrefix s.data.toList [35] = b := ⟨_, rfl⟩
  have HP1 : Hid (∀ W, Calls Tryd.prog 22 #[.string s, .string ⟨#[35]⟩] W fun e w' => e = .returned (.bool pb) ∧ w' = W) := fun W => by
    have h := HP.out W
    rw [show (⟨#[35]⟩ : ByteArray).data.toList = [35] from rfl, hpb] at h
    exact h
  clear HP
  have HPB := Lib.hid hpb
  clear hpb
  by_cases hn1 : N1 = []
  · have b1 := HB1.out.1 hn1
    have hno : ¬ (N1 ≠ [] ∧ N2 = []) := fun q => q.1 hn1
    cases pb with
    | true =>
      obtain ⟨r, hr0⟩ := Mk.pre_yes (l := tl s) HPB.out
      obtain ⟨g1, g2⟩ := Mk.tl_one hr0
      have hr : R = Mk.chr r := HX.out hno r hr0
      have HCh2 : Hid (∀ W, Calls Tryd.prog 37 #[.string (s.extract 1 s.size)] W fun e w' => e = .returned (.tuple #[.string (Mk.bts R.2), .int .i64 (R.1 : Int)]) ∧ W = w') := fun W => by have h := HCh.out W; rw [g2, ← hr] at h; exact h
      have g1i : (1 : Int) ≤ (s.size : Int) := by omega
      have g0i : (0 : Int) ≤ 1 := by omega
      clear HE HX HY HB1 HB2 HPB hno hr g1 g2 hr0 HCh
      go_enter Tryd.func24, Tryd.ntmps24
      go_wp2_with (refine (HCN2.out _).mono ?_; rintro e w' ⟨rfl, hd⟩)
      have HDr := Lib.hid hd
      clear hd
      go_wp2_with (refine (HP1.out _).mono ?_; rintro e w' ⟨rfl, rfl⟩)
      go_wp2_with (refine (HCh2.out _).mono ?_; rintro e w' ⟨rfl, rfl⟩)
      go_ret2
      exact ⟨rfl, HDr.out.below _⟩
    | false =>
      have hr : R = (4, []) := HY.out hno (Mk.pre_no (l := tl s) HPB.out)
      subst hr
      clear HE HX HY HB1 HB2 HPB hno HCh
      go_enter Tryd.func24, Tryd.ntmps24
      go_wp2_with (refine (HCN2.out _).mono ?_; rintro e w' ⟨rfl, hd⟩)
      have HDr := Lib.hid hd
      clear hd
      go_wp2_with (refine (HP1.out _).mono ?_; rintro e w' ⟨rfl, rfl⟩)
      go_wp2
      go_ret2
      exact ⟨rfl, HDr.out.below _⟩
  · have b1 := HB1.out.2 hn1
    by_cases hn2 : N2 = []
    · have b2 := HB2.out.1 hn2
      have hr : R = (3, []) := HE.out ⟨hn1, hn2⟩
      subst hr
      clear HE HX HY HB1 HB2 HPB HCh
      go_enter Tryd.func24, Tryd.ntmps24
      go_wp2_with (refine (HCN2.out _).mono ?_; rintro e w' ⟨rfl, hd⟩)
      have HDr := Lib.hid hd
      clear hd
      go_wp2
      go_ret2
      exact ⟨rfl, HDr.out.below _⟩
    · have b2 := HB2.out.2 hn2
      have hno : ¬ (N1 ≠ [] ∧ N2 = []) := fun q => hn2 q.2
      cases pb with
      | true =>
        obtain ⟨r, hr0⟩ := Mk.pre_yes (l := tl s) HPB.out
        obtain ⟨g1, g2⟩ := Mk.tl_one hr0
        have hr : R = Mk.chr r := HX.out hno r hr0
        have HCh2 : Hid (∀ W, Calls Tryd.prog 37 #[.string (s.extract 1 s.size)] W fun e w' => e = .returned (.tuple #[.string (Mk.bts R.2), .int .i64 (R.1 : Int)]) ∧ W = w') := fun W => by have h := HCh.out W; rw [g2, ← hr] at h; exact h
        have g1i : (1 : Int) ≤ (s.size : Int) := by omega
        have g0i : (0 : Int) ≤ 1 := by omega
        clear HE HX HY HB1 HB2 HPB hno hr g1 g2 hr0 HCh
        go_enter Tryd.func24, Tryd.ntmps24
        go_wp2_with (refine (HCN2.out _).mono ?_; rintro e w' ⟨rfl, hd⟩)
        have HDr := Lib.hid hd
        clear hd
        go_wp2_with (refine (HP1.out _).mono ?_; rintro e w' ⟨rfl, rfl⟩)
        go_wp2_with (refine (HCh2.out _).mono ?_; rintro e w' ⟨rfl, rfl⟩)
        go_ret2
        exact ⟨rfl, HDr.out.below _⟩
      | false =>
        have hr : R = (4, []) := HY.out hno (Mk.pre_no (l := tl s) HPB.out)
        subst hr
        clear HE HX HY HB1 HB2 HPB hno HCh
        go_enter Tryd.func24, Tryd.ntmps24
        go_wp2_with (refine (HCN2.out _).mono ?_; rintro e w' ⟨rfl, hd⟩)
        have HDr := Lib.hid hd
        clear hd
        go_wp2_with (refine (HP1.out _).mono ?_; rintro e w' ⟨rfl, rfl⟩)
        go_wp2
        go_ret2
        exact ⟨rfl, HDr.out.below _⟩
end Go.Proofs.YtjbgmbhifnihaaaDoor
