/- markup: characters by their numbers, and references. -/
import Derived.Test.YthmhadgbhakdlaaDoorP04
import Derived.Test.YthmhadgbhakdlaaDoorP01

namespace Go.Proofs.YthmhadgbhakdlaaDoor
open Go.RowKit

namespace Mk
theorem chr_none {l : Txt} (h : chrNum l = none) : chr l = (4, []) := by unfold chr; rw [h]
theorem chr_low {l : Txt} {n : Nat} (h : chrNum l = some n) (h2 : n < 32) (h3 : white (UInt8.ofNat n) = false) : chr l = (1, []) := by
  unfold chr
  rw [h]
  exact if_pos ⟨h2, h3⟩
theorem chr_yes {l : Txt} {n : Nat} (h : chrNum l = some n) (h2 : ¬ (n < 32 ∧ white (UInt8.ofNat n) = false)) (h3 : encodes n = true) : chr l = (0, tl (Utf8.encode (n : Int))) := by
  unfold chr
  rw [h]
  simp only
  rw [if_neg h2, if_pos h3]
theorem chr_no {l : Txt} {n : Nat} (h : chrNum l = some n) (h2 : ¬ (n < 32 ∧ white (UInt8.ofNat n) = false)) (h3 : encodes n = false) : chr l = (1, []) := by
  unfold chr
  rw [h]
  simp only
  rw [if_neg h2, if_neg (by rw [h3]; decide)]
theorem pre_yes {l : Txt} {c : UInt8} (h : Lib.hasPrefix l [c] = true) : ∃ r, l = c :: r := by
  unfold Lib.hasPrefix at h
  cases l with
  | nil => simp at h
  | cons b r =>
    simp at h
    exact ⟨r, by rw [h]⟩
theorem pre_no {l : Txt} {c : UInt8} (h : Lib.hasPrefix l [c] = false) : ∀ r, l ≠ c :: r := by
  intro r e
  rw [e] at h
  unfold Lib.hasPrefix at h
  simp at h
theorem chrNum_x {r : Txt} : chrNum (120 :: r) = num 16 6 r := rfl
theorem chrNum_no {l : Txt} (h : ∀ r, l ≠ 120 :: r) : chrNum l = num 10 7 l := by
  unfold chrNum
  split
  · rename_i r; exact absurd rfl (h r)
  · rfl
theorem chrNum_lt {l : Txt} {n : Nat} (h : chrNum l = some n) : n < 268435456 := by
  unfold chrNum at h
  split at h
  · exact num_le (by decide) (by decide) h
  · exact num_le (by decide) (by decide) h
theorem tl_one {s : ByteArray} {c : UInt8} {r : Txt} (h : tl s = c :: r) : 0 < s.size ∧ tl (s.extract 1 s.size) = r := by
  have := tl_length s
  rw [h, List.length_cons] at this
  exact ⟨by omega, by rw [tl_from, h]; rfl⟩
end Mk
set_option maxHeartbeats 1000000 in
set_option maxRecDepth 100000 in
theorem character_any (s : ByteArray) (hs : s.size ≤ maxLen) (w : World) :
    Calls Tryd.prog 78 #[.string s] w fun e w' => e = .returned (.tuple #[.string (Mk.bts (Mk.chr (tl s)).2), .int .i64 ((Mk.chr (tl s)).1 : Int)]) ∧ w = w' := by
  have H10 := Lib.hid (fun W => number10 s 7 (by decide) hs W)
  have HP := Lib.hid (fun W => Tryd.strings_HasPrefix s ⟨#[120]⟩ W)
  have H16 := Lib.hid (fun W => number16 (s.extract 1 s.size) 6 (by decide) (by simp only [ByteArray.size_extract]; omega) W)
  obtain ⟨A, hA⟩ : ∃ A, Mk.optI (Mk.num 10 7 (tl s)) = A := ⟨_, rfl⟩
  obtain ⟨V, hV⟩ : ∃ V, Mk.chrNum (tl s) = V := ⟨_, rfl⟩
  obtain ⟨pb, hpb⟩ : ∃ b, Lib.hasPrefix s.data.toList [120] = b := ⟨_, rfl⟩
  have HP1 : Hid (∀ W, Calls Tryd.prog 30 #[.string s, .string ⟨#[120]⟩] W fun e w' => e = .returned (.bool pb) ∧ w' = W) := fun W => by
    have h := HP.out W
    rw [show (⟨#[120]⟩ : ByteArray).data.toList = [120] from rfl, hpb] at h
    exact h
  clear HP
  obtain ⟨R, hR⟩ : ∃ R, Mk.chr (tl s) = R := ⟨_, rfl⟩
  have HV := Lib.hid hV
  have HR := Lib.hid hR
  rw [hR]
  rw [hA] at H10
  have hVlt : ∀ n, V = some n → n < 268435456 := fun n e => Mk.chrNum_lt (hV.trans e)
  cases pb with
  | true =>
    obtain ⟨r, hr0⟩ := Mk.pre_yes (l := tl s) hpb
    obtain ⟨h1, h2⟩ := Mk.tl_one hr0
    have h1i : (1 : Int) ≤ (s.size : Int) := by omega
    have h0i : (0 : Int) ≤ 1 := by omega
    have hVx : Mk.optI (Mk.num 16 6 (tl (s.extract 1 s.size))) = Mk.optI V := by rw [h2, ← hV, hr0, Mk.chrNum_x]
    rw [hVx] at H16
    clear hVx h2 hr0 hpb hA hV hR h1
    cases V with
    | none =>
      have HNb : Hid (∀ W, Calls Tryd.prog 87 #[.string (s.extract 1 s.size), .int .i64 16, .int .i64 6] W fun e w' => e = .returned (.int .i64 (-1)) ∧ W = w') := fun W => H16.out W
      have hr : R = (4, []) := by rw [← HR.out]; exact Mk.chr_none HV.out
      subst hr
      clear HV HR
      go_enter Tryd.func78, Tryd.ntmps78
      go_wp2_with (refine (H10.out _).mono ?_; rintro e w' ⟨rfl, rfl⟩)
      go_wp2_with (refine (HP1.out _).mono ?_; rintro e w' ⟨rfl, rfl⟩)
      go_wp2_with (refine (HNb.out _).mono ?_; rintro e w' ⟨rfl, rfl⟩)
      go_wp2
      go_ret2
      exact ⟨rfl, rfl⟩
    | some n =>
      have HNb : Hid (∀ W, Calls Tryd.prog 87 #[.string (s.extract 1 s.size), .int .i64 16, .int .i64 6] W fun e w' => e = .returned (.int .i64 (n : Int)) ∧ W = w') := fun W => H16.out W
      have hn := hVlt n rfl
      have n0 : ¬ (n : Int) < 0 := by omega
      have hwu : n < 32 → IntKind.u8.wrap (n : Int) = n := fun _ => by rw [IntKind.wrap_u8]; omega
      have HE := Lib.hid (fun W => encode_any n (by omega) W)
      by_cases hl : n < 32
      · have n1 : (n : Int) < 32 := by omega
        have hwu2 := hwu hl
        obtain ⟨v, hv⟩ : ∃ v, Mk.white (UInt8.ofNat n) = v := ⟨_, rfl⟩
        have HW : Hid (∀ W, Calls Tryd.prog 31 #[.int .u8 (n : Int)] W fun e w' => e = .returned (.bool v) ∧ W = w') := fun W => by
          have h := isWhite_any (UInt8.ofNat n) W
          rw [hv, show ((UInt8.ofNat n).toNat : Int) = n by rw [UInt8.toNat_ofNat']; omega] at h
          exact h
        cases v with
        | false =>
          have hr : R = (1, []) := by rw [← HR.out]; exact Mk.chr_low HV.out hl hv
          subst hr
          clear HV HR HE hv hwu hl hn hVlt
          go_enter Tryd.func78, Tryd.ntmps78
          go_wp2_with (refine (H10.out _).mono ?_; rintro e w' ⟨rfl, rfl⟩)
          go_wp2_with (refine (HP1.out _).mono ?_; rintro e w' ⟨rfl, rfl⟩)
          go_wp2_with (refine (HNb.out _).mono ?_; rintro e w' ⟨rfl, rfl⟩)
          go_wp2_with (refine (HW.out _).mono ?_; rintro e w' ⟨rfl, rfl⟩)
          go_wp2
          go_ret2
          exact ⟨rfl, rfl⟩
        | true =>
          obtain ⟨X, hX⟩ : ∃ X, Utf8.encode (n : Int) = X := ⟨_, rfl⟩
          rw [hX] at HE
          cases he : Mk.encodes n with
          | true =>
            have hr : R = (0, tl X) := by rw [← HR.out, ← hX]; exact Mk.chr_yes HV.out (fun q => by rw [hv] at q; exact absurd q.2 (by decide)) he
            have HE2 : Hid (∀ W, Calls Tryd.prog 88 #[.int .i64 (n : Int)] W fun e w' => e = .returned (.tuple #[.string X, .int .i64 0]) ∧ W = w') := fun W => by have h := HE.out W; rw [he] at h; exact h
            subst hr
            clear HV HR HE hX he hv hwu hl hn hVlt
            go_enter Tryd.func78, Tryd.ntmps78
            go_wp2_with (refine (H10.out _).mono ?_; rintro e w' ⟨rfl, rfl⟩)
            go_wp2_with (refine (HP1.out _).mono ?_; rintro e w' ⟨rfl, rfl⟩)
            go_wp2_with (refine (HNb.out _).mono ?_; rintro e w' ⟨rfl, rfl⟩)
            go_wp2_with (refine (HW.out _).mono ?_; rintro e w' ⟨rfl, rfl⟩)
            go_wp2_with (refine (HE2.out _).mono ?_; rintro e w' ⟨rfl, rfl⟩)
            go_ret2
            exact ⟨rfl, rfl⟩
          | false =>
            have hr : R = (1, []) := by rw [← HR.out]; exact Mk.chr_no HV.out (fun q => by rw [hv] at q; exact absurd q.2 (by decide)) he
            have HE2 : Hid (∀ W, Calls Tryd.prog 88 #[.int .i64 (n : Int)] W fun e w' => e = .returned (.tuple #[.string ByteArray.empty, .int .i64 1]) ∧ W = w') := fun W => by have h := HE.out W; rw [he] at h; exact h
            subst hr
            clear HV HR HE hX he hv hwu hl hn hVlt
            go_enter Tryd.func78, Tryd.ntmps78
            go_wp2_with (refine (H10.out _).mono ?_; rintro e w' ⟨rfl, rfl⟩)
            go_wp2_with (refine (HP1.out _).mono ?_; rintro e w' ⟨rfl, rfl⟩)
            go_wp2_with (refine (HNb.out _).mono ?_; rintro e w' ⟨rfl, rfl⟩)
            go_wp2_with (refine (HW.out _).mono ?_; rintro e w' ⟨rfl, rfl⟩)
            go_wp2_with (refine (HE2.out _).mono ?_; rintro e w' ⟨rfl, rfl⟩)
            go_ret2
            exact ⟨rfl, rfl⟩
      · have n1 : ¬ (n : Int) < 32 := by omega
        obtain ⟨X, hX⟩ : ∃ X, Utf8.encode (n : Int) = X := ⟨_, rfl⟩
        rw [hX] at HE
        cases he : Mk.encodes n with
        | true =>
          have hr : R = (0, tl X) := by rw [← HR.out, ← hX]; exact Mk.chr_yes HV.out (fun q => hl q.1) he
          have HE2 : Hid (∀ W, Calls Tryd.prog 88 #[.int .i64 (n : Int)] W fun e w' => e = .returned (.tuple #[.string X, .int .i64 0]) ∧ W = w') := fun W => by have h := HE.out W; rw [he] at h; exact h
          subst hr
          clear HV HR HE hX he hwu hl hn hVlt
          go_enter Tryd.func78, Tryd.ntmps78
          go_wp2_with (refine (H10.out _).mono ?_; rintro e w' ⟨rfl, rfl⟩)
          go_wp2_with (refine (HP1.out _).mono ?_; rintro e w' ⟨rfl, rfl⟩)
          go_wp2_with (refine (HNb.out _).mono ?_; rintro e w' ⟨rfl, rfl⟩)
          go_wp2_with (refine (HE2.out _).mono ?_; rintro e w' ⟨rfl, rfl⟩)
          go_ret2
          exact ⟨rfl, rfl⟩
        | false =>
          have hr : R = (1, []) := by rw [← HR.out]; exact Mk.chr_no HV.out (fun q => hl q.1) he
          have HE2 : Hid (∀ W, Calls Tryd.prog 88 #[.int .i64 (n : Int)] W fun e w' => e = .returned (.tuple #[.string ByteArray.empty, .int .i64 1]) ∧ W = w') := fun W => by have h := HE.out W; rw [he] at h; exact h
          subst hr
          clear HV HR HE hX he hwu hl hn hVlt
          go_enter Tryd.func78, Tryd.ntmps78
          go_wp2_with (refine (H10.out _).mono ?_; rintro e w' ⟨rfl, rfl⟩)
          go_wp2_with (refine (HP1.out _).mono ?_; rintro e w' ⟨rfl, rfl⟩)
          go_wp2_with (refine (HNb.out _).mono ?_; rintro e w' ⟨rfl, rfl⟩)
          go_wp2_with (refine (HE2.out _).mono ?_; rintro e w' ⟨rfl, rfl⟩)
          go_ret2
          exact ⟨rfl, rfl⟩
  | false =>
    have hVx : A = Mk.optI V := by rw [← hA, ← hV, Mk.chrNum_no (Mk.pre_no (l := tl s) hpb)]
    rw [hVx] at H10
    clear hVx hpb hA hV hR H16
    cases V with
    | none =>
      have HNb : Hid (∀ W, Calls Tryd.prog 87 #[.string s, .int .i64 10, .int .i64 7] W fun e w' => e = .returned (.int .i64 (-1)) ∧ W = w') := fun W => H10.out W
      have hr : R = (4, []) := by rw [← HR.out]; exact Mk.chr_none HV.out
      subst hr
      clear HV HR
      go_enter Tryd.func78, Tryd.ntmps78
      go_wp2_with (refine (HNb.out _).mono ?_; rintro e w' ⟨rfl, rfl⟩)
      go_wp2_with (refine (HP1.out _).mono ?_; rintro e w' ⟨rfl, rfl⟩)
      go_wp2
      go_ret2
      exact ⟨rfl, rfl⟩
    | some n =>
      have HNb : Hid (∀ W, Calls Tryd.prog 87 #[.string s, .int .i64 10, .int .i64 7] W fun e w' => e = .returned (.int .i64 (n : Int)) ∧ W = w') := fun W => H10.out W
      have hn := hVlt n rfl
      have n0 : ¬ (n : Int) < 0 := by omega
      have hwu : n < 32 → IntKind.u8.wrap (n : Int) = n := fun _ => by rw [IntKind.wrap_u8]; omega
      have HE := Lib.hid (fun W => encode_any n (by omega) W)
      by_cases hl : n < 32
      · have n1 : (n : Int) < 32 := by omega
        have hwu2 := hwu hl
        obtain ⟨v, hv⟩ : ∃ v, Mk.white (UInt8.ofNat n) = v := ⟨_, rfl⟩
        have HW : Hid (∀ W, Calls Tryd.prog 31 #[.int .u8 (n : Int)] W fun e w' => e = .returned (.bool v) ∧ W = w') := fun W => by
          have h := isWhite_any (UInt8.ofNat n) W
          rw [hv, show ((UInt8.ofNat n).toNat : Int) = n by rw [UInt8.toNat_ofNat']; omega] at h
          exact h
        cases v with
        | false =>
          have hr : R = (1, []) := by rw [← HR.out]; exact Mk.chr_low HV.out hl hv
          subst hr
          clear HV HR HE hv hwu hl hn hVlt
          go_enter Tryd.func78, Tryd.ntmps78
          go_wp2_with (refine (HNb.out _).mono ?_; rintro e w' ⟨rfl, rfl⟩)
          go_wp2_with (refine (HP1.out _).mono ?_; rintro e w' ⟨rfl, rfl⟩)
          go_wp2_with (refine (HW.out _).mono ?_; rintro e w' ⟨rfl, rfl⟩)
          go_wp2
          go_ret2
          exact ⟨rfl, rfl⟩
        | true =>
          obtain ⟨X, hX⟩ : ∃ X, Utf8.encode (n : Int) = X := ⟨_, rfl⟩
          rw [hX] at HE
          cases he : Mk.encodes n with
          | true =>
            have hr : R = (0, tl X) := by rw [← HR.out, ← hX]; exact Mk.chr_yes HV.out (fun q => by rw [hv] at q; exact absurd q.2 (by decide)) he
            have HE2 : Hid (∀ W, Calls Tryd.prog 88 #[.int .i64 (n : Int)] W fun e w' => e = .returned (.tuple #[.string X, .int .i64 0]) ∧ W = w') := fun W => by have h := HE.out W; rw [he] at h; exact h
            subst hr
            clear HV HR HE hX he hv hwu hl hn hVlt
            go_enter Tryd.func78, Tryd.ntmps78
            go_wp2_with (refine (HNb.out _).mono ?_; rintro e w' ⟨rfl, rfl⟩)
            go_wp2_with (refine (HP1.out _).mono ?_; rintro e w' ⟨rfl, rfl⟩)
            go_wp2_with (refine (HW.out _).mono ?_; rintro e w' ⟨rfl, rfl⟩)
            go_wp2_with (refine (HE2.out _).mono ?_; rintro e w' ⟨rfl, rfl⟩)
            go_ret2
            exact ⟨rfl, rfl⟩
          | false =>
            have hr : R = (1, []) := by rw [← HR.out]; exact Mk.chr_no HV.out (fun q => by rw [hv] at q; exact absurd q.2 (by decide)) he
            have HE2 : Hid (∀ W, Calls Tryd.prog 88 #[.int .i64 (n : Int)] W fun e w' => e = .returned (.tuple #[.string ByteArray.empty, .int .i64 1]) ∧ W = w') := fun W => by have h := HE.out W; rw [he] at h; exact h
            subst hr
            clear HV HR HE hX he hv hwu hl hn hVlt
            go_enter Tryd.func78, Tryd.ntmps78
            go_wp2_with (refine (HNb.out _).mono ?_; rintro e w' ⟨rfl, rfl⟩)
            go_wp2_with (refine (HP1.out _).mono ?_; rintro e w' ⟨rfl, rfl⟩)
            go_wp2_with (refine (HW.out _).mono ?_; rintro e w' ⟨rfl, rfl⟩)
            go_wp2_with (refine (HE2.out _).mono ?_; rintro e w' ⟨rfl, rfl⟩)
            go_ret2
            exact ⟨rfl, rfl⟩
      · have n1 : ¬ (n : Int) < 32 := by omega
        obtain ⟨X, hX⟩ : ∃ X, Utf8.encode (n : Int) = X := ⟨_, rfl⟩
        rw [hX] at HE
        cases he : Mk.encodes n with
        | true =>
          have hr : R = (0, tl X) := by rw [← HR.out, ← hX]; exact Mk.chr_yes HV.out (fun q => hl q.1) he
          have HE2 : Hid (∀ W, Calls Tryd.prog 88 #[.int .i64 (n : Int)] W fun e w' => e = .returned (.tuple #[.string X, .int .i64 0]) ∧ W = w') := fun W => by have h := HE.out W; rw [he] at h; exact h
          subst hr
          clear HV HR HE hX he hwu hl hn hVlt
          go_enter Tryd.func78, Tryd.ntmps78
          go_wp2_with (refine (HNb.out _).mono ?_; rintro e w' ⟨rfl, rfl⟩)
          go_wp2_with (refine (HP1.out _).mono ?_; rintro e w' ⟨rfl, rfl⟩)
          go_wp2_with (refine (HE2.out _).mono ?_; rintro e w' ⟨rfl, rfl⟩)
          go_ret2
          exact ⟨rfl, rfl⟩
        | false =>
          have hr : R = (1, []) := by rw [← HR.out]; exact Mk.chr_no HV.out (fun q => hl q.1) he
          have HE2 : Hid (∀ W, Calls Tryd.prog 88 #[.int .i64 (n : Int)] W fun e w' => e = .returned (.tuple #[.string ByteArray.empty, .int .i64 1]) ∧ W = w') := fun W => by have h := HE.out W; rw [he] at h; exact h
          subst hr
          clear HV HR HE hX he hwu hl hn hVlt
          go_enter Tryd.func78, Tryd.ntmps78
          go_wp2_with (refine (HNb.out _).mono ?_; rintro e w' ⟨rfl, rfl⟩)
          go_wp2_with (refine (HP1.out _).mono ?_; rintro e w' ⟨rfl, rfl⟩)
          go_wp2_with (refine (HE2.out _).mono ?_; rintro e w' ⟨rfl, rfl⟩)
          go_ret2
          exact ⟨rfl, rfl⟩
namespace Mk
theorem ref0 {l : Txt}  (h0 : l = [97, 109, 112]) : ref l = (0, [38]) := by unfold ref; rw [if_pos h0]
theorem ref1 {l : Txt} (h0 : l ≠ [97, 109, 112]) (h1 : l = [108, 116]) : ref l = (0, [60]) := by unfold ref; rw [if_neg h0, if_pos h1]
theorem ref2 {l : Txt} (h0 : l ≠ [97, 109, 112]) (h1 : l ≠ [108, 116]) (h2 : l = [103, 116]) : ref l = (0, [62]) := by unfold ref; rw [if_neg h0, if_neg h1, if_pos h2]
theorem ref3 {l : Txt} (h0 : l ≠ [97, 109, 112]) (h1 : l ≠ [108, 116]) (h2 : l ≠ [103, 116]) (h3 : l = [113, 117, 111, 116]) : ref l = (0, [34]) := by unfold ref; rw [if_neg h0, if_neg h1, if_neg h2, if_pos h3]
theorem ref4 {l : Txt} (h0 : l ≠ [97, 109, 112]) (h1 : l ≠ [108, 116]) (h2 : l ≠ [103, 116]) (h3 : l ≠ [113, 117, 111, 116]) (h4 : l = [97, 112, 111, 115]) : ref l = (0, [39]) := by unfold ref; rw [if_neg h0, if_neg h1, if_neg h2, if_neg h3, if_pos h4]
theorem ref5 {l : Txt} (h0 : l ≠ [97, 109, 112]) (h1 : l ≠ [108, 116]) (h2 : l ≠ [103, 116]) (h3 : l ≠ [113, 117, 111, 116]) (h4 : l ≠ [97, 112, 111, 115]) (h5 : (cutN l).1 ≠ []) (h6 : (cutN l).2 = []) : ref l = (3, []) := by unfold ref; rw [if_neg h0, if_neg h1, if_neg h2, if_neg h3, if_neg h4, if_pos ⟨h5, h6⟩]
theorem ref6 {l : Txt} (h0 : l ≠ [97, 109, 112]) (h1 : l ≠ [108, 116]) (h2 : l ≠ [103, 116]) (h3 : l ≠ [113, 117, 111, 116]) (h4 : l ≠ [97, 112, 111, 115]) (h5 : ¬ ((cutN l).1 ≠ [] ∧ (cutN l).2 = [])) {r : Txt} (h6 : l = 35 :: r) : ref l = chr r := by unfold ref; rw [if_neg h0, if_neg h1, if_neg h2, if_neg h3, if_neg h4, if_neg h5, h6]; rfl
theorem ref7 {l : Txt} (h0 : l ≠ [97, 109, 112]) (h1 : l ≠ [108, 116]) (h2 : l ≠ [103, 116]) (h3 : l ≠ [113, 117, 111, 116]) (h4 : l ≠ [97, 112, 111, 115]) (h5 : ¬ ((cutN l).1 ≠ [] ∧ (cutN l).2 = [])) (h6 : ∀ r, l ≠ 35 :: r) : ref l = (4, []) := by
  unfold ref
  rw [if_neg h0, if_neg h1, if_neg h2, if_neg h3, if_neg h4, if_neg h5]
  split
  · rename_i r; exact absurd rfl (h6 r)
  · rfl
end Mk
set_option maxHeartbeats 1000000 in
set_option maxRecDepth 100000 in
theorem reference_any (s : ByteArray) (hs : s.size ≤ maxLen) (w : World) :
    Calls Tryd.prog 64 #[.string s] w fun e w' => e = .returned (.tuple #[.string (Mk.bts (Mk.ref (tl s)).2), .int .i64 ((Mk.ref (tl s)).1 : Int)]) ∧ Below w.heap.size w w' := by
  have HCN := Lib.hid (fun W => cutName_any s hs W)
  have HP := Lib.hid (fun W => Tryd.strings_HasPrefix s ⟨#[35]⟩ W)
  have HCh := Lib.hid (fun W => character_any (s.extract 1 s.size) (by simp only [ByteArray.size_extract]; omega) W)
  obtain ⟨R, hR⟩ : ∃ R, Mk.ref (tl s) = R := ⟨_, rfl⟩
  have HR := Lib.hid hR
  rw [hR]
  clear hR
  by_cases h0 : tl s = [97, 109, 112]
  · have hr : R = (0, [38]) := by rw [← HR.out]; exact Mk.ref0 h0
    subst hr
    have q0 := Mk.is_list h0
    clear HR HCN HP HCh h0
    go_enter Tryd.func64, Tryd.ntmps64
    go_wp2
    go_ret2
    exact ⟨rfl, Below.refl _ _⟩
  by_cases h1 : tl s = [108, 116]
  · have hr : R = (0, [60]) := by rw [← HR.out]; exact Mk.ref1 h0 h1
    subst hr
    have q0 := Mk.not_list h0
    have q1 := Mk.is_list h1
    clear HR HCN HP HCh h0 h1
    go_enter Tryd.func64, Tryd.ntmps64
    go_wp2
    go_ret2
    exact ⟨rfl, Below.refl _ _⟩
  by_cases h2 : tl s = [103, 116]
  · have hr : R = (0, [62]) := by rw [← HR.out]; exact Mk.ref2 h0 h1 h2
    subst hr
    have q0 := Mk.not_list h0
    have q1 := Mk.not_list h1
    have q2 := Mk.is_list h2
    clear HR HCN HP HCh h0 h1 h2
    go_enter Tryd.func64, Tryd.ntmps64
    go_wp2
    go_ret2
    exact ⟨rfl, Below.refl _ _⟩
  by_cases h3 : tl s = [113, 117, 111, 116]
  · have hr : R = (0, [34]) := by rw [← HR.out]; exact Mk.ref3 h0 h1 h2 h3
    subst hr
    have q0 := Mk.not_list h0
    have q1 := Mk.not_list h1
    have q2 := Mk.not_list h2
    have q3 := Mk.is_list h3
    clear HR HCN HP HCh h0 h1 h2 h3
    go_enter Tryd.func64, Tryd.ntmps64
    go_wp2
    go_ret2
    exact ⟨rfl, Below.refl _ _⟩
  by_cases h4 : tl s = [97, 112, 111, 115]
  · have hr : R = (0, [39]) := by rw [← HR.out]; exact Mk.ref4 h0 h1 h2 h3 h4
    subst hr
    have q0 := Mk.not_list h0
    have q1 := Mk.not_list h1
    have q2 := Mk.not_list h2
    have q3 := Mk.not_list h3
    have q4 := Mk.is_list h4
    clear HR HCN HP HCh h0 h1 h2 h3 h4
    go_enter Tryd.func64, Tryd.ntmps64
    go_wp2
    go_ret2
    exact ⟨rfl, Below.refl _ _⟩
  have HNo : Hid (tl s ≠ [97, 109, 112] ∧ tl s ≠ [108, 116] ∧ tl s ≠ [103, 116] ∧ tl s ≠ [113, 117, 111, 116] ∧ tl s ≠ [97, 112, 111, 115]) := ⟨h0, h1, h2, h3, h4⟩
  have q0 := Mk.not_list h0
  have q1 := Mk.not_list h1
  have q2 := Mk.not_list h2
  have q3 := Mk.not_list h3
  have q4 := Mk.not_list h4
  clear h0 h1 h2 h3 h4
  obtain ⟨N1, hN1⟩ : ∃ x, (Mk.cutN (tl s)).1 = x := ⟨_, rfl⟩
  obtain ⟨N2, hN2⟩ : ∃ x, (Mk.cutN (tl s)).2 = x := ⟨_, rfl⟩
  rw [hN1, hN2] at HCN
  have HN1 := Lib.hid hN1
  have HN2 := Lib.hid hN2
  clear hN1 hN2
  have HCN2 : Hid (∀ W, Calls Tryd.prog 65 #[.string s] W fun e w' => e = .returned (.tuple #[.string (Mk.bts N1), .string (Mk.bts N2)]) ∧ Drew W w') := fun W => HCN.out W
  clear HCN
  obtain ⟨B1, hB1⟩ : ∃ x, Mk.bts N1 = x := ⟨_, rfl⟩
  obtain ⟨B2, hB2⟩ : ∃ x, Mk.bts N2 = x := ⟨_, rfl⟩
  rw [hB1, hB2] at HCN2
  have HE : Hid ((N1 ≠ [] ∧ N2 = []) → R = (3, [])) := fun h => by
    obtain ⟨h0, h1, h2, h3, h4⟩ := HNo.out
    rw [← HR.out]; exact Mk.ref5 h0 h1 h2 h3 h4 (by rw [HN1.out]; exact h.1) (by rw [HN2.out]; exact h.2)
  have HX : Hid (¬ (N1 ≠ [] ∧ N2 = []) → ∀ r, tl s = 35 :: r → R = Mk.chr r) := fun h r e => by
    obtain ⟨h0, h1, h2, h3, h4⟩ := HNo.out
    rw [← HR.out]; exact Mk.ref6 h0 h1 h2 h3 h4 (by rw [HN1.out, HN2.out]; exact h) e
  have HY : Hid (¬ (N1 ≠ [] ∧ N2 = []) → (∀ r, tl s ≠ 35 :: r) → R = (4, [])) := fun h e => by
    obtain ⟨h0, h1, h2, h3, h4⟩ := HNo.out
    rw [← HR.out]; exact Mk.ref7 h0 h1 h2 h3 h4 (by rw [HN1.out, HN2.out]; exact h) e
  clear HR HNo HN1 HN2
  have HB1 : Hid ((N1 = [] → B1.toList.isEmpty = true) ∧ (N1 ≠ [] → B1.toList.isEmpty = false)) := by
    rw [← hB1]
    exact ⟨fun e => Mk.emp_yes (by rw [e]; rfl), fun e => Mk.emp_no (List.length_pos_iff.2 e)⟩
  have HB2 : Hid ((N2 = [] → B2.toList.isEmpty = true) ∧ (N2 ≠ [] → B2.toList.isEmpty = false)) := by
    rw [← hB2]
    exact ⟨fun e => Mk.emp_yes (by rw [e]; rfl), fun e => Mk.emp_no (List.length_pos_iff.2 e)⟩
  clear hB1 hB2
  obtain ⟨pb, hpb⟩ : ∃ b, Lib.hasPrefix s.data.toList [35] = b := ⟨_, rfl⟩
  have HP1 : Hid (∀ W, Calls Tryd.prog 30 #[.string s, .string ⟨#[35]⟩] W fun e w' => e = .returned (.bool pb) ∧ w' = W) := fun W => by
    have h := HP.out W
    rw [show (⟨#[35]⟩ : ByteArray).data.toList = [35] from rfl, hpb] at h
    exact h
  clear HP
  have HPB := Lib.hid hpb
  clear hpb
  by_cases hn1 : N1 = []
  · have b1 := HB1.out.1 hn1
    have hno : ¬ (N1 ≠ [] ∧ N2 = []) := fun q => q.1 hn1
    cases pb with
    | true =>
      obtain ⟨r, hr0⟩ := Mk.pre_yes (l := tl s) HPB.out
      obtain ⟨g1, g2⟩ := Mk.tl_one hr0
      have hr : R = Mk.chr r := HX.out hno r hr0
      have HCh2 : Hid (∀ W, Calls Tryd.prog 78 #[.string (s.extract 1 s.size)] W fun e w' => e = .returned (.tuple #[.string (Mk.bts R.2), .int .i64 (R.1 : Int)]) ∧ W = w') := fun W => by have h := HCh.out W; rw [g2, ← hr] at h; exact h
      have g1i : (1 : Int) ≤ (s.size : Int) := by omega
      have g0i : (0 : Int) ≤ 1 := by omega
      clear HE HX HY HB1 HB2 HPB hno hr g1 g2 hr0 HCh
      go_enter Tryd.func64, Tryd.ntmps64
      go_wp2_with (refine (HCN2.out _).mono ?_; rintro e w' ⟨rfl, hd⟩)
      have HDr := Lib.hid hd
      clear hd
      go_wp2_with (refine (HP1.out _).mono ?_; rintro e w' ⟨rfl, rfl⟩)
      go_wp2_with (refine (HCh2.out _).mono ?_; rintro e w' ⟨rfl, rfl⟩)
      go_ret2
      exact ⟨rfl, HDr.out.below _⟩
    | false =>
      have hr : R = (4, []) := HY.out hno (Mk.pre_no (l := tl s) HPB.out)
      subst hr
      clear HE HX HY HB1 HB2 HPB hno HCh
      go_enter Tryd.func64, Tryd.ntmps64
      go_wp2_with (refine (HCN2.out _).mono ?_; rintro e w' ⟨rfl, hd⟩)
      have HDr := Lib.hid hd
      clear hd
      go_wp2_with (refine (HP1.out _).mono ?_; rintro e w' ⟨rfl, rfl⟩)
      go_wp2
      go_ret2
      exact ⟨rfl, HDr.out.below _⟩
  · have b1 := HB1.out.2 hn1
    by_cases hn2 : N2 = []
    · have b2 := HB2.out.1 hn2
      have hr : R = (3, []) := HE.out ⟨hn1, hn2⟩
      subst hr
      clear HE HX HY HB1 HB2 HPB HCh
      go_enter Tryd.func64, Tryd.ntmps64
      go_wp2_with (refine (HCN2.out _).mono ?_; rintro e w' ⟨rfl, hd⟩)
      have HDr := Lib.hid hd
      clear hd
      go_wp2
      go_ret2
      exact ⟨rfl, HDr.out.below _⟩
    · have b2 := HB2.out.2 hn2
      have hno : ¬ (N1 ≠ [] ∧ N2 = []) := fun q => hn2 q.2
      cases pb with
      | true =>
        obtain ⟨r, hr0⟩ := Mk.pre_yes (l := tl s) HPB.out
        obtain ⟨g1, g2⟩ := Mk.tl_one hr0
        have hr : R = Mk.chr r := HX.out hno r hr0
        have HCh2 : Hid (∀ W, Calls Tryd.prog 78 #[.string (s.extract 1 s.size)] W fun e w' => e = .returned (.tuple #[.string (Mk.bts R.2), .int .i64 (R.1 : Int)]) ∧ W = w') := fun W => by have h := HCh.out W; rw [g2, ← hr] at h; exact h
        have g1i : (1 : Int) ≤ (s.size : Int) := by omega
        have g0i : (0 : Int) ≤ 1 := by omega
        clear HE HX HY HB1 HB2 HPB hno hr g1 g2 hr0 HCh
        go_enter Tryd.func64, Tryd.ntmps64
        go_wp2_with (refine (HCN2.out _).mono ?_; rintro e w' ⟨rfl, hd⟩)
        have HDr := Lib.hid hd
        clear hd
        go_wp2_with (refine (HP1.out _).mono ?_; rintro e w' ⟨rfl, rfl⟩)
        go_wp2_with (refine (HCh2.out _).mono ?_; rintro e w' ⟨rfl, rfl⟩)
        go_ret2
        exact ⟨rfl, HDr.out.below _⟩
      | false =>
        have hr : R = (4, []) := HY.out hno (Mk.pre_no (l := tl s) HPB.out)
        subst hr
        clear HE HX HY HB1 HB2 HPB hno HCh
        go_enter Tryd.func64, Tryd.ntmps64
        go_wp2_with (refine (HCN2.out _).mono ?_; rintro e w' ⟨rfl, hd⟩)
        have HDr := Lib.hid hd
        clear hd
        go_wp2_with (refine (HP1.out _).mono ?_; rintro e w' ⟨rfl, rfl⟩)
        go_wp2
        go_ret2
        exact ⟨rfl, HDr.out.below _⟩
end Go.Proofs.YthmhadgbhakdlaaDoor

/- MarkupBack, plain: what is escaped is resolved to what it was. -/
namespace Go.Proofs.YthmhadgbhakdlaaDoor
open Go.RowKit

namespace Mk
theorem bef_cons {c b : UInt8} (h : b ≠ c) (l : Txt) : bef c (b :: l) = b :: bef c l := by unfold bef; rw [List.takeWhile_cons, if_pos (by simpa using h)]
theorem aft_cons {c b : UInt8} (h : b ≠ c) (l : Txt) : aft c (b :: l) = aft c l := by unfold aft; rw [List.dropWhile_cons, if_pos (by simpa using h)]
theorem bef_hit (c : UInt8) (l : Txt) : bef c (c :: l) = [] := by unfold bef; rw [List.takeWhile_cons, if_neg (by simp)]
theorem aft_hit (c : UInt8) (l : Txt) : aft c (c :: l) = c :: l := by unfold aft; rw [List.dropWhile_cons, if_neg (by simp)]
theorem bef_app {c : UInt8} : ∀ {l : Txt} (_ : c ∉ l) (r : Txt), bef c (l ++ r) = l ++ bef c r
  | [], _, r => rfl
  | b :: l, h, r => by
    rw [List.cons_append, bef_cons (fun e => h (by simp [e])), bef_app (fun q => h (by simp [q])) r, List.cons_append]
theorem aft_app {c : UInt8} : ∀ {l : Txt} (_ : c ∉ l) (r : Txt), aft c (l ++ r) = aft c r
  | [], _, r => rfl
  | b :: l, h, r => by
    rw [List.cons_append, aft_cons (fun e => h (by simp [e])), aft_app (fun q => h (by simp [q])) r]
theorem aft_none {c : UInt8} {l : Txt} (h : c ∉ l) : aft c l = [] := by
  have := aft_app h []
  rw [List.append_nil] at this
  exact this
theorem bef_none {c : UInt8} {l : Txt} (h : c ∉ l) : bef c l = l := by
  have := bef_app h []
  rw [List.append_nil] at this
  rw [this]
  simp [bef]
theorem res_cons (f : Nat) (b : UInt8) (x : Txt) (a : Nat) (acc : Txt) (h : b ≠ 38) : res (f + 1) (b :: x) a acc = res (f + 1) x (a + 1) (acc ++ [b]) := by
  have e1 := bef_cons h x
  have e2 := aft_cons h x
  simp only [res, e1, e2, List.length_cons]
  rw [show a + ((bef 38 x).length + 1) = a + 1 + (bef 38 x).length by omega]
  simp only [List.append_assoc, List.singleton_append]
theorem res_hit (f : Nat) (nm : Txt) (c : UInt8) (x : Txt) (a : Nat) (acc : Txt) (h : (59 : UInt8) ∉ nm) (hr : ref nm = (0, [c])) : res (f + 1) (38 :: (nm ++ 59 :: x)) a acc = res f x (a + nm.length + 2) (acc ++ [c]) := by
  have e1 := bef_hit 38 (nm ++ 59 :: x)
  have e2 := aft_hit 38 (nm ++ 59 :: x)
  have e3 : bef 59 (38 :: (nm ++ 59 :: x)) = 38 :: nm := by rw [bef_cons (by decide), bef_app h, bef_hit, List.append_nil]
  have e4 : aft 59 (38 :: (nm ++ 59 :: x)) = 59 :: x := by rw [aft_cons (by decide), aft_app h, aft_hit]
  rw [res, e1, e2, if_neg (by simp), e4, if_neg (by simp), e3]
  simp only [List.drop_succ_cons, List.drop_zero, hr, ne_eq, not_true_eq_false, if_false, List.length_nil, List.length_cons, Nat.add_zero, List.append_nil]
  rw [show a + (nm.length + 1) + 1 = a + nm.length + 2 by omega]
theorem esc_cases (b : UInt8) : (esc1 b = [b] ∧ b ≠ 38 ∧ b ≠ 60 ∧ b ≠ 62 ∧ b ≠ 34 ∧ b ≠ 39) ∨ ∃ nm : Txt, esc1 b = 38 :: (nm ++ [59]) ∧ (59 : UInt8) ∉ nm ∧ ref nm = (0, [b]) ∧ (60 : UInt8) ∉ nm ∧ (34 : UInt8) ∉ nm ∧ (62 : UInt8) ∉ nm ∧ (39 : UInt8) ∉ nm := by
  unfold esc1
  by_cases h1 : b = 38
  · subst h1; exact .inr ⟨[97, 109, 112], by decide, by decide, by decide +kernel, by decide, by decide, by decide, by decide⟩
  · rw [if_neg h1]
    by_cases h2 : b = 60
    · subst h2; exact .inr ⟨[108, 116], by decide, by decide, by decide +kernel, by decide, by decide, by decide, by decide⟩
    · rw [if_neg h2]
      by_cases h3 : b = 62
      · subst h3; exact .inr ⟨[103, 116], by decide, by decide, by decide +kernel, by decide, by decide, by decide, by decide⟩
      · rw [if_neg h3]
        by_cases h4 : b = 34
        · subst h4; exact .inr ⟨[113, 117, 111, 116], by decide, by decide, by decide +kernel, by decide, by decide, by decide, by decide⟩
        · rw [if_neg h4]
          by_cases h5 : b = 39
          · subst h5; exact .inr ⟨[97, 112, 111, 115], by decide, by decide, by decide +kernel, by decide, by decide, by decide, by decide⟩
          · rw [if_neg h5]
            exact .inl ⟨rfl, h1, h2, h3, h4, h5⟩
theorem res_esc : ∀ (l : Txt) (f a : Nat) (acc : Txt), l.length < f → res f (esc l) a acc = (acc ++ l, 0, 0)
  | [], f, a, acc, h => by
    obtain ⟨f, rfl⟩ : ∃ g, f = g + 1 := ⟨f - 1, by omega⟩
    rfl
  | b :: l, f, a, acc, h => by
    obtain ⟨f, rfl⟩ : ∃ g, f = g + 1 := ⟨f - 1, by omega⟩
    rw [List.length_cons] at h
    have e : esc (b :: l) = esc1 b ++ esc l := by unfold esc; rw [List.flatMap_cons]
    rw [e]
    rcases esc_cases b with ⟨h1, h2, _⟩ | ⟨nm, h1, h2, h3, _⟩
    · rw [h1, List.singleton_append, res_cons f b _ _ _ h2, res_esc l (f + 1) _ _ (by omega), List.append_assoc]
      rfl
    · rw [h1]
      show res (f + 1) (38 :: ((nm ++ [59]) ++ esc l)) a acc = _
      rw [List.append_assoc, List.singleton_append, res_hit f nm b _ _ _ h2 h3, res_esc l f _ _ (by omega), List.append_assoc]
      rfl
theorem esc_len (l : Txt) : l.length ≤ (esc l).length ∧ (esc l).length ≤ 6 * l.length := by
  unfold esc
  induction l with
  | nil => simp
  | cons b r ih =>
    rw [List.flatMap_cons, List.length_append, List.length_cons]
    have : 1 ≤ (esc1 b).length ∧ (esc1 b).length ≤ 6 := by
      unfold esc1
      repeat' split
      all_goals simp
    omega
theorem resolve_esc (l : Txt) : resolve (esc l) = (l, 0, 0) := by
  have h := esc_len l
  unfold resolve
  rw [res_esc l _ _ _ (by omega)]
  rfl
theorem esc_not (l : Txt) : (60 : UInt8) ∉ esc l ∧ (34 : UInt8) ∉ esc l ∧ (62 : UInt8) ∉ esc l ∧ (39 : UInt8) ∉ esc l := by
  have key : ∀ c : UInt8, (∀ b, c ∉ esc1 b) → c ∉ esc l := by
    intro c hc hm
    unfold esc at hm
    obtain ⟨b, _, h⟩ := List.mem_flatMap.1 hm
    exact hc b h
  have h1 : ∀ b, (60 : UInt8) ∉ esc1 b ∧ (34 : UInt8) ∉ esc1 b ∧ (62 : UInt8) ∉ esc1 b ∧ (39 : UInt8) ∉ esc1 b := by
    intro b
    rcases esc_cases b with ⟨h, _, h2, h3, h4, h5⟩ | ⟨nm, h, _, _, h2, h3, h4, h5⟩
    · rw [h]
      simp only [List.mem_singleton]
      exact ⟨fun e => h2 e.symm, fun e => h4 e.symm, fun e => h3 e.symm, fun e => h5 e.symm⟩
    · rw [h]
      simp only [List.mem_cons, List.mem_append, List.not_mem_nil, or_false, not_or]
      exact ⟨⟨by decide, h2, by decide⟩, ⟨by decide, h3, by decide⟩, ⟨by decide, h4, by decide⟩, by decide, h5, by decide⟩
  exact ⟨key _ fun b => (h1 b).1, key _ fun b => (h1 b).2.1, key _ fun b => (h1 b).2.2.1, key _ fun b => (h1 b).2.2.2⟩
theorem esc_nil (l : Txt) : esc l = [] ↔ l = [] := by
  have h := esc_len l
  constructor
  · intro e
    rw [e] at h
    exact List.eq_nil_of_length_eq_zero (by simpa using h.1)
  · rintro rfl; rfl
theorem scan_thru (q : UInt8) : ∀ (e : Txt) (_ : q ∉ e) (i : Nat) (r : Txt), scanQ (some q) i (e ++ q :: r) = scanQ none (i + e.length + 1) r
  | [], _, i, r => by rw [List.nil_append, scanQ, if_pos rfl]; rfl
  | b :: e, h, i, r => by
    rw [List.cons_append, scanQ, if_neg (fun x => h (by simp [x])), scan_thru q e (fun x => h (by simp [x])), List.length_cons]
    congr 1
    omega
theorem not_comm (x : Txt) : comm.isPrefixOf (60 :: 97 :: x) = false := rfl
theorem not_note (x : Txt) : note.isPrefixOf (60 :: 97 :: x) = false := rfl
def wrap (e : Txt) : Txt := [60, 97, 32, 98, 61, 34] ++ e ++ [34, 62] ++ e ++ [60, 47, 97, 62]
/-- What an escaped text is read ats, within an element, and ats an attribute. -/
theorem tokens_wrap (l : Txt) : tokens (wrap (esc l)) = .inr ⟨[⟨1, [97], [([98], l)], [], 0⟩] ++ (if l = [] then [] else [⟨3, [], [], l, 8 + (esc l).length⟩]) ++ [⟨2, [97], [], [], 8 + 2 * (esc l).length⟩], [], true⟩ := by
  obtain ⟨n60, n34, _, _⟩ := esc_not l
  have hr := resolve_esc l
  have hnil := esc_nil l
  obtain ⟨e, he⟩ : ∃ e, esc l = e := ⟨_, rfl⟩
  rw [he] at n60 n34 hr hnil ⊢
  have hw : wrap e = 60 :: 97 :: 32 :: 98 :: 61 :: 34 :: (e ++ 34 :: 62 :: (e ++ [60, 47, 97, 62])) := by unfold wrap; simp
  have hl : (wrap e).length = 12 + 2 * e.length := by unfold wrap; simp; omega
  unfold tokens
  obtain ⟨f, hf⟩ : ∃ f, (wrap e).length = f + 2 := ⟨10 + 2 * e.length, by omega⟩
  rw [hf]
  -- the first piece
  have b1 : bef 60 (wrap e) = [] := by rw [hw]; exact bef_hit _ _
  have a1 : aft 60 (wrap e) = wrap e := by rw [hw]; exact aft_hit _ _
  have p1 : pieceEnd (wrap e) = some (8 + e.length) := by
    unfold pieceEnd
    rw [hw, not_comm, not_note, if_neg Bool.false_ne_true, if_neg Bool.false_ne_true]
    show scanQ none 1 (97 :: 32 :: 98 :: 61 :: 34 :: (e ++ 34 :: 62 :: (e ++ [60, 47, 97, 62]))) = _
    rw [scanQ, if_neg (by decide), if_neg (by decide), scanQ, if_neg (by decide), if_neg (by decide), scanQ, if_neg (by decide), if_neg (by decide), scanQ, if_neg (by decide), if_neg (by decide), scanQ, if_pos (by decide), scan_thru 34 e n34, scanQ, if_neg (by decide), if_pos rfl]
    congr 1
    omega
  have t1 : (wrap e).take (8 + e.length) = 60 :: 97 :: 32 :: 98 :: 61 :: 34 :: (e ++ [34, 62]) := by
    have : wrap e = (60 :: 97 :: 32 :: 98 :: 61 :: 34 :: (e ++ [34, 62])) ++ (e ++ [60, 47, 97, 62]) := by rw [hw]; simp
    rw [this, List.take_append_of_le_length (by simp; omega), List.take_of_length_le (by simp; omega)]
  have d1 : (wrap e).drop (8 + e.length) = e ++ [60, 47, 97, 62] := by
    have : wrap e = (60 :: 97 :: 32 :: 98 :: 61 :: 34 :: (e ++ [34, 62])) ++ (e ++ [60, 47, 97, 62]) := by rw [hw]; simp
    rw [this, List.drop_append_of_le_length (by simp; omega), List.drop_of_length_le (by simp; omega), List.nil_append]
  have ra : readAttr (98 :: 61 :: 34 :: (e ++ [34])) = some (([98], e), []) := by
    have c1 : cutN (98 :: 61 :: 34 :: (e ++ [34])) = ([98], 61 :: 34 :: (e ++ [34])) := by
      unfold cutN
      rw [if_pos (by show letter 98 = true; decide), List.takeWhile_cons, if_pos (by decide), List.takeWhile_cons, if_neg (by decide), List.dropWhile_cons, if_pos (by decide), List.dropWhile_cons, if_neg (by decide)]
    have s1 : skip (61 :: 34 :: (e ++ [34])) = 61 :: 34 :: (e ++ [34]) := by unfold skip; rw [List.dropWhile_cons, if_neg (by decide)]
    have s2 : skip (34 :: (e ++ [34])) = 34 :: (e ++ [34]) := by unfold skip; rw [List.dropWhile_cons, if_neg (by decide)]
    unfold readAttr
    rw [c1]
    simp only [s1, s2]
    rw [if_neg (by decide), if_pos (by simp), aft_app n34, bef_app n34, aft_hit, bef_hit, if_neg (by simp), List.append_nil, aft_none n60, if_pos rfl]
    rfl
  have rt : readTag (97 :: 32 :: 98 :: 61 :: 34 :: (e ++ [34])) = some ⟨[97], [([98], e)], true, false⟩ := by
    have c1 : cutN (97 :: 32 :: 98 :: 61 :: 34 :: (e ++ [34])) = ([97], 32 :: 98 :: 61 :: 34 :: (e ++ [34])) := by
      unfold cutN
      rw [if_pos (by show letter 97 = true; decide), List.takeWhile_cons, if_pos (by decide), List.takeWhile_cons, if_neg (by decide), List.dropWhile_cons, if_pos (by decide), List.dropWhile_cons, if_neg (by decide)]
    have s1 : skip (32 :: 98 :: 61 :: 34 :: (e ++ [34])) = 98 :: 61 :: 34 :: (e ++ [34]) := by unfold skip; rw [List.dropWhile_cons, if_pos (by decide), List.dropWhile_cons, if_neg (by decide)]
    unfold readTag
    simp only [c1]
    rw [if_neg (by decide)]
    show tagGo ((97 :: 32 :: 98 :: 61 :: 34 :: (e ++ [34])).length + 1) [97] (32 :: 98 :: 61 :: 34 :: (e ++ [34])) [] = _
    obtain ⟨g, hg⟩ : ∃ g, (97 :: 32 :: 98 :: 61 :: 34 :: (e ++ [34])).length = g + 1 := ⟨_, rfl⟩
    rw [hg, tagGo, s1, if_neg (by simp), if_neg (by simp), ra]
    simp only [List.nil_append]
    rw [tagGo, if_pos (.inl rfl)]
    rfl
  have be : begin_ ⟨[97], [([98], e)], true, false⟩ 0 start = .inr ⟨[⟨1, [97], [([98], l)], [], 0⟩], [[97]], true⟩ := by
    unfold begin_ start
    rw [if_neg (by simp), if_neg (by simp), if_neg (by simp [twice])]
    simp only [resAll, hr, ne_eq, not_true_eq_false, if_false, List.nil_append]
  have pc : piece (60 :: 97 :: 32 :: 98 :: 61 :: 34 :: (e ++ [34, 62])) 0 start = .inr ⟨[⟨1, [97], [([98], l)], [], 0⟩], [[97]], true⟩ := by
    unfold piece
    rw [not_comm, not_note, if_neg Bool.false_ne_true, if_neg Bool.false_ne_true]
    have : ((60 :: 97 :: 32 :: 98 :: 61 :: 34 :: (e ++ [34, 62])).drop 1).take ((60 :: 97 :: 32 :: 98 :: 61 :: 34 :: (e ++ [34, 62])).length - 2) = 97 :: 32 :: 98 :: 61 :: 34 :: (e ++ [34]) := by
      have e1 : (60 :: 97 :: 32 :: 98 :: 61 :: 34 :: (e ++ [34, 62])).drop 1 = (97 :: 32 :: 98 :: 61 :: 34 :: (e ++ [34])) ++ [62] := by simp
      rw [e1, List.take_append_of_le_length (by simp), List.take_of_length_le (by simp)]
    rw [this, rt]
    simp only [if_true, be]
    rfl
  have bw0 : ∀ a, between [] a start = .inr start := fun a => rfl
  rw [thr, b1, a1, bw0]
  simp only
  rw [if_neg (by rw [hw]; simp), p1]
  simp only [t1, d1, List.length_nil, Nat.add_zero, pc, Nat.zero_add]
  -- the text, and the last piece
  have b2 : bef 60 (e ++ [60, 47, 97, 62]) = e := by rw [bef_app n60, bef_hit, List.append_nil]
  have a2 : aft 60 (e ++ [60, 47, 97, 62]) = [60, 47, 97, 62] := by rw [aft_app n60, aft_hit]
  have p2 : pieceEnd [60, 47, 97, 62] = some 4 := by decide
  have pc2 : ∀ (k : List T) (a : Nat), piece [60, 47, 97, 62] a ⟨k, [[97]], true⟩ = .inr ⟨k ++ [⟨2, [97], [], [], a⟩], [], true⟩ := fun k a => rfl
  obtain ⟨g, hg⟩ : ∃ g, f + 1 = g + 2 := ⟨f - 1, by omega⟩
  rw [show f + 2 = g + 2 + 1 by omega]
  rw [thr, b2, a2]
  have bw : between e (8 + e.length) ⟨[⟨1, [97], [([98], l)], [], 0⟩], [[97]], true⟩ = .inr ⟨[⟨1, [97], [([98], l)], [], 0⟩] ++ (if l = [] then [] else [⟨3, [], [], l, 8 + e.length⟩]), [[97]], true⟩ := by
    unfold between
    rw [if_neg (by simp)]
    by_cases h0 : l = []
    · rw [if_pos (hnil.2 h0), if_pos h0, List.append_nil]
    · rw [if_neg (fun q => h0 (hnil.1 q)), hr, if_neg (by simp), if_neg h0]
  rw [bw]
  simp only
  rw [if_neg (by simp), p2]
  simp only [pc2, show ([60, 47, 97, 62] : Txt).take 4 = [60, 47, 97, 62] from rfl, show ([60, 47, 97, 62] : Txt).drop 4 = [] from rfl]
  rw [thr]
  have bet : ∀ (k : List T) (a : Nat), between [] a ⟨k, [], true⟩ = .inr ⟨k, [], true⟩ := fun _ _ => rfl
  rw [show bef 60 ([] : Txt) = [] from rfl, show aft 60 ([] : Txt) = [] from rfl, bet]
  simp only
  rw [if_pos trivial, if_neg (by simp), show 8 + 2 * e.length = 8 + e.length + e.length by omega]
end Mk
end Go.Proofs.YthmhadgbhakdlaaDoor
