/- The document's way to write a number, and bytes: it is the program's. -/
import Derived.Test.YteacncdpjbcinaaDoorEeMath
import Derived.Test.YteacncdpjbcinaaDoorEmHex
namespace Go.Proofs.YteacncdpjbcinaaDoor
open Go.RowKit

namespace Em
theorem hexb_len (b : UInt8) : (hexb b).length = 2 := rfl
end Em
namespace R5
open Em
/-- A number's last k digits. -/
def ds : Nat → Nat → Txt
  | 0, _ => []
  | k + 1, n => ds k (n / 16) ++ [hexd (n % 16)]
theorem ds_len : ∀ k n, (ds k n).length = k
  | 0, _ => rfl
  | k + 1, n => by rw [ds, List.length_append, ds_len k]; rfl
theorem ds_zero : ∀ k, ds k 0 = List.replicate k 48
  | 0 => rfl
  | k + 1 => by rw [ds, Nat.zero_div, ds_zero k, List.replicate_succ']; rfl
theorem digs_acc : ∀ (f n : Nat) (acc : Txt), digs f n acc = digs f n [] ++ acc
  | 0, n, acc => rfl
  | f + 1, n, acc => by
    unfold digs
    split
    · rw [digs_acc f _ (_ :: acc), digs_acc f _ [_], List.append_assoc]; rfl
    · rfl
theorem digs_ds : ∀ (f n : Nat), n < 16 ^ (f + 1) → List.replicate (f + 1 - (digs f n []).length) 48 ++ digs f n [] = ds (f + 1) n ∧ (digs f n []).length ≤ f + 1
  | 0, n, h => by
    have : n % 16 = n := by omega
    refine ⟨?_, by simp [digs]⟩
    rw [ds, ds, this]
    rfl
  | f + 1, n, h => by
    unfold digs
    by_cases h16 : 16 ≤ n
    · rw [if_pos h16, digs_acc]
      have hq : n / 16 < 16 ^ (f + 1) := by
        rw [Nat.pow_succ] at h
        exact Nat.div_lt_of_lt_mul (by rw [Nat.mul_comm]; exact h)
      obtain ⟨h1, h2⟩ := digs_ds f (n / 16) hq
      rw [List.length_append]
      simp only [List.length_cons, List.length_nil]
      refine ⟨?_, by omega⟩
      rw [show f + 1 + 1 - ((digs f (n / 16) []).length + (0 + 1)) = f + 1 - (digs f (n / 16) []).length by omega, ← List.append_assoc, h1]
      rfl
    · rw [if_neg h16]
      refine ⟨?_, by simp⟩
      show List.replicate (f + 1 + 1 - 1) 48 ++ [hexd n] = ds (f + 1) (n / 16) ++ [hexd (n % 16)]
      rw [show n / 16 = 0 by omega, show n % 16 = n by omega, ds_zero]
      rfl
theorem num_ds (n : Nat) (h : n < 4294967296) : num n = ds 8 n := (digs_ds 7 n h).1
theorem ds_next (n j : Nat) (h : j < 8) : ds (j + 1) (n / 16 ^ (7 - j)) = ds j (n / 16 ^ (8 - j)) ++ [hexd (n / 16 ^ (7 - j) % 16)] := by
  rw [ds, Nat.div_div_eq_div_mul, ← Nat.pow_succ, show (7 - j).succ = 8 - j by omega]
/-- One digit, cut out of all. -/
theorem dig_cut (d : Nat) (h : d < 16) : dg16.extract d (d + 1) = bts [hexd d] := by
  have : ∀ k : Fin 16, dg16.extract k.val (k.val + 1) = bts [hexd k.val] := by
    intro k
    apply ByteArray.ext
    revert k
    decide +kernel
  exact this ⟨d, h⟩
theorem byte_cut (s : ByteArray) (k : Nat) (h : k < s.size) : s.extract k (k + 1) = bts [s[k]] := by
  apply ByteArray.ext
  apply Array.toList_inj.1
  rw [ByteArray.data_extract, Array.toList_extract]
  have hl : k < s.data.toList.length := by rw [Array.length_toList]; exact h
  simp only [List.extract, Nat.add_sub_cancel_left]
  rw [List.drop_eq_getElem_cons hl, List.take_succ_cons, List.take_zero]
  rfl
/-- What stands ahead of a byte's digits. -/
def sepx (i : Nat) : Txt := if i = 0 then [] else if i % 20 = 0 then go else [44]
def bx : Nat → Txt → Txt
  | _, [] => []
  | i, b :: r => sepx i ++ (hexb b ++ bx (i + 1) r)
theorem bx_app : ∀ (a b : Txt) (i : Nat), bx i (a ++ b) = bx i a ++ bx (i + a.length) b
  | [], b, i => by simp [bx]
  | x :: a, b, i => by
    rw [List.cons_append, bx, bx, bx_app a b (i + 1), List.length_cons]
    simp only [List.append_assoc]
    rw [show i + 1 + a.length = i + (a.length + 1) by omega]
theorem bx_in : ∀ (r : Txt) (i : Nat), 1 ≤ i % 20 → i % 20 + r.length ≤ 20 → bx i r = r.flatMap fun c => 44 :: hexb c
  | [], i, _, _ => rfl
  | b :: r, i, h1, h2 => by
    rw [List.length_cons] at h2
    have hs : sepx i = [44] := by unfold sepx; rw [if_neg (by omega), if_neg (by omega)]
    rw [bx, hs, List.flatMap_cons]
    cases r with
    | nil => rfl
    | cons c r =>
      rw [List.length_cons] at h2
      rw [bx_in (c :: r) (i + 1) (by omega) (by rw [List.length_cons]; omega)]
      rfl
theorem bx_block (l : Txt) (i : Nat) (h : i % 20 = 0) (hl : l.length ≤ 20) (hne : l ≠ []) : bx i l = sepx i ++ hexs l := by
  cases l with
  | nil => exact absurd rfl hne
  | cons b r =>
    rw [List.length_cons] at hl
    rw [bx, hexs]
    cases r with
    | nil => simp [bx]
    | cons c r => rw [bx_in (c :: r) (i + 1) (by omega) (by omega)]
theorem bx_parts : ∀ (f : Nat) (l : Txt) (i : Nat), l.length ≤ f → i % 20 = 0 → bx i l = if i = 0 then joined (parts f l) else (parts f l).flatMap fun q => go ++ hexs q
  | 0, l, i, h, _ => by
    have : l = [] := List.eq_nil_of_length_eq_zero (by omega)
    subst this
    unfold bx parts
    split <;> rfl
  | f + 1, l, i, h, hi => by
    unfold parts
    by_cases h20 : 20 < l.length
    · rw [if_pos h20]
      have ht : (l.take 20).length = 20 := by rw [List.length_take]; omega
      have hd : (l.drop 20).length ≤ f := by rw [List.length_drop]; omega
      have e : bx i l = bx i (l.take 20) ++ bx (i + 20) (l.drop 20) := by
        have := bx_app (l.take 20) (l.drop 20) i
        rw [List.take_append_drop, ht] at this
        exact this
      rw [e, bx_block _ i hi (by omega) (fun q => by rw [q] at ht; cases ht), bx_parts f (l.drop 20) (i + 20) hd (by omega), if_neg (by omega)]
      by_cases h0 : i = 0
      · subst h0
        rw [if_pos rfl]
        rfl
      · rw [if_neg h0, List.flatMap_cons]
        unfold sepx
        rw [if_neg h0, if_pos hi]
    · rw [if_neg h20]
      by_cases hn : l = []
      · rw [if_pos hn, hn]
        unfold bx
        split <;> rfl
      · rw [if_neg hn, bx_block l i hi (by omega) hn]
        by_cases h0 : i = 0
        · subst h0
          rw [if_pos rfl]
          show sepx 0 ++ hexs l = hexs l ++ _
          simp [sepx]
        · rw [if_neg h0]
          unfold sepx
          rw [if_neg h0, if_pos hi]
          simp
theorem bx_bytes (l : Txt) : bx 0 l = Em.bytes l := by
  rw [bx_parts l.length l 0 (Nat.le_refl _) rfl, if_pos rfl]
  rfl
theorem bx_next (l : Txt) (k : Nat) (b : UInt8) (h : l[k]? = some b) : bx 0 (l.take (k + 1)) = bx 0 (l.take k) ++ (sepx k ++ hexb b) := by
  have hk : k < l.length := (List.getElem?_eq_some_iff.1 h).1
  rw [Hv.take_next h, bx_app, List.length_take, Nat.zero_add, Nat.min_eq_left (by omega)]
  simp [bx]
theorem bx_len (l : Txt) (k : Nat) : (bx 0 (l.take k)).length ≤ 65 * l.length := by
  rw [bx_bytes]
  have := bytes_len (l.take k)
  rw [List.length_take] at this
  omega
def pw (j : Nat) : Int := match j with | 0 => 268435456 | 1 => 16777216 | 2 => 1048576 | 3 => 65536 | 4 => 4096 | 5 => 256 | 6 => 16 | _ => 1
theorem sh (n j q : Nat) (hj : j < 8) (h : n / 16 ^ (7 - j) = q) : (n : Int) / pw j = (q : Int) := by
  rcases (by omega : j = 0 ∨ j = 1 ∨ j = 2 ∨ j = 3 ∨ j = 4 ∨ j = 5 ∨ j = 6 ∨ j = 7) with rfl | rfl | rfl | rfl | rfl | rfl | rfl | rfl
  · rw [show 16 ^ (7 - 0) = 268435456 by decide] at h; unfold pw; simp only; omega
  · rw [show 16 ^ (7 - 1) = 16777216 by decide] at h; unfold pw; simp only; omega
  · rw [show 16 ^ (7 - 2) = 1048576 by decide] at h; unfold pw; simp only; omega
  · rw [show 16 ^ (7 - 3) = 65536 by decide] at h; unfold pw; simp only; omega
  · rw [show 16 ^ (7 - 4) = 4096 by decide] at h; unfold pw; simp only; omega
  · rw [show 16 ^ (7 - 5) = 256 by decide] at h; unfold pw; simp only; omega
  · rw [show 16 ^ (7 - 6) = 16 by decide] at h; unfold pw; simp only; omega
  · rw [show 16 ^ (7 - 7) = 1 by decide] at h; unfold pw; simp only; omega
theorem add_bts (a b : Txt) (h : a.length + b.length ≤ 9000000000000000000) (W : World) : (Op.stringOp .add (bts a) (bts b)).run Tryd.prog W = .ok (.string (bts (a ++ b))) W := by
  rw [← Ee.bts_app]
  exact run_string_add_sum W _ _ (by rw [bts_size, bts_size]; omega)
end R5
end Go.Proofs.YteacncdpjbcinaaDoor
