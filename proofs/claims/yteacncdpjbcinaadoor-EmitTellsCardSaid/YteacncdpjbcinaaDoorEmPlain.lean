/- A hive's texts, in plain words: quoted texts, bytes, numbers. -/
import Derived.Test.YteacncdpjbcinaaDoorHvKit
namespace Go.Proofs.YteacncdpjbcinaaDoor
open Go.RowKit

namespace Em
abbrev Txt := List UInt8
def bts (l : Txt) : ByteArray := ⟨l.toArray⟩
theorem bts_size (l : Txt) : (bts l).size = l.length := rfl
theorem tl_bts (l : Txt) : tl (bts l) = l := by simp [tl, bts]
theorem bts_tl (s : ByteArray) : bts (tl s) = s := rfl
def esc1 (b : UInt8) : Txt := if b = 92 ∨ b = 34 then [92, b] else [b]
def esc (l : Txt) : Txt := l.flatMap esc1
def quote (l : Txt) : Txt := 34 :: (esc l ++ [34])
def hexd (n : Nat) : UInt8 := if n < 10 then UInt8.ofNat (48 + n) else UInt8.ofNat (87 + n)
def hexb (b : UInt8) : Txt := [hexd (b.toNat / 16), hexd (b.toNat % 16)]
/-- Bytes as digits, parted by commas. -/
def hexs : Txt → Txt
  | [] => []
  | b :: r => hexb b ++ r.flatMap fun c => 44 :: hexb c
theorem hexs_snoc (l : Txt) (c : UInt8) : hexs (l ++ [c]) = hexs l ++ (if l = [] then hexb c else 44 :: hexb c) := by
  cases l with
  | nil => simp [hexs]
  | cons b r => simp [hexs, List.append_assoc]
theorem hexs_len : ∀ l : Txt, (hexs l).length ≤ 3 * l.length
  | [] => by simp [hexs]
  | b :: r => by
    have h : ∀ r : Txt, (r.flatMap fun c => 44 :: hexb c).length = 3 * r.length := by
      intro r
      induction r with
      | nil => rfl
      | cons c r ih => rw [List.flatMap_cons, List.length_append, ih, List.length_cons]; simp [hexb]; omega
    unfold hexs
    rw [List.length_append, h, List.length_cons]
    simp [hexb]
    omega
/-- As many as stand in a line at once. -/
def parts : Nat → Txt → List Txt
  | 0, _ => []
  | f + 1, l => if 20 < l.length then l.take 20 :: parts f (l.drop 20) else if l = [] then [] else [l]
def go : Txt := [44, 92, 10, 32, 32]
/-- The parts, joined: what is put ahead of each but the first. -/
def joined : List Txt → Txt
  | [] => []
  | p :: r => hexs p ++ r.flatMap fun q => go ++ hexs q
theorem joined_snoc (l : List Txt) (q : Txt) : joined (l ++ [q]) = joined l ++ (if l = [] then hexs q else go ++ hexs q) := by
  cases l with
  | nil => simp [joined]
  | cons b r => simp [joined, List.append_assoc]
theorem parts_le : ∀ (f : Nat) (l : Txt), ∀ p ∈ parts f l, p.length ≤ 20
  | 0, l, p, h => by simp [parts] at h
  | f + 1, l, p, h => by
    unfold parts at h
    split at h
    · rcases List.mem_cons.1 h with rfl | h
      · rw [List.length_take]; omega
      · exact parts_le f _ p h
    · split at h
      · cases h
      · rw [List.mem_singleton.1 h]; omega
theorem parts_n : ∀ (f : Nat) (l : Txt), (parts f l).length ≤ l.length
  | 0, l => by simp [parts]
  | f + 1, l => by
    unfold parts
    split
    · have := parts_n f (l.drop 20)
      rw [List.length_drop] at this
      rw [List.length_cons]
      omega
    · split
      · simp
      · rename_i h
        have : 0 < l.length := List.length_pos_iff.2 h
        simp
        omega
theorem joined_len (l : List Txt) (h : ∀ p ∈ l, p.length ≤ 20) : (joined l).length ≤ 65 * l.length := by
  cases l with
  | nil => simp [joined]
  | cons p r =>
    have h1 := hexs_len p
    have h2 := h p (by simp)
    have h3 : ∀ r : List Txt, (∀ p ∈ r, p.length ≤ 20) → (r.flatMap fun q => go ++ hexs q).length ≤ 65 * r.length := by
      intro r
      induction r with
      | nil => intro _; simp
      | cons c r ih =>
        intro hr
        rw [List.flatMap_cons, List.length_append, List.length_cons]
        have a1 := ih fun p hp => hr p (by simp [hp])
        have a2 := hexs_len c
        have a3 := hr c (by simp)
        have a4 : (go ++ hexs c).length = 5 + (hexs c).length := by rw [List.length_append]; rfl
        omega
    have h4 := h3 r fun p hp => h p (by simp [hp])
    unfold joined
    rw [List.length_append, List.length_cons]
    omega
def bytes (l : Txt) : Txt := joined (parts l.length l)
theorem bytes_len (l : Txt) : (bytes l).length ≤ 65 * l.length := by
  have h1 := joined_len _ (parts_le l.length l)
  have h2 := parts_n l.length l
  unfold bytes
  omega
theorem esc_len (l : Txt) : (esc l).length ≤ 2 * l.length := by
  unfold esc
  induction l with
  | nil => simp
  | cons b r ih =>
    rw [List.flatMap_cons, List.length_append, List.length_cons]
    have : (esc1 b).length ≤ 2 := by unfold esc1; split <;> simp
    omega
theorem quote_len (l : Txt) : (quote l).length ≤ 2 * l.length + 2 := by
  have := esc_len l
  unfold quote
  rw [List.length_cons, List.length_append]
  simp
  omega
theorem esc_snoc (l : Txt) (b : UInt8) : esc (l ++ [b]) = esc l ++ esc1 b := by unfold esc; rw [List.flatMap_append]; simp
/-- A number's digits, as they are made: from the last one on. -/
def digs : Nat → Nat → Txt → Txt
  | 0, n, acc => hexd n :: acc
  | f + 1, n, acc => if 16 ≤ n then digs f (n / 16) (hexd (n % 16) :: acc) else hexd n :: acc
theorem digs_len : ∀ (f n : Nat) (acc : Txt), (digs f n acc).length ≤ acc.length + f + 1
  | 0, n, acc => by simp [digs]
  | f + 1, n, acc => by
    unfold digs
    split
    · have := digs_len f (n / 16) (hexd (n % 16) :: acc)
      rw [List.length_cons] at this
      omega
    · rw [List.length_cons]; omega
def num (n : Nat) : Txt := List.replicate (8 - (digs 7 n []).length) 48 ++ digs 7 n []
theorem num_len (n : Nat) : (num n).length = 8 := by
  have h := digs_len 7 n []
  unfold num
  rw [List.length_append, List.length_replicate]
  simp at h
  omega
end Em
end Go.Proofs.YteacncdpjbcinaaDoor
