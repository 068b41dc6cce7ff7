/- The document's way to read a character: what it finds is what a range over the text finds. -/
import Derived.Test.YteacncdpjbcinaaDoorTeMath
namespace Go.Proofs.YteacncdpjbcinaaDoor
open Go.RowKit

namespace R3
/-- At this place no character stands. -/
def err (s : ByteArray) (pos : Nat) : Bool := decide (Utf8.decode s pos = (65533, 1))
/-- A character's bytes. -/
def encN (c : Nat) : List Nat :=
  if c < 128 then [c] else if c < 2048 then [192 + c / 64, 128 + c % 64] else if c < 65536 then [224 + c / 4096, 128 + c / 64 % 64, 128 + c % 64]
  else [240 + c / 262144, 128 + c / 4096 % 64, 128 + c / 64 % 64, 128 + c % 64]
def enc (c : Nat) : List UInt8 := (encN c).map UInt8.ofNat
def okc (c : Nat) : Bool := decide (c ≤ 1114111) && !(decide (55296 ≤ c) && decide (c ≤ 57343))
theorem encN_byte {c : Nat} (h : c ≤ 1114111) : ∀ b ∈ encN c, b < 256 := by
  intro b hb
  unfold encN at hb
  split at hb
  · rw [List.mem_singleton.1 hb]; omega
  · split at hb
    · simp only [List.mem_cons, List.not_mem_nil, or_false] at hb
      omega
    · split at hb
      · simp only [List.mem_cons, List.not_mem_nil, or_false] at hb
        omega
      · simp only [List.mem_cons, List.not_mem_nil, or_false] at hb
        omega
/-- What the first byte tells: how many bytes there are, and what it counts. -/
def lead (b : Nat) : Nat × Nat := if 240 ≤ b then (4, b - 240) else if 224 ≤ b then (3, b - 224) else if 192 ≤ b then (2, b - 192) else (1, b)
/-- What has been read behind j bytes more. -/
def cb (s : ByteArray) (c0 : Nat) : Nat → Nat
  | 0 => c0
  | j + 1 => 64 * cb s c0 j + (s.get! (j + 1)).toNat % 64
theorem cb_le (s : ByteArray) (c0 : Nat) (h : c0 ≤ 255) : cb s c0 0 ≤ 255 ∧ cb s c0 1 ≤ 16383 ∧ cb s c0 2 ≤ 1048575 ∧ cb s c0 3 ≤ 67108863 := by
  simp only [cb]
  omega
def frs (s : ByteArray) : Nat × Nat :=
  if s.size < (lead (s.get! 0).toNat).1 then (0, 0)
  else if okc (cb s (lead (s.get! 0).toNat).2 ((lead (s.get! 0).toNat).1 - 1)) = true ∧ encN (cb s (lead (s.get! 0).toNat).2 ((lead (s.get! 0).toNat).1 - 1)) = (List.range (lead (s.get! 0).toNat).1).map (fun i => (s.get! i).toNat)
    then (cb s (lead (s.get! 0).toNat).2 ((lead (s.get! 0).toNat).1 - 1), (lead (s.get! 0).toNat).1) else (0, 0)
theorem okc_iff (c : Nat) : okc c = true ↔ c ≤ 1114111 ∧ (c < 55296 ∨ 57343 < c) := by
  unfold okc
  simp only [Bool.and_eq_true, Bool.not_eq_true', Bool.and_eq_false_iff, decide_eq_true_eq, decide_eq_false_iff_not]
  omega
set_option maxHeartbeats 4000000 in
set_option maxRecDepth 100000 in
theorem frs_N (n b0 b1 b2 b3 : Nat) (h0 : b0 < 256) :
    (b0 < 128 → Lib.decodeN n b0 b1 b2 b3 = (b0, 1)) ∧
    (128 ≤ b0 → b0 < 192 → Lib.decodeN n b0 b1 b2 b3 = (65533, 1)) ∧
    (192 ≤ b0 → b0 < 224 → Lib.decodeN n b0 b1 b2 b3 = if 1 < n ∧ b1 / 64 = 2 ∧ 128 ≤ 64 * (b0 - 192) + b1 % 64 then (64 * (b0 - 192) + b1 % 64, 2) else (65533, 1)) ∧
    (224 ≤ b0 → b0 < 240 → Lib.decodeN n b0 b1 b2 b3 = if 2 < n ∧ b1 / 64 = 2 ∧ b2 / 64 = 2 ∧ 2048 ≤ 64 * (64 * (b0 - 224) + b1 % 64) + b2 % 64 ∧ (64 * (64 * (b0 - 224) + b1 % 64) + b2 % 64 < 55296 ∨ 57344 ≤ 64 * (64 * (b0 - 224) + b1 % 64) + b2 % 64) then (64 * (64 * (b0 - 224) + b1 % 64) + b2 % 64, 3) else (65533, 1)) ∧
    (240 ≤ b0 → Lib.decodeN n b0 b1 b2 b3 = if 3 < n ∧ b1 / 64 = 2 ∧ b2 / 64 = 2 ∧ b3 / 64 = 2 ∧ 65536 ≤ 64 * (64 * (64 * (b0 - 240) + b1 % 64) + b2 % 64) + b3 % 64 ∧ 64 * (64 * (64 * (b0 - 240) + b1 % 64) + b2 % 64) + b3 % 64 ≤ 1114111 then (64 * (64 * (64 * (b0 - 240) + b1 % 64) + b2 % 64) + b3 % 64, 4) else (65533, 1)) := by
  refine ⟨fun h => ?_, fun h h' => ?_, fun h h' => ?_, fun h h' => ?_, fun h => ?_⟩
  all_goals
    unfold Lib.decodeN
    repeat' split
  all_goals first | rfl | (exfalso; omega) | (apply Prod.ext <;> simp only <;> omega)
theorem encN_1 {c : Nat} (h : c < 128) : encN c = [c] := by unfold encN; rw [if_pos h]
theorem encN_2 {c : Nat} (h1 : 128 ≤ c) (h : c < 2048) : encN c = [192 + c / 64, 128 + c % 64] := by unfold encN; rw [if_neg (by omega), if_pos h]
theorem encN_3 {c : Nat} (h1 : 2048 ≤ c) (h : c < 65536) : encN c = [224 + c / 4096, 128 + c / 64 % 64, 128 + c % 64] := by unfold encN; rw [if_neg (by omega), if_neg (by omega), if_pos h]
theorem encN_4 {c : Nat} (h1 : 65536 ≤ c) : encN c = [240 + c / 262144, 128 + c / 4096 % 64, 128 + c / 64 % 64, 128 + c % 64] := by unfold encN; rw [if_neg (by omega), if_neg (by omega), if_neg (by omega)]
theorem frs_law (s : ByteArray) (h : 0 < s.size) : frs s = if err s 0 = true then (0, 0) else Utf8.decode s 0 := by
  have hd := Lib.decode_at s 0
  rw [Nat.sub_zero] at hd
  simp only [Nat.zero_add] at hd
  have hE : ∀ r : Nat × Nat, Utf8.decode s 0 = r → (if err s 0 = true then (0, 0) else Utf8.decode s 0) = if r = (65533, 1) then (0, 0) else r := by
    intro r hr
    unfold err
    rw [hr]
    by_cases he : r = (65533, 1)
    · rw [if_pos he, if_pos (decide_eq_true he)]
    · rw [if_neg he, if_neg (by rw [decide_eq_false he]; decide)]
  have l0 := (s.get! 0).toNat_lt
  have l1 := (s.get! 1).toNat_lt
  have l2 := (s.get! 2).toNat_lt
  have l3 := (s.get! 3).toNat_lt
  obtain ⟨k1, k2, k3, k4, k5⟩ := frs_N s.size (s.get! 0).toNat (s.get! 1).toNat (s.get! 2).toNat (s.get! 3).toNat l0
  obtain ⟨b0, e0⟩ : ∃ b, (s.get! 0).toNat = b := ⟨_, rfl⟩
  obtain ⟨b1, e1⟩ : ∃ b, (s.get! 1).toNat = b := ⟨_, rfl⟩
  obtain ⟨b2, e2⟩ : ∃ b, (s.get! 2).toNat = b := ⟨_, rfl⟩
  obtain ⟨b3, e3⟩ : ∃ b, (s.get! 3).toNat = b := ⟨_, rfl⟩
  have r1 : (List.range 1).map (fun i => (s.get! i).toNat) = [b0] := by rw [← e0]; rfl
  have r2 : (List.range 2).map (fun i => (s.get! i).toNat) = [b0, b1] := by rw [← e0, ← e1]; rfl
  have r3 : (List.range 3).map (fun i => (s.get! i).toNat) = [b0, b1, b2] := by rw [← e0, ← e1, ← e2]; rfl
  have r4 : (List.range 4).map (fun i => (s.get! i).toNat) = [b0, b1, b2, b3] := by rw [← e0, ← e1, ← e2, ← e3]; rfl
  have c1 : ∀ c0, cb s c0 1 = 64 * c0 + b1 % 64 := fun c0 => by simp only [cb, Nat.zero_add, e1]
  have c2 : ∀ c0, cb s c0 2 = 64 * (64 * c0 + b1 % 64) + b2 % 64 := fun c0 => by simp only [cb, Nat.zero_add, e1]; rw [show (1 + 1 : Nat) = 2 from rfl, e2]
  have c3 : ∀ c0, cb s c0 3 = 64 * (64 * (64 * c0 + b1 % 64) + b2 % 64) + b3 % 64 := fun c0 => by simp only [cb, Nat.zero_add, e1]; rw [show (1 + 1 : Nat) = 2 from rfl, e2, show (2 + 1 : Nat) = 3 from rfl, e3]
  rw [e0, e1, e2, e3] at hd k1 k2 k3 k4 k5
  rw [e0] at l0
  rw [e1] at l1
  rw [e2] at l2
  rw [e3] at l3
  unfold frs
  rw [e0]
  rcases (by omega : b0 < 128 ∨ (128 ≤ b0 ∧ b0 < 192) ∨ (192 ≤ b0 ∧ b0 < 224) ∨ (224 ≤ b0 ∧ b0 < 240) ∨ 240 ≤ b0) with q | ⟨q, q'⟩ | ⟨q, q'⟩ | ⟨q, q'⟩ | q
  · rw [k1 q] at hd
    rw [hE _ hd]
    have hl : lead b0 = (1, b0) := by unfold lead; rw [if_neg (by omega), if_neg (by omega), if_neg (by omega)]
    rw [hl]
    simp only [Nat.sub_self, r1, cb]
    rw [if_neg (by omega), if_pos ⟨(okc_iff _).2 (by omega), encN_1 q⟩, if_neg (by simp; omega)]
  · rw [k2 q q'] at hd
    rw [hE _ hd, if_pos rfl]
    have hl : lead b0 = (1, b0) := by unfold lead; rw [if_neg (by omega), if_neg (by omega), if_neg (by omega)]
    rw [hl]
    simp only [Nat.sub_self, r1, cb]
    rw [if_neg (by omega), if_neg (by rw [encN_2 q (by omega)]; simp)]
  · rw [k3 q q'] at hd
    rw [hE _ hd]
    have hl : lead b0 = (2, b0 - 192) := by unfold lead; rw [if_neg (by omega), if_neg (by omega), if_pos (by omega)]
    rw [hl]
    simp only [show 2 - 1 = 1 from rfl, r2, c1]
    by_cases hn : s.size < 2
    · rw [if_pos hn, if_neg (show ¬ (1 < s.size ∧ _) from fun q => by omega), if_pos rfl]
    · rw [if_neg hn]
      by_cases hv : 1 < s.size ∧ b1 / 64 = 2 ∧ 128 ≤ 64 * (b0 - 192) + b1 % 64
      · rw [if_pos hv, if_pos ⟨(okc_iff _).2 (by omega), by rw [encN_2 hv.2.2 (by omega)]; simp only [List.cons.injEq, and_true]; omega⟩, if_neg (by simp)]
      · rw [if_neg hv, if_pos rfl, if_neg]
        rintro ⟨_, he⟩
        by_cases hs : 64 * (b0 - 192) + b1 % 64 < 128
        · rw [encN_1 hs] at he
          simp at he
        · rw [encN_2 (by omega) (by omega)] at he
          simp only [List.cons.injEq, and_true] at he
          omega
  · rw [k4 q q'] at hd
    rw [hE _ hd]
    have hl : lead b0 = (3, b0 - 224) := by unfold lead; rw [if_neg (by omega), if_pos (by omega)]
    rw [hl]
    simp only [show 3 - 1 = 2 from rfl, r3, c2]
    obtain ⟨cc, hcc⟩ : ∃ c, 64 * (64 * (b0 - 224) + b1 % 64) + b2 % 64 = c := ⟨_, rfl⟩
    rw [hcc]
    by_cases hn : s.size < 3
    · rw [if_pos hn, if_neg (show ¬ (2 < s.size ∧ _) from fun q => by omega), if_pos rfl]
    · rw [if_neg hn]
      by_cases hv : 2 < s.size ∧ b1 / 64 = 2 ∧ b2 / 64 = 2 ∧ 2048 ≤ cc ∧ (cc < 55296 ∨ 57344 ≤ cc)
      · rw [if_pos hv, if_pos ⟨(okc_iff _).2 (by omega), by rw [encN_3 hv.2.2.2.1 (by omega)]; simp only [List.cons.injEq, and_true]; omega⟩, if_neg (by simp)]
      · rw [if_neg hv, if_pos rfl, if_neg]
        rintro ⟨hk, he⟩
        rw [okc_iff] at hk
        by_cases hs : cc < 128
        · rw [encN_1 hs] at he
          simp at he
        · by_cases hs2 : cc < 2048
          · rw [encN_2 (by omega) hs2] at he
            simp at he
          · rw [encN_3 (by omega) (by omega)] at he
            simp only [List.cons.injEq, and_true] at he
            omega
  · rw [k5 q] at hd
    rw [hE _ hd]
    have hl : lead b0 = (4, b0 - 240) := by unfold lead; rw [if_pos q]
    rw [hl]
    simp only [show 4 - 1 = 3 from rfl, r4, c3]
    obtain ⟨cc, hcc⟩ : ∃ c, 64 * (64 * (64 * (b0 - 240) + b1 % 64) + b2 % 64) + b3 % 64 = c := ⟨_, rfl⟩
    rw [hcc]
    by_cases hn : s.size < 4
    · rw [if_pos hn, if_neg (show ¬ (3 < s.size ∧ _) from fun q => by omega), if_pos rfl]
    · rw [if_neg hn]
      by_cases hv : 3 < s.size ∧ b1 / 64 = 2 ∧ b2 / 64 = 2 ∧ b3 / 64 = 2 ∧ 65536 ≤ cc ∧ cc ≤ 1114111
      · rw [if_pos hv, if_pos ⟨(okc_iff _).2 (by omega), by rw [encN_4 hv.2.2.2.2.1]; simp only [List.cons.injEq, and_true]; omega⟩, if_neg (by simp)]
      · rw [if_neg hv, if_pos rfl, if_neg]
        rintro ⟨hk, he⟩
        rw [okc_iff] at hk
        by_cases hs : cc < 128
        · rw [encN_1 hs] at he
          simp at he
        · by_cases hs2 : cc < 2048
          · rw [encN_2 (by omega) hs2] at he
            simp at he
          · by_cases hs3 : cc < 65536
            · rw [encN_3 (by omega) hs3] at he
              simp at he
            · rw [encN_4 (by omega)] at he
              simp only [List.cons.injEq, and_true] at he
              omega
theorem get_sub (s : ByteArray) (pos i : Nat) (h : pos ≤ s.size) : (s.extract pos s.size).get! i = s.get! (pos + i) := by
  show (s.extract pos s.size).data[i]! = s.data[pos + i]!
  rw [ByteArray.data_extract]
  have hs : s.data.size = s.size := rfl
  rw [getElem!_def, getElem!_def, Array.getElem?_extract, hs, Nat.min_self]
  by_cases hi : i < s.size - pos
  · rw [if_pos hi]
  · rw [if_neg hi, Array.getElem?_eq_none (by rw [hs]; omega)]
theorem decode_sub (s : ByteArray) (pos : Nat) (h : pos ≤ s.size) : Utf8.decode (s.extract pos s.size) 0 = Utf8.decode s pos := by
  rw [Lib.decode_at, Lib.decode_at, get_sub s pos _ h, get_sub s pos _ h, get_sub s pos _ h, get_sub s pos _ h, ByteArray.size_extract]
  simp only [Nat.zero_add, Nat.add_zero, Nat.min_self, Nat.sub_zero]
theorem err_sub (s : ByteArray) (pos : Nat) (h : pos ≤ s.size) : err (s.extract pos s.size) 0 = err s pos := by unfold err; rw [decode_sub s pos h]
theorem width_le (s : ByteArray) (pos : Nat) (h : pos < s.size) : pos + (Utf8.decode s pos).2 ≤ s.size := by
  rw [Lib.decode_at]
  unfold Lib.decodeN
  repeat' split
  all_goals (simp only; omega)
theorem wrong_iff (s : ByteArray) (pos : Nat) : Lib.hasPrefix ((tl s).drop pos) Te.wrongL = true ↔ pos + 2 < s.size ∧ (s.get! pos).toNat = 239 ∧ (s.get! (pos + 1)).toNat = 191 ∧ (s.get! (pos + 2)).toNat = 189 := by
  have hl := tl_length s
  unfold Te.wrongL Lib.hasPrefix
  rw [List.isPrefixOf_iff_prefix, List.prefix_iff_eq_take]
  simp only [List.length_cons, List.length_nil, Nat.zero_add, Nat.reduceAdd]
  constructor
  · intro h
    have h3 : ((tl s).drop pos).length ≥ 3 := by
      have := congrArg List.length h
      simp only [List.length_cons, List.length_nil, List.length_take] at this
      omega
    rw [List.length_drop, hl] at h3
    have e : ∀ i, i < 3 → ([239, 191, 189] : List UInt8)[i]? = some (s.get! (pos + i)) := by
      intro i hi
      rw [h, List.getElem?_take_of_lt hi, List.getElem?_drop, Te.get_tl s (pos + i) (by omega)]
    have e0 := e 0 (by omega)
    have e1 := e 1 (by omega)
    have e2 := e 2 (by omega)
    simp only [List.getElem?_cons_zero, List.getElem?_cons_succ, Option.some.injEq, Nat.add_zero] at e0 e1 e2
    refine ⟨by omega, ?_, ?_, ?_⟩
    · rw [← e0]; rfl
    · rw [← e1]; rfl
    · rw [← e2]; rfl
  · rintro ⟨h0, h1, h2, h3⟩
    apply List.ext_getElem?
    intro i
    by_cases hi : i < 3
    · rw [List.getElem?_take_of_lt hi, List.getElem?_drop, Te.get_tl s (pos + i) (by omega)]
      rcases (by omega : i = 0 ∨ i = 1 ∨ i = 2) with rfl | rfl | rfl
      · simp only [List.getElem?_cons_zero, Nat.add_zero, Option.some.injEq]
        apply UInt8.toNat_inj.1
        rw [h1]; rfl
      · simp only [List.getElem?_cons_zero, List.getElem?_cons_succ, Option.some.injEq]
        apply UInt8.toNat_inj.1
        rw [h2]; rfl
      · simp only [List.getElem?_cons_zero, List.getElem?_cons_succ, Option.some.injEq]
        apply UInt8.toNat_inj.1
        rw [h3]; rfl
    · rw [List.getElem?_eq_none (by simp; omega), List.getElem?_eq_none (by rw [List.length_take]; omega)]
theorem bad_err (s : ByteArray) (pos : Nat) (h : pos < s.size) : Te.bad s pos = err s pos := by
  have hd := Lib.decode_at s pos
  have hw := wrong_iff s pos
  have l0 := (s.get! pos).toNat_lt
  have l1 := (s.get! (pos + 1)).toNat_lt
  have l2 := (s.get! (pos + 2)).toNat_lt
  obtain ⟨k1, k2, k3, k4, k5⟩ := frs_N (s.size - pos) (s.get! pos).toNat (s.get! (pos + 1)).toNat (s.get! (pos + 2)).toNat (s.get! (pos + 3)).toNat l0
  obtain ⟨b0, e0⟩ : ∃ b, (s.get! pos).toNat = b := ⟨_, rfl⟩
  obtain ⟨b1, e1⟩ : ∃ b, (s.get! (pos + 1)).toNat = b := ⟨_, rfl⟩
  obtain ⟨b2, e2⟩ : ∃ b, (s.get! (pos + 2)).toNat = b := ⟨_, rfl⟩
  obtain ⟨b3, e3⟩ : ∃ b, (s.get! (pos + 3)).toNat = b := ⟨_, rfl⟩
  rw [e0, e1, e2] at hw
  rw [e0, e1, e2, e3] at hd k1 k2 k3 k4 k5
  rw [e0] at l0
  rw [e1] at l1
  rw [e2] at l2
  obtain ⟨P, hP⟩ : ∃ P, Lib.hasPrefix ((tl s).drop pos) Te.wrongL = P := ⟨_, rfl⟩
  unfold Te.bad err
  rw [hP] at hw ⊢
  have key : ∀ r : Nat × Nat, Utf8.decode s pos = r → (P = true → r ≠ (65533, 1)) → (P = false → r.1 = 65533 → r = (65533, 1)) → ((Utf8.decode s pos).1 == 65533 && !P) = decide (Utf8.decode s pos = (65533, 1)) := by
    intro r hr a b
    rw [hr]
    cases P with
    | true => rw [decide_eq_false (a rfl)]; simp
    | false =>
      by_cases h1 : r.1 = 65533
      · rw [decide_eq_true (b rfl h1), h1]; rfl
      · rw [decide_eq_false (fun e => h1 (by rw [e]))]; simpa using h1
  rcases (by omega : b0 < 128 ∨ (128 ≤ b0 ∧ b0 < 192) ∨ (192 ≤ b0 ∧ b0 < 224) ∨ (224 ≤ b0 ∧ b0 < 240) ∨ 240 ≤ b0) with q | ⟨q, q'⟩ | ⟨q, q'⟩ | ⟨q, q'⟩ | q
  · refine key _ (hd.trans (k1 q)) (fun hp => ?_) (fun _ h1 => ?_)
    · have := hw.1 hp; omega
    · simp only at h1; omega
  · refine key _ (hd.trans (k2 q q')) (fun hp => ?_) (fun _ h1 => rfl)
    have := hw.1 hp; omega
  · refine key _ (hd.trans (k3 q q')) (fun hp => ?_) (fun _ h1 => ?_)
    · have := hw.1 hp; omega
    · split at h1
      · simp only at h1; omega
      · rename_i hn; rw [if_neg hn]
  · refine key _ (hd.trans (k4 q q')) (fun hp => ?_) (fun hp h1 => ?_)
    · have := hw.1 hp
      rw [if_pos (by omega)]
      simp
    · split at h1
      · rename_i hc
        exfalso
        simp only at h1
        have := hw.2 (by omega)
        rw [hp] at this
        cases this
      · rename_i hn; rw [if_neg hn]
  · refine key _ (hd.trans (k5 q)) (fun hp => ?_) (fun _ h1 => ?_)
    · have := hw.1 hp; omega
    · split at h1
      · simp only at h1; omega
      · rename_i hn; rw [if_neg hn]
/-- A text's characters. -/
def runes (s : ByteArray) : Nat → Nat → List Nat
  | 0, _ => []
  | f + 1, pos => if pos < s.size then (Utf8.decode s pos).1 :: runes s f (pos + (Utf8.decode s pos).2) else []
theorem plain_all (s : ByteArray) : ∀ f pos, Te.plainFrom s f pos = (runes s f pos).all fun c => !(Te.low c)
  | 0, pos => rfl
  | f + 1, pos => by
    unfold Te.plainFrom runes
    split
    · rw [List.all_cons, plain_all s f]
    · rfl
theorem runes_len (s : ByteArray) : ∀ f pos, (runes s f pos).length ≤ f
  | 0, pos => by simp [runes]
  | f + 1, pos => by
    unfold runes
    split
    · have := runes_len s f (pos + (Utf8.decode s pos).2)
      rw [List.length_cons]; omega
    · simp
end R3
end Go.Proofs.YteacncdpjbcinaaDoor
