/- Plain texts: what utf.Plain and chart.Key tell, and what a key's letters are. -/
import Derived.Test.YthmhadgbhakdlaaGreatDoorK01
import Derived.Laws.RangeAny
import Derived.Lib.IndexAny
import Derived.Lib.DecodeN
import Derived.Lib.CutLaws

namespace Go.Proofs.YthmhadgbhakdlaaGreatDoor
open Go.RowKit

namespace Te
def wrongL : List UInt8 := [239, 191, 189]
/-- What stands at a place is told as wrong, and is no wrong sign itself. -/
def bad (s : ByteArray) (pos : Nat) : Bool := (Utf8.decode s pos).1 == 65533 && !(Lib.hasPrefix ((tl s).drop pos) wrongL)
def rightFrom (s : ByteArray) : Nat → Nat → Bool
  | 0, _ => true
  | f + 1, pos => if pos < s.size then !(bad s pos) && rightFrom s f (pos + (Utf8.decode s pos).2) else true
def low (c : Nat) : Bool := decide (c < 32) || c == 127
def plainFrom (s : ByteArray) : Nat → Nat → Bool
  | 0, _ => true
  | f + 1, pos => if pos < s.size then !(low (Utf8.decode s pos).1) && plainFrom s f (pos + (Utf8.decode s pos).2) else true
def right (s : ByteArray) : Bool := rightFrom s s.size 0
def plain (s : ByteArray) : Bool := right s && plainFrom s s.size 0
def signs : List UInt8 := [92, 91, 93, 34]
def key (s : ByteArray) : Bool :=
  decide (1 ≤ s.size) && decide (s.size ≤ 64) && plain s && !(Lib.containsAny (tl s) signs) && ((tl s).head? != some 32) && ((tl s).getLast? != some 32)

theorem rightFrom_end (s : ByteArray) (f pos : Nat) (h : ¬ pos < s.size) : rightFrom s f pos = true := by
  cases f with
  | zero => rfl
  | succ f => rw [rightFrom, if_neg h]
theorem plainFrom_end (s : ByteArray) (f pos : Nat) (h : ¬ pos < s.size) : plainFrom s f pos = true := by
  cases f with
  | zero => rfl
  | succ f => rw [plainFrom, if_neg h]
theorem width_pos (s : ByteArray) (pos : Nat) (h : pos < s.size) : 1 ≤ (Utf8.decode s pos).2 := by
  by_cases ha : (s[pos]'h).toNat < 128
  · rw [decode_ascii s pos h ha]
    exact Nat.le_refl _
  · exact (decode_high s pos h (by omega)).2
/-- The letters behind the first one of a sign are high. -/
theorem tail_high (s : ByteArray) (pos j : Nat) (h0 : 0 < j) (hj : j < (Utf8.decode s pos).2) : pos + j < s.size ∧ 128 ≤ (s.get! (pos + j)).toNat := by
  rw [Lib.decode_at] at hj
  unfold Lib.decodeN at hj
  have h1 := (s.get! (pos + 1)).toNat_lt
  have h2 := (s.get! (pos + 2)).toNat_lt
  have h3 := (s.get! (pos + 3)).toNat_lt
  have hj' : j = 1 ∨ j = 2 ∨ j = 3 ∨ 4 ≤ j := by omega
  repeat' split at hj
  all_goals simp only at hj
  all_goals first
    | (exfalso; omega)
    | (rcases hj' with rfl | rfl | rfl | h4 <;> first | (exfalso; omega) | (constructor <;> omega))
theorem get_tl (s : ByteArray) (k : Nat) (h : k < s.size) : (tl s)[k]? = some (s.get! k) := by
  have h1 : (tl s)[k]? = some s[k] := by
    unfold tl
    rw [Array.getElem?_toList, Array.getElem?_eq_getElem (by exact h)]
    rfl
  rw [h1]
  congr 1
  have := get_at s k h
  simpa using this.symm
theorem first_ascii (s : ByteArray) (pos : Nat) (h : pos < s.size) (ha : (s.get! pos).toNat < 128) : Utf8.decode s pos = ((s.get! pos).toNat, 1) := by
  have e : s.get! pos = s[pos]'h := by simpa using get_at s pos h
  rw [e] at ha ⊢
  exact decode_ascii s pos h ha
theorem first_high (s : ByteArray) (pos : Nat) (h : pos < s.size) (ha : 128 ≤ (s.get! pos).toNat) : 128 ≤ (Utf8.decode s pos).1 := by
  have e : s.get! pos = s[pos]'h := by simpa using get_at s pos h
  rw [e] at ha
  exact (decode_high s pos h ha).1
/-- A plain text has no low letter. -/
theorem plain_all (s : ByteArray) : ∀ (f pos : Nat), s.size ≤ pos + f → plainFrom s f pos = true → ∀ k, pos ≤ k → k < s.size → 32 ≤ (s.get! k).toNat
  | 0, pos, hf, _, k, h1, h2 => by omega
  | f + 1, pos, hf, hp, k, h1, h2 => by
    have hps : pos < s.size := by omega
    rw [plainFrom, if_pos hps, Bool.and_eq_true, Bool.not_eq_true'] at hp
    obtain ⟨hl, hr⟩ := hp
    have hw := width_pos s pos hps
    by_cases hk : k < pos + (Utf8.decode s pos).2
    · rcases Nat.eq_or_lt_of_le h1 with rfl | hlt
      · by_cases ha : (s.get! pos).toNat < 128
        · rw [first_ascii s pos hps ha] at hl
          unfold low at hl
          simp only [Bool.or_eq_false_iff, decide_eq_false_iff_not] at hl
          omega
        · omega
      · obtain ⟨_, h⟩ := tail_high s pos (k - pos) (by omega) (by omega)
        rw [show pos + (k - pos) = k from by omega] at h
        omega
    · exact plain_all s f _ (by omega) hr k (by omega) h2
theorem plain_tl (s : ByteArray) (h : plain s = true) : ∀ b ∈ tl s, 32 ≤ b.toNat := by
  unfold plain at h
  rw [Bool.and_eq_true] at h
  intro b hb
  obtain ⟨k, hk, rfl⟩ := List.mem_iff_getElem.1 hb
  have hks : k < s.size := by rw [tl_length] at hk; exact hk
  have h1 := get_tl s k hks
  rw [List.getElem?_eq_getElem hk] at h1
  rw [Option.some.inj h1]
  exact plain_all s s.size 0 (by omega) h.2 k (Nat.zero_le _) hks
theorem key_plain {s : ByteArray} (h : key s = true) : plain s = true := by
  unfold key at h
  simp only [Bool.and_eq_true] at h
  exact h.1.1.1.2
theorem key_letters {s : ByteArray} (h : key s = true) : ∀ b ∈ tl s, 32 ≤ b.toNat := plain_tl s (key_plain h)
theorem key_size {s : ByteArray} (h : key s = true) : 1 ≤ s.size ∧ s.size ≤ 64 := by
  unfold key at h
  simp only [Bool.and_eq_true, decide_eq_true_eq] at h
  exact ⟨h.1.1.1.1.1, h.1.1.1.1.2⟩
end Te
end Go.Proofs.YthmhadgbhakdlaaGreatDoor
