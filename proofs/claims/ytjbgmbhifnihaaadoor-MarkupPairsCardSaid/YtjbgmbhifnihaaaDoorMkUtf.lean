/- Right texts, as lists: a character is read from its own bytes alone. -/
import Derived.Test.YtjbgmbhifnihaaaDoorMkBack
namespace Go.Proofs.YtjbgmbhifnihaaaDoor
open Go.RowKit

namespace Mk
def nth (l : Txt) (k : Nat) : Nat := (l[k]?.getD 0).toNat
def dL (l : Txt) : Nat × Nat := Lib.decodeN l.length (nth l 0) (nth l 1) (nth l 2) (nth l 3)
theorem get_nth (s : ByteArray) (pos k : Nat) : (s.get! (pos + k)).toNat = nth ((tl s).drop pos) k := by
  unfold nth
  rw [List.getElem?_drop]
  by_cases h : pos + k < s.size
  · rw [Te.get_tl s _ h]; rfl
  · rw [List.getElem?_eq_none (by rw [tl_length]; omega)]
    have : s.get! (pos + k) = default := by
      show s.data[pos + k]! = default
      exact getElem!_neg _ _ h
    rw [this]
    rfl
theorem dec_dL (s : ByteArray) (pos : Nat) : Utf8.decode s pos = dL ((tl s).drop pos) := by
  have h0 := get_nth s pos 0
  rw [Nat.add_zero] at h0
  rw [Lib.decode_at, h0, get_nth, get_nth, get_nth]
  unfold dL
  rw [List.length_drop, tl_length]
set_option maxHeartbeats 2000000 in
theorem decN_local {n b0 b1 b2 b3 x k : Nat} (h : Lib.decodeN n b0 b1 b2 b3 = (x, k)) (hx : x ≠ 65533 ∨ k = 3) {n' c1 c2 c3 : Nat} (hn : k ≤ n') (h1 : 1 < k → c1 = b1) (h2 : 2 < k → c2 = b2) (h3 : 3 < k → c3 = b3) : Lib.decodeN n' b0 c1 c2 c3 = (x, k) := by
  unfold Lib.decodeN at h
  split at h
  · rename_i q; cases h; unfold Lib.decodeN; rw [if_pos q]
  · rename_i q0
    split at h
    · rename_i q1
      split at h
      · rename_i q2
        cases h
        have e1 := h1 (by omega)
        subst e1
        unfold Lib.decodeN
        rw [if_neg q0, if_pos ⟨q1.1, by omega, q1.2.2⟩, if_pos q2]
      · cases h; omega
    · rename_i q1
      split at h
      · rename_i q2
        split at h
        · rename_i q3
          cases h
          have e1 := h1 (by omega)
          have e2 := h2 (by omega)
          subst e1 e2
          unfold Lib.decodeN
          rw [if_neg q0, if_neg (by omega), if_pos ⟨q2.1, ⟨by omega, q2.2.1.2⟩, by omega, q2.2.2.2⟩, if_pos q3]
        · cases h; omega
      · rename_i q2
        split at h
        · rename_i q3
          split at h
          · rename_i q4
            cases h
            have e1 := h1 (by omega)
            have e2 := h2 (by omega)
            have e3 := h3 (by omega)
            subst e1 e2 e3
            unfold Lib.decodeN
            rw [if_neg q0, if_neg (by omega), if_neg (by omega), if_pos ⟨q3.1, ⟨by omega, q3.2.1.2⟩, ⟨by omega, q3.2.2.1.2⟩, by omega, q3.2.2.2.2⟩, if_pos q4]
          · cases h; omega
        · cases h; omega
end Mk
end Go.Proofs.YtjbgmbhifnihaaaDoor
