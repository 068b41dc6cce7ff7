/- Contracts of package clock in plain form. -/
import Derived.Test.YtokimlfbfbfenaaDoorClockText
namespace Go.Proofs.YtokimlfbfbfenaaDoor
open Go.RowKit

namespace Ck
def dec3 (n : Int) : List UInt8 := if n < 10 then [UInt8.ofNat (48 + n.toNat)] else if n < 100 then [UInt8.ofNat (48 + n.toNat / 10), UInt8.ofNat (48 + n.toNat % 10)] else [UInt8.ofNat (48 + n.toNat / 10 / 10), UInt8.ofNat (48 + n.toNat / 10 % 10), UInt8.ofNat (48 + n.toNat % 10)]
def body' (a : Int) : List UInt8 := dec3 (a / 3600) ++ two (a % 3600 / 60) ++ (if 0 < a % 3600 % 60 then two (a % 3600 % 60) else [])
def text' (s : Int) : List UInt8 := if IsTime s then sign s ++ body' (if s < 0 then -s else s) else []
end Ck
theorem itoa_dec3 (n : Int) (h0 : 0 ≤ n) (h1 : n < 1000) : Lib.itoa n = Ck.dec3 n := by
  unfold Lib.itoa Ck.dec3
  rw [if_neg (by omega)]
  unfold Lib.decDigits
  by_cases a : n < 10
  · rw [dif_pos (by omega), if_pos a]
  · rw [dif_neg (by omega), if_neg a]
    unfold Lib.decDigits
    by_cases b : n < 100
    · rw [dif_pos (by omega), if_pos b]; rfl
    · rw [dif_neg (by omega), if_neg b]
      unfold Lib.decDigits
      rw [dif_pos (by omega)]; rfl
theorem text_eq (s : Int) : Ck.text s = Ck.text' s := by
  unfold Ck.text Ck.text'
  by_cases h : IsTime s
  · rw [if_pos h, if_pos h]
    have hb : 0 ≤ (if s < 0 then -s else s) ∧ (if s < 0 then -s else s) ≤ 604800 := by obtain ⟨a, b⟩ := h; split <;> omega
    unfold Ck.body Ck.body'
    rw [itoa_dec3 _ (by omega) (by omega)]
  · rw [if_neg h, if_neg h]

theorem clockParse_is (s : ByteArray) (w : World) (hW : Wp w) (hs : s.size ≤ 1000000) (hF : ∀ f ∈ Ck.fields (Ck.rest s), f.size ≤ 1000000) (a b : Int) (h : Ck.parse s = (a, b)) :
    Calls Tryd.prog 56 #[.string s] w fun e w' => e = .returned (.tuple #[.int .i64 a, .int .i64 b]) ∧ Below w.heap.size w w' := calls_val (clockParse_any s w hW hs hF) (by rw [h])
theorem clockText_any (s : Int) (w : World) (hW : Wc w) :
    Calls Tryd.prog 53 #[.int .i64 s] w fun e w' => e = .returned (.string ⟨(Ck.text s).toArray⟩) ∧ Below w.heap.size w w' := by
  by_cases h : IsTime s
  · exact clockText_ok s w hW h
  · exact clockText_bad s w h
theorem clockText_is (s : Int) (w : World) (hW : Wc w) (l : List UInt8) (h : Ck.text' s = l) :
    Calls Tryd.prog 53 #[.int .i64 s] w fun e w' => e = .returned (.string ⟨l.toArray⟩) ∧ Below w.heap.size w w' := calls_str (clockText_any s w hW) (by rw [text_eq, h])
theorem int64_bd {t : Int} (h : (Lit.int .i64 t).wf = true) : -9223372036854775808 ≤ t ∧ t ≤ 9223372036854775807 := by
  simpa [Lit.wf, IntKind.min, IntKind.max, IntKind.signed, IntKind.bits] using h
end Go.Proofs.YtokimlfbfbfenaaDoor
