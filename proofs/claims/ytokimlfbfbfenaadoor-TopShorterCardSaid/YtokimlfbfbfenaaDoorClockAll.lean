/- clock.Parse and clock.Text at all texts. -/
import Derived.Test.YtokimlfbfbfenaaDoorClockBackMath
namespace Go.Proofs.YtokimlfbfbfenaaDoor
open Go.RowKit

theorem clockParse_all (s : ByteArray) (w : World) (hW : Wp w) (hs : s.size ≤ 1000000) (a b : Int) (h : Ck.parse s = (a, b)) :
    Calls Tryd.prog 56 #[.string s] w fun e w' => e = .returned (.tuple #[.int .i64 a, .int .i64 b]) ∧ Below w.heap.size w w' :=
  clockParse_is s w hW hs (fun f hf => Nat.le_trans (Ck.piece_size _ _ f hf) (Nat.le_trans (Ck.rest_size s) hs)) a b h
theorem text_ne (n : Int) (h : IsTime n) : (⟨(Ck.text n).toArray⟩ : ByteArray).toList.isEmpty = false := by
  rw [ByteArray.toList_eq]
  cases e : Ck.text n with
  | nil =>
    have a := Ck.parse_text n h
    rw [e] at a
    have b : Ck.parse ⟨([] : List UInt8).toArray⟩ = (0, 4) := by decide +kernel
    rw [b] at a
    simp at a
  | cons c l => rfl
end Go.Proofs.YtokimlfbfbfenaaDoor
