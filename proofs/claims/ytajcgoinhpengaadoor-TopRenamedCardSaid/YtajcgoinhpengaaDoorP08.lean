/- The contract of package moment: TextUntil. -/
import Derived.Test.YtajcgoinhpengaaDoorP07
import Derived.Deep.RegionWith

namespace Go.Proofs.YtajcgoinhpengaaDoor
open Go.RowKit

namespace Mo
def u0 : ByteArray := ⟨#[]⟩
def u1 : ByteArray := ⟨#[74, 97, 110]⟩
def u2 : ByteArray := ⟨#[49]⟩
def u3 : ByteArray := ⟨#[48, 58, 48, 48]⟩
/-- The four texts of an until. -/
def U.full (u : U) : List ByteArray := [⟨(Lib.itoa u.y).toArray⟩, textOf Months (u.m - 1), ⟨(Dy.text u.k u.n u.d).toArray⟩, ⟨(text u.s u.c).toArray⟩]
/-- How many of them are written. -/
def U.count (u : U) : Nat :=
  if (⟨(text u.s u.c).toArray⟩ : ByteArray) = u3 then (if (⟨(Dy.text u.k u.n u.d).toArray⟩ : ByteArray) = u2 then (if textOf Months (u.m - 1) = u1 then 1 else 2) else 3) else 4
def U.texts (u : U) : List ByteArray := u.full.take u.count
end Mo
/-- A list of texts was returned, and no error. -/
def StrsRet (l : List ByteArray) (w : World) (e : Ending) (w' : World) : Prop :=
  ∃ A c, (l.length ≤ c ∧ c ≤ maxLen) ∧ e = .returned (.tuple #[.slice A l.length c, .int .i64 0]) ∧ Reads w' w'.heap.size 1 A l.length (l.map Value.string) ∧ Below w.heap.size w w'
def Mo.TRel (w2 : World) (C : Nat → Nat) (N : Nat) (v : Value) (wr : World) : Prop := ∃ k : Nat, 1 ≤ k ∧ k ≤ 4 ∧ v = .int .i64 k ∧ Drew w2 wr ∧ Hid (C k = N)
/-- How many are left, ahead of a look at the last of k. -/
def Mo.cnt (a b c : ByteArray) (k : Nat) : Nat := if k = 4 then (if c = Mo.u3 then (if b = Mo.u2 then (if a = Mo.u1 then 1 else 2) else 3) else 4) else if k = 3 then (if b = Mo.u2 then (if a = Mo.u1 then 1 else 2) else 3) else if k = 2 then (if a = Mo.u1 then 1 else 2) else 1
/-- A slice of the first ones. -/
theorem reads_first {w : World} {g B : Nat} {l : List ByteArray} (h : At w g (l.map Value.string)) (hg : g < B) (k : Nat) (hk : k ≤ l.length) : Reads w B 1 (some ⟨g, 0, none⟩) k ((l.take k).map Value.string) := by
  refine ⟨by simp; omega, fun _ => ⟨_, rfl, hg, fun j v hj => ?_⟩⟩
  have e : (⟨g, 0, none⟩ : Addr).add j = ⟨g, j, none⟩ := by
    unfold Addr.add
    split
    · subst_vars; rfl
    · simp
  rw [e]
  refine h.cell j v ?_
  have hl := (List.getElem?_eq_some_iff.1 hj).1
  simp only [List.length_map, List.length_take] at hl
  rw [List.map_take, List.getElem?_take] at hj
  split at hj
  · exact hj
  · simp at hj
theorem four {w : World} {g : Nat} {a b c d : Value} (h : At w g [a, b, c, d]) : w.cell? ⟨g, 0, none⟩ = some a ∧ w.cell? ⟨g, 1, none⟩ = some b ∧ w.cell? ⟨g, 2, none⟩ = some c ∧ w.cell? ⟨g, 3, none⟩ = some d :=
  ⟨h.cell 0 a rfl, h.cell 1 b rfl, h.cell 2 c rfl, h.cell 3 d rfl⟩
end Go.Proofs.YtajcgoinhpengaaDoor
