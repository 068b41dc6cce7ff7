/- Eras in plain words: what is right, what is read, what is written. -/
import Derived.Test.YtokimlfbfbfenaaDoorRuText
import Derived.Test.YtokimlfbfbfenaaDoorMomMath
import Derived.Lib.CutLaws
namespace Go.Proofs.YtokimlfbfbfenaaDoor
open Go.RowKit

namespace Ab
def b0 : ByteArray := ⟨#[]⟩
def pS : ByteArray := ⟨#[37, 115]⟩
def pZ : ByteArray := ⟨#[37, 122]⟩
def pE : ByteArray := ⟨#[47]⟩
def ahd (f p : ByteArray) : ByteArray := ⟨(Lib.cut f.data.toList p.data.toList).1.toArray⟩
def bhd (f p : ByteArray) : ByteArray := ⟨(Lib.cut f.data.toList p.data.toList).2.1.toArray⟩
def has (f p : ByteArray) : Bool := (Lib.cut f.data.toList p.data.toList).2.2
/-- A format in parts, and whether it is right. -/
def cutf (f : ByteArray) : ByteArray × ByteArray × ByteArray × Bool :=
  if f.size < 1 ∨ 32 < f.size then (b0, b0, b0, false)
  else if has f pS = true then (ahd f pS, pS, bhd f pS, all [ahd f pS, bhd f pS])
  else if has f pZ = true then (ahd f pZ, pZ, bhd f pZ, all [ahd f pZ, bhd f pZ])
  else if has f pE = true then (ahd f pE, pE, bhd f pE, !decide (ahd f pE = b0) && (!decide (bhd f pE = b0) && all [ahd f pE, bhd f pE]))
  else (f, b0, b0, all [f])
def fmt (f : ByteArray) : Bool := (cutf f).2.2.2
theorem fmt_size (f : ByteArray) (h : fmt f = true) : 1 ≤ f.size ∧ f.size ≤ 32 := by
  unfold fmt cutf at h
  split at h
  · simp at h
  · omega
end Ab
instance decU : DecidableEq Mo.U := fun a b => decidable_of_iff (a.y = b.y ∧ a.m = b.m ∧ a.k = b.k ∧ a.n = b.n ∧ a.d = b.d ∧ a.s = b.s ∧ a.c = b.c) (by cases a; cases b; simp)
namespace Er
/-- An era: offset, kind, what is saved, rules' name, format, whether it ends, until. -/
structure E where
  std : Int
  k : Int
  sv : Int
  ru : ByteArray
  fm : ByteArray
  en : Bool
  u : Mo.U
instance decE : DecidableEq E := fun a b => decidable_of_iff (a.std = b.std ∧ a.k = b.k ∧ a.sv = b.sv ∧ a.ru = b.ru ∧ a.fm = b.fm ∧ a.en = b.en ∧ a.u = b.u) (by cases a; cases b; simp)
def E.v (e : E) : Value := .agg #[.int .i64 e.std, .int .u8 e.k, .int .i64 e.sv, .string e.ru, .string e.fm, .bool e.en, .int .i64 e.u.y, .int .i64 e.u.m, .int .u8 e.u.k, .int .i64 e.u.n, .int .i64 e.u.d, .int .i64 e.u.s, .int .u8 e.u.c]
def E.cells (e : E) : List Value := [.int .i64 e.std, .int .u8 e.k, .int .i64 e.sv, .string e.ru, .string e.fm, .bool e.en, .int .i64 e.u.y, .int .i64 e.u.m, .int .u8 e.u.k, .int .i64 e.u.n, .int .i64 e.u.d, .int .i64 e.u.s, .int .u8 e.u.c]
def E.zero : E := ⟨0, 0, 0, ⟨#[]⟩, ⟨#[]⟩, false, Mo.U.zero⟩
def E.Kind (e : E) : Prop := (e.k = 0 ∧ e.sv = 0 ∧ e.ru = ⟨#[]⟩) ∨ (e.k = 1 ∧ IsTime e.sv ∧ e.ru = ⟨#[]⟩) ∨ (e.k = 2 ∧ e.sv = 0 ∧ Ru.name (tl e.ru) = true)
def E.Ok (e : E) : Prop := IsTime e.std ∧ Ab.fmt e.fm = true ∧ e.Kind ∧ (e.en = true → e.u.Ok) ∧ (e.en = false → e.u = Mo.U.zero)
def digAt (s : ByteArray) (k : Nat) : Bool := match (tl s)[k]? with
  | some c => decide (48 ≤ (c.toNat : Int) ∧ (c.toNat : Int) ≤ 57)
  | none => false
def num (s : ByteArray) : Bool := digAt s 0 || (decide ((tl s)[0]? = some 45) && digAt s 1)
def stdS (e : E) (s : ByteArray) : E × Int := if s = ⟨#[45]⟩ then (e, 0) else (⟨(Ck.parse s).1, e.k, e.sv, e.ru, e.fm, e.en, e.u⟩, (Ck.parse s).2)
def savS (e : E) (s : ByteArray) : E × Int :=
  if s = ⟨#[45]⟩ then (e, 0) else if num s = true then (⟨e.std, 1, (Ck.parse s).1, e.ru, e.fm, e.en, e.u⟩, (Ck.parse s).2)
  else if Ru.name (tl s) = true then (⟨e.std, 2, e.sv, s, e.fm, e.en, e.u⟩, 0) else (e, 7)
def fmS (e : E) (s : ByteArray) : E × Int := (⟨e.std, e.k, e.sv, e.ru, s, e.en, e.u⟩, if Ab.fmt s = true then 0 else 4)
def estep (j : Nat) (e : E) (s : ByteArray) : E × Int := if j = 0 then stdS e s else if j = 1 then savS e s else fmS e s
def run : List ByteArray → Nat → E → E × Int × Int
  | [], _, e => (e, 0, 0)
  | t :: l, j, e => if (estep j e t).2 = 0 then run l (j + 1) (estep j e t).1 else (E.zero, j, (estep j e t).2)
def E.until_ (e : E) (u : Mo.U) : E := ⟨e.std, e.k, e.sv, e.ru, e.fm, true, u⟩
def parse (l : List ByteArray) : E × Int × Int :=
  if (run (l.take 3) 0 E.zero).2.2 = 0 then
    (if l.length < 3 then (E.zero, l.length, 5) else if l.length = 3 then ((run (l.take 3) 0 E.zero).1, 0, 0)
     else if (Mo.uParse (l.drop 3)).2.2 = 0 then ((run (l.take 3) 0 E.zero).1.until_ (Mo.uParse (l.drop 3)).1, 0, 0)
     else (E.zero, 3 + (Mo.uParse (l.drop 3)).2.1, (Mo.uParse (l.drop 3)).2.2))
  else run (l.take 3) 0 E.zero
def E.mid (e : E) : ByteArray := if e.k = 1 then ⟨(Ck.text e.sv).toArray⟩ else if e.k = 2 then e.ru else ⟨#[45]⟩
def E.front (e : E) : List ByteArray := [⟨(Ck.text e.std).toArray⟩, e.mid, e.fm]
/-- The texts of an era. -/
def E.texts (e : E) : List ByteArray := if e.en = true then e.front ++ e.u.texts else e.front
theorem run_bad (l : List ByteArray) (k : Nat) (r : E) (t : ByteArray) (P : E × Int × Int) (h : P = run (l.drop k) k r) (ht : l[k]? = some t) (he : (estep k r t).2 ≠ 0) : P = (E.zero, (k : Int), (estep k r t).2) := by
  rw [h, drop_of ht, run, if_neg he]
theorem run_next (l : List ByteArray) (k : Nat) (r : E) (t : ByteArray) (P : E × Int × Int) (h : P = run (l.drop k) k r) (ht : l[k]? = some t) (he : (estep k r t).2 = 0) : P = run (l.drop (k + 1)) (k + 1) (estep k r t).1 := by
  rw [h, drop_of ht, run, if_pos he]
theorem run_end (l : List ByteArray) (k : Nat) (r : E) (P : E × Int × Int) (h : P = run (l.drop k) k r) (hk : l.length = k) : P = (r, 0, 0) := by
  rw [h, List.drop_eq_nil_of_le (by omega)]; rfl
end Er
end Go.Proofs.YtokimlfbfbfenaaDoor
