/- Marked up texts, in plain words: what markup.Resolve, Escape and Tokens answer. -/
import Derived.Test.YtjbgmbhifnihaaaDoorTeMath
namespace Go.Proofs.YtjbgmbhifnihaaaDoor
open Go.RowKit

namespace Mk
abbrev Txt := List UInt8
def bts (l : Txt) : ByteArray := ⟨l.toArray⟩
theorem bts_size (l : Txt) : (bts l).size = l.length := rfl
theorem tl_bts (l : Txt) : tl (bts l) = l := rfl
theorem bts_tl (s : ByteArray) : bts (tl s) = s := rfl
def white (b : UInt8) : Bool := b == 32 || b == 9 || b == 10 || b == 13
def low (b : UInt8) : Bool := decide (b.toNat < 32) && !white b
def letter (b : UInt8) : Bool := (decide (97 ≤ b.toNat) && decide (b.toNat ≤ 122)) || (decide (65 ≤ b.toNat) && decide (b.toNat ≤ 90)) || b == 95
def sign (b : UInt8) : Bool := letter b || (decide (48 ≤ b.toNat) && decide (b.toNat ≤ 57)) || b == 45 || b == 46 || b == 58
/-- What stands ahead of the first c, and from it on. -/
def bef (c : UInt8) (l : Txt) : Txt := l.takeWhile (· != c)
def aft (c : UInt8) (l : Txt) : Txt := l.dropWhile (· != c)
theorem bef_aft (c : UInt8) (l : Txt) : bef c l ++ aft c l = l := List.takeWhile_append_dropWhile
def begins : Txt → Bool
  | [] => false
  | b :: _ => letter b
def cutN (l : Txt) : Txt × Txt := if begins l then (l.takeWhile sign, l.dropWhile sign) else ([], l)
def skip (l : Txt) : Txt := l.dropWhile white
def dig (b : UInt8) (base : Nat) : Option Nat :=
  let n := if 48 ≤ b.toNat ∧ b.toNat ≤ 57 then some (b.toNat - 48) else if 97 ≤ b.toNat ∧ b.toNat ≤ 102 then some (b.toNat - 87) else if 65 ≤ b.toNat ∧ b.toNat ≤ 70 then some (b.toNat - 55) else none
  match n with
  | some k => if base ≤ k then none else some k
  | none => none
def numGo (base : Nat) : Nat → Txt → Option Nat
  | n, [] => some n
  | n, b :: r => match dig b base with
    | some d => numGo base (n * base + d) r
    | none => none
def num (base most : Nat) (l : Txt) : Option Nat := if l = [] ∨ most < l.length then none else numGo base 0 l
/-- A character's bytes, if it is one. -/
def encodes (n : Nat) : Bool := decide (n ≤ 1114111) && !(decide (55296 ≤ n) && decide (n ≤ 57343))
def chrNum (l : Txt) : Option Nat :=
  match l with
  | 120 :: r => num 16 6 r
  | _ => num 10 7 l
def chr (l : Txt) : Nat × Txt :=
  match chrNum l with
  | none => (4, [])
  | some n => if n < 32 ∧ white (UInt8.ofNat n) = false then (1, []) else if encodes n = true then (0, tl (Utf8.encode n)) else (1, [])
def ref (l : Txt) : Nat × Txt :=
  if l = [97, 109, 112] then (0, [38]) else if l = [108, 116] then (0, [60]) else if l = [103, 116] then (0, [62]) else if l = [113, 117, 111, 116] then (0, [34]) else if l = [97, 112, 111, 115] then (0, [39])
  else if (cutN l).1 ≠ [] ∧ (cutN l).2 = [] then (3, [])
  else match l with
    | 35 :: r => chr r
    | _ => (4, [])
/-- What is resolved, behind acc; or a place, and why not. -/
def res : Nat → Txt → Nat → Txt → Txt × Nat × Nat
  | 0, l, _, acc => (acc ++ l, 0, 0)
  | f + 1, l, at_, acc =>
    if aft 38 l = [] then (acc ++ l, 0, 0)
    else if aft 59 (aft 38 l) = [] then ([], at_ + (bef 38 l).length, 4)
    else if (ref ((bef 59 (aft 38 l)).drop 1)).1 ≠ 0 then ([], at_ + (bef 38 l).length, (ref ((bef 59 (aft 38 l)).drop 1)).1)
    else res f ((aft 59 (aft 38 l)).drop 1) (at_ + (bef 38 l).length + (bef 59 (aft 38 l)).length + 1) (acc ++ bef 38 l ++ (ref ((bef 59 (aft 38 l)).drop 1)).2)
def resolve (l : Txt) : Txt × Nat × Nat := res (l.length + 1) l 0 []
def esc1 (b : UInt8) : Txt := if b = 38 then [38, 97, 109, 112, 59] else if b = 60 then [38, 108, 116, 59] else if b = 62 then [38, 103, 116, 59] else if b = 34 then [38, 113, 117, 111, 116, 59] else if b = 39 then [38, 97, 112, 111, 115, 59] else [b]
def esc (l : Txt) : Txt := l.flatMap esc1
/-- A part of a marked up text. -/
structure T where
  kind : Nat
  name : Txt
  attrs : List (Txt × Txt)
  text : Txt
  at_ : Nat
structure S where
  toks : List T
  opened : List Txt
  rooted : Bool
structure Tag where
  name : Txt
  attrs : List (Txt × Txt)
  opens : Bool
  closes : Bool
def comm : Txt := [60, 33, 45, 45]
def commEnd : Txt := [45, 45, 62]
def note : Txt := [60, 63]
def noteEnd : Txt := [63, 62]
/-- Where a tag ends: q is the quote that is open. -/
def scanQ : Option UInt8 → Nat → Txt → Option Nat
  | _, _, [] => none
  | some q, i, b :: r => scanQ (if b = q then none else some q) (i + 1) r
  | none, i, b :: r => if b = 34 ∨ b = 39 then scanQ (some b) (i + 1) r else if b = 62 then some (i + 1) else scanQ none (i + 1) r
def idxOf (l sub : Txt) : Option Nat := if Lib.index l sub = -1 then none else some (Lib.index l sub).toNat
def pieceEnd (l : Txt) : Option Nat :=
  if comm.isPrefixOf l then (idxOf (l.drop 4) commEnd).map fun n => 4 + n + 3
  else if note.isPrefixOf l then (idxOf (l.drop 2) noteEnd).map fun n => 2 + n + 2
  else scanQ none 1 (l.drop 1)
def readAttr (l : Txt) : Option ((Txt × Txt) × Txt) :=
  if (cutN l).1 = [] then none else
  match skip (cutN l).2 with
  | 61 :: r => match skip r with
    | q :: r2 => if q = 34 ∨ q = 39 then (if aft q r2 = [] then none else if aft 60 (bef q r2) = [] then some (((cutN l).1, bef q r2), (aft q r2).drop 1) else none) else none
    | [] => none
  | _ => none
def tagGo : Nat → Txt → Txt → List (Txt × Txt) → Option Tag
  | 0, _, _, _ => none
  | f + 1, nm, rest, ats =>
    if skip rest = [] ∨ skip rest = [47] then some ⟨nm, ats, true, decide (skip rest ≠ [])⟩
    else if (skip rest).length = rest.length then none
    else match readAttr (skip rest) with
      | none => none
      | some (a, behind) => tagGo f nm behind (ats ++ [a])
def readTag (l : Txt) : Option Tag :=
  match l with
  | 47 :: r => if (cutN r).1 ≠ [] ∧ skip (cutN r).2 = [] then some ⟨(cutN r).1, [], false, true⟩ else none
  | _ => if (cutN l).1 = [] then none else tagGo (l.length + 1) (cutN l).1 (cutN l).2 []
/-- Two attributes have one name. -/
def twice : List Txt → List (Txt × Txt) → Bool
  | _, [] => false
  | seen, a :: r => seen.contains a.1 || twice (seen ++ [a.1]) r
/-- The attributes, resolved; or why not. -/
def resAll : List (Txt × Txt) → Nat ⊕ List (Txt × Txt)
  | [] => .inr []
  | a :: r => if (resolve a.2).2.2 ≠ 0 then .inl (resolve a.2).2.2 else
    match resAll r with
    | .inl e => .inl e
    | .inr l => .inr ((a.1, (resolve a.2).1) :: l)
def begin_ (t : Tag) (at_ : Nat) (st : S) : Nat ⊕ S :=
  if st.rooted = true ∧ st.opened = [] then .inl 12
  else if 32 < t.attrs.length ∨ 32 ≤ st.opened.length then .inl 6
  else if twice [] t.attrs = true then .inl 8
  else match resAll t.attrs with
    | .inl e => .inl e
    | .inr ats => .inr ⟨st.toks ++ [⟨1, t.name, ats, [], at_⟩], st.opened ++ [t.name], true⟩
def finish (t : Tag) (at_ : Nat) (st : S) : Nat ⊕ S :=
  if st.opened.getLast? = some t.name then .inr ⟨st.toks ++ [⟨2, t.name, [], [], at_⟩], st.opened.dropLast, st.rooted⟩ else .inl 12
def piece (s : Txt) (at_ : Nat) (st : S) : Nat ⊕ S :=
  if comm.isPrefixOf s then (if idxOf ((s.drop 4).take (s.length - 7)) [45, 45] = none then .inr st else .inl 4)
  else if note.isPrefixOf s then (if 0 < at_ then .inl 4 else .inr st)
  else match readTag ((s.drop 1).take (s.length - 2)) with
    | none => .inl 4
    | some t =>
      match (if t.opens = true then begin_ t at_ st else .inr st) with
      | .inl e => .inl e
      | .inr st2 => if t.closes = true then finish t at_ st2 else .inr st2
def between (pre : Txt) (at_ : Nat) (st : S) : (Nat × Nat) ⊕ S :=
  if st.opened = [] then (if skip pre = [] then .inr st else .inl (at_ + pre.length - (skip pre).length, 12))
  else if pre = [] then .inr st
  else if (resolve pre).2.2 ≠ 0 then .inl (at_ + (resolve pre).2.1, (resolve pre).2.2)
  else .inr ⟨st.toks ++ [⟨3, [], [], (resolve pre).1, at_⟩], st.opened, st.rooted⟩
def thr : Nat → Txt → Nat → S → (Nat × Nat) ⊕ S
  | 0, _, at_, _ => .inl (at_, 5)
  | f + 1, l, at_, st =>
    match between (bef 60 l) at_ st with
    | .inl e => .inl e
    | .inr st1 =>
      if aft 60 l = [] then (if st1.opened ≠ [] ∨ st1.rooted = false then .inl (at_ + (bef 60 l).length, 5) else .inr st1)
      else match pieceEnd (aft 60 l) with
        | none => .inl (at_ + (bef 60 l).length, 5)
        | some n => match piece ((aft 60 l).take n) (at_ + (bef 60 l).length) st1 with
          | .inl e => .inl (at_ + (bef 60 l).length, e)
          | .inr st2 => thr f ((aft 60 l).drop n) (at_ + (bef 60 l).length + n) st2
def start : S := ⟨[], [], false⟩
def tokens (l : Txt) : (Nat × Nat) ⊕ S := thr (l.length + 1) l 0 start
end Mk
end Go.Proofs.YtjbgmbhifnihaaaDoor
