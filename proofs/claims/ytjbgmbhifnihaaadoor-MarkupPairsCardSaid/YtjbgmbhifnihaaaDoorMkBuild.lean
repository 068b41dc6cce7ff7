/- markup: a builder that is written; where a byte stands first. -/
import Derived.Test.YtjbgmbhifnihaaaDoorMkRef
import Derived.Test.YtjbgmbhifnihaaaDoorMkPairs
import Derived.Test.YtjbgmbhifnihaaaDoorShelfBuild
namespace Go.Proofs.YtjbgmbhifnihaaaDoor
open Go.RowKit

namespace Mk
/-- A builder in block b, that holds these bytes. -/
abbrev IsB (w : World) (b : Nat) (l : Txt) : Prop := Lib.IsBuilderF 58 5 b b (Lib.byteCells l) w
theorem atF_call {w w' : World} {B b : Nat} {T e : TypeId} {p : Value} {bs : List Value} (h : Lib.BuilderAtF T e B b p bs w) (hb : Below w.heap.size w w') : Lib.BuilderAtF T e B b p bs w' := by
  have hlt := h.lt
  obtain ⟨hB, v, hbk, hown, hne⟩ := h
  refine ⟨hB, v, (hb.block b hlt).trans hbk, ?_, hne⟩
  refine hown.kept (row := none) ⟨hb.os, hb.tape, hb.output, hb.size, fun k hk _ => hb.block k hk⟩ ?_
  cases v.ownBlock <;> simp
theorem IsB.call {w w' : World} {b : Nat} {l : Txt} (h : IsB w b l) (hb : Below w.heap.size w w') : IsB w' b l := h.elim (fun x => .inl (atF_call x hb)) (fun x => .inr (atF_call x hb))
theorem IsB.lt {w : World} {b : Nat} {l : Txt} (h : IsB w b l) : b < w.heap.size := h.elim (fun x => x.lt) (fun x => x.lt)
theorem bytes_app (a b : Txt) : Lib.byteCells (a ++ b) = Lib.byteCells a ++ Lib.byteCells b := by unfold Lib.byteCells; rw [List.map_append]
theorem bytes_one (l : Txt) (c : UInt8) : Lib.byteCells l ++ [.int .u8 (c.toNat : Int)] = Lib.byteCells (l ++ [c]) := by rw [bytes_app]; rfl
theorem bytes_str (l t : Txt) : Lib.byteCells l ++ Lib.strCells (bts t) = Lib.byteCells (l ++ t) := by rw [bytes_app]; rfl
theorem cells_len (l : Txt) : (Lib.byteCells l).length = l.length := by unfold Lib.byteCells; rw [List.length_map]
/-- A byte more. -/
theorem putB {g : Nat} {l : Txt} {w : World} (c : UInt8) (h : IsB w g l) (hl : l.length ≤ 100000000000000) :
    Calls Tryd.prog 20 #[.pointer (some ⟨g, 0, none⟩), .int .u8 (c.toNat : Int)] w fun e w' => e = .returned .nilIface ∧ IsB w' g (l ++ [c]) ∧ Below g w w' :=
  (Tryd.prWriteByte g g _ (c.toNat : Int) w h (by rw [cells_len]; omega) (Nat.le_of_lt h.lt)).mono fun _ _ h2 => ⟨h2.1, by show Lib.IsBuilderF _ _ _ _ _ _; rw [← bytes_one]; exact .inr h2.2.1, h2.2.2.1⟩
/-- A text more. -/
theorem putS {g : Nat} {l : Txt} {w : World} (t : ByteArray) (h : IsB w g l) (hl : l.length ≤ 100000000000000) (ht : t.size ≤ 100000000) :
    Calls Tryd.prog 19 #[.pointer (some ⟨g, 0, none⟩), .string t] w fun e w' => e = .returned (.tuple #[.int .i64 t.size, .nilIface]) ∧ IsB w' g (l ++ tl t) ∧ Below g w w' :=
  (Tryd.prWriteString g g _ t w h (by rw [cells_len]; omega) (Nat.le_of_lt h.lt)).mono fun _ _ h2 => ⟨h2.1, by show Lib.IsBuilderF _ _ _ _ _ _; rw [← bytes_str]; exact .inr h2.2.1, h2.2.2.1⟩
/-- All that is there. -/
theorem takeS {g : Nat} {l : Txt} {w : World} (h : IsB w g l) :
    Calls Tryd.prog 21 #[.pointer (some ⟨g, 0, none⟩)] w fun e w' => e = .returned (.string (bts l)) ∧ Below g w w' :=
  (Tryd.Builder_String_any_k g g _ w h (Nat.le_of_lt h.lt)).mono fun _ _ h2 => ⟨h2.1, h2.2.2.1⟩
theorem fresh (w : World) : IsB (w.alloc (.cells #[.pointer none, .slice none 0 0] 58)) w.heap.size [] := Lib.IsBuilderF.of (Lib.fresh_isBuilder _ _ w)
theorem below_new (w : World) (o : Obj) : Below w.heap.size w (w.alloc o) := (Below.refl _ _).alloc (Nat.le_refl _) _
/-- Where a byte stands first. -/
def ib (c : UInt8) (l : Txt) : Int := if aft c l = [] then -1 else ((bef c l).length : Int)
theorem ib_eq (c : UInt8) : ∀ l : Txt, Lib.indexByte l c = ib c l
  | [] => rfl
  | b :: l => by
    by_cases h : b = c
    · subst h
      rw [Lib.indexByte, if_pos (by simp)]
      unfold ib
      rw [aft_hit, bef_hit, if_neg (by simp)]
      rfl
    · rw [Lib.indexByte, if_neg (by simpa using h), ib_eq c l]
      unfold ib
      rw [aft_cons h, bef_cons h]
      by_cases h2 : aft c l = []
      · rw [if_pos h2, if_pos h2]; rfl
      · rw [if_neg h2, if_neg h2, if_neg (by simp), List.length_cons]
        omega
theorem idx_any (s : ByteArray) (c : UInt8) (w : World) :
    Calls Tryd.prog 23 #[.string s, .int .u8 (c.toNat : Int)] w fun e w' => e = .returned (.int .i64 (ib c (tl s))) ∧ w' = w := by
  have h := Tryd.strings_IndexByte s (c.toNat : Int) w
  rw [show (c.toNat : Int).toNat.toUInt8 = c by simp, ib_eq] at h
  exact h
theorem aft_drop (c : UInt8) (l : Txt) : aft c l = l.drop (bef c l).length := by
  have h := bef_aft c l
  have h2 : (bef c l ++ aft c l).drop (bef c l).length = aft c l := List.drop_left
  rw [h] at h2
  exact h2.symm
theorem bef_take (c : UInt8) (l : Txt) : bef c l = l.take (bef c l).length := by
  have h := bef_aft c l
  have h2 : (bef c l ++ aft c l).take (bef c l).length = bef c l := List.take_left
  rw [h] at h2
  exact h2.symm
theorem encC_len (c : Nat) : (tl (encC c)).length ≤ 4 := by
  unfold encC
  split
  · show 1 ≤ 4; decide
  · split
    · show 2 ≤ 4; decide
    · split
      · show 3 ≤ 4; decide
      · show 4 ≤ 4; decide
theorem chr_len (l : Txt) : (chr l).2.length ≤ 4 := by
  unfold chr
  cases chrNum l with
  | none => simp
  | some n =>
    have he : (tl (Utf8.encode (n : Int))).length ≤ 4 := by rw [enc_eq]; exact encC_len _
    simp only
    generalize tl (Utf8.encode (n : Int)) = z at he ⊢
    split
    · simp
    · split
      · exact he
      · simp
theorem ref_len (l : Txt) : (ref l).2.length ≤ 4 := by
  unfold ref
  repeat' split
  all_goals first | exact chr_len _ | simp
/-- A round of what is resolved. -/
theorem res_end {f a : Nat} {l acc : Txt} (h : aft 38 l = []) : res (f + 1) l a acc = (acc ++ l, 0, 0) := by rw [res, if_pos h]
theorem res_open {f a : Nat} {l acc : Txt} (h : aft 38 l ≠ []) (h2 : aft 59 (aft 38 l) = []) : res (f + 1) l a acc = ([], a + (bef 38 l).length, 4) := by rw [res, if_neg h, if_pos h2]
theorem res_bad {f a : Nat} {l acc : Txt} (h : aft 38 l ≠ []) (h2 : aft 59 (aft 38 l) ≠ []) (h3 : (ref ((bef 59 (aft 38 l)).drop 1)).1 ≠ 0) : res (f + 1) l a acc = ([], a + (bef 38 l).length, (ref ((bef 59 (aft 38 l)).drop 1)).1) := by rw [res, if_neg h, if_neg h2, if_pos h3]
theorem res_more {f a : Nat} {l acc : Txt} (h : aft 38 l ≠ []) (h2 : aft 59 (aft 38 l) ≠ []) (h3 : (ref ((bef 59 (aft 38 l)).drop 1)).1 = 0) : res (f + 1) l a acc = res f ((aft 59 (aft 38 l)).drop 1) (a + (bef 38 l).length + (bef 59 (aft 38 l)).length + 1) (acc ++ bef 38 l ++ (ref ((bef 59 (aft 38 l)).drop 1)).2) := by rw [res, if_neg h, if_neg h2, if_neg (by simpa using h3)]
end Mk
end Go.Proofs.YtjbgmbhifnihaaaDoor
