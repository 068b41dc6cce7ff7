/- The order of events: cmp.Compare, cmp.Or, event.order. -/
import Derived.Sort.Grow
import Derived.Test.YtjobhjemnmleaaaGreatDoorQ09
import Derived.Maps.OwnSet
import Derived.OneCell
import Derived.Deep.CutBlock
import Derived.RangeFuncOwn
import Derived.RangeFuncNested
import Derived.RangeFuncBound
import Derived.RangeFuncCalls
import Derived.RangeFuncLeaves
import Derived.Shelf.Abstract
import Derived.Shelf.AbstractIn
import Derived.Shelf.RegionOpen
import Derived.OwnWalkIn
import Derived.TacticsInMore
import Derived.LoopNIn
import Derived.LoopIn
import Derived.Maps.OwnIn
set_option maxRecDepth 100000
set_option maxHeartbeats 2000000
namespace Go.Proofs.YtjobhjemnmleaaaGreatDoor
open Go.RowKit
theorem cmpI64_any (x y : Int) (w : World) :
  Calls Tryz.prog 210 #[.int .i64 x, .int .i64 y] w fun e w' => e = .returned (.int .i64 (Lib.compareInt x y)) ∧ w = w' := by
 have n : ∀ z : Int, ∀ w, Calls Tryz.prog 223 #[.int .i64 z] w fun e w' => e = .returned (.bool false) ∧ w = w' := fun z w => by
  go_enter Tryz.func223, Tryz.ntmps223
  go_wp2;go_ret
  exact ⟨rfl, rfl⟩
 unfold Lib.compareInt
 by_cases h1 : x < y
 ·rw [if_pos h1];go_enter Tryz.func210, Tryz.ntmps210
  go_wp2_with (go_at_call 223; refine (n _ _).mono ?_; rintro e w' ⟨rfl, rfl⟩)
  go_ret
  exact ⟨rfl, rfl⟩
 ·rw [if_neg h1]
  by_cases h2 : x > y
  ·rw [if_pos h2];have h3 : y < x := h2;go_enter Tryz.func210, Tryz.ntmps210
   go_wp2_with (go_at_call 223; refine (n _ _).mono ?_; rintro e w' ⟨rfl, rfl⟩)
   go_ret
   exact ⟨rfl, rfl⟩
  ·rw [if_neg h2];have h3 : ¬ y < x := h2;go_enter Tryz.func210, Tryz.ntmps210
   go_wp2_with (go_at_call 223; refine (n _ _).mono ?_; rintro e w' ⟨rfl, rfl⟩)
   go_ret
   exact ⟨rfl, rfl⟩
def Oc.or2 (a b : Int) : Int := if a = 0 then b else a
theorem cmpOr2_any (a b : Int) (g : Nat) (w : World) (c0 : w.cell? ⟨g, 0, none⟩ = some (.int .i64 a)) (c1 : w.cell? ⟨g, 1, none⟩ = some (.int .i64 b)) :
  Calls Tryz.prog 209 #[.slice (some ⟨g, 0, none⟩) 2 2] w fun e w' => e = .returned (.int .i64 (Oc.or2 a b)) ∧ w = w' := by
 unfold Oc.or2
 by_cases h : a = 0
 ·rw [if_pos h];subst h
  by_cases h2 : b = 0
  ·subst h2;go_enter Tryz.func209, Tryz.ntmps209
   go_wp2;go_loopw [8] (fun i wr => wr = w ∧ (i = .int .i64 0 ∨ i = .int .i64 1 ∨ i = .int .i64 2)) (fun i _ => 2 - (intOf i).toNat)
   case atStart => exact ⟨rfl, .inl rfl⟩
   case round =>
    obtain ⟨e9, rfl | rfl | rfl⟩ := hrel
    ·subst e9;go_wp2;go_roundw
     case rel => exact ⟨trivial, .inr (.inl (by go_num))⟩
     case measure => simp [intOf]
    ·subst e9;go_wp2;go_roundw
     case rel => exact ⟨trivial, .inr (.inr (by go_num))⟩
     case measure => simp [intOf]
    ·subst e9;go_wp2;go_ret
     exact ⟨rfl, rfl⟩
  ·have q : (b != 0) = true := by simpa using h2
   go_enter Tryz.func209, Tryz.ntmps209
   go_wp2;go_loopw [8] (fun i wr => wr = w ∧ (i = .int .i64 0 ∨ i = .int .i64 1)) (fun i _ => 2 - (intOf i).toNat)
   case atStart => exact ⟨rfl, .inl rfl⟩
   case round =>
    obtain ⟨e9, rfl | rfl⟩ := hrel
    ·subst e9;go_wp2;go_roundw
     case rel => exact ⟨trivial, .inr (by go_num)⟩
     case measure => simp [intOf]
    ·subst e9;go_wp2;go_ret
     exact ⟨rfl, rfl⟩
 ·rw [if_neg h];have q : (a != 0) = true := by simpa using h
  go_enter Tryz.func209, Tryz.ntmps209
  go_wp2;go_loopw [8] (fun i wr => wr = w ∧ i = .int .i64 0) (fun _ _ => 0)
  case atStart => exact ⟨rfl, rfl⟩
  case round =>
   obtain ⟨e9, rfl⟩ := hrel;subst e9;go_wp2;go_ret
   exact ⟨rfl, rfl⟩
def Oc.Grew (w w' : World) : Prop := ∃ q os, w' = Go.Sort.grow (w.drewN q) os
namespace Oc
theorem Grew.refl (w : World) : Grew w w := ⟨0, #[], by simp [World.drewN]⟩
theorem Grew.alloc {w w' : World} (h : Grew w w') (o : Obj) : Grew w (w'.alloc o) := by
 obtain ⟨q, os, rfl⟩ := h;exact ⟨q, os ++ #[o], by rw [Go.Sort.alloc_eq_grow, Go.Sort.grow_grow]⟩
theorem Grew.drewN {w w' : World} (h : Grew w w') (n : Nat) : Grew w (w'.drewN n) := by
 obtain ⟨q, os, rfl⟩ := h;exact ⟨q + n, os, by show Go.Sort.grow ((w.drewN q).drewN n) os = _; rw [World.drewN_drewN]⟩
theorem Grew.below {w w' : World} (h : Grew w w') : Below w.heap.size w w' := by
 obtain ⟨q, os, rfl⟩ := h;exact ⟨rfl, rfl, rfl, by show w.heap.size ≤ (w.heap ++ os).size; simp, fun k hk => by show (w.heap ++ os)[k]? = _; rw [Array.getElem?_append_left hk]⟩
def E.cells (e : E) : List Value := [.int .i64 e.n, .int .u8 e.c, .int .i64 e.sv, .int .i64 e.bf, .string e.lt, .int .i64 e.pl, .int .i64 e.y]
def E.v (e : E) : Value := .agg #[.int .i64 e.n, .int .u8 e.c, .int .i64 e.sv, .int .i64 e.bf, .string e.lt, .int .i64 e.pl, .int .i64 e.y]
def cf (a b : E) : Int := or2 (Lib.compareInt a.n b.n) (Lib.compareInt (a.pl : Int) (b.pl : Int))
theorem cf_less (a b : E) : decide (cf a b < 0) = lessB a b := by
 rw [Bool.eq_iff_iff, decide_eq_true_eq, less_iff];unfold cf or2 Lib.compareInt;split <;> split <;> (try split) <;> (try split) <;> omega
end Oc
theorem order_any (a b : Oc.E) (w : World) :
  Calls Tryz.prog 199 #[a.v, b.v] w fun e w' => e = .returned (.int .i64 (Oc.cf a b)) ∧ Oc.Grew w w' := by
 obtain ⟨n, c, sv, bf, lt, pl, y⟩ := a;obtain ⟨n2, c2, sv2, bf2, lt2, pl2, y2⟩ := b;unfold Oc.E.v Oc.cf;simp only;obtain ⟨x1, hx1⟩ : ∃ x, Lib.compareInt n n2 = x := ⟨_, rfl⟩
 obtain ⟨x2, hx2⟩ : ∃ x, Lib.compareInt (pl : Int) (pl2 : Int) = x := ⟨_, rfl⟩
 have H1 : ∀ W, Calls Tryz.prog 210 #[.int .i64 n, .int .i64 n2] W fun e w' => e = .returned (.int .i64 x1) ∧ w' = W := fun W => by
  rw [← hx1];exact (cmpI64_any n n2 W).mono fun e w' h => ⟨h.1, h.2.symm⟩
 have H2 : ∀ W, Calls Tryz.prog 211 #[.int .i64 (pl : Int), .int .i64 (pl2 : Int)] W fun e w' => e = .returned (.int .i64 x2) ∧ w' = W := fun W => by
  rw [← hx2];exact Tryz.cmp_Compare_int pl pl2 W
 rw [hx1, hx2];have h1 := Lib.hid H1;have h2 := Lib.hid H2;obtain ⟨W2, hW2⟩ : ∃ W, (w.alloc (.cells #[.int .i64 n, .int .u8 c, .int .i64 sv, .int .i64 bf, .string lt, .int .i64 pl, .int .i64 y] 314)).alloc (.cells #[.int .i64 n2, .int .u8 c2, .int .i64 sv2, .int .i64 bf2, .string lt2, .int .i64 pl2, .int .i64 y2] 314) = W := ⟨_, rfl⟩
 have hA := (At.new w #[.int .i64 n, .int .u8 c, .int .i64 sv, .int .i64 bf, .string lt, .int .i64 pl, .int .i64 y] 314).allocO (.cells #[.int .i64 n2, .int .u8 c2, .int .i64 sv2, .int .i64 bf2, .string lt2, .int .i64 pl2, .int .i64 y2] 314);have hB := At.new (w.alloc (.cells #[.int .i64 n, .int .u8 c, .int .i64 sv, .int .i64 bf, .string lt, .int .i64 pl, .int .i64 y] 314)) #[.int .i64 n2, .int .u8 c2, .int .i64 sv2, .int .i64 bf2, .string lt2, .int .i64 pl2, .int .i64 y2] 314;have hG : Oc.Grew w W2 := by rw [← hW2]; exact ((Oc.Grew.refl w).alloc _).alloc _
 rw [hW2] at hA hB;rw [World.size_alloc] at hB;have a0 := hA.cell 0 _ rfl;have a5 := hA.cell 5 _ rfl;have b0 := hB.cell 0 _ rfl;have b5 := hB.cell 5 _ rfl;have za := hA.lt;have zb := hB.lt;have HG := Lib.hid hG;have HW2 := Lib.hid hW2;clear H1 H2 hx1 hx2 hA hB hG hW2;go_enter Tryz.func199, Tryz.ntmps199
 go_wp2_with fail
 rw [HW2.out];refine wp_region_quiet_tail (C := fun w' => ∃ j, w' = W2.drewN j) 12 (by kernel_rfl) (by kernel_rfl) ⟨1, rfl⟩ ?_
 repeat (quiet_step (first | (go_at_call 210; exact Calls.quiet_of_same (h1.out _)) | (go_at_call 211; exact Calls.quiet_of_same (h2.out _))))
 refine wpQuiet_nil ?_;intro wz hwz;obtain ⟨nq, rfl⟩ := hwz;show wpList _ _ _ (_ :: _) _ _
 have HO := Lib.hid (cmpOr2_any x1 x2 (W2.drewN nq).heap.size ((W2.drewN nq).alloc (.cells #[.int .i64 x1, .int .i64 x2] 3)) ((At.new (W2.drewN nq) #[.int .i64 x1, .int .i64 x2] 3).cell 0 _ rfl) ((At.new (W2.drewN nq) #[.int .i64 x1, .int .i64 x2] 3).cell 1 _ rfl));go_wp2_with (go_at_call 209; refine HO.out.mono ?_; rintro e w' ⟨rfl, rfl⟩)
 go_ret
 exact ⟨rfl, (HG.out.drewN nq).alloc _⟩
end Go.Proofs.YtjobhjemnmleaaaGreatDoor
namespace Go.Proofs.YtjobhjemnmleaaaGreatDoor
open Go.RowKit
open Go.Maps Go.WideShapes Go.ChangeShapes Go.WideMaps
namespace Mp
def rv (v : Value) : Option (DataW Value × List MemPlace) := some (.held v, [])
def kl (s : ByteArray) : Lit := .string s.data.toList
theorem kl_eq {s t : ByteArray} : kl s = kl t ↔ s = t := by
 unfold kl;constructor
 ·intro h
  injection h with h
  exact ByteArray.ext (Array.ext' h)
 ·intro h;rw [h]
abbrev Fn := ByteArray → Option Value
def put (f : Fn) (s : ByteArray) (v : Value) : Fn := fun t => if t = s then some v else f t
theorem put_same (f : Fn) (s : ByteArray) (v : Value) : put f s v s = some v := by unfold put; rw [if_pos rfl]
theorem put_other (f : Fn) (s : ByteArray) (v : Value) {t : ByteArray} (h : t ≠ s) : put f s v t = f t := by unfold put; rw [if_neg h]
end Mp
def MapF (P : Program) (k : TypeId) (w : World) (b n : Nat) (f : Mp.Fn) : Prop :=
 ∃ D : DataW Value, w.ownsMap P k Mp.rv b n D ∧ ∀ s : ByteArray, Maps.has D (Mp.kl s) = (f s).isSome ∧ ∀ z, D.atKey (Mp.kl s) (.held z) = .held ((f s).getD z)
section
variable {P : Program} {k : TypeId} {w w' : World} {b n : Nat} {f : Mp.Fn}
theorem MapF.lt (h : MapF P k w b n f) : b < w.heap.size := by
 obtain ⟨D, h1, _⟩ := h;exact h1.lt
theorem MapF.made (w : World) : MapF P k (w.alloc (.map #[] 0)) w.heap.size 0 (fun _ => none) :=
 ⟨.map [], World.ownsMap_made w P k Mp.rv, fun _ => ⟨rfl, fun _ => rfl⟩⟩
theorem MapF.kept (h : MapF P k w b n f) {row : Option Nat} (hg : w.grownBy w' row) (hne : some b ≠ row) : MapF P k w' b n f := by
 obtain ⟨D, h1, h2⟩ := h;exact ⟨D, h1.kept hg hne, h2⟩
theorem MapF.below (h : MapF P k w b n f) (hb : Below w.heap.size w w') : MapF P k w' b n f :=
 h.kept (row := none) ⟨hb.os, hb.tape, hb.output, hb.size, fun j hj _ => hb.block j hj⟩ (by simp)
theorem MapF.alloc (h : MapF P k w b n f) (o : Obj) : MapF P k (w.alloc o) b n f := by
 obtain ⟨D, h1, h2⟩ := h;exact ⟨D, h1.alloc o, h2⟩
theorem MapF.setCell (h : MapF P k w b n f) {a : Addr} (ha : b ≠ a.block) (u : Value) : MapF P k (w.setCell a u) b n f := by
 obtain ⟨D, h1, h2⟩ := h;exact ⟨D, h1.setCell ha u, h2⟩
theorem MapF.more (h : MapF P k w b n f) {m : Nat} (hn : n ≤ m) : MapF P k w b m f := by
 obtain ⟨D, h1, h2⟩ := h;exact ⟨D, h1.mono hn, h2⟩
theorem MapF.put_ {s : ByteArray} {v : Value} {D : DataW Value} (hD : w.ownsMap P k Mp.rv b n D) (hs : ∀ s : ByteArray, Maps.has D (Mp.kl s) = (f s).isSome ∧ ∀ z, D.atKey (Mp.kl s) (.held z) = .held ((f s).getD z))
  (hD' : w'.ownsMap P k Mp.rv b (n + 1) (D.put (Mp.kl s) (.held v))) : MapF P k w' b (n + 1) (Mp.put f s v) := by
 refine ⟨_, hD', fun t => ?_⟩;have hi := hD.isMap;have hk : WideAt.IsKeyLit (Mp.kl s) := trivial
 by_cases e : t = s
 ·subst e;rw [Mp.put_same];exact ⟨has_put_same hi hk _, fun z => atKey_put_same hi hk _ _⟩
 ·have hne : Mp.kl t ≠ Mp.kl s := fun h => e (Mp.kl_eq.1 h)
  rw [Mp.put_other _ _ _ e, has_put_other hne];exact ⟨(hs t).1, fun z => by rw [atKey_put_other hne]; exact (hs t).2 z⟩
end
section
variable {P : Program} (w : World) {ops : Array Oper} {rest : List Oper} {o : Oper} {a : Act} {Q : Exit → Act → World → Prop}
theorem wpList_look_ok (hg : o.guard = none) (m x : Operand) (t k e : TypeId) (hop : o.op = Op.lookup t m x true) (hk : P.underlying k = some .string) (ht : P.underlying t = some (.map k e)) {z : Value} (hz : ∀ W, (zeroValue e).run P W = .ok z W)
  (b n : Nat) (f : Mp.Fn) (s : ByteArray) (hs : s.size ≤ maxLen) (hm : a.eval m = .map (some b)) (hx : a.eval x = .string s) (h : MapF P k w b n f)
  (hK : wpList P ops Q rest (a.put o.dst (.tuple #[(f s).getD z, .bool (f s).isSome])) w) : wpList P ops Q (o :: rest) a w := by
 obtain ⟨D, hD, hf⟩ := h;refine wpList_lookup_own_ok w hg m x t hop k e (string_keyed hk) ht Mp.rv (hz w) (.held z) [] rfl b n D hm hD (.string s) (Mp.kl s) hx (keyOf_string_mk hk hs) ?_;intro v ps hv;rw [(hf s).2 z] at hv;have e1 : v = (f s).getD z := by
  unfold Mp.rv at hv
  injection hv with hv
  injection hv with hv _
  injection hv
 rw [e1, (hf s).1];exact hK
theorem wpList_look_yes (hg : o.guard = none) (m x : Operand) (t k e : TypeId) (hop : o.op = Op.lookup t m x true) (hk : P.underlying k = some .string) (ht : P.underlying t = some (.map k e)) {z : Value} (hz : ∀ W, (zeroValue e).run P W = .ok z W)
  (b n : Nat) (f : Mp.Fn) (s : ByteArray) (hs : s.size ≤ maxLen) (hm : a.eval m = .map (some b)) (hx : a.eval x = .string s) (h : MapF P k w b n f) (v : Value) (hv : f s = some v)
  (hK : wpList P ops Q rest (a.put o.dst (.tuple #[v, .bool true])) w) : wpList P ops Q (o :: rest) a w :=
 wpList_look_ok w hg m x t k e hop hk ht hz b n f s hs hm hx h (by rw [hv]; exact hK)
theorem wpList_look_no (hg : o.guard = none) (m x : Operand) (t k e : TypeId) (hop : o.op = Op.lookup t m x true) (hk : P.underlying k = some .string) (ht : P.underlying t = some (.map k e)) {z : Value} (hz : ∀ W, (zeroValue e).run P W = .ok z W)
  (b n : Nat) (f : Mp.Fn) (s : ByteArray) (hs : s.size ≤ maxLen) (hm : a.eval m = .map (some b)) (hx : a.eval x = .string s) (h : MapF P k w b n f) (hv : f s = none)
  (hK : wpList P ops Q rest (a.put o.dst (.tuple #[z, .bool false])) w) : wpList P ops Q (o :: rest) a w :=
 wpList_look_ok w hg m x t k e hop hk ht hz b n f s hs hm hx h (by rw [hv]; exact hK)
theorem wpList_store (hg : o.guard = none) (m x v : Operand) (t k e : TypeId) (hop : o.op = Op.mapUpdate t m x v) (hk : P.underlying k = some .string) (ht : P.underlying t = some (.map k e))
  (b n : Nat) (f : Mp.Fn) (s : ByteArray) (hs : s.size ≤ maxLen) (hn : n < maxLen) (val : Value) (hm : a.eval m = .map (some b)) (hx : a.eval x = .string s) (hv : a.eval v = val) (h : MapF P k w b n f)
  (hK : ∀ w', MapF P k w' b (n + 1) (Mp.put f s val) → w.grownBy w' (some b) → wpList P ops Q rest (a.put o.dst undef) w') : wpList P ops Q (o :: rest) a w := by
 obtain ⟨D, hD, hf⟩ := h;refine wpList_mapUpdate_own w hg m x v t hop k e (string_keyed hk) ht Mp.rv b n D hm hD hn (.string s) val (Mp.kl s) hx hv (keyOf_string_mk hk hs) (.held val) [] rfl ?_;intro w' hD' hg';exact hK w' (MapF.put_ hD hf hD') hg'
end
end Go.Proofs.YtjobhjemnmleaaaGreatDoor
namespace Go.Proofs.YtjobhjemnmleaaaGreatDoor
open Go.RowKit
open Go.Maps Go.WideShapes Go.ChangeShapes Go.WideMaps
namespace Mi
def kl (s : Int) : Lit := .int .i64 s
theorem kl_eq {s t : Int} : kl s = kl t ↔ s = t := by
 unfold kl;constructor
 ·intro h
  injection h
 ·intro h;rw [h]
abbrev Fn := Int → Option Value
def put (f : Fn) (s : Int) (v : Value) : Fn := fun t => if t = s then some v else f t
theorem put_same (f : Fn) (s : Int) (v : Value) : put f s v s = some v := by unfold put; rw [if_pos rfl]
theorem put_other (f : Fn) (s : Int) (v : Value) {t : Int} (h : t ≠ s) : put f s v t = f t := by unfold put; rw [if_neg h]
theorem wf {a : Int} (h0 : -9223372036854775808 ≤ a) (h1 : a ≤ 9223372036854775807) : (Lit.int .i64 a).wf = true := by
 simp [Lit.wf, IntKind.min, IntKind.max, IntKind.signed, IntKind.bits]
 omega
end Mi
def MapI (P : Program) (k : TypeId) (w : World) (b n : Nat) (f : Mi.Fn) : Prop :=
 ∃ D : DataW Value, w.ownsMap P k Mp.rv b n D ∧ ∀ s : Int, Maps.has D (Mi.kl s) = (f s).isSome ∧ ∀ z, D.atKey (Mi.kl s) (.held z) = .held ((f s).getD z)
section
variable {P : Program} {k : TypeId} {w w' : World} {b n : Nat} {f : Mi.Fn}
theorem MapI.lt (h : MapI P k w b n f) : b < w.heap.size := by
 obtain ⟨D, h1, _⟩ := h;exact h1.lt
theorem MapI.made (w : World) : MapI P k (w.alloc (.map #[] 0)) w.heap.size 0 (fun _ => none) :=
 ⟨.map [], World.ownsMap_made w P k Mp.rv, fun _ => ⟨rfl, fun _ => rfl⟩⟩
theorem MapI.kept (h : MapI P k w b n f) {row : Option Nat} (hg : w.grownBy w' row) (hne : some b ≠ row) : MapI P k w' b n f := by
 obtain ⟨D, h1, h2⟩ := h;exact ⟨D, h1.kept hg hne, h2⟩
theorem MapI.below (h : MapI P k w b n f) (hb : Below w.heap.size w w') : MapI P k w' b n f :=
 h.kept (row := none) ⟨hb.os, hb.tape, hb.output, hb.size, fun j hj _ => hb.block j hj⟩ (by simp)
theorem MapI.alloc (h : MapI P k w b n f) (o : Obj) : MapI P k (w.alloc o) b n f := by
 obtain ⟨D, h1, h2⟩ := h;exact ⟨D, h1.alloc o, h2⟩
theorem MapI.setCell (h : MapI P k w b n f) {a : Addr} (ha : b ≠ a.block) (u : Value) : MapI P k (w.setCell a u) b n f := by
 obtain ⟨D, h1, h2⟩ := h;exact ⟨D, h1.setCell ha u, h2⟩
theorem MapI.put_ {s : Int} {v : Value} {D : DataW Value} (hD : w.ownsMap P k Mp.rv b n D) (hs : ∀ s : Int, Maps.has D (Mi.kl s) = (f s).isSome ∧ ∀ z, D.atKey (Mi.kl s) (.held z) = .held ((f s).getD z))
  (hD' : w'.ownsMap P k Mp.rv b (n + 1) (D.put (Mi.kl s) (.held v))) : MapI P k w' b (n + 1) (Mi.put f s v) := by
 refine ⟨_, hD', fun t => ?_⟩;have hi := hD.isMap;have hk : WideAt.IsKeyLit (Mi.kl s) := trivial
 by_cases e : t = s
 ·subst e;rw [Mi.put_same];exact ⟨has_put_same hi hk _, fun z => atKey_put_same hi hk _ _⟩
 ·have hne : Mi.kl t ≠ Mi.kl s := fun h => e (Mi.kl_eq.1 h)
  rw [Mi.put_other _ _ _ e, has_put_other hne];exact ⟨(hs t).1, fun z => by rw [atKey_put_other hne]; exact (hs t).2 z⟩
theorem MapI.not_cells (h : MapI P k w b n f) : ∃ o : Obj, w.heap[b]? = some o ∧ o.isCells = false := by
 obtain ⟨D, ⟨es, clock, hb, _⟩, _⟩ := h;exact ⟨_, hb, rfl⟩
theorem MapI.keeps (h : MapI P k w b n f) (hg : w.grownBy w' (some b)) {p : Addr} {v : Value} (hc : w.cell? p = some v) : w'.cell? p = some v :=
 cell_kept hc hg (fun r e => by cases e; exact h.not_cells)
end
section
variable {P : Program} (w : World) {ops : Array Oper} {rest : List Oper} {o : Oper} {a : Act} {Q : Exit → Act → World → Prop}
theorem wpList_lookI_ok (hg : o.guard = none) (m x : Operand) (t k e : TypeId) (hop : o.op = Op.lookup t m x true) (hk : P.underlying k = some (.int .i64)) (ht : P.underlying t = some (.map k e)) {z : Value} (hz : ∀ W, (zeroValue e).run P W = .ok z W)
  (b n : Nat) (f : Mi.Fn) (s : Int) (hs : (Lit.int .i64 s).wf = true) (hm : a.eval m = .map (some b)) (hx : a.eval x = .int .i64 s) (h : MapI P k w b n f)
  (hK : wpList P ops Q rest (a.put o.dst (.tuple #[(f s).getD z, .bool (f s).isSome])) w) : wpList P ops Q (o :: rest) a w := by
 obtain ⟨D, hD, hf⟩ := h;refine wpList_lookup_own_ok w hg m x t hop k e (int_keyed hk) ht Mp.rv (hz w) (.held z) [] rfl b n D hm hD (.int .i64 s) (Mi.kl s) hx (keyOf_int_mk hk hs) ?_;intro v ps hv;rw [(hf s).2 z] at hv;have e1 : v = (f s).getD z := by
  unfold Mp.rv at hv
  injection hv with hv
  injection hv with hv _
  injection hv
 rw [e1, (hf s).1];exact hK
theorem wpList_storeI (hg : o.guard = none) (m x v : Operand) (t k e : TypeId) (hop : o.op = Op.mapUpdate t m x v) (hk : P.underlying k = some (.int .i64)) (ht : P.underlying t = some (.map k e))
  (b n : Nat) (f : Mi.Fn) (s : Int) (hs : (Lit.int .i64 s).wf = true) (hn : n < maxLen) (val : Value) (hm : a.eval m = .map (some b)) (hx : a.eval x = .int .i64 s) (hv : a.eval v = val) (h : MapI P k w b n f)
  (hK : ∀ w', MapI P k w' b (n + 1) (Mi.put f s val) → w.grownBy w' (some b) → wpList P ops Q rest (a.put o.dst undef) w') : wpList P ops Q (o :: rest) a w := by
 obtain ⟨D, hD, hf⟩ := h;refine wpList_mapUpdate_own w hg m x v t hop k e (int_keyed hk) ht Mp.rv b n D hm hD hn (.int .i64 s) val (Mi.kl s) hx hv (keyOf_int_mk hk hs) (.held val) [] rfl ?_;intro w' hD' hg';exact hK w' (MapI.put_ hD hf hD') hg'
end
end Go.Proofs.YtjobhjemnmleaaaGreatDoor
namespace Go.Proofs.YtjobhjemnmleaaaGreatDoor
open Go.RowKit
namespace Lk
def first : List ByteArray → ByteArray → Option Nat
 | [], _ => none
 | x :: l, s => if x = s then some 0 else (first l s).map (· + 1)
theorem first_some : ∀ {l : List ByteArray} {s : ByteArray} {i : Nat}, first l s = some i → l[i]? = some s
 | [], s, i, h => by cases h
 | x :: l, s, i, h => by
  unfold first at h;split at h
  ·rename_i e
   cases h
   simpa using e
  ·cases hf : first l s with
   | none => rw [hf] at h; cases h
   | some j =>
    rw [hf] at h;cases h
    simpa using first_some hf
theorem first_none : ∀ {l : List ByteArray} {s : ByteArray}, first l s = none ↔ s ∉ l
 | [], s => by simp [first]
 | x :: l, s => by
  unfold first
  by_cases e : x = s
  ·simp [e]
  ·rw [if_neg e];have h := first_none (l := l) (s := s);cases hf : first l s with
   | none => simp only [Option.map_none, List.mem_cons, true_iff, not_or]; exact ⟨fun q => e q.symm, h.1 hf⟩
   | some j =>
    simp only [Option.map_some, reduceCtorEq, false_iff, Classical.not_not]
    by_cases hm : s ∈ l
    ·exact List.mem_cons_of_mem _ hm
    ·rw [h.2 hm] at hf; cases hf
theorem first_lt {l : List ByteArray} {s : ByteArray} {i : Nat} (h : first l s = some i) : i < l.length := (List.getElem?_eq_some_iff.1 (first_some h)).1
def from_ (l : List ByteArray) (k : Nat) (s : ByteArray) : Option Nat := (first (l.drop k) s).map (· + k)
theorem from_zero (l : List ByteArray) (s : ByteArray) : from_ l 0 s = first l s := by
 unfold from_;rw [List.drop_zero];cases first l s <;> rfl
theorem from_end (l : List ByteArray) (s : ByteArray) : from_ l l.length s = none := by
 unfold from_;rw [List.drop_length];rfl
theorem from_step {l : List ByteArray} {k : Nat} {x : ByteArray} (h : l[k]? = some x) (s : ByteArray) : from_ l k s = if s = x then some k else from_ l (k + 1) s := by
 unfold from_;obtain ⟨hlt, hx⟩ := List.getElem?_eq_some_iff.1 h;rw [List.drop_eq_getElem_cons hlt, hx, first]
 by_cases e : x = s
 ·rw [if_pos e, if_pos e.symm];simp
 ·rw [if_neg e, if_neg (fun h => e h.symm)];cases first (l.drop (k + 1)) s with
  | none => rfl
  | some j => simp only [Option.map_some, Option.some.injEq]; omega
abbrev Fd := Int × Int
abbrev Kn := ByteArray → Option Fd
def mark (K : Kn) (s : ByteArray) (e : Fd) : Kn := fun t => if t = s then some e else K t
noncomputable def marks (K : Kn) (l : List ByteArray) (e : Fd) : Kn := fun t => @ite _ (t ∈ l) (Classical.propDecidable _) (some e) (K t)
theorem marks_in {K : Kn} {l : List ByteArray} {e : Fd} {t : ByteArray} (h : t ∈ l) : marks K l e t = some e := by
 unfold marks;rw [if_pos h]
theorem marks_out {K : Kn} {l : List ByteArray} {e : Fd} {t : ByteArray} (h : t ∉ l) : marks K l e t = K t := by
 unfold marks;rw [if_neg h]
theorem marks_nil (K : Kn) (e : Fd) : marks K [] e = K := by
 funext t
 exact marks_out (by simp)
theorem marks_snoc (K : Kn) (l : List ByteArray) (s : ByteArray) (e : Fd) : mark (marks K l e) s e = marks K (l ++ [s]) e := by
 funext t
 unfold mark
 by_cases h1 : t = s
 ·rw [if_pos h1, marks_in (by simp [h1])]
 ·rw [if_neg h1]
  by_cases h2 : t ∈ l
  ·rw [marks_in h2, marks_in (by simp [h2])]
  ·rw [marks_out h2, marks_out (by simp [h1, h2])]
theorem marks_twice (K : Kn) (l : List ByteArray) (e e' : Fd) : marks (marks K l e) l e' = marks K l e' := by
 funext t
 by_cases h : t ∈ l
 ·rw [marks_in h, marks_in h]
 ·rw [marks_out h, marks_out h, marks_out h]
def kf (K : Kn) : Mp.Fn := fun t => (K t).map fun e => Value.agg #[.int .i64 e.1, .int .i64 e.2]
theorem kf_put (K : Kn) (s : ByteArray) (e : Fd) : Mp.put (kf K) s (.agg #[.int .i64 e.1, .int .i64 e.2]) = kf (mark K s e) := by
 funext t
 unfold Mp.put kf mark
 by_cases h : t = s
 ·simp [h]
 ·simp [h]
def loop : Fd := (0, 9)
def gone : Fd := (0, 3)
def find (zn ln tg : List ByteArray) : Nat → Kn → ByteArray → List ByteArray × Fd
 | 0, _, _ => ([], (0, 0))
 | f + 1, K, s => match K s with
  | some e => ([], e)
  | none => match first zn s with
   | some i => ([s], ((i : Int), 0))
   | none => match first ln s with
    | none => ([s], gone)
    | some j => (s :: (find zn ln tg f (mark K s loop) (tg.getD j ⟨#[]⟩)).1, (find zn ln tg f (mark K s loop) (tg.getD j ⟨#[]⟩)).2)
theorem nodup_len {α : Type} [DecidableEq α] : ∀ (xs ys : List α), xs.Nodup → (∀ a ∈ xs, a ∈ ys) → xs.length ≤ ys.length
 | [], ys, _, _ => Nat.zero_le _
 | x :: xs, ys, hn, h => by
  obtain ⟨a, b, rfl⟩ := List.append_of_mem (h x (by simp));obtain ⟨h1, h2⟩ := List.nodup_cons.1 hn;have ih := nodup_len xs (a ++ b) h2 (fun y hy => by
   have := h y (by simp [hy]);simp only [List.mem_append, List.mem_cons] at this ⊢;rcases this with h | rfl | h
   ·exact .inl h
   ·exact absurd hy h1
   ·exact .inr h)
  simp only [List.length_append, List.length_cons] at ih ⊢;omega
end Lk
end Go.Proofs.YtjobhjemnmleaaaGreatDoor
namespace Go.Proofs.YtjobhjemnmleaaaGreatDoor
open Go.RowKit Go.Shelf
attribute [local go_sem] Oper.semAt_some
namespace Lk
def down (ns : List ByteArray) (r : Nat) : List (Nat × ByteArray) := (List.range' r (ns.length - r)).reverse.map fun i => (i, ns.getD i ⟨#[]⟩)
theorem down_end (ns : List ByteArray) : down ns ns.length = [] := by unfold down; simp
theorem down_step {ns : List ByteArray} {r : Nat} (h : r < ns.length) : down ns r = down ns (r + 1) ++ [(r, ns.getD r ⟨#[]⟩)] := by
 unfold down;rw [show ns.length - r = (ns.length - (r + 1)) + 1 from by omega, List.range'_succ, List.reverse_cons, List.map_append];rfl
def clip (s : ByteArray) : ByteArray := if s.size ≤ maxLen then s else ⟨#[]⟩
theorem clip_le (s : ByteArray) : (clip s).size ≤ maxLen := by
 unfold clip;split
 ·assumption
 ·exact Nat.zero_le _
theorem clip_id {s : ByteArray} (h : s.size ≤ maxLen) : clip s = s := if_pos h
def fn (l : List (Nat × ByteArray)) : Mp.Fn := l.foldl (fun f x => Mp.put f (clip x.2) (.int .i64 (x.1 : Int))) (fun _ => none)
theorem fn_snoc (l : List (Nat × ByteArray)) (x : Nat × ByteArray) : fn (l ++ [x]) = Mp.put (fn l) (clip x.2) (.int .i64 (x.1 : Int)) := by unfold fn; rw [List.foldl_append]; rfl
def places (ns : List ByteArray) : Mp.Fn := fun s => (first ns s).map fun (i : Nat) => Value.int .i64 (i : Int)
theorem fn_down (ns : List ByteArray) (hsz : ∀ s ∈ ns, s.size ≤ maxLen) : ∀ r, r ≤ ns.length → fn (down ns r) = fun s => (from_ ns r s).map fun (i : Nat) => Value.int .i64 (i : Int) := by
 intro r hr;obtain ⟨d, hd⟩ : ∃ d, ns.length - r = d := ⟨_, rfl⟩
 induction d generalizing r with
 | zero =>
  have e : r = ns.length := by omega
  subst e;rw [down_end]
  funext s
  rw [from_end];rfl
 | succ d ih =>
  have hlt : r < ns.length := by omega
  have hg : ns[r]? = some (ns.getD r ⟨#[]⟩) := by rw [List.getD, List.getElem?_eq_getElem hlt]; rfl
  rw [down_step hlt, fn_snoc, ih (r + 1) (by omega) (by omega)];simp only;rw [clip_id (hsz _ (List.mem_of_getElem? hg))]
  funext s
  rw [from_step hg s];unfold Mp.put
  by_cases e : s = ns.getD r ⟨#[]⟩
  ·rw [if_pos e, if_pos e]; rfl
  ·rw [if_neg e, if_neg e]
theorem fn_all (ns : List ByteArray) (hsz : ∀ s ∈ ns, s.size ≤ maxLen) : fn (down ns 0) = places ns := by
 rw [fn_down ns hsz 0 (Nat.zero_le _)]
 funext s
 simp only [from_zero, places]
structure But (b n : Nat) (W W' : World) : Prop where
 size : W.heap.size ≤ W'.heap.size
 same : ∀ k, k < n → k ≠ b → W'.heap[k]? = W.heap[k]?
theorem But.refl (b n : Nat) (W : World) : But b n W W := ⟨Nat.le_refl _, fun _ _ _ => rfl⟩
theorem But.trans {b n : Nat} {A B C : World} (h : But b n A B) (k : But b n B C) : But b n A C := ⟨Nat.le_trans h.size k.size, fun i hi hb => (k.same i hi hb).trans (h.same i hi hb)⟩
theorem But.cell {b n : Nat} {W W' : World} (h : But b n W W') {p : Addr} (hp : p.block < n) (hb : p.block ≠ b) : W'.cell? p = W.cell? p := World.cell?_of_block (h.same p.block hp hb)
theorem But.put {b n : Nat} {w : World} (hn : n ≤ w.heap.size) (W : World) (l : Nat) (o o' : Obj) (hl : w.heap.size ≤ l) (_ : W.heap[l]? = some o) (_ : o.isCells = false) (_ : o.isWalk = false) : But b n W (W.putObj l o') :=
 ⟨(grownBy_putObj' W l o').size, fun k hk _ => World.putObj_heap_other (by omega)⟩
end Lk
def Lk.SqRet (ns : List ByteArray) (JY JX : List (Nat × ByteArray) → World → Prop) (e : Ending) (W' : World) : Prop :=
 (∃ v, e = .returned v) ∧ ((∃ ys, ys = Lk.down ns 0 ∧ JY ys W') ∨ (∃ pre : List (Nat × ByteArray), True ∧ JX pre W'))
theorem behind1_in (n : Nat) (hn : 1 ≤ n) (l bc bn b n₀ : Nat) (ns : List ByteArray) (hcount : ns.length ≤ 1000000) (hsz : ∀ s ∈ ns, s.size ≤ maxLen) (gn : Nat) (lbn : Array Value) (eg : ∀ args w, (callFunc gn args).run Tryz.prog w = .ok (.enter gn args) w) (JY JX : List (Nat × ByteArray) → World → Prop)
  (hY : ∀ pre x W, JY pre W → pre.length < ns.length → YieldAt Fence.wide (n - 1) Tryz.prog l #[.int .i64 (x.1 : Int), .string (Lk.clip x.2)] W fun e W' =>
   (e = .returned (.bool true) ∧ JY (pre ++ [x]) W' ∧ Lk.But b n₀ W W') ∨ (e = .returned (.bool false) ∧ JX (pre ++ [x]) W'))
  (W : World) (hc : W.cell? ⟨bc, 0, none⟩ = some (.int .i64 (ns.length : Int))) (hf : W.cell? ⟨bn, 0, none⟩ = some (.func (.func gn) #[] lbn)) (hbc : bc < n₀ ∧ bc ≠ b) (hbn : bn < n₀ ∧ bn ≠ b)
  (hname : ∀ W' i, Lk.But b n₀ W W' → i < ns.length → Calls Tryz.prog gn (#[.int .i64 (i : Int)] ++ lbn) W' fun e w' => e = .returned (.string (ns.getD i ⟨#[]⟩)) ∧ W' = w') (h0 : JY [] W) :
  CallsIn Fence.wide n Tryz.prog 177 #[.func (.yield l) #[] #[], .pointer (some ⟨bc, 0, none⟩), .pointer (some ⟨bn, 0, none⟩)] W (Lk.SqRet ns JY JX) := by
 have HNm := Lib.hid hname;clear hname;refine callsIn_of_wp Tryz.func177 rfl trivial ?_ rfl;simp only [Tryz.ntmps177, List.size_toArray, List.length_cons, List.length_nil, Nat.reduceAdd, Nat.reduceSub, Array.replicate_succ, Array.replicate_zero, List.push_toArray, List.append_toArray, List.nil_append, List.cons_append];have w1 : IntKind.i64.wrap ((ns.length : Int) - 1) = (ns.length : Int) - 1 := by rw [IntKind.wrap_i64]; omega
 have w2 : wrap64 ((ns.length : Int) - 1) = (ns.length : Int) - 1 := by unfold wrap64; omega
 gi_wp2
 gi_loopw [4] (fun i wr => ∃ r : Nat, r ≤ ns.length ∧ i = .int .i64 ((r : Int) - 1) ∧ Hid (JY (Lk.down ns r) wr) ∧ Hid (Lk.But b n₀ W wr)) (fun i _ => (intOf i + 1).toNat)
 case atStart => exact ⟨ns.length, Nat.le_refl _, rfl, (by show JY _ _; rw [Lk.down_end]; exact h0), Lk.But.refl _ _ _⟩
 case round =>
  obtain ⟨r, hr, rfl, HJ, HB⟩ := hrel;have c0 := (HB.out.cell (p := ⟨bc, 0, none⟩) hbc.1 hbc.2).trans hc;have c1 := (HB.out.cell (p := ⟨bn, 0, none⟩) hbn.1 hbn.2).trans hf;rcases Nat.eq_zero_or_pos r with h0r | h0r
  ·subst h0r;have q1 : ¬ (0 : Int) ≤ ((0 : Nat) : Int) - 1 := by omega
   gi_wp2
   go_end0
   exact ⟨⟨_, rfl⟩, .inl ⟨_, rfl, HJ.out⟩⟩
  ·obtain ⟨r, rfl⟩ : ∃ k, r = k + 1 := ⟨r - 1, by omega⟩
   have e1 : (((r + 1 : Nat) : Int) - 1) = (r : Int) := by omega
   rw [e1];have HN := Lib.hid (HNm.out wr r HB.out (by omega));obtain ⟨fn, tmps, assign, body, hy, hR⟩ := hY _ (r, ns.getD r ⟨#[]⟩) wr HJ.out (by unfold Lk.down; simp; omega)
   dsimp only at hy
   rw [Lk.clip_id (hsz _ (List.mem_of_getElem? (show ns[r]? = some (ns.getD r ⟨#[]⟩) by rw [List.getD, List.getElem?_eq_getElem (by omega)]; rfl)))] at hy;obtain ⟨sr, hsr⟩ : ∃ s, ns.getD r ⟨#[]⟩ = s := ⟨_, rfl⟩
   rw [hsr] at HN hy hR;have q1 : (0 : Int) ≤ (r : Int) := by omega
   have q2 : IntKind.i64.wrap ((r : Int) - 1) = (r : Int) - 1 := by rw [IntKind.wrap_i64]; omega
   have q3 : wrap64 ((r : Int) - 1) = (r : Int) - 1 := by unfold wrap64; omega
   clear e1 h0r
   gi_wp2_with (first | (refine ⟨trivial, ?_⟩; gi_at_fn gn; refine (callsIn_wide.2 HN.out).mono ?_; rintro e w' ⟨rfl, rfl⟩))
   refine hR.mono ?_;rintro e W3 (⟨rfl, hJ3, hk3⟩ | ⟨rfl, hJx3⟩)
   ·have HJ3 : Hid (JY (Lk.down ns r) W3) := by
     show JY _ _
     rw [Lk.down_step (by omega), hsr];exact hJ3
    have HB3 := Lib.hid (HB.out.trans hk3);clear hJ3 hk3
    gi_wp2
    go_roundw
    case rel => exact ⟨r, by omega, by first | rfl | (simp; done) | (simp; omega), HJ3.out, HB3.out⟩
    case measure => first | (simp [intOf]; done) | (simp [intOf]; omega)
   ·have HX := Lib.hid hJx3;clear hJx3
    gi_wp2
    refine bodyPost_ret (results_none rfl _ _ _) rfl ?_;exact ⟨⟨_, rfl⟩, .inr ⟨_, trivial, HX.out⟩⟩
end Go.Proofs.YtjobhjemnmleaaaGreatDoor
