/- Hives as the program holds them: keys of two cells, values of five; sets of texts. -/
import Derived.Test.YteacncdpjbcinaaDoorWl
import Derived.Test.YteacncdpjbcinaaDoorCells
import Derived.Test.YteacncdpjbcinaaDoorMaps
namespace Go.Proofs.YteacncdpjbcinaaDoor
open Go.RowKit

namespace Hv
theorem bl {a w : World} (h : Below a.heap.size a w) (o : Obj) : Below a.heap.size a (w.alloc o) := h.alloc h.size o
theorem bl1 (w : World) (o : Obj) : Below w.heap.size w (w.alloc o) := bl (Below.refl _ _) o
theorem take_next {α : Type} {l : List α} {i : Nat} {x : α} (h : l[i]? = some x) : l.take (i + 1) = l.take i ++ [x] := by
  rw [List.take_add_one, h]
  rfl
/-- A set of texts. -/
def has (a : List ByteArray) (k : ByteArray) : Bool := a.any fun x => decide (x = k)
theorem has_iff {a : List ByteArray} {k : ByteArray} : has a k = true ↔ k ∈ a := by
  unfold has
  rw [List.any_eq_true]
  constructor
  · rintro ⟨x, hx, h⟩
    rw [← of_decide_eq_true h]
    exact hx
  · exact fun h => ⟨k, h, by simp⟩
theorem has_not {a : List ByteArray} {k : ByteArray} (h : k ∉ a) : has a k = false := by
  cases e : has a k with
  | true => exact absurd (has_iff.1 e) h
  | false => rfl
def sf (l : List ByteArray) : Mp.Fn := fun s => if has l s = true then some (.agg #[]) else none
theorem sf_put (l : List ByteArray) (s : ByteArray) : Mp.put (sf l) s (.agg #[]) = sf (l ++ [s]) := by
  funext t
  unfold Mp.put sf
  by_cases h : t = s
  · subst h
    rw [if_pos rfl, if_pos (has_iff.2 (List.mem_append_right _ (List.mem_singleton.2 rfl)))]
  · rw [if_neg h]
    by_cases h2 : t ∈ l
    · rw [if_pos (has_iff.2 h2), if_pos (has_iff.2 (List.mem_append_left _ h2))]
    · rw [if_neg (fun q => h2 (has_iff.1 q)), if_neg (fun q => by
        rcases List.mem_append.1 (has_iff.1 q) with q | q
        · exact h2 q
        · exact h (List.mem_singleton.1 q))]
theorem sf_get (l : List ByteArray) (s : ByteArray) : (sf l s).getD (.agg #[]) = .agg #[] ∧ (sf l s).isSome = has l s := by
  unfold sf
  by_cases h : has l s = true
  · rw [if_pos h, h]; exact ⟨rfl, rfl⟩
  · rw [if_neg h]
    cases hq : has l s with
    | true => exact absurd hq h
    | false => exact ⟨rfl, rfl⟩
theorem zero_unit (W : World) : (zeroValue 57).run Tryd.prog W = .ok (.agg #[]) W := by kernel_rfl
theorem make_set (c : Int) (W : World) : (Instr.makeMap 55 (some (.int .i64 c))).run Tryd.prog W = .ok (.map (some W.heap.size)) (W.alloc (.map #[] 0)) := by
  simp [Instr.makeMap, run_underlying Tryd.underlying55]
  rfl
section
variable (w : World) {ops : Array Oper} {rest : List Oper} {o : Oper} {a : Act} {Q : Exit → Act → World → Prop}
theorem look_set (hg : o.guard = none) (m x : Operand) (b n : Nat) (l : List ByteArray) (s : ByteArray) (h1 : s.size ≤ maxLen) (hop : o.op = Op.lookup 55 m x true)
    (hm : a.eval m = .map (some b)) (hx : a.eval x = .string s) (h : MapF Tryd.prog 9 w b n (sf l)) (q : Bool) (hq : has l s = q)
    (hK : wpList Tryd.prog ops Q rest (a.put o.dst (.tuple #[.agg #[], .bool q])) w) : wpList Tryd.prog ops Q (o :: rest) a w := by
  refine wpList_look_ok w hg m x 55 9 57 hop Tryd.underlying9 Tryd.underlying55 zero_unit b n _ s h1 hm hx h ?_
  rw [(sf_get _ _).1, (sf_get _ _).2, hq]
  exact hK
theorem store_set (hg : o.guard = none) (m x v : Operand) (b n : Nat) (l : List ByteArray) (s : ByteArray) (h1 : s.size ≤ maxLen) (hn : n < maxLen) (hop : o.op = Op.mapUpdate 55 m x v)
    (hm : a.eval m = .map (some b)) (hx : a.eval x = .string s) (hv : a.eval v = .agg #[]) (h : MapF Tryd.prog 9 w b n (sf l))
    (hK : ∀ w', MapF Tryd.prog 9 w' b (n + 1) (sf (l ++ [s])) → w.grownBy w' (some b) → wpList Tryd.prog ops Q rest (a.put o.dst undef) w') : wpList Tryd.prog ops Q (o :: rest) a w := by
  refine wpList_store w hg m x v 55 9 57 hop Tryd.underlying9 Tryd.underlying55 b n _ s h1 hn _ hm hx hv h ?_
  intro w' hM hg'
  rw [sf_put] at hM
  exact hK w' hM hg'
end
/-- A slice that reads as these cells. -/
def Row (w : World) (B size n : Nat) (v : Value) (xs : List Value) : Prop := ∃ A c, v = .slice A n c ∧ n ≤ c ∧ c ≤ maxLen ∧ Reads w B size A n xs
theorem Row.below {w w' : World} {B size n : Nat} {v : Value} {xs : List Value} (h : Row w B size n v xs) (hb : Below B w w') : Row w' B size n v xs := by
  obtain ⟨A, c, e, h1, h2, h3⟩ := h
  exact ⟨A, c, e, h1, h2, h3.below hb⟩
theorem Row.more {w : World} {B B' size n : Nat} {v : Value} {xs : List Value} (h : Row w B size n v xs) (hb : B ≤ B') : Row w B' size n v xs := by
  obtain ⟨A, c, e, h1, h2, h3⟩ := h
  exact ⟨A, c, e, h1, h2, h3.more hb⟩
theorem Row.call {w w' : World} {size n : Nat} {v : Value} {xs : List Value} (h : Row w w.heap.size size n v xs) (hb : Below w.heap.size w w') : Row w' w'.heap.size size n v xs := (h.below hb).more hb.size
theorem flat_at {α : Type} (enc : α → List Value) (m : Nat) (hm : ∀ x, (enc x).length = m) : ∀ (xs : List α) (k : Nat) (x : α), xs[k]? = some x → ∀ (j : Nat) (v : Value), (enc x)[j]? = some v → (xs.flatMap enc)[k * m + j]? = some v
  | [], k, x, h, j, v, hj => by simp at h
  | y :: l, 0, x, h, j, v, hj => by
    simp at h
    subst h
    rw [List.flatMap_cons, List.getElem?_append_left (by have := (List.getElem?_eq_some_iff.1 hj).1; omega)]
    simpa using hj
  | y :: l, k + 1, x, h, j, v, hj => by
    rw [List.flatMap_cons, List.getElem?_append_right (by rw [hm, Nat.add_mul]; omega), hm]
    have := flat_at enc m hm l k x (by simpa using h) j v hj
    rw [← this]
    congr 1
    rw [Nat.add_mul]
    omega
theorem reads_at {α : Type} {enc : α → List Value} {m : Nat} (hm : ∀ x, (enc x).length = m) {w : World} {B n k : Nat} {A : Option Addr} {xs : List α} (hl : xs.length = n) (h : Reads w B m A n (xs.flatMap enc)) (hk : k < n) :
    ∃ ad x, A = some ad ∧ ad.block < B ∧ Hid (xs[k]? = some x) ∧ Hid (∀ j v, (enc x)[j]? = some v → w.cell? ((ad.add (k * m)).add j) = some v) := by
  obtain ⟨ad, e, hb, hc⟩ := h.2 (by omega)
  have hkl : k < xs.length := by omega
  refine ⟨ad, xs[k], e, hb, List.getElem?_eq_getElem hkl, fun j v hj => ?_⟩
  rw [add_of_add]
  exact hc _ _ (flat_at enc m hm xs k _ (List.getElem?_eq_getElem hkl) j v hj)
/-- A value of a key: its name, kind, text, number and bytes. -/
structure V where
  name : ByteArray
  kind : Int
  text : ByteArray
  num : Int
  bytes : ByteArray
structure K where
  path : ByteArray
  vals : List V
def V.cells (v : V) : List Value := [.string v.name, .int .u8 v.kind, .string v.text, .int .u32 v.num, .string v.bytes]
def V.v (x : V) : Value := .agg #[.string x.name, .int .u8 x.kind, .string x.text, .int .u32 x.num, .string x.bytes]
def kc (p : K × Value) : List Value := [.string p.1.path, p.2]
/-- What numbers a value may hold, and how wide its texts may be. -/
structure V.Ok (v : V) : Prop where
  name : v.name.size ≤ maxLen
  text : v.text.size ≤ maxLen
  bytes : v.bytes.size ≤ maxLen
  k0 : 0 ≤ v.kind
  k1 : v.kind ≤ 255
  n0 : 0 ≤ v.num
  n1 : v.num ≤ 4294967295
structure K.Ok (k : K) : Prop where
  path : k.path.size ≤ maxLen
  vals : ∀ v ∈ k.vals, v.Ok
/-- A hive's keys, and one slice for each key's values. -/
structure HR (w : World) (B : Nat) (l : List K) (v : Value) (evs : List Value) : Prop where
  row : Row w B 2 l.length v ((l.zip evs).flatMap kc)
  len : evs.length = l.length
  vals : ∀ p ∈ l.zip evs, Row w B 5 p.1.vals.length p.2 (p.1.vals.flatMap V.cells)
section
variable {w w' : World} {B B' : Nat} {l : List K} {v : Value} {evs : List Value}
theorem HR.below (h : HR w B l v evs) (hb : Below B w w') : HR w' B l v evs := ⟨h.row.below hb, h.len, fun p hp => (h.vals p hp).below hb⟩
theorem HR.more (h : HR w B l v evs) (hb : B ≤ B') : HR w B' l v evs := ⟨h.row.more hb, h.len, fun p hp => (h.vals p hp).more hb⟩
theorem HR.call (h : HR w w.heap.size l v evs) (hb : Below w.heap.size w w') : HR w' w'.heap.size l v evs := (h.below hb).more hb.size
/-- A key, out of all. -/
theorem HR.at_ {n k c : Nat} {A : Option Addr} (h : HR w B l (.slice A n c) evs) (hl : l.length = n) (hk : k < n) :
    ∃ ad e vA m vc, A = some ad ∧ ad.block < B ∧ Hid (l[k]? = some e) ∧ w.cell? (ad.add (k * 2)) = some (.string e.path) ∧ w.cell? ⟨(ad.add (k * 2)).block, (ad.add (k * 2)).off + 1, none⟩ = some (.slice vA m vc) ∧
      Hid (e.vals.length = m) ∧ m ≤ vc ∧ vc ≤ maxLen ∧ Hid (Reads w B 5 vA m (e.vals.flatMap V.cells)) := by
  obtain ⟨A', c', e9, _, _, hr⟩ := h.row
  rw [hl] at e9 hr
  injection e9 with e91 e92 e93
  rw [← e91] at hr
  have hlz : (l.zip evs).length = n := by rw [List.length_zip, h.len, hl]; omega
  obtain ⟨ad, p, e1, hab, hx, hL⟩ := reads_at (enc := kc) (m := 2) (fun _ => rfl) hlz hr hk
  have hx := hx.out
  have hL := hL.out
  obtain ⟨vA, vc, e2, h1, h2, h3⟩ := h.vals p (List.mem_of_getElem? hx)
  have hz := List.getElem?_zip_eq_some.1 hx
  have c1 := hL 1 _ rfl
  rw [e2] at c1
  exact ⟨ad, p.1, vA, p.1.vals.length, vc, e1, hab, hz.1, hL 0 _ rfl, c1, rfl, h1, h2, h3⟩
/-- A value, out of all of a key. -/
theorem val_at {l : List V} {n k : Nat} {A : Option Addr} (h : Reads w B 5 A n (l.flatMap V.cells)) (hl : l.length = n) (hk : k < n) :
    ∃ ad x, A = some ad ∧ ad.block < B ∧ Hid (l[k]? = some x) ∧ w.cell? (ad.add (k * 5)) = some (.string x.name) ∧ w.cell? ⟨(ad.add (k * 5)).block, (ad.add (k * 5)).off + 1, none⟩ = some (.int .u8 x.kind) ∧ w.cell? ⟨(ad.add (k * 5)).block, (ad.add (k * 5)).off + 2, none⟩ = some (.string x.text) ∧
      w.cell? ⟨(ad.add (k * 5)).block, (ad.add (k * 5)).off + 3, none⟩ = some (.int .u32 x.num) ∧ w.cell? ⟨(ad.add (k * 5)).block, (ad.add (k * 5)).off + 4, none⟩ = some (.string x.bytes) := by
  obtain ⟨ad, x, e1, hab, hx, hL⟩ := reads_at (enc := V.cells) (m := 5) (fun _ => rfl) hl h hk
  have hL := hL.out
  exact ⟨ad, x, e1, hab, hx, hL 0 _ rfl, hL 1 _ rfl, hL 2 _ rfl, hL 3 _ rfl, hL 4 _ rfl⟩
end
end Hv
end Go.Proofs.YteacncdpjbcinaaDoor
