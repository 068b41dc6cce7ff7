/- Maps that the call makes, keyed by strings, whatever their elements are: what a block holds, as a function. -/
import Derived.Test.YthmhadgbhakdlaaDoorP01
import Derived.Maps.OwnSet

namespace Go.Proofs.YthmhadgbhakdlaaDoor
open Go.RowKit
open Go.Maps Go.WideShapes Go.ChangeShapes Go.WideMaps

namespace Mp
/-- An element reads as itself. -/
def rv (v : Value) : Option (DataW Value × List MemPlace) := some (.held v, [])
def kl (s : ByteArray) : Lit := .string s.data.toList
theorem kl_eq {s t : ByteArray} : kl s = kl t ↔ s = t := by
  unfold kl
  constructor
  · intro h
    injection h with h
    exact ByteArray.ext (Array.ext' h)
  · intro h
    rw [h]
/-- What stands at a key. -/
abbrev Fn := ByteArray → Option Value
def put (f : Fn) (s : ByteArray) (v : Value) : Fn := fun t => if t = s then some v else f t
theorem put_same (f : Fn) (s : ByteArray) (v : Value) : put f s v s = some v := by unfold put; rw [if_pos rfl]
theorem put_other (f : Fn) (s : ByteArray) (v : Value) {t : ByteArray} (h : t ≠ s) : put f s v t = f t := by unfold put; rw [if_neg h]
end Mp
/-- Block b is a map of at most n entries, keyed by strings of type k, that holds f. -/
def MapF (P : Program) (k : TypeId) (w : World) (b n : Nat) (f : Mp.Fn) : Prop :=
  ∃ D : DataW Value, w.ownsMap P k Mp.rv b n D ∧ ∀ s : ByteArray, Maps.has D (Mp.kl s) = (f s).isSome ∧ ∀ z, D.atKey (Mp.kl s) (.held z) = .held ((f s).getD z)
section
variable {P : Program} {k : TypeId} {w w' : World} {b n : Nat} {f : Mp.Fn}
theorem MapF.lt (h : MapF P k w b n f) : b < w.heap.size := by
  obtain ⟨D, h1, _⟩ := h
  exact h1.lt
theorem MapF.made (w : World) : MapF P k (w.alloc (.map #[] 0)) w.heap.size 0 (fun _ => none) :=
  ⟨.map [], World.ownsMap_made w P k Mp.rv, fun _ => ⟨rfl, fun _ => rfl⟩⟩
theorem MapF.kept (h : MapF P k w b n f) {row : Option Nat} (hg : w.grownBy w' row) (hne : some b ≠ row) : MapF P k w' b n f := by
  obtain ⟨D, h1, h2⟩ := h
  exact ⟨D, h1.kept hg hne, h2⟩
theorem MapF.below (h : MapF P k w b n f) (hb : Below w.heap.size w w') : MapF P k w' b n f :=
  h.kept (row := none) ⟨hb.os, hb.tape, hb.output, hb.size, fun j hj _ => hb.block j hj⟩ (by simp)
theorem MapF.alloc (h : MapF P k w b n f) (o : Obj) : MapF P k (w.alloc o) b n f := by
  obtain ⟨D, h1, h2⟩ := h
  exact ⟨D, h1.alloc o, h2⟩
theorem MapF.drewN (h : MapF P k w b n f) (m : Nat) : MapF P k (w.drewN m) b n f := h
theorem MapF.setCell (h : MapF P k w b n f) {a : Addr} (ha : b ≠ a.block) (u : Value) : MapF P k (w.setCell a u) b n f := by
  obtain ⟨D, h1, h2⟩ := h
  exact ⟨D, h1.setCell ha u, h2⟩
theorem MapF.more (h : MapF P k w b n f) {m : Nat} (hn : n ≤ m) : MapF P k w b m f := by
  obtain ⟨D, h1, h2⟩ := h
  exact ⟨D, h1.mono hn, h2⟩
theorem MapF.put_ {s : ByteArray} {v : Value} {D : DataW Value} (hD : w.ownsMap P k Mp.rv b n D) (hs : ∀ s : ByteArray, Maps.has D (Mp.kl s) = (f s).isSome ∧ ∀ z, D.atKey (Mp.kl s) (.held z) = .held ((f s).getD z))
    (hD' : w'.ownsMap P k Mp.rv b (n + 1) (D.put (Mp.kl s) (.held v))) : MapF P k w' b (n + 1) (Mp.put f s v) := by
  refine ⟨_, hD', fun t => ?_⟩
  have hi := hD.isMap
  have hk : WideAt.IsKeyLit (Mp.kl s) := trivial
  by_cases e : t = s
  · subst e
    rw [Mp.put_same]
    exact ⟨has_put_same hi hk _, fun z => atKey_put_same hi hk _ _⟩
  · have hne : Mp.kl t ≠ Mp.kl s := fun h => e (Mp.kl_eq.1 h)
    rw [Mp.put_other _ _ _ e, has_put_other hne]
    exact ⟨(hs t).1, fun z => by rw [atKey_put_other hne]; exact (hs t).2 z⟩
end
section
variable {P : Program} (w : World) {ops : Array Oper} {rest : List Oper} {o : Oper} {a : Act} {Q : Exit → Act → World → Prop}
/-- 'v, ok := m[s]' -/
theorem wpList_look_ok (hg : o.guard = none) (m x : Operand) (t k e : TypeId) (hop : o.op = Op.lookup t m x true) (hk : P.underlying k = some .string) (ht : P.underlying t = some (.map k e)) {z : Value} (hz : ∀ W, (zeroValue e).run P W = .ok z W)
    (b n : Nat) (f : Mp.Fn) (s : ByteArray) (hs : s.size ≤ maxLen) (hm : a.eval m = .map (some b)) (hx : a.eval x = .string s) (h : MapF P k w b n f)
    (hK : wpList P ops Q rest (a.put o.dst (.tuple #[(f s).getD z, .bool (f s).isSome])) w) : wpList P ops Q (o :: rest) a w := by
  obtain ⟨D, hD, hf⟩ := h
  refine wpList_lookup_own_ok w hg m x t hop k e (string_keyed hk) ht Mp.rv (hz w) (.held z) [] rfl b n D hm hD (.string s) (Mp.kl s) hx (keyOf_string_mk hk hs) ?_
  intro v ps hv
  rw [(hf s).2 z] at hv
  have e1 : v = (f s).getD z := by
    unfold Mp.rv at hv
    injection hv with hv
    injection hv with hv _
    injection hv
  rw [e1, (hf s).1]
  exact hK
/-- 'v, ok := m[s]', where it is. -/
theorem wpList_look_yes (hg : o.guard = none) (m x : Operand) (t k e : TypeId) (hop : o.op = Op.lookup t m x true) (hk : P.underlying k = some .string) (ht : P.underlying t = some (.map k e)) {z : Value} (hz : ∀ W, (zeroValue e).run P W = .ok z W)
    (b n : Nat) (f : Mp.Fn) (s : ByteArray) (hs : s.size ≤ maxLen) (hm : a.eval m = .map (some b)) (hx : a.eval x = .string s) (h : MapF P k w b n f) (v : Value) (hv : f s = some v)
    (hK : wpList P ops Q rest (a.put o.dst (.tuple #[v, .bool true])) w) : wpList P ops Q (o :: rest) a w :=
  wpList_look_ok w hg m x t k e hop hk ht hz b n f s hs hm hx h (by rw [hv]; exact hK)
/-- .. where it is not. -/
theorem wpList_look_no (hg : o.guard = none) (m x : Operand) (t k e : TypeId) (hop : o.op = Op.lookup t m x true) (hk : P.underlying k = some .string) (ht : P.underlying t = some (.map k e)) {z : Value} (hz : ∀ W, (zeroValue e).run P W = .ok z W)
    (b n : Nat) (f : Mp.Fn) (s : ByteArray) (hs : s.size ≤ maxLen) (hm : a.eval m = .map (some b)) (hx : a.eval x = .string s) (h : MapF P k w b n f) (hv : f s = none)
    (hK : wpList P ops Q rest (a.put o.dst (.tuple #[z, .bool false])) w) : wpList P ops Q (o :: rest) a w :=
  wpList_look_ok w hg m x t k e hop hk ht hz b n f s hs hm hx h (by rw [hv]; exact hK)
/-- 'm[s]' -/
theorem wpList_look (hg : o.guard = none) (m x : Operand) (t k e : TypeId) (hop : o.op = Op.lookup t m x false) (hk : P.underlying k = some .string) (ht : P.underlying t = some (.map k e)) {z : Value} (hz : ∀ W, (zeroValue e).run P W = .ok z W)
    (b n : Nat) (f : Mp.Fn) (s : ByteArray) (hs : s.size ≤ maxLen) (hm : a.eval m = .map (some b)) (hx : a.eval x = .string s) (h : MapF P k w b n f)
    (hK : wpList P ops Q rest (a.put o.dst ((f s).getD z)) w) : wpList P ops Q (o :: rest) a w := by
  obtain ⟨D, hD, hf⟩ := h
  refine wpList_plain hg fun K' hK' => ?_
  obtain ⟨v, ps, hrun, hv⟩ := hD.lookup (string_keyed hk) ht (hz w) (zd := .held z) (zp := []) rfl (keyOf_string_mk hk hs)
  have hv' : Mp.rv v = some (D.atKey (Mp.kl s) (.held z), ps) := hv
  rw [(hf s).2 z] at hv'
  have e1 : v = (f s).getD z := by
    unfold Mp.rv at hv'
    injection hv' with hv
    injection hv with hv _
    injection hv
  subst e1
  unfold Oper.wp
  simp [execOp, hop, hm, hx, hrun, Result.andThen]
  exact hK' _ _ hK
/-- 'm[s] = v' -/
theorem wpList_store (hg : o.guard = none) (m x v : Operand) (t k e : TypeId) (hop : o.op = Op.mapUpdate t m x v) (hk : P.underlying k = some .string) (ht : P.underlying t = some (.map k e))
    (b n : Nat) (f : Mp.Fn) (s : ByteArray) (hs : s.size ≤ maxLen) (hn : n < maxLen) (val : Value) (hm : a.eval m = .map (some b)) (hx : a.eval x = .string s) (hv : a.eval v = val) (h : MapF P k w b n f)
    (hK : ∀ w', MapF P k w' b (n + 1) (Mp.put f s val) → w.grownBy w' (some b) → wpList P ops Q rest (a.put o.dst undef) w') : wpList P ops Q (o :: rest) a w := by
  obtain ⟨D, hD, hf⟩ := h
  refine wpList_mapUpdate_own w hg m x v t hop k e (string_keyed hk) ht Mp.rv b n D hm hD hn (.string s) val (Mp.kl s) hx hv (keyOf_string_mk hk hs) (.held val) [] rfl ?_
  intro w' hD' hg'
  exact hK w' (MapF.put_ hD hf hD') hg'
end
end Go.Proofs.YthmhadgbhakdlaaDoor
