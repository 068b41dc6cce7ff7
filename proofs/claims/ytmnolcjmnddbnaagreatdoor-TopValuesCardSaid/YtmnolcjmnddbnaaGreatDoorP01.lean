/- Words for memory: a slice that reads as a list; draws alone; small lemmas. -/
import Derived.Test.YtmnolcjmnddbnaaGreatDoorChecked
import Derived.WalkKit
import Derived.Below
import Derived.Laws.OwnMore
import Derived.Deep.AppendLies
import Derived.Deep.Draws
import Derived.Lib.Hide
import Derived.Maps.AppendAt
import Derived.RegionTactic
import Derived.OwnWalk
import Derived.Maps.OwnSet
import Derived.Laws.RangeAny
import Derived.Lib.IndexAny
import Derived.Lib.DecodeN
import Derived.Lib.CutLaws

namespace Go.Proofs.YtmnolcjmnddbnaaGreatDoor
open Go.RowKit

theorem ret_int {k : IntKind} {a b : Int} (h : a = b) : Ending.returned (.int k a) = .returned (.int k b) := by rw [h]
theorem ret_bool {a b : Bool} (h : a = b) : Ending.returned (.bool a) = .returned (.bool b) := by rw [h]
theorem u8_bd (c : UInt8) : 0 ≤ (c.toNat : Int) ∧ (c.toNat : Int) ≤ 255 := by have := c.toNat_lt; omega

/-- The letters of a text. -/
def tl (s : ByteArray) : List UInt8 := s.data.toList
theorem tl_length (s : ByteArray) : (tl s).length = s.size := by simp [tl]

theorem tl_extract (s : ByteArray) (k : Nat) : tl (s.extract 0 k) = (tl s).take k := by simp [tl]

/-- Draws alone. -/
def Drew (w w' : World) : Prop := ∃ n, w' = w.drewN n
theorem Drew.refl (w : World) : Drew w w := ⟨0, rfl⟩
theorem Drew.drewN {w w' : World} (h : Drew w w') (n : Nat) : Drew w (w'.drewN n) := by
  obtain ⟨m, rfl⟩ := h
  exact ⟨m + n, World.drewN_drewN ..⟩
theorem Drew.trans {a b c : World} (h : Drew a b) (k : Drew b c) : Drew a c := by
  obtain ⟨n, rfl⟩ := k
  exact h.drewN n
theorem below_drewN {B : Nat} {a w : World} (h : Below B a w) (n : Nat) : Below B a (w.drewN n) := ⟨h.os, h.tape, h.output, h.size, h.block⟩
theorem Drew.below {w w' : World} (h : Drew w w') (B : Nat) : Below B w w' := by
  obtain ⟨n, rfl⟩ := h
  exact below_drewN (Below.refl B w) n
theorem Drew.cell {w w' : World} (h : Drew w w') (p : Addr) : w'.cell? p = w.cell? p := by
  obtain ⟨n, rfl⟩ := h
  rfl
theorem Drew.heap {w w' : World} (h : Drew w w') : w'.heap = w.heap := by
  obtain ⟨n, rfl⟩ := h
  rfl

theorem block_of_add (a : Addr) (n : Nat) : (a.add n).block = a.block := by unfold Addr.add; split <;> rfl
theorem add_of_add (a : Addr) (i j : Nat) : (a.add i).add j = a.add (i + j) := by
  unfold Addr.add
  by_cases hi : i = 0 <;> by_cases hj : j = 0 <;> simp [hi, hj, Nat.add_assoc]

/-- A slice's cells: of n elements, 'size' cells each, below block B. -/
def Reads (w : World) (B size : Nat) (A : Option Addr) (n : Nat) (xs : List Value) : Prop :=
  xs.length = n * size ∧ (0 < n → ∃ ad, A = some ad ∧ ad.block < B ∧ ∀ j u, xs[j]? = some u → w.cell? (ad.add j) = some u)

section
variable {w w' : World} {B B' size n : Nat} {A : Option Addr} {xs : List Value}
theorem Reads.none_ : Reads w B size A 0 [] := ⟨by simp, fun h => absurd h (by omega)⟩
theorem Reads.at_ {k : Nat} (h : Reads w B 1 A n xs) (hk : k < n) : ∃ ad u, A = some ad ∧ ad.block < B ∧ xs[k]? = some u ∧ w.cell? (ad.add k) = some u := by
  obtain ⟨ad, e, hb, hc⟩ := h.2 (by omega)
  have hl : k < xs.length := by have := h.1; omega
  exact ⟨ad, xs[k], e, hb, List.getElem?_eq_getElem hl, hc k _ (List.getElem?_eq_getElem hl)⟩
theorem Reads.keep (h : Reads w B size A n xs) (hk : ∀ p : Addr, p.block < B → w'.cell? p = w.cell? p) : Reads w' B size A n xs :=
  ⟨h.1, fun hn => by
    obtain ⟨ad, e, hb, hc⟩ := h.2 hn
    exact ⟨ad, e, hb, fun j u hu => (hk _ (by rw [block_of_add]; exact hb)).trans (hc j u hu)⟩⟩
theorem Reads.more (h : Reads w B size A n xs) (hB : B ≤ B') : Reads w B' size A n xs :=
  ⟨h.1, fun hn => by
    obtain ⟨ad, e, hb, hc⟩ := h.2 hn
    exact ⟨ad, e, by omega, hc⟩⟩
theorem Reads.below (h : Reads w B size A n xs) (hb : Below B w w') : Reads w' B size A n xs := h.keep fun _ hp => hb.cell hp
theorem Reads.drewN (h : Reads w B size A n xs) (k : Nat) : Reads (w.drewN k) B size A n xs := h
theorem Reads.of_drew (h : Reads w B size A n xs) (k : Drew w w') : Reads w' B size A n xs := h.keep fun p _ => k.cell p
end

section
variable {w w' : World} {B size n : Nat} {A : Option Addr} {xs : List Value}
theorem Reads.alloc (h : Reads w B size A n xs) (hB : B ≤ w.heap.size) (o : Obj) : Reads (w.alloc o) B size A n xs := h.keep fun p hp => World.cell?_alloc_lt w o p (by omega)
theorem Reads.setCell (h : Reads w B size A n xs) {p : Addr} (hB : B ≤ p.block) (u : Value) : Reads (w.setCell p u) B size A n xs :=
  h.keep fun q hq => World.cell?_setCell_other w p q u (fun e => by subst e; omega)
theorem Reads.grown (h : Reads w B size A n xs) {row : Option Nat} (hg : w.grownBy w' row) (hB : B ≤ w.heap.size) (hr : ∀ g, row = some g → B ≤ g) : Reads w' B size A n xs :=
  h.keep fun p hp => World.cell?_of_block (hg.block p.block (by omega) (fun e => by have := hr _ e.symm; omega))
theorem Reads.of_own {base : Nat} {e : TypeId} {c : Nat} (h : w.ownsRow base e size (.slice A n c) n xs) : Reads w w.heap.size size A n xs := by
  refine ⟨h.1, fun hn => ?_⟩
  obtain ⟨g, cap, hv, _, hlt⟩ := h.form hn
  have hA : A = some ⟨g, 0, none⟩ := by injection hv
  subst hA
  exact ⟨_, rfl, hlt, h.cells (g := g) rfl⟩
end

section
variable {P : Program} (w : World)

theorem run_append_of_nil (base : Nat) (t ty e : TypeId) (i : TypeInfo) (size : Nat) (ht : P.underlying t = some (.slice e)) (hi : P.info? e = some i)
    (v : Value) (n : Nat) (xs : List Value) (hown : w.ownsRow base e size v n xs) (c : Nat) : (Builtin.append_ #[t, t] ty #[v, .slice none 0 c]).run P w = .ok v w := by
  rcases hown.2 with ⟨rfl, rfl⟩ | ⟨g, cap, cur, rfl, _, _, hnc, _⟩
  · simp [Builtin.append_, run_underlying ht, sizeOf, typeInfo, hi, Builtin.lenOf, Builtin.firstCells]
  · simp [Builtin.append_, run_underlying ht, sizeOf, typeInfo, hi, Builtin.lenOf, Builtin.firstCells, hnc, storeCells]

theorem run_append_any (base : Nat) (t ty e : TypeId) (i : TypeInfo) (z : Value) (size bytes : Nat) (ht : P.underlying t = some (.slice e)) (hi : P.info? e = some i) (hz : i.zero = some z)
    (hsize : i.size = size) (hby : i.bytes = bytes) (hzs : z.cells.size = size) (hsz : 0 < size)
    (v : Value) (n : Nat) (xs : List Value) (hown : w.ownsRow base e size v n xs)
    (B : Nat) (A : Option Addr) (m c : Nat) (news : List Value) (hr : Reads w B size A m news) (h1 : ∀ u ∈ news, u.oneCell' = true)
    (h63 : n + m ≤ maxLen) (hbytes : (n + m) * bytes ≤ 140737488355328) (hbase : base ≤ w.heap.size) :
    ∃ v' w', (Builtin.append_ #[t, t] ty #[v, .slice A m c]).run P w = .ok v' w' ∧ w'.ownsRow base e size v' (n + m) (xs ++ news) ∧ w.grownBy w' v.ownBlock ∧
      (v'.ownBlock = v.ownBlock ∨ v'.ownBlock = some w.heap.size) := by
  rcases A with _ | ad
  · have hm : m = 0 := by
      rcases Nat.eq_zero_or_pos m with h0 | h0
      · exact h0
      · obtain ⟨ad, h, _⟩ := hr.2 h0
        cases h
    subst hm
    have hn : news = [] := List.eq_nil_of_length_eq_zero (by simpa using hr.1)
    subst hn
    exact ⟨v, w, run_append_of_nil w base t ty e i size ht hi v n xs hown c, by simpa using hown, World.grownBy.refl w _, .inl rfl⟩
  · have hcells : ∀ j u, news[j]? = some u → w.cell? (ad.add j) = some u := by
      intro j u hu
      rcases Nat.eq_zero_or_pos m with h0 | h0
      · subst h0
        have hn : news = [] := List.eq_nil_of_length_eq_zero (by simpa using hr.1)
        subst hn
        simp at hu
      · obtain ⟨ad', h, _, hc⟩ := hr.2 h0
        injection h with h
        subst h
        exact hc j u hu
    obtain ⟨v', w', hrun, h2, h3, _, h5⟩ := run_append_own_at (P := P) w base t ty e i z size bytes ht hi hz hsize hby hzs hsz v n xs hown ad m c news hr.1 hcells h1 h63 hbytes hbase
    exact ⟨v', w', hrun, h2, h3, h5⟩

theorem wp_append_any {o : Oper} {a : Act} {K : Act → World → Prop} {Q : Exit → Act → World → Prop} (s x : Operand) (t : TypeId)
    (ho : o.op = .call { callee := .builtin .append, args := #[s, x], argTypes := #[t, t] })
    (base : Nat) (e : TypeId) (i : TypeInfo) (z : Value) (size bytes : Nat) (ht : P.underlying t = some (.slice e)) (hi : P.info? e = some i) (hz : i.zero = some z)
    (hsize : i.size = size) (hby : i.bytes = bytes) (hzs : z.cells.size = size) (hsz : 0 < size)
    (v : Value) (n : Nat) (xs : List Value) (hs : a.eval s = v) (hown : w.ownsRow base e size v n xs)
    (B : Nat) (A : Option Addr) (m c : Nat) (news : List Value) (hx : a.eval x = .slice A m c) (hr : Reads w B size A m news) (h1 : ∀ u ∈ news, u.oneCell' = true)
    (h63 : n + m ≤ maxLen) (hbytes : (n + m) * bytes ≤ 140737488355328) (hbase : base ≤ w.heap.size)
    (h : ∀ v' w', w'.ownsRow base e size v' (n + m) (xs ++ news) → w.grownBy w' v.ownBlock → (v'.ownBlock = v.ownBlock ∨ v'.ownBlock = some w.heap.size) → K (a.put o.dst v') w') : o.wp P a w K Q := by
  obtain ⟨v', w', hrun, h2, h3, h4⟩ := run_append_any (P := P) w base t o.type e i z size bytes ht hi hz hsize hby hzs hsz v n xs hown B A m c news hr h1 h63 hbytes hbase
  unfold Oper.wp execOp
  simp only [ho, resolve, invoke, builtin, Sem.run_bind, Sem.run_pure, Result.andThen_ok, List.map_toArray, List.map_cons, List.map_nil, hs, hx, hrun]
  exact h v' w' h2 h3 h4

theorem wpList_append_any {ops : Array Oper} {rest : List Oper} {o : Oper} {a : Act} {Q : Exit → Act → World → Prop} (hgd : o.guard = none) (s x : Operand) (t : TypeId)
    (ho : o.op = .call { callee := .builtin .append, args := #[s, x], argTypes := #[t, t] })
    (base : Nat) (e : TypeId) (i : TypeInfo) (z : Value) (size bytes : Nat) (ht : P.underlying t = some (.slice e)) (hi : P.info? e = some i) (hz : i.zero = some z)
    (hsize : i.size = size) (hby : i.bytes = bytes) (hzs : z.cells.size = size) (hsz : 0 < size)
    (v : Value) (n : Nat) (xs : List Value) (hs : a.eval s = v) (hown : w.ownsRow base e size v n xs)
    (B : Nat) (A : Option Addr) (m c : Nat) (news : List Value) (hx : a.eval x = .slice A m c) (hr : Reads w B size A m news) (h1 : ∀ u ∈ news, u.oneCell' = true)
    (h63 : n + m ≤ maxLen) (hbytes : (n + m) * bytes ≤ 140737488355328) (hbase : base ≤ w.heap.size)
    (h : ∀ v' w', w'.ownsRow base e size v' (n + m) (xs ++ news) → w.grownBy w' v.ownBlock → (v'.ownBlock = v.ownBlock ∨ v'.ownBlock = some w.heap.size) → wpList P ops Q rest (a.put o.dst v') w') : wpList P ops Q (o :: rest) a w :=
  wpList_plain hgd fun _ hK => wp_append_any w s x t ho base e i z size bytes ht hi hz hsize hby hzs hsz v n xs hs hown B A m c news hx hr h1 h63 hbytes hbase fun v' w' h2 h3 h4 => hK _ _ (h v' w' h2 h3 h4)

end

/-- The value of a row that is owned, written out. -/
theorem own_slice {w : World} {base : Nat} {e : TypeId} {size n : Nat} {v : Value} {xs : List Value} (h : w.ownsRow base e size v n xs) : ∃ A c, v = .slice A n c ∧ n ≤ maxLen := by
  rcases h.2 with ⟨rfl, rfl⟩ | ⟨g, cap, cur, rfl, _, _, h1, h2, _⟩
  · exact ⟨none, 0, rfl, Nat.zero_le _⟩
  · exact ⟨_, cap, rfl, Nat.le_trans h1 h2⟩
theorem below_then {w w1 w2 : World} (h : Below w.heap.size w w1) (k : Below w1.heap.size w1 w2) : Below w.heap.size w w2 := h.trans (k.mono h.size)
theorem below_drew {w w1 w2 : World} (h : Below w.heap.size w w1) (k : Drew w1 w2) : Below w.heap.size w w2 := h.trans (k.below _)
theorem ret_str {a b : ByteArray} (h : a = b) : Ending.returned (.string a) = .returned (.string b) := by rw [h]
theorem calls_int {P : Program} {f : FuncId} {args : Array Value} {w : World} {k : IntKind} {a b : Int} {R : World → Prop} (h : Calls P f args w fun e w' => e = .returned (.int k a) ∧ R w') (e : a = b) :
    Calls P f args w fun e w' => e = .returned (.int k b) ∧ R w' := by rw [← e]; exact h
theorem calls_bool {P : Program} {f : FuncId} {args : Array Value} {w : World} {a b : Bool} {R : World → Prop} (h : Calls P f args w fun e w' => e = .returned (.bool a) ∧ R w') (e : a = b) :
    Calls P f args w fun e w' => e = .returned (.bool b) ∧ R w' := by rw [← e]; exact h
theorem calls_str {P : Program} {f : FuncId} {args : Array Value} {w : World} {a b : ByteArray} {R : World → Prop} (h : Calls P f args w fun e w' => e = .returned (.string a) ∧ R w') (e : a = b) :
    Calls P f args w fun e w' => e = .returned (.string b) ∧ R w' := by rw [← e]; exact h
/-- The value returned, put otherwise. -/
theorem calls_val {P : Program} {f : FuncId} {args : Array Value} {w : World} {a b : Value} {R : World → Prop} (h : Calls P f args w fun e w' => e = .returned a ∧ R w') (e : a = b) :
    Calls P f args w fun e w' => e = .returned b ∧ R w' := by rw [← e]; exact h
end Go.Proofs.YtmnolcjmnddbnaaGreatDoor

/- The library's bound, as a fact of a world. -/
namespace Go.Proofs.YtmnolcjmnddbnaaGreatDoor
open Go.RowKit

/-- The library's bound alone. -/
structure Wl (w : World) : Prop where
  maxl : ∃ m, w.cell? ⟨0, 0, none⟩ = some (.int .i64 m)
theorem Wl.below {w w' : World} (h : Wl w) (hb : Below w.heap.size w w') : Wl w' := by
  obtain ⟨m, hm⟩ := h.maxl
  exact ⟨m, (hb.cell (p := ⟨_, 0, none⟩) (block_lt_of_cell hm)).trans hm⟩
end Go.Proofs.YtmnolcjmnddbnaaGreatDoor

/- Words for a block of cells: what it holds, kept over all that is done elsewhere. -/
namespace Go.Proofs.YtmnolcjmnddbnaaGreatDoor
open Go.RowKit

/-- Block g holds these cells, and none of them is frozen. -/
def At (w : World) (g : Nat) (xs : List Value) : Prop := g < w.heap.size ∧ ∀ i v, xs[i]? = some v → w.cell? ⟨g, i, none⟩ = some v ∧ w.frozen? ⟨g, i, none⟩ = false
section
variable {w w' : World} {g B : Nat} {xs : List Value}
theorem At.new (w : World) (cs : Array Value) (t : TypeId) : At (w.alloc (.cells cs t)) w.heap.size cs.toList := by
  refine ⟨by simp, fun i v h => ⟨?_, ?_⟩⟩
  · rw [World.cell?_alloc_new]
    simpa using h
  · exact World.frozen?_alloc_new ..
theorem At.lt (h : At w g xs) : g < w.heap.size := h.1
theorem At.below (h : At w g xs) (hb : Below B w w') (hg : g < B) : At w' g xs :=
  ⟨Nat.lt_of_lt_of_le h.1 hb.size, fun i v hi => ⟨(hb.cell (p := ⟨g, i, none⟩) hg).trans (h.2 i v hi).1, (hb.frozen (p := ⟨g, i, none⟩) hg).trans (h.2 i v hi).2⟩⟩
theorem At.call (h : At w g xs) (hb : Below w.heap.size w w') : At w' g xs := h.below hb h.1
theorem At.drew (h : At w g xs) (hd : Drew w w') : At w' g xs := by
  obtain ⟨n, rfl⟩ := hd
  exact ⟨h.1, fun i v hi => h.2 i v hi⟩
theorem At.alloc (h : At w g xs) (c : Array Value) (t : TypeId) : At (w.alloc (.cells c t)) g xs :=
  h.below (((Below.refl _ _).alloc (Nat.le_refl _) _) : Below w.heap.size w _) h.1
theorem At.allocO (h : At w g xs) (o : Obj) : At (w.alloc o) g xs :=
  h.below (((Below.refl _ _).alloc (Nat.le_refl _) _) : Below w.heap.size w _) h.1
theorem heap_set (w : World) (p : Addr) (v : Value) : (w.setCell p v).heap.size = w.heap.size := by simp
theorem At.set (h : At w g xs) (i : Nat) (v : Value) : At (w.setCell ⟨g, i, none⟩ v) g (xs.set i v) := by
  refine ⟨by rw [heap_set]; exact h.1, fun j u hj => ⟨?_, ?_⟩⟩
  · by_cases e : i = j
    · subst e
      have hl : i < xs.length := by
        have := (List.getElem?_eq_some_iff.1 hj).1
        simpa using this
      have hu : v = u := by
        rw [List.getElem?_set_self hl] at hj
        exact Option.some.inj hj
      subst hu
      exact World.cell?_setCell_same _ _ _ (h.2 i _ (List.getElem?_eq_getElem hl)).1
    · rw [List.getElem?_set_ne e] at hj
      rw [World.cell?_setCell_other _ _ _ _ (by intro x; injection x with _ y _; exact e y)]
      exact (h.2 j u hj).1
  · rw [World.frozen?_setCell]
    by_cases e : i = j
    · subst e
      have hl : i < xs.length := by
        have := (List.getElem?_eq_some_iff.1 hj).1
        simpa using this
      exact (h.2 i _ (List.getElem?_eq_getElem hl)).2
    · rw [List.getElem?_set_ne e] at hj
      exact (h.2 j u hj).2
theorem At.set_other (h : At w g xs) (p : Addr) (v : Value) (hp : p.block ≠ g) : At (w.setCell p v) g xs := by
  refine ⟨by rw [heap_set]; exact h.1, fun j u hj => ⟨?_, ?_⟩⟩
  · rw [World.cell?_setCell_other _ _ _ _ (by intro x; subst x; exact hp rfl)]
    exact (h.2 j u hj).1
  · rw [World.frozen?_setCell]
    exact (h.2 j u hj).2
theorem At.cell (h : At w g xs) (i : Nat) (v : Value) (hi : xs[i]? = some v) : w.cell? ⟨g, i, none⟩ = some v := (h.2 i v hi).1
theorem At.free (h : At w g xs) (i : Nat) (v : Value) (hi : xs[i]? = some v) : w.frozen? ⟨g, i, none⟩ = false := (h.2 i v hi).2
end
/-- The cells of two, three, .. -/
theorem At.two {w : World} {g : Nat} {a b : Value} (h : At w g [a, b]) : w.cell? ⟨g, 0, none⟩ = some a ∧ w.cell? ⟨g, 1, none⟩ = some b ∧ w.frozen? ⟨g, 0, none⟩ = false ∧ w.frozen? ⟨g, 1, none⟩ = false :=
  ⟨h.cell 0 a rfl, h.cell 1 b rfl, h.free 0 a rfl, h.free 1 b rfl⟩
theorem At.three {w : World} {g : Nat} {a b c : Value} (h : At w g [a, b, c]) : w.cell? ⟨g, 0, none⟩ = some a ∧ w.cell? ⟨g, 1, none⟩ = some b ∧ w.cell? ⟨g, 2, none⟩ = some c ∧
    w.frozen? ⟨g, 0, none⟩ = false ∧ w.frozen? ⟨g, 1, none⟩ = false ∧ w.frozen? ⟨g, 2, none⟩ = false :=
  ⟨h.cell 0 a rfl, h.cell 1 b rfl, h.cell 2 c rfl, h.free 0 a rfl, h.free 1 b rfl, h.free 2 c rfl⟩
theorem At.seven {w : World} {g : Nat} {a b c d e f k : Value} (h : At w g [a, b, c, d, e, f, k]) :
    (w.cell? ⟨g, 0, none⟩ = some a ∧ w.cell? ⟨g, 1, none⟩ = some b ∧ w.cell? ⟨g, 2, none⟩ = some c ∧ w.cell? ⟨g, 3, none⟩ = some d ∧ w.cell? ⟨g, 4, none⟩ = some e ∧ w.cell? ⟨g, 5, none⟩ = some f ∧ w.cell? ⟨g, 6, none⟩ = some k) ∧
    (w.frozen? ⟨g, 0, none⟩ = false ∧ w.frozen? ⟨g, 1, none⟩ = false ∧ w.frozen? ⟨g, 2, none⟩ = false ∧ w.frozen? ⟨g, 3, none⟩ = false ∧ w.frozen? ⟨g, 4, none⟩ = false ∧ w.frozen? ⟨g, 5, none⟩ = false ∧ w.frozen? ⟨g, 6, none⟩ = false) :=
  ⟨⟨h.cell 0 a rfl, h.cell 1 b rfl, h.cell 2 c rfl, h.cell 3 d rfl, h.cell 4 e rfl, h.cell 5 f rfl, h.cell 6 k rfl⟩, ⟨h.free 0 a rfl, h.free 1 b rfl, h.free 2 c rfl, h.free 3 d rfl, h.free 4 e rfl, h.free 5 f rfl, h.free 6 k rfl⟩⟩
end Go.Proofs.YtmnolcjmnddbnaaGreatDoor

/- Maps that the call makes, keyed by strings, whatever their elements are: what a block holds, as a function. -/
namespace Go.Proofs.YtmnolcjmnddbnaaGreatDoor
open Go.RowKit
open Go.Maps Go.WideShapes Go.ChangeShapes Go.WideMaps

namespace Mp
/-- An element reads as itself. -/
def rv (v : Value) : Option (DataW Value × List MemPlace) := some (.held v, [])
def kl (s : ByteArray) : Lit := .string s.data.toList
theorem kl_eq {s t : ByteArray} : kl s = kl t ↔ s = t := by
  unfold kl
  constructor
  · intro h
    injection h with h
    exact ByteArray.ext (Array.ext' h)
  · intro h
    rw [h]
/-- What stands at a key. -/
abbrev Fn := ByteArray → Option Value
def put (f : Fn) (s : ByteArray) (v : Value) : Fn := fun t => if t = s then some v else f t
theorem put_same (f : Fn) (s : ByteArray) (v : Value) : put f s v s = some v := by unfold put; rw [if_pos rfl]
theorem put_other (f : Fn) (s : ByteArray) (v : Value) {t : ByteArray} (h : t ≠ s) : put f s v t = f t := by unfold put; rw [if_neg h]
end Mp
/-- Block b is a map of at most n entries, keyed by strings of type k, that holds f. -/
def MapF (P : Program) (k : TypeId) (w : World) (b n : Nat) (f : Mp.Fn) : Prop :=
  ∃ D : DataW Value, w.ownsMap P k Mp.rv b n D ∧ ∀ s : ByteArray, Maps.has D (Mp.kl s) = (f s).isSome ∧ ∀ z, D.atKey (Mp.kl s) (.held z) = .held ((f s).getD z)
section
variable {P : Program} {k : TypeId} {w w' : World} {b n : Nat} {f : Mp.Fn}
theorem MapF.lt (h : MapF P k w b n f) : b < w.heap.size := by
  obtain ⟨D, h1, _⟩ := h
  exact h1.lt
theorem MapF.made (w : World) : MapF P k (w.alloc (.map #[] 0)) w.heap.size 0 (fun _ => none) :=
  ⟨.map [], World.ownsMap_made w P k Mp.rv, fun _ => ⟨rfl, fun _ => rfl⟩⟩
theorem MapF.kept (h : MapF P k w b n f) {row : Option Nat} (hg : w.grownBy w' row) (hne : some b ≠ row) : MapF P k w' b n f := by
  obtain ⟨D, h1, h2⟩ := h
  exact ⟨D, h1.kept hg hne, h2⟩
theorem MapF.below (h : MapF P k w b n f) (hb : Below w.heap.size w w') : MapF P k w' b n f :=
  h.kept (row := none) ⟨hb.os, hb.tape, hb.output, hb.size, fun j hj _ => hb.block j hj⟩ (by simp)
theorem MapF.alloc (h : MapF P k w b n f) (o : Obj) : MapF P k (w.alloc o) b n f := by
  obtain ⟨D, h1, h2⟩ := h
  exact ⟨D, h1.alloc o, h2⟩
theorem MapF.drewN (h : MapF P k w b n f) (m : Nat) : MapF P k (w.drewN m) b n f := h
theorem MapF.setCell (h : MapF P k w b n f) {a : Addr} (ha : b ≠ a.block) (u : Value) : MapF P k (w.setCell a u) b n f := by
  obtain ⟨D, h1, h2⟩ := h
  exact ⟨D, h1.setCell ha u, h2⟩
theorem MapF.more (h : MapF P k w b n f) {m : Nat} (hn : n ≤ m) : MapF P k w b m f := by
  obtain ⟨D, h1, h2⟩ := h
  exact ⟨D, h1.mono hn, h2⟩
theorem MapF.put_ {s : ByteArray} {v : Value} {D : DataW Value} (hD : w.ownsMap P k Mp.rv b n D) (hs : ∀ s : ByteArray, Maps.has D (Mp.kl s) = (f s).isSome ∧ ∀ z, D.atKey (Mp.kl s) (.held z) = .held ((f s).getD z))
    (hD' : w'.ownsMap P k Mp.rv b (n + 1) (D.put (Mp.kl s) (.held v))) : MapF P k w' b (n + 1) (Mp.put f s v) := by
  refine ⟨_, hD', fun t => ?_⟩
  have hi := hD.isMap
  have hk : WideAt.IsKeyLit (Mp.kl s) := trivial
  by_cases e : t = s
  · subst e
    rw [Mp.put_same]
    exact ⟨has_put_same hi hk _, fun z => atKey_put_same hi hk _ _⟩
  · have hne : Mp.kl t ≠ Mp.kl s := fun h => e (Mp.kl_eq.1 h)
    rw [Mp.put_other _ _ _ e, has_put_other hne]
    exact ⟨(hs t).1, fun z => by rw [atKey_put_other hne]; exact (hs t).2 z⟩
end
section
variable {P : Program} (w : World) {ops : Array Oper} {rest : List Oper} {o : Oper} {a : Act} {Q : Exit → Act → World → Prop}
/-- 'v, ok := m[s]' -/
theorem wpList_look_ok (hg : o.guard = none) (m x : Operand) (t k e : TypeId) (hop : o.op = Op.lookup t m x true) (hk : P.underlying k = some .string) (ht : P.underlying t = some (.map k e)) {z : Value} (hz : ∀ W, (zeroValue e).run P W = .ok z W)
    (b n : Nat) (f : Mp.Fn) (s : ByteArray) (hs : s.size ≤ maxLen) (hm : a.eval m = .map (some b)) (hx : a.eval x = .string s) (h : MapF P k w b n f)
    (hK : wpList P ops Q rest (a.put o.dst (.tuple #[(f s).getD z, .bool (f s).isSome])) w) : wpList P ops Q (o :: rest) a w := by
  obtain ⟨D, hD, hf⟩ := h
  refine wpList_lookup_own_ok w hg m x t hop k e (string_keyed hk) ht Mp.rv (hz w) (.held z) [] rfl b n D hm hD (.string s) (Mp.kl s) hx (keyOf_string_mk hk hs) ?_
  intro v ps hv
  rw [(hf s).2 z] at hv
  have e1 : v = (f s).getD z := by
    unfold Mp.rv at hv
    injection hv with hv
    injection hv with hv _
    injection hv
  rw [e1, (hf s).1]
  exact hK
/-- 'v, ok := m[s]', where it is. -/
theorem wpList_look_yes (hg : o.guard = none) (m x : Operand) (t k e : TypeId) (hop : o.op = Op.lookup t m x true) (hk : P.underlying k = some .string) (ht : P.underlying t = some (.map k e)) {z : Value} (hz : ∀ W, (zeroValue e).run P W = .ok z W)
    (b n : Nat) (f : Mp.Fn) (s : ByteArray) (hs : s.size ≤ maxLen) (hm : a.eval m = .map (some b)) (hx : a.eval x = .string s) (h : MapF P k w b n f) (v : Value) (hv : f s = some v)
    (hK : wpList P ops Q rest (a.put o.dst (.tuple #[v, .bool true])) w) : wpList P ops Q (o :: rest) a w :=
  wpList_look_ok w hg m x t k e hop hk ht hz b n f s hs hm hx h (by rw [hv]; exact hK)
/-- .. where it is not. -/
theorem wpList_look_no (hg : o.guard = none) (m x : Operand) (t k e : TypeId) (hop : o.op = Op.lookup t m x true) (hk : P.underlying k = some .string) (ht : P.underlying t = some (.map k e)) {z : Value} (hz : ∀ W, (zeroValue e).run P W = .ok z W)
    (b n : Nat) (f : Mp.Fn) (s : ByteArray) (hs : s.size ≤ maxLen) (hm : a.eval m = .map (some b)) (hx : a.eval x = .string s) (h : MapF P k w b n f) (hv : f s = none)
    (hK : wpList P ops Q rest (a.put o.dst (.tuple #[z, .bool false])) w) : wpList P ops Q (o :: rest) a w :=
  wpList_look_ok w hg m x t k e hop hk ht hz b n f s hs hm hx h (by rw [hv]; exact hK)
/-- 'm[s]' -/
theorem wpList_look (hg : o.guard = none) (m x : Operand) (t k e : TypeId) (hop : o.op = Op.lookup t m x false) (hk : P.underlying k = some .string) (ht : P.underlying t = some (.map k e)) {z : Value} (hz : ∀ W, (zeroValue e).run P W = .ok z W)
    (b n : Nat) (f : Mp.Fn) (s : ByteArray) (hs : s.size ≤ maxLen) (hm : a.eval m = .map (some b)) (hx : a.eval x = .string s) (h : MapF P k w b n f)
    (hK : wpList P ops Q rest (a.put o.dst ((f s).getD z)) w) : wpList P ops Q (o :: rest) a w := by
  obtain ⟨D, hD, hf⟩ := h
  refine wpList_plain hg fun K' hK' => ?_
  obtain ⟨v, ps, hrun, hv⟩ := hD.lookup (string_keyed hk) ht (hz w) (zd := .held z) (zp := []) rfl (keyOf_string_mk hk hs)
  have hv' : Mp.rv v = some (D.atKey (Mp.kl s) (.held z), ps) := hv
  rw [(hf s).2 z] at hv'
  have e1 : v = (f s).getD z := by
    unfold Mp.rv at hv'
    injection hv' with hv
    injection hv with hv _
    injection hv
  subst e1
  unfold Oper.wp
  simp [execOp, hop, hm, hx, hrun, Result.andThen]
  exact hK' _ _ hK
/-- 'm[s] = v' -/
theorem wpList_store (hg : o.guard = none) (m x v : Operand) (t k e : TypeId) (hop : o.op = Op.mapUpdate t m x v) (hk : P.underlying k = some .string) (ht : P.underlying t = some (.map k e))
    (b n : Nat) (f : Mp.Fn) (s : ByteArray) (hs : s.size ≤ maxLen) (hn : n < maxLen) (val : Value) (hm : a.eval m = .map (some b)) (hx : a.eval x = .string s) (hv : a.eval v = val) (h : MapF P k w b n f)
    (hK : ∀ w', MapF P k w' b (n + 1) (Mp.put f s val) → w.grownBy w' (some b) → wpList P ops Q rest (a.put o.dst undef) w') : wpList P ops Q (o :: rest) a w := by
  obtain ⟨D, hD, hf⟩ := h
  refine wpList_mapUpdate_own w hg m x v t hop k e (string_keyed hk) ht Mp.rv b n D hm hD hn (.string s) val (Mp.kl s) hx hv (keyOf_string_mk hk hs) (.held val) [] rfl ?_
  intro w' hD' hg'
  exact hK w' (MapF.put_ hD hf hD') hg'
end
end Go.Proofs.YtmnolcjmnddbnaaGreatDoor

/- Hives as the program holds them: keys of two cells, values of five; sets of texts. -/
namespace Go.Proofs.YtmnolcjmnddbnaaGreatDoor
open Go.RowKit

namespace Hv
theorem bl {a w : World} (h : Below a.heap.size a w) (o : Obj) : Below a.heap.size a (w.alloc o) := h.alloc h.size o
theorem bl1 (w : World) (o : Obj) : Below w.heap.size w (w.alloc o) := bl (Below.refl _ _) o
theorem take_next {α : Type} {l : List α} {i : Nat} {x : α} (h : l[i]? = some x) : l.take (i + 1) = l.take i ++ [x] := by
  rw [List.take_add_one, h]
  rfl
/-- A set of texts. -/
def has (a : List ByteArray) (k : ByteArray) : Bool := a.any fun x => decide (x = k)
theorem has_iff {a : List ByteArray} {k : ByteArray} : has a k = true ↔ k ∈ a := by
  unfold has
  rw [List.any_eq_true]
  constructor
  · rintro ⟨x, hx, h⟩
    rw [← of_decide_eq_true h]
    exact hx
  · exact fun h => ⟨k, h, by simp⟩
theorem has_not {a : List ByteArray} {k : ByteArray} (h : k ∉ a) : has a k = false := by
  cases e : has a k with
  | true => exact absurd (has_iff.1 e) h
  | false => rfl
def sf (l : List ByteArray) : Mp.Fn := fun s => if has l s = true then some (.agg #[]) else none
theorem sf_put (l : List ByteArray) (s : ByteArray) : Mp.put (sf l) s (.agg #[]) = sf (l ++ [s]) := by
  funext t
  unfold Mp.put sf
  by_cases h : t = s
  · subst h
    rw [if_pos rfl, if_pos (has_iff.2 (List.mem_append_right _ (List.mem_singleton.2 rfl)))]
  · rw [if_neg h]
    by_cases h2 : t ∈ l
    · rw [if_pos (has_iff.2 h2), if_pos (has_iff.2 (List.mem_append_left _ h2))]
    · rw [if_neg (fun q => h2 (has_iff.1 q)), if_neg (fun q => by
        rcases List.mem_append.1 (has_iff.1 q) with q | q
        · exact h2 q
        · exact h (List.mem_singleton.1 q))]
theorem sf_get (l : List ByteArray) (s : ByteArray) : (sf l s).getD (.agg #[]) = .agg #[] ∧ (sf l s).isSome = has l s := by
  unfold sf
  by_cases h : has l s = true
  · rw [if_pos h, h]; exact ⟨rfl, rfl⟩
  · rw [if_neg h]
    cases hq : has l s with
    | true => exact absurd hq h
    | false => exact ⟨rfl, rfl⟩
theorem zero_unit (W : World) : (zeroValue 99).run Tryz.prog W = .ok (.agg #[]) W := by kernel_rfl
theorem make_set (c : Int) (W : World) : (Instr.makeMap 67 (some (.int .i64 c))).run Tryz.prog W = .ok (.map (some W.heap.size)) (W.alloc (.map #[] 0)) := by
  simp [Instr.makeMap, run_underlying Tryz.underlying67]
  rfl
section
variable (w : World) {ops : Array Oper} {rest : List Oper} {o : Oper} {a : Act} {Q : Exit → Act → World → Prop}
theorem look_set (hg : o.guard = none) (m x : Operand) (b n : Nat) (l : List ByteArray) (s : ByteArray) (h1 : s.size ≤ maxLen) (hop : o.op = Op.lookup 67 m x true)
    (hm : a.eval m = .map (some b)) (hx : a.eval x = .string s) (h : MapF Tryz.prog 9 w b n (sf l)) (q : Bool) (hq : has l s = q)
    (hK : wpList Tryz.prog ops Q rest (a.put o.dst (.tuple #[.agg #[], .bool q])) w) : wpList Tryz.prog ops Q (o :: rest) a w := by
  refine wpList_look_ok w hg m x 67 9 99 hop Tryz.underlying9 Tryz.underlying67 zero_unit b n _ s h1 hm hx h ?_
  rw [(sf_get _ _).1, (sf_get _ _).2, hq]
  exact hK
theorem store_set (hg : o.guard = none) (m x v : Operand) (b n : Nat) (l : List ByteArray) (s : ByteArray) (h1 : s.size ≤ maxLen) (hn : n < maxLen) (hop : o.op = Op.mapUpdate 67 m x v)
    (hm : a.eval m = .map (some b)) (hx : a.eval x = .string s) (hv : a.eval v = .agg #[]) (h : MapF Tryz.prog 9 w b n (sf l))
    (hK : ∀ w', MapF Tryz.prog 9 w' b (n + 1) (sf (l ++ [s])) → w.grownBy w' (some b) → wpList Tryz.prog ops Q rest (a.put o.dst undef) w') : wpList Tryz.prog ops Q (o :: rest) a w := by
  refine wpList_store w hg m x v 67 9 99 hop Tryz.underlying9 Tryz.underlying67 b n _ s h1 hn _ hm hx hv h ?_
  intro w' hM hg'
  rw [sf_put] at hM
  exact hK w' hM hg'
end
/-- A slice that reads as these cells. -/
def Row (w : World) (B size n : Nat) (v : Value) (xs : List Value) : Prop := ∃ A c, v = .slice A n c ∧ n ≤ c ∧ c ≤ maxLen ∧ Reads w B size A n xs
theorem Row.below {w w' : World} {B size n : Nat} {v : Value} {xs : List Value} (h : Row w B size n v xs) (hb : Below B w w') : Row w' B size n v xs := by
  obtain ⟨A, c, e, h1, h2, h3⟩ := h
  exact ⟨A, c, e, h1, h2, h3.below hb⟩
theorem Row.more {w : World} {B B' size n : Nat} {v : Value} {xs : List Value} (h : Row w B size n v xs) (hb : B ≤ B') : Row w B' size n v xs := by
  obtain ⟨A, c, e, h1, h2, h3⟩ := h
  exact ⟨A, c, e, h1, h2, h3.more hb⟩
theorem Row.call {w w' : World} {size n : Nat} {v : Value} {xs : List Value} (h : Row w w.heap.size size n v xs) (hb : Below w.heap.size w w') : Row w' w'.heap.size size n v xs := (h.below hb).more hb.size
theorem flat_at {α : Type} (enc : α → List Value) (m : Nat) (hm : ∀ x, (enc x).length = m) : ∀ (xs : List α) (k : Nat) (x : α), xs[k]? = some x → ∀ (j : Nat) (v : Value), (enc x)[j]? = some v → (xs.flatMap enc)[k * m + j]? = some v
  | [], k, x, h, j, v, hj => by simp at h
  | y :: l, 0, x, h, j, v, hj => by
    simp at h
    subst h
    rw [List.flatMap_cons, List.getElem?_append_left (by have := (List.getElem?_eq_some_iff.1 hj).1; omega)]
    simpa using hj
  | y :: l, k + 1, x, h, j, v, hj => by
    rw [List.flatMap_cons, List.getElem?_append_right (by rw [hm, Nat.add_mul]; omega), hm]
    have := flat_at enc m hm l k x (by simpa using h) j v hj
    rw [← this]
    congr 1
    rw [Nat.add_mul]
    omega
theorem reads_at {α : Type} {enc : α → List Value} {m : Nat} (hm : ∀ x, (enc x).length = m) {w : World} {B n k : Nat} {A : Option Addr} {xs : List α} (hl : xs.length = n) (h : Reads w B m A n (xs.flatMap enc)) (hk : k < n) :
    ∃ ad x, A = some ad ∧ ad.block < B ∧ Hid (xs[k]? = some x) ∧ Hid (∀ j v, (enc x)[j]? = some v → w.cell? ((ad.add (k * m)).add j) = some v) := by
  obtain ⟨ad, e, hb, hc⟩ := h.2 (by omega)
  have hkl : k < xs.length := by omega
  refine ⟨ad, xs[k], e, hb, List.getElem?_eq_getElem hkl, fun j v hj => ?_⟩
  rw [add_of_add]
  exact hc _ _ (flat_at enc m hm xs k _ (List.getElem?_eq_getElem hkl) j v hj)
/-- A value of a key: its name, kind, text, number and bytes. -/
structure V where
  name : ByteArray
  kind : Int
  text : ByteArray
  num : Int
  bytes : ByteArray
structure K where
  path : ByteArray
  vals : List V
def V.cells (v : V) : List Value := [.string v.name, .int .u8 v.kind, .string v.text, .int .u32 v.num, .string v.bytes]
def V.v (x : V) : Value := .agg #[.string x.name, .int .u8 x.kind, .string x.text, .int .u32 x.num, .string x.bytes]
def kc (p : K × Value) : List Value := [.string p.1.path, p.2]
/-- What numbers a value may hold, and how wide its texts may be. -/
structure V.Ok (v : V) : Prop where
  name : v.name.size ≤ maxLen
  text : v.text.size ≤ maxLen
  bytes : v.bytes.size ≤ maxLen
  k0 : 0 ≤ v.kind
  k1 : v.kind ≤ 255
  n0 : 0 ≤ v.num
  n1 : v.num ≤ 4294967295
structure K.Ok (k : K) : Prop where
  path : k.path.size ≤ maxLen
  vals : ∀ v ∈ k.vals, v.Ok
/-- A hive's keys, and one slice for each key's values. -/
structure HR (w : World) (B : Nat) (l : List K) (v : Value) (evs : List Value) : Prop where
  row : Row w B 2 l.length v ((l.zip evs).flatMap kc)
  len : evs.length = l.length
  vals : ∀ p ∈ l.zip evs, Row w B 5 p.1.vals.length p.2 (p.1.vals.flatMap V.cells)
section
variable {w w' : World} {B B' : Nat} {l : List K} {v : Value} {evs : List Value}
theorem HR.below (h : HR w B l v evs) (hb : Below B w w') : HR w' B l v evs := ⟨h.row.below hb, h.len, fun p hp => (h.vals p hp).below hb⟩
theorem HR.more (h : HR w B l v evs) (hb : B ≤ B') : HR w B' l v evs := ⟨h.row.more hb, h.len, fun p hp => (h.vals p hp).more hb⟩
theorem HR.call (h : HR w w.heap.size l v evs) (hb : Below w.heap.size w w') : HR w' w'.heap.size l v evs := (h.below hb).more hb.size
/-- A key, out of all. -/
theorem HR.at_ {n k c : Nat} {A : Option Addr} (h : HR w B l (.slice A n c) evs) (hl : l.length = n) (hk : k < n) :
    ∃ ad e vA m vc, A = some ad ∧ ad.block < B ∧ Hid (l[k]? = some e) ∧ w.cell? (ad.add (k * 2)) = some (.string e.path) ∧ w.cell? ⟨(ad.add (k * 2)).block, (ad.add (k * 2)).off + 1, none⟩ = some (.slice vA m vc) ∧
      Hid (e.vals.length = m) ∧ m ≤ vc ∧ vc ≤ maxLen ∧ Hid (Reads w B 5 vA m (e.vals.flatMap V.cells)) := by
  obtain ⟨A', c', e9, _, _, hr⟩ := h.row
  rw [hl] at e9 hr
  injection e9 with e91 e92 e93
  rw [← e91] at hr
  have hlz : (l.zip evs).length = n := by rw [List.length_zip, h.len, hl]; omega
  obtain ⟨ad, p, e1, hab, hx, hL⟩ := reads_at (enc := kc) (m := 2) (fun _ => rfl) hlz hr hk
  have hx := hx.out
  have hL := hL.out
  obtain ⟨vA, vc, e2, h1, h2, h3⟩ := h.vals p (List.mem_of_getElem? hx)
  have hz := List.getElem?_zip_eq_some.1 hx
  have c1 := hL 1 _ rfl
  rw [e2] at c1
  exact ⟨ad, p.1, vA, p.1.vals.length, vc, e1, hab, hz.1, hL 0 _ rfl, c1, rfl, h1, h2, h3⟩
/-- A value, out of all of a key. -/
theorem val_at {l : List V} {n k : Nat} {A : Option Addr} (h : Reads w B 5 A n (l.flatMap V.cells)) (hl : l.length = n) (hk : k < n) :
    ∃ ad x, A = some ad ∧ ad.block < B ∧ Hid (l[k]? = some x) ∧ w.cell? (ad.add (k * 5)) = some (.string x.name) ∧ w.cell? ⟨(ad.add (k * 5)).block, (ad.add (k * 5)).off + 1, none⟩ = some (.int .u8 x.kind) ∧ w.cell? ⟨(ad.add (k * 5)).block, (ad.add (k * 5)).off + 2, none⟩ = some (.string x.text) ∧
      w.cell? ⟨(ad.add (k * 5)).block, (ad.add (k * 5)).off + 3, none⟩ = some (.int .u32 x.num) ∧ w.cell? ⟨(ad.add (k * 5)).block, (ad.add (k * 5)).off + 4, none⟩ = some (.string x.bytes) := by
  obtain ⟨ad, x, e1, hab, hx, hL⟩ := reads_at (enc := V.cells) (m := 5) (fun _ => rfl) hl h hk
  have hL := hL.out
  exact ⟨ad, x, e1, hab, hx, hL 0 _ rfl, hL 1 _ rfl, hL 2 _ rfl, hL 3 _ rfl, hL 4 _ rfl⟩
end
end Hv
end Go.Proofs.YtmnolcjmnddbnaaGreatDoor

/- A hive's texts, in plain words: quoted texts, bytes, numbers. -/
namespace Go.Proofs.YtmnolcjmnddbnaaGreatDoor
open Go.RowKit

namespace Em
abbrev Txt := List UInt8
def bts (l : Txt) : ByteArray := ⟨l.toArray⟩
theorem bts_size (l : Txt) : (bts l).size = l.length := rfl
theorem tl_bts (l : Txt) : tl (bts l) = l := by simp [tl, bts]
theorem bts_tl (s : ByteArray) : bts (tl s) = s := rfl
def esc1 (b : UInt8) : Txt := if b = 92 ∨ b = 34 then [92, b] else [b]
def esc (l : Txt) : Txt := l.flatMap esc1
def quote (l : Txt) : Txt := 34 :: (esc l ++ [34])
def hexd (n : Nat) : UInt8 := if n < 10 then UInt8.ofNat (48 + n) else UInt8.ofNat (87 + n)
def hexb (b : UInt8) : Txt := [hexd (b.toNat / 16), hexd (b.toNat % 16)]
/-- Bytes as digits, parted by commas. -/
def hexs : Txt → Txt
  | [] => []
  | b :: r => hexb b ++ r.flatMap fun c => 44 :: hexb c
theorem hexs_snoc (l : Txt) (c : UInt8) : hexs (l ++ [c]) = hexs l ++ (if l = [] then hexb c else 44 :: hexb c) := by
  cases l with
  | nil => simp [hexs]
  | cons b r => simp [hexs, List.append_assoc]
theorem hexs_len : ∀ l : Txt, (hexs l).length ≤ 3 * l.length
  | [] => by simp [hexs]
  | b :: r => by
    have h : ∀ r : Txt, (r.flatMap fun c => 44 :: hexb c).length = 3 * r.length := by
      intro r
      induction r with
      | nil => rfl
      | cons c r ih => rw [List.flatMap_cons, List.length_append, ih, List.length_cons]; simp [hexb]; omega
    unfold hexs
    rw [List.length_append, h, List.length_cons]
    simp [hexb]
    omega
/-- As many as stand in a line at once. -/
def parts : Nat → Txt → List Txt
  | 0, _ => []
  | f + 1, l => if 20 < l.length then l.take 20 :: parts f (l.drop 20) else if l = [] then [] else [l]
def go : Txt := [44, 92, 10, 32, 32]
/-- The parts, joined: what is put ahead of each but the first. -/
def joined : List Txt → Txt
  | [] => []
  | p :: r => hexs p ++ r.flatMap fun q => go ++ hexs q
theorem joined_snoc (l : List Txt) (q : Txt) : joined (l ++ [q]) = joined l ++ (if l = [] then hexs q else go ++ hexs q) := by
  cases l with
  | nil => simp [joined]
  | cons b r => simp [joined, List.append_assoc]
theorem parts_le : ∀ (f : Nat) (l : Txt), ∀ p ∈ parts f l, p.length ≤ 20
  | 0, l, p, h => by simp [parts] at h
  | f + 1, l, p, h => by
    unfold parts at h
    split at h
    · rcases List.mem_cons.1 h with rfl | h
      · rw [List.length_take]; omega
      · exact parts_le f _ p h
    · split at h
      · cases h
      · rw [List.mem_singleton.1 h]; omega
theorem parts_n : ∀ (f : Nat) (l : Txt), (parts f l).length ≤ l.length
  | 0, l => by simp [parts]
  | f + 1, l => by
    unfold parts
    split
    · have := parts_n f (l.drop 20)
      rw [List.length_drop] at this
      rw [List.length_cons]
      omega
    · split
      · simp
      · rename_i h
        have : 0 < l.length := List.length_pos_iff.2 h
        simp
        omega
theorem joined_len (l : List Txt) (h : ∀ p ∈ l, p.length ≤ 20) : (joined l).length ≤ 65 * l.length := by
  cases l with
  | nil => simp [joined]
  | cons p r =>
    have h1 := hexs_len p
    have h2 := h p (by simp)
    have h3 : ∀ r : List Txt, (∀ p ∈ r, p.length ≤ 20) → (r.flatMap fun q => go ++ hexs q).length ≤ 65 * r.length := by
      intro r
      induction r with
      | nil => intro _; simp
      | cons c r ih =>
        intro hr
        rw [List.flatMap_cons, List.length_append, List.length_cons]
        have a1 := ih fun p hp => hr p (by simp [hp])
        have a2 := hexs_len c
        have a3 := hr c (by simp)
        have a4 : (go ++ hexs c).length = 5 + (hexs c).length := by rw [List.length_append]; rfl
        omega
    have h4 := h3 r fun p hp => h p (by simp [hp])
    unfold joined
    rw [List.length_append, List.length_cons]
    omega
def bytes (l : Txt) : Txt := joined (parts l.length l)
theorem bytes_len (l : Txt) : (bytes l).length ≤ 65 * l.length := by
  have h1 := joined_len _ (parts_le l.length l)
  have h2 := parts_n l.length l
  unfold bytes
  omega
theorem esc_len (l : Txt) : (esc l).length ≤ 2 * l.length := by
  unfold esc
  induction l with
  | nil => simp
  | cons b r ih =>
    rw [List.flatMap_cons, List.length_append, List.length_cons]
    have : (esc1 b).length ≤ 2 := by unfold esc1; split <;> simp
    omega
theorem quote_len (l : Txt) : (quote l).length ≤ 2 * l.length + 2 := by
  have := esc_len l
  unfold quote
  rw [List.length_cons, List.length_append]
  simp
  omega
theorem esc_snoc (l : Txt) (b : UInt8) : esc (l ++ [b]) = esc l ++ esc1 b := by unfold esc; rw [List.flatMap_append]; simp
/-- A number's digits, as they are made: from the last one on. -/
def digs : Nat → Nat → Txt → Txt
  | 0, n, acc => hexd n :: acc
  | f + 1, n, acc => if 16 ≤ n then digs f (n / 16) (hexd (n % 16) :: acc) else hexd n :: acc
theorem digs_len : ∀ (f n : Nat) (acc : Txt), (digs f n acc).length ≤ acc.length + f + 1
  | 0, n, acc => by simp [digs]
  | f + 1, n, acc => by
    unfold digs
    split
    · have := digs_len f (n / 16) (hexd (n % 16) :: acc)
      rw [List.length_cons] at this
      omega
    · rw [List.length_cons]; omega
def num (n : Nat) : Txt := List.replicate (8 - (digs 7 n []).length) 48 ++ digs 7 n []
theorem num_len (n : Nat) : (num n).length = 8 := by
  have h := digs_len 7 n []
  unfold num
  rw [List.length_append, List.length_replicate]
  simp at h
  omega
end Em
end Go.Proofs.YtmnolcjmnddbnaaGreatDoor

/- Plain texts: what utf.Plain and chart.Key tell, and what a key's letters are. -/
namespace Go.Proofs.YtmnolcjmnddbnaaGreatDoor
open Go.RowKit

namespace Te
def wrongL : List UInt8 := [239, 191, 189]
/-- What stands at a place is told as wrong, and is no wrong sign itself. -/
def bad (s : ByteArray) (pos : Nat) : Bool := (Utf8.decode s pos).1 == 65533 && !(Lib.hasPrefix ((tl s).drop pos) wrongL)
def rightFrom (s : ByteArray) : Nat → Nat → Bool
  | 0, _ => true
  | f + 1, pos => if pos < s.size then !(bad s pos) && rightFrom s f (pos + (Utf8.decode s pos).2) else true
def low (c : Nat) : Bool := decide (c < 32) || c == 127
def plainFrom (s : ByteArray) : Nat → Nat → Bool
  | 0, _ => true
  | f + 1, pos => if pos < s.size then !(low (Utf8.decode s pos).1) && plainFrom s f (pos + (Utf8.decode s pos).2) else true
def right (s : ByteArray) : Bool := rightFrom s s.size 0
def plain (s : ByteArray) : Bool := right s && plainFrom s s.size 0
def signs : List UInt8 := [92, 91, 93, 34]
def key (s : ByteArray) : Bool :=
  decide (1 ≤ s.size) && decide (s.size ≤ 64) && plain s && !(Lib.containsAny (tl s) signs) && ((tl s).head? != some 32) && ((tl s).getLast? != some 32)

theorem rightFrom_end (s : ByteArray) (f pos : Nat) (h : ¬ pos < s.size) : rightFrom s f pos = true := by
  cases f with
  | zero => rfl
  | succ f => rw [rightFrom, if_neg h]
theorem plainFrom_end (s : ByteArray) (f pos : Nat) (h : ¬ pos < s.size) : plainFrom s f pos = true := by
  cases f with
  | zero => rfl
  | succ f => rw [plainFrom, if_neg h]
theorem width_pos (s : ByteArray) (pos : Nat) (h : pos < s.size) : 1 ≤ (Utf8.decode s pos).2 := by
  by_cases ha : (s[pos]'h).toNat < 128
  · rw [decode_ascii s pos h ha]
    exact Nat.le_refl _
  · exact (decode_high s pos h (by omega)).2
/-- The letters behind the first one of a sign are high. -/
theorem tail_high (s : ByteArray) (pos j : Nat) (h0 : 0 < j) (hj : j < (Utf8.decode s pos).2) : pos + j < s.size ∧ 128 ≤ (s.get! (pos + j)).toNat := by
  rw [Lib.decode_at] at hj
  unfold Lib.decodeN at hj
  have h1 := (s.get! (pos + 1)).toNat_lt
  have h2 := (s.get! (pos + 2)).toNat_lt
  have h3 := (s.get! (pos + 3)).toNat_lt
  have hj' : j = 1 ∨ j = 2 ∨ j = 3 ∨ 4 ≤ j := by omega
  repeat' split at hj
  all_goals simp only at hj
  all_goals first
    | (exfalso; omega)
    | (rcases hj' with rfl | rfl | rfl | h4 <;> first | (exfalso; omega) | (constructor <;> omega))
theorem get_tl (s : ByteArray) (k : Nat) (h : k < s.size) : (tl s)[k]? = some (s.get! k) := by
  have h1 : (tl s)[k]? = some s[k] := by
    unfold tl
    rw [Array.getElem?_toList, Array.getElem?_eq_getElem (by exact h)]
    rfl
  rw [h1]
  congr 1
  have := get_at s k h
  simpa using this.symm
theorem first_ascii (s : ByteArray) (pos : Nat) (h : pos < s.size) (ha : (s.get! pos).toNat < 128) : Utf8.decode s pos = ((s.get! pos).toNat, 1) := by
  have e : s.get! pos = s[pos]'h := by simpa using get_at s pos h
  rw [e] at ha ⊢
  exact decode_ascii s pos h ha
theorem first_high (s : ByteArray) (pos : Nat) (h : pos < s.size) (ha : 128 ≤ (s.get! pos).toNat) : 128 ≤ (Utf8.decode s pos).1 := by
  have e : s.get! pos = s[pos]'h := by simpa using get_at s pos h
  rw [e] at ha
  exact (decode_high s pos h ha).1
/-- A plain text has no low letter. -/
theorem plain_all (s : ByteArray) : ∀ (f pos : Nat), s.size ≤ pos + f → plainFrom s f pos = true → ∀ k, pos ≤ k → k < s.size → 32 ≤ (s.get! k).toNat
  | 0, pos, hf, _, k, h1, h2 => by omega
  | f + 1, pos, hf, hp, k, h1, h2 => by
    have hps : pos < s.size := by omega
    rw [plainFrom, if_pos hps, Bool.and_eq_true, Bool.not_eq_true'] at hp
    obtain ⟨hl, hr⟩ := hp
    have hw := width_pos s pos hps
    by_cases hk : k < pos + (Utf8.decode s pos).2
    · rcases Nat.eq_or_lt_of_le h1 with rfl | hlt
      · by_cases ha : (s.get! pos).toNat < 128
        · rw [first_ascii s pos hps ha] at hl
          unfold low at hl
          simp only [Bool.or_eq_false_iff, decide_eq_false_iff_not] at hl
          omega
        · omega
      · obtain ⟨_, h⟩ := tail_high s pos (k - pos) (by omega) (by omega)
        rw [show pos + (k - pos) = k from by omega] at h
        omega
    · exact plain_all s f _ (by omega) hr k (by omega) h2
theorem plain_tl (s : ByteArray) (h : plain s = true) : ∀ b ∈ tl s, 32 ≤ b.toNat := by
  unfold plain at h
  rw [Bool.and_eq_true] at h
  intro b hb
  obtain ⟨k, hk, rfl⟩ := List.mem_iff_getElem.1 hb
  have hks : k < s.size := by rw [tl_length] at hk; exact hk
  have h1 := get_tl s k hks
  rw [List.getElem?_eq_getElem hk] at h1
  rw [Option.some.inj h1]
  exact plain_all s s.size 0 (by omega) h.2 k (Nat.zero_le _) hks
theorem key_plain {s : ByteArray} (h : key s = true) : plain s = true := by
  unfold key at h
  simp only [Bool.and_eq_true] at h
  exact h.1.1.1.2
theorem key_letters {s : ByteArray} (h : key s = true) : ∀ b ∈ tl s, 32 ≤ b.toNat := plain_tl s (key_plain h)
theorem key_size {s : ByteArray} (h : key s = true) : 1 ≤ s.size ∧ s.size ≤ 64 := by
  unfold key at h
  simp only [Bool.and_eq_true, decide_eq_true_eq] at h
  exact ⟨h.1.1.1.1.1, h.1.1.1.1.2⟩
end Te
end Go.Proofs.YtmnolcjmnddbnaaGreatDoor
