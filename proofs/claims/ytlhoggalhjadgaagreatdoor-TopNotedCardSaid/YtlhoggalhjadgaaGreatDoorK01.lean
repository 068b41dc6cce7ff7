/- Words for memory: a slice that reads as a list; draws alone; small lemmas. -/
import Derived.Test.YtlhoggalhjadgaaGreatDoorChecked
import Derived.WalkKit
import Derived.Below
import Derived.Laws.OwnMore
import Derived.Deep.AppendLies
import Derived.Deep.Draws
import Derived.Lib.Hide
import Derived.Maps.AppendAt
import Derived.RegionTactic
import Derived.OwnWalk
import Derived.ScopeJumps
import Derived.WalkMore

namespace Go.Proofs.YtlhoggalhjadgaaGreatDoor
open Go.RowKit

theorem ret_int {k : IntKind} {a b : Int} (h : a = b) : Ending.returned (.int k a) = .returned (.int k b) := by rw [h]
theorem ret_bool {a b : Bool} (h : a = b) : Ending.returned (.bool a) = .returned (.bool b) := by rw [h]
theorem u8_bd (c : UInt8) : 0 ≤ (c.toNat : Int) ∧ (c.toNat : Int) ≤ 255 := by have := c.toNat_lt; omega

/-- The letters of a text. -/
def tl (s : ByteArray) : List UInt8 := s.data.toList
theorem tl_length (s : ByteArray) : (tl s).length = s.size := by simp [tl]

theorem tl_extract (s : ByteArray) (k : Nat) : tl (s.extract 0 k) = (tl s).take k := by simp [tl]

/-- Draws alone. -/
def Drew (w w' : World) : Prop := ∃ n, w' = w.drewN n
theorem Drew.refl (w : World) : Drew w w := ⟨0, rfl⟩
theorem Drew.drewN {w w' : World} (h : Drew w w') (n : Nat) : Drew w (w'.drewN n) := by
  obtain ⟨m, rfl⟩ := h
  exact ⟨m + n, World.drewN_drewN ..⟩
theorem Drew.trans {a b c : World} (h : Drew a b) (k : Drew b c) : Drew a c := by
  obtain ⟨n, rfl⟩ := k
  exact h.drewN n
theorem below_drewN {B : Nat} {a w : World} (h : Below B a w) (n : Nat) : Below B a (w.drewN n) := ⟨h.os, h.tape, h.output, h.size, h.block⟩
theorem Drew.below {w w' : World} (h : Drew w w') (B : Nat) : Below B w w' := by
  obtain ⟨n, rfl⟩ := h
  exact below_drewN (Below.refl B w) n
theorem Drew.cell {w w' : World} (h : Drew w w') (p : Addr) : w'.cell? p = w.cell? p := by
  obtain ⟨n, rfl⟩ := h
  rfl
theorem Drew.heap {w w' : World} (h : Drew w w') : w'.heap = w.heap := by
  obtain ⟨n, rfl⟩ := h
  rfl

theorem block_of_add (a : Addr) (n : Nat) : (a.add n).block = a.block := by unfold Addr.add; split <;> rfl
theorem add_of_add (a : Addr) (i j : Nat) : (a.add i).add j = a.add (i + j) := by
  unfold Addr.add
  by_cases hi : i = 0 <;> by_cases hj : j = 0 <;> simp [hi, hj, Nat.add_assoc]

/-- A slice's cells: of n elements, 'size' cells each, below block B. -/
def Reads (w : World) (B size : Nat) (A : Option Addr) (n : Nat) (xs : List Value) : Prop :=
  xs.length = n * size ∧ (0 < n → ∃ ad, A = some ad ∧ ad.block < B ∧ ∀ j u, xs[j]? = some u → w.cell? (ad.add j) = some u)

section
variable {w w' : World} {B B' size n : Nat} {A : Option Addr} {xs : List Value}
theorem Reads.none_ : Reads w B size A 0 [] := ⟨by simp, fun h => absurd h (by omega)⟩
theorem Reads.at_ {k : Nat} (h : Reads w B 1 A n xs) (hk : k < n) : ∃ ad u, A = some ad ∧ ad.block < B ∧ xs[k]? = some u ∧ w.cell? (ad.add k) = some u := by
  obtain ⟨ad, e, hb, hc⟩ := h.2 (by omega)
  have hl : k < xs.length := by have := h.1; omega
  exact ⟨ad, xs[k], e, hb, List.getElem?_eq_getElem hl, hc k _ (List.getElem?_eq_getElem hl)⟩
theorem Reads.keep (h : Reads w B size A n xs) (hk : ∀ p : Addr, p.block < B → w'.cell? p = w.cell? p) : Reads w' B size A n xs :=
  ⟨h.1, fun hn => by
    obtain ⟨ad, e, hb, hc⟩ := h.2 hn
    exact ⟨ad, e, hb, fun j u hu => (hk _ (by rw [block_of_add]; exact hb)).trans (hc j u hu)⟩⟩
theorem Reads.more (h : Reads w B size A n xs) (hB : B ≤ B') : Reads w B' size A n xs :=
  ⟨h.1, fun hn => by
    obtain ⟨ad, e, hb, hc⟩ := h.2 hn
    exact ⟨ad, e, by omega, hc⟩⟩
theorem Reads.below (h : Reads w B size A n xs) (hb : Below B w w') : Reads w' B size A n xs := h.keep fun _ hp => hb.cell hp
theorem Reads.drewN (h : Reads w B size A n xs) (k : Nat) : Reads (w.drewN k) B size A n xs := h
theorem Reads.of_drew (h : Reads w B size A n xs) (k : Drew w w') : Reads w' B size A n xs := h.keep fun p _ => k.cell p
end

section
variable {w w' : World} {B size n : Nat} {A : Option Addr} {xs : List Value}
theorem Reads.alloc (h : Reads w B size A n xs) (hB : B ≤ w.heap.size) (o : Obj) : Reads (w.alloc o) B size A n xs := h.keep fun p hp => World.cell?_alloc_lt w o p (by omega)
theorem Reads.setCell (h : Reads w B size A n xs) {p : Addr} (hB : B ≤ p.block) (u : Value) : Reads (w.setCell p u) B size A n xs :=
  h.keep fun q hq => World.cell?_setCell_other w p q u (fun e => by subst e; omega)
theorem Reads.grown (h : Reads w B size A n xs) {row : Option Nat} (hg : w.grownBy w' row) (hB : B ≤ w.heap.size) (hr : ∀ g, row = some g → B ≤ g) : Reads w' B size A n xs :=
  h.keep fun p hp => World.cell?_of_block (hg.block p.block (by omega) (fun e => by have := hr _ e.symm; omega))
theorem Reads.of_own {base : Nat} {e : TypeId} {c : Nat} (h : w.ownsRow base e size (.slice A n c) n xs) : Reads w w.heap.size size A n xs := by
  refine ⟨h.1, fun hn => ?_⟩
  obtain ⟨g, cap, hv, _, hlt⟩ := h.form hn
  have hA : A = some ⟨g, 0, none⟩ := by injection hv
  subst hA
  exact ⟨_, rfl, hlt, h.cells (g := g) rfl⟩
end

section
variable {P : Program} (w : World)

theorem run_append_of_nil (base : Nat) (t ty e : TypeId) (i : TypeInfo) (size : Nat) (ht : P.underlying t = some (.slice e)) (hi : P.info? e = some i)
    (v : Value) (n : Nat) (xs : List Value) (hown : w.ownsRow base e size v n xs) (c : Nat) : (Builtin.append_ #[t, t] ty #[v, .slice none 0 c]).run P w = .ok v w := by
  rcases hown.2 with ⟨rfl, rfl⟩ | ⟨g, cap, cur, rfl, _, _, hnc, _⟩
  · simp [Builtin.append_, run_underlying ht, sizeOf, typeInfo, hi, Builtin.lenOf, Builtin.firstCells]
  · simp [Builtin.append_, run_underlying ht, sizeOf, typeInfo, hi, Builtin.lenOf, Builtin.firstCells, hnc, storeCells]

theorem run_append_any (base : Nat) (t ty e : TypeId) (i : TypeInfo) (z : Value) (size bytes : Nat) (ht : P.underlying t = some (.slice e)) (hi : P.info? e = some i) (hz : i.zero = some z)
    (hsize : i.size = size) (hby : i.bytes = bytes) (hzs : z.cells.size = size) (hsz : 0 < size)
    (v : Value) (n : Nat) (xs : List Value) (hown : w.ownsRow base e size v n xs)
    (B : Nat) (A : Option Addr) (m c : Nat) (news : List Value) (hr : Reads w B size A m news) (h1 : ∀ u ∈ news, u.oneCell' = true)
    (h63 : n + m ≤ maxLen) (hbytes : (n + m) * bytes ≤ 140737488355328) (hbase : base ≤ w.heap.size) :
    ∃ v' w', (Builtin.append_ #[t, t] ty #[v, .slice A m c]).run P w = .ok v' w' ∧ w'.ownsRow base e size v' (n + m) (xs ++ news) ∧ w.grownBy w' v.ownBlock ∧
      (v'.ownBlock = v.ownBlock ∨ v'.ownBlock = some w.heap.size) := by
  rcases A with _ | ad
  · have hm : m = 0 := by
      rcases Nat.eq_zero_or_pos m with h0 | h0
      · exact h0
      · obtain ⟨ad, h, _⟩ := hr.2 h0
        cases h
    subst hm
    have hn : news = [] := List.eq_nil_of_length_eq_zero (by simpa using hr.1)
    subst hn
    exact ⟨v, w, run_append_of_nil w base t ty e i size ht hi v n xs hown c, by simpa using hown, World.grownBy.refl w _, .inl rfl⟩
  · have hcells : ∀ j u, news[j]? = some u → w.cell? (ad.add j) = some u := by
      intro j u hu
      rcases Nat.eq_zero_or_pos m with h0 | h0
      · subst h0
        have hn : news = [] := List.eq_nil_of_length_eq_zero (by simpa using hr.1)
        subst hn
        simp at hu
      · obtain ⟨ad', h, _, hc⟩ := hr.2 h0
        injection h with h
        subst h
        exact hc j u hu
    obtain ⟨v', w', hrun, h2, h3, _, h5⟩ := run_append_own_at (P := P) w base t ty e i z size bytes ht hi hz hsize hby hzs hsz v n xs hown ad m c news hr.1 hcells h1 h63 hbytes hbase
    exact ⟨v', w', hrun, h2, h3, h5⟩

theorem wp_append_any {o : Oper} {a : Act} {K : Act → World → Prop} {Q : Exit → Act → World → Prop} (s x : Operand) (t : TypeId)
    (ho : o.op = .call { callee := .builtin .append, args := #[s, x], argTypes := #[t, t] })
    (base : Nat) (e : TypeId) (i : TypeInfo) (z : Value) (size bytes : Nat) (ht : P.underlying t = some (.slice e)) (hi : P.info? e = some i) (hz : i.zero = some z)
    (hsize : i.size = size) (hby : i.bytes = bytes) (hzs : z.cells.size = size) (hsz : 0 < size)
    (v : Value) (n : Nat) (xs : List Value) (hs : a.eval s = v) (hown : w.ownsRow base e size v n xs)
    (B : Nat) (A : Option Addr) (m c : Nat) (news : List Value) (hx : a.eval x = .slice A m c) (hr : Reads w B size A m news) (h1 : ∀ u ∈ news, u.oneCell' = true)
    (h63 : n + m ≤ maxLen) (hbytes : (n + m) * bytes ≤ 140737488355328) (hbase : base ≤ w.heap.size)
    (h : ∀ v' w', w'.ownsRow base e size v' (n + m) (xs ++ news) → w.grownBy w' v.ownBlock → (v'.ownBlock = v.ownBlock ∨ v'.ownBlock = some w.heap.size) → K (a.put o.dst v') w') : o.wp P a w K Q := by
  obtain ⟨v', w', hrun, h2, h3, h4⟩ := run_append_any (P := P) w base t o.type e i z size bytes ht hi hz hsize hby hzs hsz v n xs hown B A m c news hr h1 h63 hbytes hbase
  unfold Oper.wp execOp
  simp only [ho, resolve, invoke, builtin, Sem.run_bind, Sem.run_pure, Result.andThen_ok, List.map_toArray, List.map_cons, List.map_nil, hs, hx, hrun]
  exact h v' w' h2 h3 h4

theorem wpList_append_any {ops : Array Oper} {rest : List Oper} {o : Oper} {a : Act} {Q : Exit → Act → World → Prop} (hgd : o.guard = none) (s x : Operand) (t : TypeId)
    (ho : o.op = .call { callee := .builtin .append, args := #[s, x], argTypes := #[t, t] })
    (base : Nat) (e : TypeId) (i : TypeInfo) (z : Value) (size bytes : Nat) (ht : P.underlying t = some (.slice e)) (hi : P.info? e = some i) (hz : i.zero = some z)
    (hsize : i.size = size) (hby : i.bytes = bytes) (hzs : z.cells.size = size) (hsz : 0 < size)
    (v : Value) (n : Nat) (xs : List Value) (hs : a.eval s = v) (hown : w.ownsRow base e size v n xs)
    (B : Nat) (A : Option Addr) (m c : Nat) (news : List Value) (hx : a.eval x = .slice A m c) (hr : Reads w B size A m news) (h1 : ∀ u ∈ news, u.oneCell' = true)
    (h63 : n + m ≤ maxLen) (hbytes : (n + m) * bytes ≤ 140737488355328) (hbase : base ≤ w.heap.size)
    (h : ∀ v' w', w'.ownsRow base e size v' (n + m) (xs ++ news) → w.grownBy w' v.ownBlock → (v'.ownBlock = v.ownBlock ∨ v'.ownBlock = some w.heap.size) → wpList P ops Q rest (a.put o.dst v') w') : wpList P ops Q (o :: rest) a w :=
  wpList_plain hgd fun _ hK => wp_append_any w s x t ho base e i z size bytes ht hi hz hsize hby hzs hsz v n xs hs hown B A m c news hx hr h1 h63 hbytes hbase fun v' w' h2 h3 h4 => hK _ _ (h v' w' h2 h3 h4)

end

/-- The value of a row that is owned, written out. -/
theorem own_slice {w : World} {base : Nat} {e : TypeId} {size n : Nat} {v : Value} {xs : List Value} (h : w.ownsRow base e size v n xs) : ∃ A c, v = .slice A n c ∧ n ≤ maxLen := by
  rcases h.2 with ⟨rfl, rfl⟩ | ⟨g, cap, cur, rfl, _, _, h1, h2, _⟩
  · exact ⟨none, 0, rfl, Nat.zero_le _⟩
  · exact ⟨_, cap, rfl, Nat.le_trans h1 h2⟩
theorem below_then {w w1 w2 : World} (h : Below w.heap.size w w1) (k : Below w1.heap.size w1 w2) : Below w.heap.size w w2 := h.trans (k.mono h.size)
theorem below_drew {w w1 w2 : World} (h : Below w.heap.size w w1) (k : Drew w1 w2) : Below w.heap.size w w2 := h.trans (k.below _)
theorem ret_str {a b : ByteArray} (h : a = b) : Ending.returned (.string a) = .returned (.string b) := by rw [h]
theorem calls_int {P : Program} {f : FuncId} {args : Array Value} {w : World} {k : IntKind} {a b : Int} {R : World → Prop} (h : Calls P f args w fun e w' => e = .returned (.int k a) ∧ R w') (e : a = b) :
    Calls P f args w fun e w' => e = .returned (.int k b) ∧ R w' := by rw [← e]; exact h
theorem calls_bool {P : Program} {f : FuncId} {args : Array Value} {w : World} {a b : Bool} {R : World → Prop} (h : Calls P f args w fun e w' => e = .returned (.bool a) ∧ R w') (e : a = b) :
    Calls P f args w fun e w' => e = .returned (.bool b) ∧ R w' := by rw [← e]; exact h
theorem calls_str {P : Program} {f : FuncId} {args : Array Value} {w : World} {a b : ByteArray} {R : World → Prop} (h : Calls P f args w fun e w' => e = .returned (.string a) ∧ R w') (e : a = b) :
    Calls P f args w fun e w' => e = .returned (.string b) ∧ R w' := by rw [← e]; exact h
/-- The value returned, put otherwise. -/
theorem calls_val {P : Program} {f : FuncId} {args : Array Value} {w : World} {a b : Value} {R : World → Prop} (h : Calls P f args w fun e w' => e = .returned a ∧ R w') (e : a = b) :
    Calls P f args w fun e w' => e = .returned b ∧ R w' := by rw [← e]; exact h
end Go.Proofs.YtlhoggalhjadgaaGreatDoor

/- Words for a block of cells: what it holds, kept over all that is done elsewhere. -/
namespace Go.Proofs.YtlhoggalhjadgaaGreatDoor
open Go.RowKit

/-- Block g holds these cells, and none of them is frozen. -/
def At (w : World) (g : Nat) (xs : List Value) : Prop := g < w.heap.size ∧ ∀ i v, xs[i]? = some v → w.cell? ⟨g, i, none⟩ = some v ∧ w.frozen? ⟨g, i, none⟩ = false
section
variable {w w' : World} {g B : Nat} {xs : List Value}
theorem At.new (w : World) (cs : Array Value) (t : TypeId) : At (w.alloc (.cells cs t)) w.heap.size cs.toList := by
  refine ⟨by simp, fun i v h => ⟨?_, ?_⟩⟩
  · rw [World.cell?_alloc_new]
    simpa using h
  · exact World.frozen?_alloc_new ..
theorem At.lt (h : At w g xs) : g < w.heap.size := h.1
theorem At.below (h : At w g xs) (hb : Below B w w') (hg : g < B) : At w' g xs :=
  ⟨Nat.lt_of_lt_of_le h.1 hb.size, fun i v hi => ⟨(hb.cell (p := ⟨g, i, none⟩) hg).trans (h.2 i v hi).1, (hb.frozen (p := ⟨g, i, none⟩) hg).trans (h.2 i v hi).2⟩⟩
theorem At.call (h : At w g xs) (hb : Below w.heap.size w w') : At w' g xs := h.below hb h.1
theorem At.drew (h : At w g xs) (hd : Drew w w') : At w' g xs := by
  obtain ⟨n, rfl⟩ := hd
  exact ⟨h.1, fun i v hi => h.2 i v hi⟩
theorem At.alloc (h : At w g xs) (c : Array Value) (t : TypeId) : At (w.alloc (.cells c t)) g xs :=
  h.below (((Below.refl _ _).alloc (Nat.le_refl _) _) : Below w.heap.size w _) h.1
theorem At.allocO (h : At w g xs) (o : Obj) : At (w.alloc o) g xs :=
  h.below (((Below.refl _ _).alloc (Nat.le_refl _) _) : Below w.heap.size w _) h.1
theorem heap_set (w : World) (p : Addr) (v : Value) : (w.setCell p v).heap.size = w.heap.size := by simp
theorem At.set (h : At w g xs) (i : Nat) (v : Value) : At (w.setCell ⟨g, i, none⟩ v) g (xs.set i v) := by
  refine ⟨by rw [heap_set]; exact h.1, fun j u hj => ⟨?_, ?_⟩⟩
  · by_cases e : i = j
    · subst e
      have hl : i < xs.length := by
        have := (List.getElem?_eq_some_iff.1 hj).1
        simpa using this
      have hu : v = u := by
        rw [List.getElem?_set_self hl] at hj
        exact Option.some.inj hj
      subst hu
      exact World.cell?_setCell_same _ _ _ (h.2 i _ (List.getElem?_eq_getElem hl)).1
    · rw [List.getElem?_set_ne e] at hj
      rw [World.cell?_setCell_other _ _ _ _ (by intro x; injection x with _ y _; exact e y)]
      exact (h.2 j u hj).1
  · rw [World.frozen?_setCell]
    by_cases e : i = j
    · subst e
      have hl : i < xs.length := by
        have := (List.getElem?_eq_some_iff.1 hj).1
        simpa using this
      exact (h.2 i _ (List.getElem?_eq_getElem hl)).2
    · rw [List.getElem?_set_ne e] at hj
      exact (h.2 j u hj).2
theorem At.set_other (h : At w g xs) (p : Addr) (v : Value) (hp : p.block ≠ g) : At (w.setCell p v) g xs := by
  refine ⟨by rw [heap_set]; exact h.1, fun j u hj => ⟨?_, ?_⟩⟩
  · rw [World.cell?_setCell_other _ _ _ _ (by intro x; subst x; exact hp rfl)]
    exact (h.2 j u hj).1
  · rw [World.frozen?_setCell]
    exact (h.2 j u hj).2
theorem At.cell (h : At w g xs) (i : Nat) (v : Value) (hi : xs[i]? = some v) : w.cell? ⟨g, i, none⟩ = some v := (h.2 i v hi).1
theorem At.free (h : At w g xs) (i : Nat) (v : Value) (hi : xs[i]? = some v) : w.frozen? ⟨g, i, none⟩ = false := (h.2 i v hi).2
end
/-- The cells of two, three, .. -/
theorem At.two {w : World} {g : Nat} {a b : Value} (h : At w g [a, b]) : w.cell? ⟨g, 0, none⟩ = some a ∧ w.cell? ⟨g, 1, none⟩ = some b ∧ w.frozen? ⟨g, 0, none⟩ = false ∧ w.frozen? ⟨g, 1, none⟩ = false :=
  ⟨h.cell 0 a rfl, h.cell 1 b rfl, h.free 0 a rfl, h.free 1 b rfl⟩
theorem At.three {w : World} {g : Nat} {a b c : Value} (h : At w g [a, b, c]) : w.cell? ⟨g, 0, none⟩ = some a ∧ w.cell? ⟨g, 1, none⟩ = some b ∧ w.cell? ⟨g, 2, none⟩ = some c ∧
    w.frozen? ⟨g, 0, none⟩ = false ∧ w.frozen? ⟨g, 1, none⟩ = false ∧ w.frozen? ⟨g, 2, none⟩ = false :=
  ⟨h.cell 0 a rfl, h.cell 1 b rfl, h.cell 2 c rfl, h.free 0 a rfl, h.free 1 b rfl, h.free 2 c rfl⟩
theorem At.seven {w : World} {g : Nat} {a b c d e f k : Value} (h : At w g [a, b, c, d, e, f, k]) :
    (w.cell? ⟨g, 0, none⟩ = some a ∧ w.cell? ⟨g, 1, none⟩ = some b ∧ w.cell? ⟨g, 2, none⟩ = some c ∧ w.cell? ⟨g, 3, none⟩ = some d ∧ w.cell? ⟨g, 4, none⟩ = some e ∧ w.cell? ⟨g, 5, none⟩ = some f ∧ w.cell? ⟨g, 6, none⟩ = some k) ∧
    (w.frozen? ⟨g, 0, none⟩ = false ∧ w.frozen? ⟨g, 1, none⟩ = false ∧ w.frozen? ⟨g, 2, none⟩ = false ∧ w.frozen? ⟨g, 3, none⟩ = false ∧ w.frozen? ⟨g, 4, none⟩ = false ∧ w.frozen? ⟨g, 5, none⟩ = false ∧ w.frozen? ⟨g, 6, none⟩ = false) :=
  ⟨⟨h.cell 0 a rfl, h.cell 1 b rfl, h.cell 2 c rfl, h.cell 3 d rfl, h.cell 4 e rfl, h.cell 5 f rfl, h.cell 6 k rfl⟩, ⟨h.free 0 a rfl, h.free 1 b rfl, h.free 2 c rfl, h.free 3 d rfl, h.free 4 e rfl, h.free 5 f rfl, h.free 6 k rfl⟩⟩
end Go.Proofs.YtlhoggalhjadgaaGreatDoor

/- A scope in which the run jumps back to several labels: what holds at every jump to each, and a measure that every pass lowers. -/
namespace Go.Proofs.YtlhoggalhjadgaaGreatDoor
open Go Go.RowKit

/-- As Q; by a goto to label l: J l. -/
def Exit.jumps (J : Nat → Act → World → Prop) (Q : Exit → Act → World → Prop) : Exit → Act → World → Prop
  | .goto l, a, w => J l a w
  | e, a, w => Q e a w
theorem wp_scope_labels {P : Program} {a : Act} {w : World} {Q : Exit → Act → World → Prop} {c : Code} (J : Nat → Act → World → Prop) (μ : Nat → Act → World → Nat)
    (first : c.wp P (Exit.jumps J Q) a w)
    (pass : ∀ l a w, J l a w → ∃ rest, findLabel c l = some rest ∧ rest.wp P (Exit.jumps (fun l' a' w' => J l' a' w' ∧ μ l' a' w' < μ l a w) Q) a w) : (Code.scope c).wp P Q a w := by
  intro b k cs
  have key : ∀ n l a w, μ l a w = n → J l a w → ∃ rest, findLabel c l = some rest ∧ ∃ e a' w', Q e a' w' ∧ Arrives P (lone (b.at a (.code rest :: .inScope c :: k)) cs w) b k cs e a' w' := by
    intro n
    induction n using Nat.strongRecOn with
    | _ n ih =>
      intro l a w hn hJ
      obtain ⟨rest, hf, hp⟩ := pass l a w hJ
      refine ⟨rest, hf, ?_⟩
      obtain ⟨e, a₁, w₁, hq, harr⟩ := hp b (.inScope c :: k) cs
      cases e with
      | normal => exact ⟨.normal, a₁, w₁, hq, Steps.trans harr (.one step_inScope)⟩
      | exit id => exact ⟨.exit id, a₁, w₁, hq, fun k' hk => harr k' (by simp [exitTo, hk])⟩
      | goto l' =>
        obtain ⟨hJ', hlt⟩ := hq
        obtain ⟨rest2, hf2, e₂, a₂, w₂, hq₂, harr₂⟩ := ih _ (by omega) l' a₁ w₁ rfl hJ'
        have hg : gotoIn l' (.inScope c :: k) = some (.code rest2 :: .inScope c :: k) := by simp [gotoIn, hf2]
        exact ⟨e₂, a₂, w₂, hq₂, .of_steps (harr _ hg) harr₂⟩
      | ret => exact ⟨_, a₁, w₁, hq, harr⟩
      | panic ch => exact ⟨_, a₁, w₁, hq, harr⟩
      | outgrown => exact ⟨_, a₁, w₁, hq, harr⟩
  obtain ⟨e, a₁, w₁, hq, harr⟩ := first b (.inScope c :: k) cs
  cases e with
  | normal => exact ⟨.normal, a₁, w₁, hq, .head step_scope (Steps.trans harr (.one step_inScope))⟩
  | exit id => exact ⟨.exit id, a₁, w₁, hq, fun k' hk => .head step_scope (harr k' (by simp [exitTo, hk]))⟩
  | goto l' =>
    obtain ⟨rest2, hf2, e₂, a₂, w₂, hq₂, harr₂⟩ := key _ l' a₁ w₁ rfl hq
    have hg : gotoIn l' (.inScope c :: k) = some (.code rest2 :: .inScope c :: k) := by simp [gotoIn, hf2]
    exact ⟨e₂, a₂, w₂, hq₂, .of_steps (.head step_scope (harr _ hg)) harr₂⟩
  | ret => exact ⟨_, a₁, w₁, hq, .of_steps (.one step_scope) harr⟩
  | panic ch => exact ⟨_, a₁, w₁, hq, .of_steps (.one step_scope) harr⟩
  | outgrown => exact ⟨_, a₁, w₁, hq, .of_steps (.one step_scope) harr⟩
/-- The same; where the scope's own beginning comes to a label, what holds there serves. -/
theorem wp_scope_labels2 {P : Program} {a : Act} {w : World} {Q : Exit → Act → World → Prop} {c : Code} (J : Nat → Act → World → Prop) (μ : Nat → Act → World → Nat)
    (pass : ∀ l a w, J l a w → ∃ rest, findLabel c l = some rest ∧ rest.wp P (Exit.jumps (fun l' a' w' => J l' a' w' ∧ μ l' a' w' < μ l a w) Q) a w)
    (first : (∀ l rest a w, findLabel c l = some rest → J l a w → rest.wp P (Exit.jumps J Q) a w) → c.wp P (Exit.jumps J Q) a w) : (Code.scope c).wp P Q a w := by
  refine wp_scope_labels J μ (first fun l rest a w hf hJ => ?_) pass
  obtain ⟨rest', hf', hp⟩ := pass l a w hJ
  obtain rfl : rest' = rest := Option.some.inj (hf'.symm.trans hf)
  refine wp_mono hp fun e a' w' h => ?_
  cases e with
  | goto l' => exact h.1
  | normal => exact h
  | exit id => exact h
  | ret => exact h
  | panic ch => exact h
  | outgrown => exact h
/-- The same, at labels that stand as statements of the scope's own sequence. -/
theorem wp_scope_labels3 {P : Program} {a : Act} {w : World} {Q : Exit → Act → World → Prop} {c : Code} (J : Nat → Act → World → Prop) (μ : Nat → Act → World → Nat)
    (pass : ∀ l a w, J l a w → ∃ rest, findLabel c l = some (.seq .skip rest) ∧ rest.wp P (Exit.jumps (fun l' a' w' => J l' a' w' ∧ μ l' a' w' < μ l a w) Q) a w)
    (first : (∀ l rest a w, findLabel c l = some (.seq .skip rest) → J l a w → rest.wp P (Exit.jumps J Q) a w) → c.wp P (Exit.jumps J Q) a w) : (Code.scope c).wp P Q a w := by
  refine wp_scope_labels J μ (first fun l rest a w hf hJ => ?_) fun l a w hJ => ?_
  · obtain ⟨rest', hf', hp⟩ := pass l a w hJ
    have e := Option.some.inj (hf'.symm.trans hf)
    injection e with _ e
    subst e
    refine wp_mono hp fun e a' w' h => ?_
    cases e with
    | goto l' => exact h.1
    | normal => exact h
    | exit id => exact h
    | ret => exact h
    | panic ch => exact h
    | outgrown => exact h
  · obtain ⟨rest, hf, hp⟩ := pass l a w hJ
    exact ⟨_, hf, wp_seq (wp_skip hp)⟩
end Go.Proofs.YtlhoggalhjadgaaGreatDoor

/- The contract of scan.kind; the fields of a line in plain words. -/
namespace Go.Proofs.YtlhoggalhjadgaaGreatDoor
open Go.RowKit

namespace Sc
/-- The kind of a byte: 1 parts, 2 is bad, 3 begins a comment, 4 quotes. -/
def kind (c : Int) : Int := if c = 32 ∨ c = 9 ∨ c = 13 then 1 else if c < 32 ∨ c = 127 then 2 else if c = 35 then 3 else if c = 34 then 4 else 0
theorem cases_ (c : Int) (h0 : 0 ≤ c) (h1 : c ≤ 255) : (0 ≤ c ∧ c ≤ 8) ∨ (c = 9) ∨ (10 ≤ c ∧ c ≤ 12) ∨ (c = 13) ∨ (14 ≤ c ∧ c ≤ 31) ∨ (c = 32) ∨ (c = 33) ∨ (c = 34) ∨ (c = 35) ∨ (36 ≤ c ∧ c ≤ 126) ∨ (c = 127) ∨ (128 ≤ c ∧ c ≤ 255) := by omega
/-- Where the scanner is: between fields; within one (where it began, what it has); within quotes (where they began). -/
inductive Mode where
  | b
  | f (begin : Int) (text : List UInt8)
  | q (quote begin : Int) (text : List UInt8)
/-- The fields, each with its column; or the column, and why. -/
inductive Res where
  | ok (l : List (List UInt8 × Int))
  | bad (col why : Int)
def scan : List UInt8 → Int → Mode → List (List UInt8 × Int) → Res
  | [], _, .b, acc => .ok acc
  | [], _, .f b t, acc => .ok (acc ++ [(t, b)])
  | [], _, .q q _ _, _ => .bad q 5
  | c :: l, at_, .b, acc =>
    if kind c.toNat = 1 then scan l (at_ + 1) .b acc else if kind c.toNat = 3 then .ok acc else if kind c.toNat = 2 then .bad (at_ + 1) 4
    else if acc.length = 24 then .bad (at_ + 1) 6 else if kind c.toNat = 4 then scan l (at_ + 1) (.q (at_ + 1) (at_ + 1) []) acc else scan l (at_ + 1) (.f (at_ + 1) [c]) acc
  | c :: l, at_, .f b t, acc =>
    if kind c.toNat = 1 then scan l (at_ + 1) .b (acc ++ [(t, b)]) else if kind c.toNat = 3 then .ok (acc ++ [(t, b)]) else if kind c.toNat = 2 then .bad (at_ + 1) 4
    else if kind c.toNat = 4 then scan l (at_ + 1) (.q (at_ + 1) b t) acc else scan l (at_ + 1) (.f b (t ++ [c])) acc
  | c :: l, at_, .q q b t, acc =>
    if kind c.toNat = 2 then .bad (at_ + 1) 4 else if kind c.toNat = 4 then scan l (at_ + 1) (.f b t) acc else scan l (at_ + 1) (.q q b (t ++ [c])) acc
/-- The fields of a line. -/
def fields (s : List UInt8) : Res := if 2048 < s.length then .bad 2049 6 else scan s 0 .b []
theorem kind_bd (c : Int) : kind c = 0 ∨ kind c = 1 ∨ kind c = 2 ∨ kind c = 3 ∨ kind c = 4 := by
  unfold kind
  split
  · simp
  · split
    · simp
    · split
      · simp
      · split <;> simp
section
variable {c : UInt8} {l : List UInt8} {a b q : Int} {t : List UInt8} {acc : List (List UInt8 × Int)}
theorem b_1 (h : kind c.toNat = 1) : scan (c :: l) a .b acc = scan l (a + 1) .b acc := by rw [scan, if_pos h]
theorem b_3 (h : kind c.toNat = 3) : scan (c :: l) a .b acc = .ok acc := by rw [scan, if_neg (by omega), if_pos h]
theorem b_2 (h : kind c.toNat = 2) : scan (c :: l) a .b acc = .bad (a + 1) 4 := by rw [scan, if_neg (by omega), if_neg (by omega), if_pos h]
theorem b_long (h : kind c.toNat = 0 ∨ kind c.toNat = 4) (hl : acc.length = 24) : scan (c :: l) a .b acc = .bad (a + 1) 6 := by rw [scan, if_neg (by omega), if_neg (by omega), if_neg (by omega), if_pos hl]
theorem f_b (h : kind c.toNat = 1 ∨ kind c.toNat = 3) : scan (c :: l) a (.f b t) acc = scan (c :: l) a .b (acc ++ [(t, b)]) := by
  rcases h with h | h
  · rw [b_1 h, scan, if_pos h]
  · rw [b_3 h, scan, if_neg (by omega), if_pos h]
theorem f_end : scan [] a (.f b t) acc = scan [] a .b (acc ++ [(t, b)]) := rfl
theorem f_2 (h : kind c.toNat = 2) : scan (c :: l) a (.f b t) acc = .bad (a + 1) 4 := by rw [scan, if_neg (by omega), if_neg (by omega), if_pos h]
theorem f_4 (h : kind c.toNat = 4) : scan (c :: l) a (.f b t) acc = scan l (a + 1) (.q (a + 1) b t) acc := by rw [scan, if_neg (by omega), if_neg (by omega), if_neg (by omega), if_pos h]
theorem f_0 (h : kind c.toNat = 0) : scan (c :: l) a (.f b t) acc = scan l (a + 1) (.f b (t ++ [c])) acc := by rw [scan, if_neg (by omega), if_neg (by omega), if_neg (by omega), if_neg (by omega)]
theorem b_f (h : kind c.toNat = 0 ∨ kind c.toNat = 4) (hl : acc.length ≠ 24) : scan (c :: l) a .b acc = scan (c :: l) a (.f (a + 1) []) acc := by
  rcases h with h | h
  · rw [f_0 h, scan, if_neg (by omega), if_neg (by omega), if_neg (by omega), if_neg hl, if_neg (by omega)]
    rfl
  · rw [f_4 h, scan, if_neg (by omega), if_neg (by omega), if_neg (by omega), if_neg hl, if_pos h]
theorem q_2 (h : kind c.toNat = 2) : scan (c :: l) a (.q q b t) acc = .bad (a + 1) 4 := by rw [scan, if_pos h]
theorem q_4 (h : kind c.toNat = 4) : scan (c :: l) a (.q q b t) acc = scan l (a + 1) (.f b t) acc := by rw [scan, if_neg (by omega), if_pos h]
theorem q_0 (h : kind c.toNat ≠ 2) (h4 : kind c.toNat ≠ 4) : scan (c :: l) a (.q q b t) acc = scan l (a + 1) (.q q b (t ++ [c])) acc := by rw [scan, if_neg h, if_neg h4]
end
end Sc
theorem kind_is (c : UInt8) (w : World) (k : Int) (h : Sc.kind c.toNat = k) : Calls Tryz.prog 70 #[.int .u8 c.toNat] w fun e w' => e = .returned (.int .i64 k) ∧ w = w' := by
  subst h
  obtain ⟨b1, b2⟩ := u8_bd c
  obtain ⟨x, hx⟩ : ∃ x : Int, (c.toNat : Int) = x := ⟨_, rfl⟩
  rw [hx] at b1 b2 ⊢
  clear hx
  rcases Sc.cases_ x b1 b2 with h | h | h | h | h | h | h | h | h | h | h | h
  · have hk : Sc.kind x = 2 := by unfold Sc.kind; rw [if_neg (by omega), if_pos (by omega)]
    rw [hk]
    have e32 : (x == 32) = false := by rw [beq_eq_false_iff_ne]; omega
    have e9 : (x == 9) = false := by rw [beq_eq_false_iff_ne]; omega
    have e13 : (x == 13) = false := by rw [beq_eq_false_iff_ne]; omega
    have e127 : (x == 127) = false := by rw [beq_eq_false_iff_ne]; omega
    have e35 : (x == 35) = false := by rw [beq_eq_false_iff_ne]; omega
    have e34 : (x == 34) = false := by rw [beq_eq_false_iff_ne]; omega
    have l32 : x < 32 := by omega
    clear hk b1 b2 h
    go_enter Tryz.func70, Tryz.ntmps70
    go_wp2
    go_ret
    exact ⟨rfl, rfl⟩
  · have hk : Sc.kind x = 1 := by unfold Sc.kind; rw [if_pos (by omega)]
    rw [hk]
    subst h
    clear hk b1 b2
    go_enter Tryz.func70, Tryz.ntmps70
    go_wp2
    go_ret
    exact ⟨rfl, rfl⟩
  · have hk : Sc.kind x = 2 := by unfold Sc.kind; rw [if_neg (by omega), if_pos (by omega)]
    rw [hk]
    have e32 : (x == 32) = false := by rw [beq_eq_false_iff_ne]; omega
    have e9 : (x == 9) = false := by rw [beq_eq_false_iff_ne]; omega
    have e13 : (x == 13) = false := by rw [beq_eq_false_iff_ne]; omega
    have e127 : (x == 127) = false := by rw [beq_eq_false_iff_ne]; omega
    have e35 : (x == 35) = false := by rw [beq_eq_false_iff_ne]; omega
    have e34 : (x == 34) = false := by rw [beq_eq_false_iff_ne]; omega
    have l32 : x < 32 := by omega
    clear hk b1 b2 h
    go_enter Tryz.func70, Tryz.ntmps70
    go_wp2
    go_ret
    exact ⟨rfl, rfl⟩
  · have hk : Sc.kind x = 1 := by unfold Sc.kind; rw [if_pos (by omega)]
    rw [hk]
    subst h
    clear hk b1 b2
    go_enter Tryz.func70, Tryz.ntmps70
    go_wp2
    go_ret
    exact ⟨rfl, rfl⟩
  · have hk : Sc.kind x = 2 := by unfold Sc.kind; rw [if_neg (by omega), if_pos (by omega)]
    rw [hk]
    have e32 : (x == 32) = false := by rw [beq_eq_false_iff_ne]; omega
    have e9 : (x == 9) = false := by rw [beq_eq_false_iff_ne]; omega
    have e13 : (x == 13) = false := by rw [beq_eq_false_iff_ne]; omega
    have e127 : (x == 127) = false := by rw [beq_eq_false_iff_ne]; omega
    have e35 : (x == 35) = false := by rw [beq_eq_false_iff_ne]; omega
    have e34 : (x == 34) = false := by rw [beq_eq_false_iff_ne]; omega
    have l32 : x < 32 := by omega
    clear hk b1 b2 h
    go_enter Tryz.func70, Tryz.ntmps70
    go_wp2
    go_ret
    exact ⟨rfl, rfl⟩
  · have hk : Sc.kind x = 1 := by unfold Sc.kind; rw [if_pos (by omega)]
    rw [hk]
    subst h
    clear hk b1 b2
    go_enter Tryz.func70, Tryz.ntmps70
    go_wp2
    go_ret
    exact ⟨rfl, rfl⟩
  · have hk : Sc.kind x = 0 := by unfold Sc.kind; rw [if_neg (by omega), if_neg (by omega), if_neg (by omega), if_neg (by omega)]
    rw [hk]
    subst h
    clear hk b1 b2
    go_enter Tryz.func70, Tryz.ntmps70
    go_wp2
    go_ret
    exact ⟨rfl, rfl⟩
  · have hk : Sc.kind x = 4 := by unfold Sc.kind; rw [if_neg (by omega), if_neg (by omega), if_neg (by omega), if_pos (by omega)]
    rw [hk]
    subst h
    clear hk b1 b2
    go_enter Tryz.func70, Tryz.ntmps70
    go_wp2
    go_ret
    exact ⟨rfl, rfl⟩
  · have hk : Sc.kind x = 3 := by unfold Sc.kind; rw [if_neg (by omega), if_neg (by omega), if_pos (by omega)]
    rw [hk]
    subst h
    clear hk b1 b2
    go_enter Tryz.func70, Tryz.ntmps70
    go_wp2
    go_ret
    exact ⟨rfl, rfl⟩
  · have hk : Sc.kind x = 0 := by unfold Sc.kind; rw [if_neg (by omega), if_neg (by omega), if_neg (by omega), if_neg (by omega)]
    rw [hk]
    have e32 : (x == 32) = false := by rw [beq_eq_false_iff_ne]; omega
    have e9 : (x == 9) = false := by rw [beq_eq_false_iff_ne]; omega
    have e13 : (x == 13) = false := by rw [beq_eq_false_iff_ne]; omega
    have e127 : (x == 127) = false := by rw [beq_eq_false_iff_ne]; omega
    have e35 : (x == 35) = false := by rw [beq_eq_false_iff_ne]; omega
    have e34 : (x == 34) = false := by rw [beq_eq_false_iff_ne]; omega
    have l32 : ¬ x < 32 := by omega
    clear hk b1 b2 h
    go_enter Tryz.func70, Tryz.ntmps70
    go_wp2
    go_ret
    exact ⟨rfl, rfl⟩
  · have hk : Sc.kind x = 2 := by unfold Sc.kind; rw [if_neg (by omega), if_pos (by omega)]
    rw [hk]
    subst h
    clear hk b1 b2
    go_enter Tryz.func70, Tryz.ntmps70
    go_wp2
    go_ret
    exact ⟨rfl, rfl⟩
  · have hk : Sc.kind x = 0 := by unfold Sc.kind; rw [if_neg (by omega), if_neg (by omega), if_neg (by omega), if_neg (by omega)]
    rw [hk]
    have e32 : (x == 32) = false := by rw [beq_eq_false_iff_ne]; omega
    have e9 : (x == 9) = false := by rw [beq_eq_false_iff_ne]; omega
    have e13 : (x == 13) = false := by rw [beq_eq_false_iff_ne]; omega
    have e127 : (x == 127) = false := by rw [beq_eq_false_iff_ne]; omega
    have e35 : (x == 35) = false := by rw [beq_eq_false_iff_ne]; omega
    have e34 : (x == 34) = false := by rw [beq_eq_false_iff_ne]; omega
    have l32 : ¬ x < 32 := by omega
    clear hk b1 b2 h
    go_enter Tryz.func70, Tryz.ntmps70
    go_wp2
    go_ret
    exact ⟨rfl, rfl⟩
end Go.Proofs.YtlhoggalhjadgaaGreatDoor
