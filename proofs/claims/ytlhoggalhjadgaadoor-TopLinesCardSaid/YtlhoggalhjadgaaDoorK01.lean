/- Words for memory: a slice that reads as a list; draws alone; small lemmas. -/
import Derived.Test.YtlhoggalhjadgaaDoorChecked
import Derived.WalkKit
import Derived.Below
import Derived.Laws.OwnMore
import Derived.Deep.AppendLies
import Derived.Deep.Draws
import Derived.Lib.Hide
import Derived.Maps.AppendAt
import Derived.RegionTactic
import Derived.OwnWalk
namespace Go.Proofs.YtlhoggalhjadgaaDoor
open Go.RowKit

theorem ret_int {k : IntKind} {a b : Int} (h : a = b) : Ending.returned (.int k a) = .returned (.int k b) := by rw [h]
theorem ret_bool {a b : Bool} (h : a = b) : Ending.returned (.bool a) = .returned (.bool b) := by rw [h]
theorem u8_bd (c : UInt8) : 0 ≤ (c.toNat : Int) ∧ (c.toNat : Int) ≤ 255 := by have := c.toNat_lt; omega

/-- The letters of a text. -/
def tl (s : ByteArray) : List UInt8 := s.data.toList
theorem tl_length (s : ByteArray) : (tl s).length = s.size := by simp [tl]

theorem tl_extract (s : ByteArray) (k : Nat) : tl (s.extract 0 k) = (tl s).take k := by simp [tl]

/-- Draws alone. -/
def Drew (w w' : World) : Prop := ∃ n, w' = w.drewN n
theorem Drew.refl (w : World) : Drew w w := ⟨0, rfl⟩
theorem Drew.drewN {w w' : World} (h : Drew w w') (n : Nat) : Drew w (w'.drewN n) := by
  obtain ⟨m, rfl⟩ := h
  exact ⟨m + n, World.drewN_drewN ..⟩
theorem Drew.trans {a b c : World} (h : Drew a b) (k : Drew b c) : Drew a c := by
  obtain ⟨n, rfl⟩ := k
  exact h.drewN n
theorem below_drewN {B : Nat} {a w : World} (h : Below B a w) (n : Nat) : Below B a (w.drewN n) := ⟨h.os, h.tape, h.output, h.size, h.block⟩
theorem Drew.below {w w' : World} (h : Drew w w') (B : Nat) : Below B w w' := by
  obtain ⟨n, rfl⟩ := h
  exact below_drewN (Below.refl B w) n
theorem Drew.cell {w w' : World} (h : Drew w w') (p : Addr) : w'.cell? p = w.cell? p := by
  obtain ⟨n, rfl⟩ := h
  rfl
theorem Drew.heap {w w' : World} (h : Drew w w') : w'.heap = w.heap := by
  obtain ⟨n, rfl⟩ := h
  rfl

theorem block_of_add (a : Addr) (n : Nat) : (a.add n).block = a.block := by unfold Addr.add; split <;> rfl
theorem add_of_add (a : Addr) (i j : Nat) : (a.add i).add j = a.add (i + j) := by
  unfold Addr.add
  by_cases hi : i = 0 <;> by_cases hj : j = 0 <;> simp [hi, hj, Nat.add_assoc]

/-- A slice's cells: of n elements, 'size' cells each, below block B. -/
def Reads (w : World) (B size : Nat) (A : Option Addr) (n : Nat) (xs : List Value) : Prop :=
  xs.length = n * size ∧ (0 < n → ∃ ad, A = some ad ∧ ad.block < B ∧ ∀ j u, xs[j]? = some u → w.cell? (ad.add j) = some u)

section
variable {w w' : World} {B B' size n : Nat} {A : Option Addr} {xs : List Value}
theorem Reads.none_ : Reads w B size A 0 [] := ⟨by simp, fun h => absurd h (by omega)⟩
theorem Reads.at_ {k : Nat} (h : Reads w B 1 A n xs) (hk : k < n) : ∃ ad u, A = some ad ∧ ad.block < B ∧ xs[k]? = some u ∧ w.cell? (ad.add k) = some u := by
  obtain ⟨ad, e, hb, hc⟩ := h.2 (by omega)
  have hl : k < xs.length := by have := h.1; omega
  exact ⟨ad, xs[k], e, hb, List.getElem?_eq_getElem hl, hc k _ (List.getElem?_eq_getElem hl)⟩
theorem Reads.keep (h : Reads w B size A n xs) (hk : ∀ p : Addr, p.block < B → w'.cell? p = w.cell? p) : Reads w' B size A n xs :=
  ⟨h.1, fun hn => by
    obtain ⟨ad, e, hb, hc⟩ := h.2 hn
    exact ⟨ad, e, hb, fun j u hu => (hk _ (by rw [block_of_add]; exact hb)).trans (hc j u hu)⟩⟩
theorem Reads.more (h : Reads w B size A n xs) (hB : B ≤ B') : Reads w B' size A n xs :=
  ⟨h.1, fun hn => by
    obtain ⟨ad, e, hb, hc⟩ := h.2 hn
    exact ⟨ad, e, by omega, hc⟩⟩
theorem Reads.below (h : Reads w B size A n xs) (hb : Below B w w') : Reads w' B size A n xs := h.keep fun _ hp => hb.cell hp
theorem Reads.drewN (h : Reads w B size A n xs) (k : Nat) : Reads (w.drewN k) B size A n xs := h
theorem Reads.of_drew (h : Reads w B size A n xs) (k : Drew w w') : Reads w' B size A n xs := h.keep fun p _ => k.cell p
end

section
variable {w w' : World} {B size n : Nat} {A : Option Addr} {xs : List Value}
theorem Reads.alloc (h : Reads w B size A n xs) (hB : B ≤ w.heap.size) (o : Obj) : Reads (w.alloc o) B size A n xs := h.keep fun p hp => World.cell?_alloc_lt w o p (by omega)
theorem Reads.setCell (h : Reads w B size A n xs) {p : Addr} (hB : B ≤ p.block) (u : Value) : Reads (w.setCell p u) B size A n xs :=
  h.keep fun q hq => World.cell?_setCell_other w p q u (fun e => by subst e; omega)
theorem Reads.grown (h : Reads w B size A n xs) {row : Option Nat} (hg : w.grownBy w' row) (hB : B ≤ w.heap.size) (hr : ∀ g, row = some g → B ≤ g) : Reads w' B size A n xs :=
  h.keep fun p hp => World.cell?_of_block (hg.block p.block (by omega) (fun e => by have := hr _ e.symm; omega))
theorem Reads.of_own {base : Nat} {e : TypeId} {c : Nat} (h : w.ownsRow base e size (.slice A n c) n xs) : Reads w w.heap.size size A n xs := by
  refine ⟨h.1, fun hn => ?_⟩
  obtain ⟨g, cap, hv, _, hlt⟩ := h.form hn
  have hA : A = some ⟨g, 0, none⟩ := by injection hv
  subst hA
  exact ⟨_, rfl, hlt, h.cells (g := g) rfl⟩
end

section
variable {P : Program} (w : World)

theorem run_append_of_nil (base : Nat) (t ty e : TypeId) (i : TypeInfo) (size : Nat) (ht : P.underlying t = some (.slice e)) (hi : P.info? e = some i)
    (v : Value) (n : Nat) (xs : List Value) (hown : w.ownsRow base e size v n xs) (c : Nat) : (Builtin.append_ #[t, t] ty #[v, .slice none 0 c]).run P w = .ok v w := by
  rcases hown.2 with ⟨rfl, rfl⟩ | ⟨g, cap, cur, rfl, _, _, hnc, _⟩
  · simp [Builtin.append_, run_underlying ht, sizeOf, typeInfo, hi, Builtin.lenOf, Builtin.firstCells]
  · simp [Builtin.append_, run_underlying ht, sizeOf, typeInfo, hi, Builtin.lenOf, Builtin.firstCells, hnc, storeCells]

theorem run_append_any (base : Nat) (t ty e : TypeId) (i : TypeInfo) (z : Value) (size bytes : Nat) (ht : P.underlying t = some (.slice e)) (hi : P.info? e = some i) (hz : i.zero = some z)
    (hsize : i.size = size) (hby : i.bytes = bytes) (hzs : z.cells.size = size) (hsz : 0 < size)
    (v : Value) (n : Nat) (xs : List Value) (hown : w.ownsRow base e size v n xs)
    (B : Nat) (A : Option Addr) (m c : Nat) (news : List Value) (hr : Reads w B size A m news) (h1 : ∀ u ∈ news, u.oneCell' = true)
    (h63 : n + m ≤ maxLen) (hbytes : (n + m) * bytes ≤ 140737488355328) (hbase : base ≤ w.heap.size) :
    ∃ v' w', (Builtin.append_ #[t, t] ty #[v, .slice A m c]).run P w = .ok v' w' ∧ w'.ownsRow base e size v' (n + m) (xs ++ news) ∧ w.grownBy w' v.ownBlock ∧
      (v'.ownBlock = v.ownBlock ∨ v'.ownBlock = some w.heap.size) := by
  rcases A with _ | ad
  · have hm : m = 0 := by
      rcases Nat.eq_zero_or_pos m with h0 | h0
      · exact h0
      · obtain ⟨ad, h, _⟩ := hr.2 h0
        cases h
    subst hm
    have hn : news = [] := List.eq_nil_of_length_eq_zero (by simpa using hr.1)
    subst hn
    exact ⟨v, w, run_append_of_nil w base t ty e i size ht hi v n xs hown c, by simpa using hown, World.grownBy.refl w _, .inl rfl⟩
  · have hcells : ∀ j u, news[j]? = some u → w.cell? (ad.add j) = some u := by
      intro j u hu
      rcases Nat.eq_zero_or_pos m with h0 | h0
      · subst h0
        have hn : news = [] := List.eq_nil_of_length_eq_zero (by simpa using hr.1)
        subst hn
        simp at hu
      · obtain ⟨ad', h, _, hc⟩ := hr.2 h0
        injection h with h
        subst h
        exact hc j u hu
    obtain ⟨v', w', hrun, h2, h3, _, h5⟩ := run_append_own_at (P := P) w base t ty e i z size bytes ht hi hz hsize hby hzs hsz v n xs hown ad m c news hr.1 hcells h1 h63 hbytes hbase
    exact ⟨v', w', hrun, h2, h3, h5⟩

theorem wp_append_any {o : Oper} {a : Act} {K : Act → World → Prop} {Q : Exit → Act → World → Prop} (s x : Operand) (t : TypeId)
    (ho : o.op = .call { callee := .builtin .append, args := #[s, x], argTypes := #[t, t] })
    (base : Nat) (e : TypeId) (i : TypeInfo) (z : Value) (size bytes : Nat) (ht : P.underlying t = some (.slice e)) (hi : P.info? e = some i) (hz : i.zero = some z)
    (hsize : i.size = size) (hby : i.bytes = bytes) (hzs : z.cells.size = size) (hsz : 0 < size)
    (v : Value) (n : Nat) (xs : List Value) (hs : a.eval s = v) (hown : w.ownsRow base e size v n xs)
    (B : Nat) (A : Option Addr) (m c : Nat) (news : List Value) (hx : a.eval x = .slice A m c) (hr : Reads w B size A m news) (h1 : ∀ u ∈ news, u.oneCell' = true)
    (h63 : n + m ≤ maxLen) (hbytes : (n + m) * bytes ≤ 140737488355328) (hbase : base ≤ w.heap.size)
    (h : ∀ v' w', w'.ownsRow base e size v' (n + m) (xs ++ news) → w.grownBy w' v.ownBlock → (v'.ownBlock = v.ownBlock ∨ v'.ownBlock = some w.heap.size) → K (a.put o.dst v') w') : o.wp P a w K Q := by
  obtain ⟨v', w', hrun, h2, h3, h4⟩ := run_append_any (P := P) w base t o.type e i z size bytes ht hi hz hsize hby hzs hsz v n xs hown B A m c news hr h1 h63 hbytes hbase
  unfold Oper.wp execOp
  simp only [ho, resolve, invoke, builtin, Sem.run_bind, Sem.run_pure, Result.andThen_ok, List.map_toArray, List.map_cons, List.map_nil, hs, hx, hrun]
  exact h v' w' h2 h3 h4

theorem wpList_append_any {ops : Array Oper} {rest : List Oper} {o : Oper} {a : Act} {Q : Exit → Act → World → Prop} (hgd : o.guard = none) (s x : Operand) (t : TypeId)
    (ho : o.op = .call { callee := .builtin .append, args := #[s, x], argTypes := #[t, t] })
    (base : Nat) (e : TypeId) (i : TypeInfo) (z : Value) (size bytes : Nat) (ht : P.underlying t = some (.slice e)) (hi : P.info? e = some i) (hz : i.zero = some z)
    (hsize : i.size = size) (hby : i.bytes = bytes) (hzs : z.cells.size = size) (hsz : 0 < size)
    (v : Value) (n : Nat) (xs : List Value) (hs : a.eval s = v) (hown : w.ownsRow base e size v n xs)
    (B : Nat) (A : Option Addr) (m c : Nat) (news : List Value) (hx : a.eval x = .slice A m c) (hr : Reads w B size A m news) (h1 : ∀ u ∈ news, u.oneCell' = true)
    (h63 : n + m ≤ maxLen) (hbytes : (n + m) * bytes ≤ 140737488355328) (hbase : base ≤ w.heap.size)
    (h : ∀ v' w', w'.ownsRow base e size v' (n + m) (xs ++ news) → w.grownBy w' v.ownBlock → (v'.ownBlock = v.ownBlock ∨ v'.ownBlock = some w.heap.size) → wpList P ops Q rest (a.put o.dst v') w') : wpList P ops Q (o :: rest) a w :=
  wpList_plain hgd fun _ hK => wp_append_any w s x t ho base e i z size bytes ht hi hz hsize hby hzs hsz v n xs hs hown B A m c news hx hr h1 h63 hbytes hbase fun v' w' h2 h3 h4 => hK _ _ (h v' w' h2 h3 h4)

end

/-- The value of a row that is owned, written out. -/
theorem own_slice {w : World} {base : Nat} {e : TypeId} {size n : Nat} {v : Value} {xs : List Value} (h : w.ownsRow base e size v n xs) : ∃ A c, v = .slice A n c ∧ n ≤ maxLen := by
  rcases h.2 with ⟨rfl, rfl⟩ | ⟨g, cap, cur, rfl, _, _, h1, h2, _⟩
  · exact ⟨none, 0, rfl, Nat.zero_le _⟩
  · exact ⟨_, cap, rfl, Nat.le_trans h1 h2⟩
theorem below_then {w w1 w2 : World} (h : Below w.heap.size w w1) (k : Below w1.heap.size w1 w2) : Below w.heap.size w w2 := h.trans (k.mono h.size)
theorem below_drew {w w1 w2 : World} (h : Below w.heap.size w w1) (k : Drew w1 w2) : Below w.heap.size w w2 := h.trans (k.below _)
theorem ret_str {a b : ByteArray} (h : a = b) : Ending.returned (.string a) = .returned (.string b) := by rw [h]
theorem calls_int {P : Program} {f : FuncId} {args : Array Value} {w : World} {k : IntKind} {a b : Int} {R : World → Prop} (h : Calls P f args w fun e w' => e = .returned (.int k a) ∧ R w') (e : a = b) :
    Calls P f args w fun e w' => e = .returned (.int k b) ∧ R w' := by rw [← e]; exact h
theorem calls_bool {P : Program} {f : FuncId} {args : Array Value} {w : World} {a b : Bool} {R : World → Prop} (h : Calls P f args w fun e w' => e = .returned (.bool a) ∧ R w') (e : a = b) :
    Calls P f args w fun e w' => e = .returned (.bool b) ∧ R w' := by rw [← e]; exact h
theorem calls_str {P : Program} {f : FuncId} {args : Array Value} {w : World} {a b : ByteArray} {R : World → Prop} (h : Calls P f args w fun e w' => e = .returned (.string a) ∧ R w') (e : a = b) :
    Calls P f args w fun e w' => e = .returned (.string b) ∧ R w' := by rw [← e]; exact h
/-- The value returned, put otherwise. -/
theorem calls_val {P : Program} {f : FuncId} {args : Array Value} {w : World} {a b : Value} {R : World → Prop} (h : Calls P f args w fun e w' => e = .returned a ∧ R w') (e : a = b) :
    Calls P f args w fun e w' => e = .returned b ∧ R w' := by rw [← e]; exact h
end Go.Proofs.YtlhoggalhjadgaaDoor
/- Words for a block of cells: what it holds, kept over all that is done elsewhere. -/
namespace Go.Proofs.YtlhoggalhjadgaaDoor
open Go.RowKit

/-- Block g holds these cells, and none of them is frozen. -/
def At (w : World) (g : Nat) (xs : List Value) : Prop := g < w.heap.size ∧ ∀ i v, xs[i]? = some v → w.cell? ⟨g, i, none⟩ = some v ∧ w.frozen? ⟨g, i, none⟩ = false
section
variable {w w' : World} {g B : Nat} {xs : List Value}
theorem At.new (w : World) (cs : Array Value) (t : TypeId) : At (w.alloc (.cells cs t)) w.heap.size cs.toList := by
  refine ⟨by simp, fun i v h => ⟨?_, ?_⟩⟩
  · rw [World.cell?_alloc_new]
    simpa using h
  · exact World.frozen?_alloc_new ..
theorem At.lt (h : At w g xs) : g < w.heap.size := h.1
theorem At.below (h : At w g xs) (hb : Below B w w') (hg : g < B) : At w' g xs :=
  ⟨Nat.lt_of_lt_of_le h.1 hb.size, fun i v hi => ⟨(hb.cell (p := ⟨g, i, none⟩) hg).trans (h.2 i v hi).1, (hb.frozen (p := ⟨g, i, none⟩) hg).trans (h.2 i v hi).2⟩⟩
theorem At.call (h : At w g xs) (hb : Below w.heap.size w w') : At w' g xs := h.below hb h.1
theorem At.drew (h : At w g xs) (hd : Drew w w') : At w' g xs := by
  obtain ⟨n, rfl⟩ := hd
  exact ⟨h.1, fun i v hi => h.2 i v hi⟩
theorem At.alloc (h : At w g xs) (c : Array Value) (t : TypeId) : At (w.alloc (.cells c t)) g xs :=
  h.below (((Below.refl _ _).alloc (Nat.le_refl _) _) : Below w.heap.size w _) h.1
theorem At.allocO (h : At w g xs) (o : Obj) : At (w.alloc o) g xs :=
  h.below (((Below.refl _ _).alloc (Nat.le_refl _) _) : Below w.heap.size w _) h.1
theorem heap_set (w : World) (p : Addr) (v : Value) : (w.setCell p v).heap.size = w.heap.size := by simp
theorem At.set (h : At w g xs) (i : Nat) (v : Value) : At (w.setCell ⟨g, i, none⟩ v) g (xs.set i v) := by
  refine ⟨by rw [heap_set]; exact h.1, fun j u hj => ⟨?_, ?_⟩⟩
  · by_cases e : i = j
    · subst e
      have hl : i < xs.length := by
        have := (List.getElem?_eq_some_iff.1 hj).1
        simpa using this
      have hu : v = u := by
        rw [List.getElem?_set_self hl] at hj
        exact Option.some.inj hj
      subst hu
      exact World.cell?_setCell_same _ _ _ (h.2 i _ (List.getElem?_eq_getElem hl)).1
    · rw [List.getElem?_set_ne e] at hj
      rw [World.cell?_setCell_other _ _ _ _ (by intro x; injection x with _ y _; exact e y)]
      exact (h.2 j u hj).1
  · rw [World.frozen?_setCell]
    by_cases e : i = j
    · subst e
      have hl : i < xs.length := by
        have := (List.getElem?_eq_some_iff.1 hj).1
        simpa using this
      exact (h.2 i _ (List.getElem?_eq_getElem hl)).2
    · rw [List.getElem?_set_ne e] at hj
      exact (h.2 j u hj).2
theorem At.set_other (h : At w g xs) (p : Addr) (v : Value) (hp : p.block ≠ g) : At (w.setCell p v) g xs := by
  refine ⟨by rw [heap_set]; exact h.1, fun j u hj => ⟨?_, ?_⟩⟩
  · rw [World.cell?_setCell_other _ _ _ _ (by intro x; subst x; exact hp rfl)]
    exact (h.2 j u hj).1
  · rw [World.frozen?_setCell]
    exact (h.2 j u hj).2
theorem At.cell (h : At w g xs) (i : Nat) (v : Value) (hi : xs[i]? = some v) : w.cell? ⟨g, i, none⟩ = some v := (h.2 i v hi).1
theorem At.free (h : At w g xs) (i : Nat) (v : Value) (hi : xs[i]? = some v) : w.frozen? ⟨g, i, none⟩ = false := (h.2 i v hi).2
end
/-- The cells of two, three, .. -/
theorem At.two {w : World} {g : Nat} {a b : Value} (h : At w g [a, b]) : w.cell? ⟨g, 0, none⟩ = some a ∧ w.cell? ⟨g, 1, none⟩ = some b ∧ w.frozen? ⟨g, 0, none⟩ = false ∧ w.frozen? ⟨g, 1, none⟩ = false :=
  ⟨h.cell 0 a rfl, h.cell 1 b rfl, h.free 0 a rfl, h.free 1 b rfl⟩
theorem At.three {w : World} {g : Nat} {a b c : Value} (h : At w g [a, b, c]) : w.cell? ⟨g, 0, none⟩ = some a ∧ w.cell? ⟨g, 1, none⟩ = some b ∧ w.cell? ⟨g, 2, none⟩ = some c ∧
    w.frozen? ⟨g, 0, none⟩ = false ∧ w.frozen? ⟨g, 1, none⟩ = false ∧ w.frozen? ⟨g, 2, none⟩ = false :=
  ⟨h.cell 0 a rfl, h.cell 1 b rfl, h.cell 2 c rfl, h.free 0 a rfl, h.free 1 b rfl, h.free 2 c rfl⟩
theorem At.seven {w : World} {g : Nat} {a b c d e f k : Value} (h : At w g [a, b, c, d, e, f, k]) :
    (w.cell? ⟨g, 0, none⟩ = some a ∧ w.cell? ⟨g, 1, none⟩ = some b ∧ w.cell? ⟨g, 2, none⟩ = some c ∧ w.cell? ⟨g, 3, none⟩ = some d ∧ w.cell? ⟨g, 4, none⟩ = some e ∧ w.cell? ⟨g, 5, none⟩ = some f ∧ w.cell? ⟨g, 6, none⟩ = some k) ∧
    (w.frozen? ⟨g, 0, none⟩ = false ∧ w.frozen? ⟨g, 1, none⟩ = false ∧ w.frozen? ⟨g, 2, none⟩ = false ∧ w.frozen? ⟨g, 3, none⟩ = false ∧ w.frozen? ⟨g, 4, none⟩ = false ∧ w.frozen? ⟨g, 5, none⟩ = false ∧ w.frozen? ⟨g, 6, none⟩ = false) :=
  ⟨⟨h.cell 0 a rfl, h.cell 1 b rfl, h.cell 2 c rfl, h.cell 3 d rfl, h.cell 4 e rfl, h.cell 5 f rfl, h.cell 6 k rfl⟩, ⟨h.free 0 a rfl, h.free 1 b rfl, h.free 2 c rfl, h.free 3 d rfl, h.free 4 e rfl, h.free 5 f rfl, h.free 6 k rfl⟩⟩
end Go.Proofs.YtlhoggalhjadgaaDoor
/- Plain law of the words: what Pick means. -/
namespace Go.Proofs.YtlhoggalhjadgaaDoor.Wd
def low (c : UInt8) : UInt8 := if 65 ≤ c ∧ c ≤ 90 then c + 32 else c
def lows (l : List UInt8) : List UInt8 := l.map low
def same (a b : List UInt8) : Bool := decide (lows a = lows b)
def begins (n s : List UInt8) : Bool := decide (s.length ≤ n.length) && same (n.take s.length) s
def pickLoop (s : List UInt8) : List (List UInt8) → Nat → Int → Nat → Int
  | [], _, b, c => if c = 1 then b else -1
  | n :: r, i, b, c => if begins n s = true then (if n.length = s.length then (i : Int) else pickLoop s r (i + 1) i (c + 1)) else pickLoop s r (i + 1) b c
def pick (s : List UInt8) (names : List (List UInt8)) : Int := if s = [] then -1 else pickLoop s names 0 (-1) 0

theorem pickLoop_append (s m : List UInt8) (h : begins m s = false) : ∀ (l : List (List UInt8)) (i : Nat) (b : Int) (c : Nat), pickLoop s (l ++ [m]) i b c = pickLoop s l i b c := by
  intro l
  induction l with
  | nil => intro i b c; simp [pickLoop, h]
  | cons n r ih => intro i b c; simp only [List.cons_append, pickLoop, ih]
theorem pick_append (s m : List UInt8) (l : List (List UInt8)) (h : begins m s = false) : pick s (l ++ [m]) = pick s l := by
  unfold pick; rw [pickLoop_append s m h]

/-- What the loop gives: what it brought with it, none, or the place of a name that begins so. -/
theorem pickLoop_form (s : List UInt8) : ∀ (l : List (List UInt8)) (i : Nat) (b : Int) (c : Nat),
    pickLoop s l i b c = -1 ∨ pickLoop s l i b c = b ∨ ∃ k n, pickLoop s l i b c = ((i + k : Nat) : Int) ∧ l[k]? = some n ∧ begins n s = true := by
  intro l
  induction l with
  | nil => intro i b c; simp only [pickLoop]; split <;> simp
  | cons n r ih =>
    intro i b c
    simp only [pickLoop]
    by_cases h : begins n s = true
    · rw [if_pos h]
      by_cases h2 : n.length = s.length
      · rw [if_pos h2]; exact .inr (.inr ⟨0, n, by simp, by simp, h⟩)
      · rw [if_neg h2]
        rcases ih (i + 1) i (c + 1) with h3 | h3 | ⟨k, m, h3, h4, h5⟩
        · exact .inl h3
        · exact .inr (.inr ⟨0, n, by simpa using h3, by simp, h⟩)
        · exact .inr (.inr ⟨k + 1, m, by rw [h3]; omega, by simpa using h4, h5⟩)
    · rw [if_neg h]
      rcases ih (i + 1) b c with h3 | h3 | ⟨k, m, h3, h4, h5⟩
      · exact .inl h3
      · exact .inr (.inl h3)
      · exact .inr (.inr ⟨k + 1, m, by rw [h3]; omega, by simpa using h4, h5⟩)
theorem pick_form (s : List UInt8) (l : List (List UInt8)) : pick s l = -1 ∨ ∃ (k : Nat) (n : List UInt8), pick s l = (k : Int) ∧ l[k]? = some n ∧ begins n s = true := by
  unfold pick
  split
  · exact .inl rfl
  · rcases pickLoop_form s l 0 (-1) 0 with h | h | ⟨k, n, h, h1, h2⟩
    · exact .inl h
    · exact .inl h
    · exact .inr ⟨k, n, by rw [h]; omega, h1, h2⟩

/-- None of these begins so. -/
theorem pickLoop_none (s : List UInt8) : ∀ (l : List (List UInt8)) (i : Nat) (b : Int) (c : Nat), (∀ n ∈ l, begins n s = false) → pickLoop s l i b c = if c = 1 then b else -1 := by
  intro l
  induction l with
  | nil => intro i b c _; rfl
  | cons n r ih => intro i b c h; simp only [pickLoop]; rw [if_neg (by simp [h n])]; exact ih _ _ _ fun m hm => h m (by simp [hm])

/-- One alone begins so. -/
theorem pickLoop_one (s : List UInt8) : ∀ (l : List (List UInt8)) (i : Nat) (b : Int) (k : Nat) (n : List UInt8), l[k]? = some n → begins n s = true → (∀ j m, l[j]? = some m → j ≠ k → begins m s = false) →
    pickLoop s l i b 0 = ((i + k : Nat) : Int) := by
  intro l
  induction l with
  | nil => intro i b k n h; simp at h
  | cons x r ih =>
    intro i b k n hk hb ho
    simp only [pickLoop]
    cases k with
    | zero =>
      obtain rfl : x = n := by simpa using hk
      rw [if_pos hb]
      split
      · simp
      · rw [pickLoop_none s r _ _ _ fun m hm => ?_]
        · simp
        · obtain ⟨j, hj⟩ := List.mem_iff_getElem?.1 hm
          exact ho (j + 1) m (by simpa using hj) (by omega)
    | succ k =>
      rw [if_neg (by simp [ho 0 x (by simp) (by omega)])]
      rw [ih (i + 1) b k n (by simpa using hk) hb fun j m hj hne => ho (j + 1) m (by simpa using hj) (by omega)]
      omega

/-- What is found and is longer is the only one. -/
theorem pickLoop_only (s : List UInt8) : ∀ (l : List (List UInt8)) (i : Nat) (b : Int) (c : Nat) (k : Nat) (n : List UInt8), b < i → pickLoop s l i b c = ((i + k : Nat) : Int) → l[k]? = some n → n.length ≠ s.length →
    c = 0 ∧ ∀ j m, l[j]? = some m → j ≠ k → begins m s = false := by
  intro l
  induction l with
  | nil => intro i b c k n _ _ h; simp at h
  | cons x r ih =>
    intro i b c k n hb hp hk hl
    simp only [pickLoop] at hp
    by_cases h : begins x s = true
    · rw [if_pos h] at hp
      by_cases h2 : x.length = s.length
      · rw [if_pos h2] at hp
        have : k = 0 := by omega
        subst this
        obtain rfl : x = n := by simpa using hk
        exact absurd h2 hl
      · rw [if_neg h2] at hp
        cases k with
        | succ k =>
          have := ih (i + 1) i (c + 1) k n (by omega) (by rw [hp]; omega) (by simpa using hk) hl
          omega
        | zero =>
          -- the place is this one: nothing behind begins so
          have key : ∀ (r : List (List UInt8)) (i' : Nat) (c' : Nat), (i : Int) < i' → 1 ≤ c' → pickLoop s r i' (i : Int) c' = (i : Int) → c' = 1 ∧ ∀ m ∈ r, begins m s = false := by
            intro r
            induction r with
            | nil => intro i' c' _ _ hh; simp only [pickLoop] at hh; split at hh
                     · exact ⟨by assumption, by simp⟩
                     · omega
            | cons y r ih2 =>
              intro i' c' hi hc hh
              simp only [pickLoop] at hh
              by_cases hy : begins y s = true
              · rw [if_pos hy] at hh
                exfalso
                split at hh
                · omega
                · rcases pickLoop_form s r (i' + 1) i' (c' + 1) with h3 | h3 | ⟨k, m, h3, _, _⟩ <;> omega
              · rw [if_neg hy] at hh
                obtain ⟨h5, h6⟩ := ih2 (i' + 1) c' (by omega) hc hh
                refine ⟨h5, fun m hm => ?_⟩
                rcases List.mem_cons.1 hm with rfl | hm
                · simpa using hy
                · exact h6 m hm
          obtain ⟨h5, h6⟩ := key r (i + 1) (c + 1) (by omega) (by omega) (by simpa using hp)
          refine ⟨by omega, fun j m hj hne => ?_⟩
          cases j with
          | zero => omega
          | succ j => exact h6 m (List.mem_iff_getElem?.2 ⟨j, by simpa using hj⟩)
    · rw [if_neg h] at hp
      cases k with
      | zero =>
        exfalso
        rcases pickLoop_form s r (i + 1) b c with h3 | h3 | ⟨k, m, h3, _, _⟩ <;> omega
      | succ k =>
        obtain ⟨h5, h6⟩ := ih (i + 1) b c k n (by omega) (by rw [hp]; omega) (by simpa using hk) hl
        refine ⟨h5, fun j m hj hne => ?_⟩
        cases j with
        | zero =>
          obtain rfl : x = m := by simpa using hj
          simpa using h
        | succ j => exact h6 j m (by simpa using hj) (by omega)

theorem pick_bd (s : List UInt8) (l : List (List UInt8)) (h : l.length ≤ 1000000) : -1 ≤ pick s l ∧ pick s l < 1000000 := by
  rcases pick_form s l with e | ⟨k, n, e, e1, _⟩
  · omega
  · have := (List.getElem?_eq_some_iff.1 e1).1
    omega

theorem lows_take (l : List UInt8) (k : Nat) : lows (l.take k) = (lows l).take k := by simp [lows, List.map_take]
theorem begins_iff (n s : List UInt8) : begins n s = true ↔ s.length ≤ n.length ∧ (lows n).take s.length = lows s := by
  simp [begins, same, lows_take]
/-- What begins with more begins with less. -/
theorem begins_less (n t s : List UInt8) (h : begins n t = true) (h2 : begins t s = true) : begins n s = true := by
  rw [begins_iff] at h h2 ⊢
  obtain ⟨a, b⟩ := h
  obtain ⟨c, d⟩ := h2
  refine ⟨by omega, ?_⟩
  rw [← d, ← b, List.take_take, Nat.min_eq_left c]
theorem begins_take (n s : List UInt8) (k : Nat) (hk : s.length ≤ k) (h : begins n s = true) : begins (n.take k) s = true := by
  rw [begins_iff] at h ⊢
  obtain ⟨a, b⟩ := h
  refine ⟨by rw [List.length_take]; omega, ?_⟩
  rw [lows_take, List.take_take, Nat.min_eq_left hk, b]
theorem begins_own (n : List UInt8) (k : Nat) (hk : k ≤ n.length) : begins n (n.take k) = true := by
  rw [begins_iff]
  have : (n.take k).length = k := by rw [List.length_take]; omega
  rw [this, lows_take]; exact ⟨hk, rfl⟩

/-- With a letter more the same is meant. -/
theorem pick_more (s n : List UInt8) (l : List (List UInt8)) (k : Nat) (h : pick s l = (k : Int)) (hk : l[k]? = some n) (hl : s.length < n.length) : pick (n.take (s.length + 1)) l = (k : Int) := by
  have hs : s ≠ [] := by intro e; subst e; simp [pick] at h
  have hp : pickLoop s l 0 (-1) 0 = ((0 + k : Nat) : Int) := by unfold pick at h; rw [if_neg hs] at h; rw [h]; omega
  obtain ⟨_, ho⟩ := pickLoop_only s l 0 (-1) 0 k n (by omega) hp hk (by omega)
  have hbs : begins n s = true := by
    rcases pick_form s l with e | ⟨k', n', e, e1, e2⟩
    · omega
    · have : k' = k := by omega
      subst this
      rw [hk] at e1
      obtain rfl : n = n' := by simpa using e1
      exact e2
  have hne : n.take (s.length + 1) ≠ [] := by intro e; have := congrArg List.length e; rw [List.length_take] at this; simp only [List.length_nil] at this; omega
  unfold pick
  rw [if_neg hne, pickLoop_one _ l 0 (-1) k n hk (begins_own n _ (by omega)) fun j m hj hne => ?_]
  · simp
  · cases hm : begins m (n.take (s.length + 1))
    · rfl
    · have := begins_less m _ s hm (begins_take n s _ (by omega) hbs)
      rw [ho j m hj hne] at this
      cases this
end Go.Proofs.YtlhoggalhjadgaaDoor.Wd
