/- Words for memory: a slice that reads as a list; draws alone; small lemmas. -/
import Derived.Test.YtajcgoinhpengaaDoorChecked
import Derived.WalkKit
import Derived.Below
import Derived.Laws.OwnMore
import Derived.Deep.AppendLies
import Derived.Deep.Draws
import Derived.Lib.Hide
import Derived.Maps.AppendAt
import Derived.RegionTactic
import Derived.OwnWalk
import Derived.Laws.RangeAny
import Derived.Lib.IndexAny
import Derived.Lib.DecodeN
import Derived.Lib.CutLaws
import Derived.Maps.OwnSet
import Derived.RangeFuncNested
import Derived.RangeFuncBound
import Derived.RangeFuncCalls
import Derived.RangeFuncLeaves
import Derived.Shelf.Abstract
import Derived.Shelf.AbstractIn
import Derived.Shelf.RegionOpen
import Derived.OwnWalkIn
import Derived.TacticsInMore
import Derived.LoopNIn
import Derived.LoopIn
import Derived.Maps.OwnIn

namespace Go.Proofs.YtajcgoinhpengaaDoor
open Go.RowKit

theorem ret_int {k : IntKind} {a b : Int} (h : a = b) : Ending.returned (.int k a) = .returned (.int k b) := by rw [h]
theorem ret_bool {a b : Bool} (h : a = b) : Ending.returned (.bool a) = .returned (.bool b) := by rw [h]
theorem u8_bd (c : UInt8) : 0 ≤ (c.toNat : Int) ∧ (c.toNat : Int) ≤ 255 := by have := c.toNat_lt; omega

/-- The letters of a text. -/
def tl (s : ByteArray) : List UInt8 := s.data.toList
theorem tl_length (s : ByteArray) : (tl s).length = s.size := by simp [tl]

theorem tl_extract (s : ByteArray) (k : Nat) : tl (s.extract 0 k) = (tl s).take k := by simp [tl]

/-- Draws alone. -/
def Drew (w w' : World) : Prop := ∃ n, w' = w.drewN n
theorem Drew.refl (w : World) : Drew w w := ⟨0, rfl⟩
theorem Drew.drewN {w w' : World} (h : Drew w w') (n : Nat) : Drew w (w'.drewN n) := by
  obtain ⟨m, rfl⟩ := h
  exact ⟨m + n, World.drewN_drewN ..⟩
theorem Drew.trans {a b c : World} (h : Drew a b) (k : Drew b c) : Drew a c := by
  obtain ⟨n, rfl⟩ := k
  exact h.drewN n
theorem below_drewN {B : Nat} {a w : World} (h : Below B a w) (n : Nat) : Below B a (w.drewN n) := ⟨h.os, h.tape, h.output, h.size, h.block⟩
theorem Drew.below {w w' : World} (h : Drew w w') (B : Nat) : Below B w w' := by
  obtain ⟨n, rfl⟩ := h
  exact below_drewN (Below.refl B w) n
theorem Drew.cell {w w' : World} (h : Drew w w') (p : Addr) : w'.cell? p = w.cell? p := by
  obtain ⟨n, rfl⟩ := h
  rfl
theorem Drew.heap {w w' : World} (h : Drew w w') : w'.heap = w.heap := by
  obtain ⟨n, rfl⟩ := h
  rfl

theorem block_of_add (a : Addr) (n : Nat) : (a.add n).block = a.block := by unfold Addr.add; split <;> rfl
theorem add_of_add (a : Addr) (i j : Nat) : (a.add i).add j = a.add (i + j) := by
  unfold Addr.add
  by_cases hi : i = 0 <;> by_cases hj : j = 0 <;> simp [hi, hj, Nat.add_assoc]

/-- A slice's cells: of n elements, 'size' cells each, below block B. -/
def Reads (w : World) (B size : Nat) (A : Option Addr) (n : Nat) (xs : List Value) : Prop :=
  xs.length = n * size ∧ (0 < n → ∃ ad, A = some ad ∧ ad.block < B ∧ ∀ j u, xs[j]? = some u → w.cell? (ad.add j) = some u)

section
variable {w w' : World} {B B' size n : Nat} {A : Option Addr} {xs : List Value}
theorem Reads.none_ : Reads w B size A 0 [] := ⟨by simp, fun h => absurd h (by omega)⟩
theorem Reads.at_ {k : Nat} (h : Reads w B 1 A n xs) (hk : k < n) : ∃ ad u, A = some ad ∧ ad.block < B ∧ xs[k]? = some u ∧ w.cell? (ad.add k) = some u := by
  obtain ⟨ad, e, hb, hc⟩ := h.2 (by omega)
  have hl : k < xs.length := by have := h.1; omega
  exact ⟨ad, xs[k], e, hb, List.getElem?_eq_getElem hl, hc k _ (List.getElem?_eq_getElem hl)⟩
theorem Reads.keep (h : Reads w B size A n xs) (hk : ∀ p : Addr, p.block < B → w'.cell? p = w.cell? p) : Reads w' B size A n xs :=
  ⟨h.1, fun hn => by
    obtain ⟨ad, e, hb, hc⟩ := h.2 hn
    exact ⟨ad, e, hb, fun j u hu => (hk _ (by rw [block_of_add]; exact hb)).trans (hc j u hu)⟩⟩
theorem Reads.more (h : Reads w B size A n xs) (hB : B ≤ B') : Reads w B' size A n xs :=
  ⟨h.1, fun hn => by
    obtain ⟨ad, e, hb, hc⟩ := h.2 hn
    exact ⟨ad, e, by omega, hc⟩⟩
theorem Reads.below (h : Reads w B size A n xs) (hb : Below B w w') : Reads w' B size A n xs := h.keep fun _ hp => hb.cell hp
theorem Reads.drewN (h : Reads w B size A n xs) (k : Nat) : Reads (w.drewN k) B size A n xs := h
theorem Reads.of_drew (h : Reads w B size A n xs) (k : Drew w w') : Reads w' B size A n xs := h.keep fun p _ => k.cell p
end

section
variable {w w' : World} {B size n : Nat} {A : Option Addr} {xs : List Value}
theorem Reads.alloc (h : Reads w B size A n xs) (hB : B ≤ w.heap.size) (o : Obj) : Reads (w.alloc o) B size A n xs := h.keep fun p hp => World.cell?_alloc_lt w o p (by omega)
theorem Reads.setCell (h : Reads w B size A n xs) {p : Addr} (hB : B ≤ p.block) (u : Value) : Reads (w.setCell p u) B size A n xs :=
  h.keep fun q hq => World.cell?_setCell_other w p q u (fun e => by subst e; omega)
theorem Reads.grown (h : Reads w B size A n xs) {row : Option Nat} (hg : w.grownBy w' row) (hB : B ≤ w.heap.size) (hr : ∀ g, row = some g → B ≤ g) : Reads w' B size A n xs :=
  h.keep fun p hp => World.cell?_of_block (hg.block p.block (by omega) (fun e => by have := hr _ e.symm; omega))
theorem Reads.of_own {base : Nat} {e : TypeId} {c : Nat} (h : w.ownsRow base e size (.slice A n c) n xs) : Reads w w.heap.size size A n xs := by
  refine ⟨h.1, fun hn => ?_⟩
  obtain ⟨g, cap, hv, _, hlt⟩ := h.form hn
  have hA : A = some ⟨g, 0, none⟩ := by injection hv
  subst hA
  exact ⟨_, rfl, hlt, h.cells (g := g) rfl⟩
end

section
variable {P : Program} (w : World)

theorem run_append_of_nil (base : Nat) (t ty e : TypeId) (i : TypeInfo) (size : Nat) (ht : P.underlying t = some (.slice e)) (hi : P.info? e = some i)
    (v : Value) (n : Nat) (xs : List Value) (hown : w.ownsRow base e size v n xs) (c : Nat) : (Builtin.append_ #[t, t] ty #[v, .slice none 0 c]).run P w = .ok v w := by
  rcases hown.2 with ⟨rfl, rfl⟩ | ⟨g, cap, cur, rfl, _, _, hnc, _⟩
  · simp [Builtin.append_, run_underlying ht, sizeOf, typeInfo, hi, Builtin.lenOf, Builtin.firstCells]
  · simp [Builtin.append_, run_underlying ht, sizeOf, typeInfo, hi, Builtin.lenOf, Builtin.firstCells, hnc, storeCells]

theorem run_append_any (base : Nat) (t ty e : TypeId) (i : TypeInfo) (z : Value) (size bytes : Nat) (ht : P.underlying t = some (.slice e)) (hi : P.info? e = some i) (hz : i.zero = some z)
    (hsize : i.size = size) (hby : i.bytes = bytes) (hzs : z.cells.size = size) (hsz : 0 < size)
    (v : Value) (n : Nat) (xs : List Value) (hown : w.ownsRow base e size v n xs)
    (B : Nat) (A : Option Addr) (m c : Nat) (news : List Value) (hr : Reads w B size A m news) (h1 : ∀ u ∈ news, u.oneCell' = true)
    (h63 : n + m ≤ maxLen) (hbytes : (n + m) * bytes ≤ 140737488355328) (hbase : base ≤ w.heap.size) :
    ∃ v' w', (Builtin.append_ #[t, t] ty #[v, .slice A m c]).run P w = .ok v' w' ∧ w'.ownsRow base e size v' (n + m) (xs ++ news) ∧ w.grownBy w' v.ownBlock ∧
      (v'.ownBlock = v.ownBlock ∨ v'.ownBlock = some w.heap.size) := by
  rcases A with _ | ad
  · have hm : m = 0 := by
      rcases Nat.eq_zero_or_pos m with h0 | h0
      · exact h0
      · obtain ⟨ad, h, _⟩ := hr.2 h0
        cases h
    subst hm
    have hn : news = [] := List.eq_nil_of_length_eq_zero (by simpa using hr.1)
    subst hn
    exact ⟨v, w, run_append_of_nil w base t ty e i size ht hi v n xs hown c, by simpa using hown, World.grownBy.refl w _, .inl rfl⟩
  · have hcells : ∀ j u, news[j]? = some u → w.cell? (ad.add j) = some u := by
      intro j u hu
      rcases Nat.eq_zero_or_pos m with h0 | h0
      · subst h0
        have hn : news = [] := List.eq_nil_of_length_eq_zero (by simpa using hr.1)
        subst hn
        simp at hu
      · obtain ⟨ad', h, _, hc⟩ := hr.2 h0
        injection h with h
        subst h
        exact hc j u hu
    obtain ⟨v', w', hrun, h2, h3, _, h5⟩ := run_append_own_at (P := P) w base t ty e i z size bytes ht hi hz hsize hby hzs hsz v n xs hown ad m c news hr.1 hcells h1 h63 hbytes hbase
    exact ⟨v', w', hrun, h2, h3, h5⟩

theorem wp_append_any {o : Oper} {a : Act} {K : Act → World → Prop} {Q : Exit → Act → World → Prop} (s x : Operand) (t : TypeId)
    (ho : o.op = .call { callee := .builtin .append, args := #[s, x], argTypes := #[t, t] })
    (base : Nat) (e : TypeId) (i : TypeInfo) (z : Value) (size bytes : Nat) (ht : P.underlying t = some (.slice e)) (hi : P.info? e = some i) (hz : i.zero = some z)
    (hsize : i.size = size) (hby : i.bytes = bytes) (hzs : z.cells.size = size) (hsz : 0 < size)
    (v : Value) (n : Nat) (xs : List Value) (hs : a.eval s = v) (hown : w.ownsRow base e size v n xs)
    (B : Nat) (A : Option Addr) (m c : Nat) (news : List Value) (hx : a.eval x = .slice A m c) (hr : Reads w B size A m news) (h1 : ∀ u ∈ news, u.oneCell' = true)
    (h63 : n + m ≤ maxLen) (hbytes : (n + m) * bytes ≤ 140737488355328) (hbase : base ≤ w.heap.size)
    (h : ∀ v' w', w'.ownsRow base e size v' (n + m) (xs ++ news) → w.grownBy w' v.ownBlock → (v'.ownBlock = v.ownBlock ∨ v'.ownBlock = some w.heap.size) → K (a.put o.dst v') w') : o.wp P a w K Q := by
  obtain ⟨v', w', hrun, h2, h3, h4⟩ := run_append_any (P := P) w base t o.type e i z size bytes ht hi hz hsize hby hzs hsz v n xs hown B A m c news hr h1 h63 hbytes hbase
  unfold Oper.wp execOp
  simp only [ho, resolve, invoke, builtin, Sem.run_bind, Sem.run_pure, Result.andThen_ok, List.map_toArray, List.map_cons, List.map_nil, hs, hx, hrun]
  exact h v' w' h2 h3 h4

theorem wpList_append_any {ops : Array Oper} {rest : List Oper} {o : Oper} {a : Act} {Q : Exit → Act → World → Prop} (hgd : o.guard = none) (s x : Operand) (t : TypeId)
    (ho : o.op = .call { callee := .builtin .append, args := #[s, x], argTypes := #[t, t] })
    (base : Nat) (e : TypeId) (i : TypeInfo) (z : Value) (size bytes : Nat) (ht : P.underlying t = some (.slice e)) (hi : P.info? e = some i) (hz : i.zero = some z)
    (hsize : i.size = size) (hby : i.bytes = bytes) (hzs : z.cells.size = size) (hsz : 0 < size)
    (v : Value) (n : Nat) (xs : List Value) (hs : a.eval s = v) (hown : w.ownsRow base e size v n xs)
    (B : Nat) (A : Option Addr) (m c : Nat) (news : List Value) (hx : a.eval x = .slice A m c) (hr : Reads w B size A m news) (h1 : ∀ u ∈ news, u.oneCell' = true)
    (h63 : n + m ≤ maxLen) (hbytes : (n + m) * bytes ≤ 140737488355328) (hbase : base ≤ w.heap.size)
    (h : ∀ v' w', w'.ownsRow base e size v' (n + m) (xs ++ news) → w.grownBy w' v.ownBlock → (v'.ownBlock = v.ownBlock ∨ v'.ownBlock = some w.heap.size) → wpList P ops Q rest (a.put o.dst v') w') : wpList P ops Q (o :: rest) a w :=
  wpList_plain hgd fun _ hK => wp_append_any w s x t ho base e i z size bytes ht hi hz hsize hby hzs hsz v n xs hs hown B A m c news hx hr h1 h63 hbytes hbase fun v' w' h2 h3 h4 => hK _ _ (h v' w' h2 h3 h4)

end

/-- The value of a row that is owned, written out. -/
theorem own_slice {w : World} {base : Nat} {e : TypeId} {size n : Nat} {v : Value} {xs : List Value} (h : w.ownsRow base e size v n xs) : ∃ A c, v = .slice A n c ∧ n ≤ maxLen := by
  rcases h.2 with ⟨rfl, rfl⟩ | ⟨g, cap, cur, rfl, _, _, h1, h2, _⟩
  · exact ⟨none, 0, rfl, Nat.zero_le _⟩
  · exact ⟨_, cap, rfl, Nat.le_trans h1 h2⟩
theorem below_then {w w1 w2 : World} (h : Below w.heap.size w w1) (k : Below w1.heap.size w1 w2) : Below w.heap.size w w2 := h.trans (k.mono h.size)
theorem below_drew {w w1 w2 : World} (h : Below w.heap.size w w1) (k : Drew w1 w2) : Below w.heap.size w w2 := h.trans (k.below _)
theorem ret_str {a b : ByteArray} (h : a = b) : Ending.returned (.string a) = .returned (.string b) := by rw [h]
theorem calls_int {P : Program} {f : FuncId} {args : Array Value} {w : World} {k : IntKind} {a b : Int} {R : World → Prop} (h : Calls P f args w fun e w' => e = .returned (.int k a) ∧ R w') (e : a = b) :
    Calls P f args w fun e w' => e = .returned (.int k b) ∧ R w' := by rw [← e]; exact h
theorem calls_bool {P : Program} {f : FuncId} {args : Array Value} {w : World} {a b : Bool} {R : World → Prop} (h : Calls P f args w fun e w' => e = .returned (.bool a) ∧ R w') (e : a = b) :
    Calls P f args w fun e w' => e = .returned (.bool b) ∧ R w' := by rw [← e]; exact h
theorem calls_str {P : Program} {f : FuncId} {args : Array Value} {w : World} {a b : ByteArray} {R : World → Prop} (h : Calls P f args w fun e w' => e = .returned (.string a) ∧ R w') (e : a = b) :
    Calls P f args w fun e w' => e = .returned (.string b) ∧ R w' := by rw [← e]; exact h
/-- The value returned, put otherwise. -/
theorem calls_val {P : Program} {f : FuncId} {args : Array Value} {w : World} {a b : Value} {R : World → Prop} (h : Calls P f args w fun e w' => e = .returned a ∧ R w') (e : a = b) :
    Calls P f args w fun e w' => e = .returned b ∧ R w' := by rw [← e]; exact h
end Go.Proofs.YtajcgoinhpengaaDoor

/- Plain texts: what utf.Plain and chart.Key tell, and what a key's letters are. -/
namespace Go.Proofs.YtajcgoinhpengaaDoor
open Go.RowKit

namespace Te
def wrongL : List UInt8 := [239, 191, 189]
/-- What stands at a place is told as wrong, and is no wrong sign itself. -/
def bad (s : ByteArray) (pos : Nat) : Bool := (Utf8.decode s pos).1 == 65533 && !(Lib.hasPrefix ((tl s).drop pos) wrongL)
def rightFrom (s : ByteArray) : Nat → Nat → Bool
  | 0, _ => true
  | f + 1, pos => if pos < s.size then !(bad s pos) && rightFrom s f (pos + (Utf8.decode s pos).2) else true
def low (c : Nat) : Bool := decide (c < 32) || c == 127
def plainFrom (s : ByteArray) : Nat → Nat → Bool
  | 0, _ => true
  | f + 1, pos => if pos < s.size then !(low (Utf8.decode s pos).1) && plainFrom s f (pos + (Utf8.decode s pos).2) else true
def right (s : ByteArray) : Bool := rightFrom s s.size 0
def plain (s : ByteArray) : Bool := right s && plainFrom s s.size 0
def signs : List UInt8 := [92, 91, 93, 34]
def key (s : ByteArray) : Bool :=
  decide (1 ≤ s.size) && decide (s.size ≤ 64) && plain s && !(Lib.containsAny (tl s) signs) && ((tl s).head? != some 32) && ((tl s).getLast? != some 32)

theorem rightFrom_end (s : ByteArray) (f pos : Nat) (h : ¬ pos < s.size) : rightFrom s f pos = true := by
  cases f with
  | zero => rfl
  | succ f => rw [rightFrom, if_neg h]
theorem plainFrom_end (s : ByteArray) (f pos : Nat) (h : ¬ pos < s.size) : plainFrom s f pos = true := by
  cases f with
  | zero => rfl
  | succ f => rw [plainFrom, if_neg h]
theorem width_pos (s : ByteArray) (pos : Nat) (h : pos < s.size) : 1 ≤ (Utf8.decode s pos).2 := by
  by_cases ha : (s[pos]'h).toNat < 128
  · rw [decode_ascii s pos h ha]
    exact Nat.le_refl _
  · exact (decode_high s pos h (by omega)).2
/-- The letters behind the first one of a sign are high. -/
theorem tail_high (s : ByteArray) (pos j : Nat) (h0 : 0 < j) (hj : j < (Utf8.decode s pos).2) : pos + j < s.size ∧ 128 ≤ (s.get! (pos + j)).toNat := by
  rw [Lib.decode_at] at hj
  unfold Lib.decodeN at hj
  have h1 := (s.get! (pos + 1)).toNat_lt
  have h2 := (s.get! (pos + 2)).toNat_lt
  have h3 := (s.get! (pos + 3)).toNat_lt
  have hj' : j = 1 ∨ j = 2 ∨ j = 3 ∨ 4 ≤ j := by omega
  repeat' split at hj
  all_goals simp only at hj
  all_goals first
    | (exfalso; omega)
    | (rcases hj' with rfl | rfl | rfl | h4 <;> first | (exfalso; omega) | (constructor <;> omega))
theorem get_tl (s : ByteArray) (k : Nat) (h : k < s.size) : (tl s)[k]? = some (s.get! k) := by
  have h1 : (tl s)[k]? = some s[k] := by
    unfold tl
    rw [Array.getElem?_toList, Array.getElem?_eq_getElem (by exact h)]
    rfl
  rw [h1]
  congr 1
  have := get_at s k h
  simpa using this.symm
theorem first_ascii (s : ByteArray) (pos : Nat) (h : pos < s.size) (ha : (s.get! pos).toNat < 128) : Utf8.decode s pos = ((s.get! pos).toNat, 1) := by
  have e : s.get! pos = s[pos]'h := by simpa using get_at s pos h
  rw [e] at ha ⊢
  exact decode_ascii s pos h ha
theorem first_high (s : ByteArray) (pos : Nat) (h : pos < s.size) (ha : 128 ≤ (s.get! pos).toNat) : 128 ≤ (Utf8.decode s pos).1 := by
  have e : s.get! pos = s[pos]'h := by simpa using get_at s pos h
  rw [e] at ha
  exact (decode_high s pos h ha).1
/-- A plain text has no low letter. -/
theorem plain_all (s : ByteArray) : ∀ (f pos : Nat), s.size ≤ pos + f → plainFrom s f pos = true → ∀ k, pos ≤ k → k < s.size → 32 ≤ (s.get! k).toNat
  | 0, pos, hf, _, k, h1, h2 => by omega
  | f + 1, pos, hf, hp, k, h1, h2 => by
    have hps : pos < s.size := by omega
    rw [plainFrom, if_pos hps, Bool.and_eq_true, Bool.not_eq_true'] at hp
    obtain ⟨hl, hr⟩ := hp
    have hw := width_pos s pos hps
    by_cases hk : k < pos + (Utf8.decode s pos).2
    · rcases Nat.eq_or_lt_of_le h1 with rfl | hlt
      · by_cases ha : (s.get! pos).toNat < 128
        · rw [first_ascii s pos hps ha] at hl
          unfold low at hl
          simp only [Bool.or_eq_false_iff, decide_eq_false_iff_not] at hl
          omega
        · omega
      · obtain ⟨_, h⟩ := tail_high s pos (k - pos) (by omega) (by omega)
        rw [show pos + (k - pos) = k from by omega] at h
        omega
    · exact plain_all s f _ (by omega) hr k (by omega) h2
theorem plain_tl (s : ByteArray) (h : plain s = true) : ∀ b ∈ tl s, 32 ≤ b.toNat := by
  unfold plain at h
  rw [Bool.and_eq_true] at h
  intro b hb
  obtain ⟨k, hk, rfl⟩ := List.mem_iff_getElem.1 hb
  have hks : k < s.size := by rw [tl_length] at hk; exact hk
  have h1 := get_tl s k hks
  rw [List.getElem?_eq_getElem hk] at h1
  rw [Option.some.inj h1]
  exact plain_all s s.size 0 (by omega) h.2 k (Nat.zero_le _) hks
theorem key_plain {s : ByteArray} (h : key s = true) : plain s = true := by
  unfold key at h
  simp only [Bool.and_eq_true] at h
  exact h.1.1.1.2
theorem key_letters {s : ByteArray} (h : key s = true) : ∀ b ∈ tl s, 32 ≤ b.toNat := plain_tl s (key_plain h)
theorem key_size {s : ByteArray} (h : key s = true) : 1 ≤ s.size ∧ s.size ≤ 64 := by
  unfold key at h
  simp only [Bool.and_eq_true, decide_eq_true_eq] at h
  exact ⟨h.1.1.1.1.1, h.1.1.1.1.2⟩
end Te
end Go.Proofs.YtajcgoinhpengaaDoor

/- Maps that the call makes, keyed by strings, whatever their elements are: what a block holds, as a function. -/
namespace Go.Proofs.YtajcgoinhpengaaDoor
open Go.RowKit
open Go.Maps Go.WideShapes Go.ChangeShapes Go.WideMaps

namespace Mp
/-- An element reads as itself. -/
def rv (v : Value) : Option (DataW Value × List MemPlace) := some (.held v, [])
def kl (s : ByteArray) : Lit := .string s.data.toList
theorem kl_eq {s t : ByteArray} : kl s = kl t ↔ s = t := by
  unfold kl
  constructor
  · intro h
    injection h with h
    exact ByteArray.ext (Array.ext' h)
  · intro h
    rw [h]
/-- What stands at a key. -/
abbrev Fn := ByteArray → Option Value
def put (f : Fn) (s : ByteArray) (v : Value) : Fn := fun t => if t = s then some v else f t
theorem put_same (f : Fn) (s : ByteArray) (v : Value) : put f s v s = some v := by unfold put; rw [if_pos rfl]
theorem put_other (f : Fn) (s : ByteArray) (v : Value) {t : ByteArray} (h : t ≠ s) : put f s v t = f t := by unfold put; rw [if_neg h]
end Mp
/-- Block b is a map of at most n entries, keyed by strings of type k, that holds f. -/
def MapF (P : Program) (k : TypeId) (w : World) (b n : Nat) (f : Mp.Fn) : Prop :=
  ∃ D : DataW Value, w.ownsMap P k Mp.rv b n D ∧ ∀ s : ByteArray, Maps.has D (Mp.kl s) = (f s).isSome ∧ ∀ z, D.atKey (Mp.kl s) (.held z) = .held ((f s).getD z)
section
variable {P : Program} {k : TypeId} {w w' : World} {b n : Nat} {f : Mp.Fn}
theorem MapF.lt (h : MapF P k w b n f) : b < w.heap.size := by
  obtain ⟨D, h1, _⟩ := h
  exact h1.lt
theorem MapF.made (w : World) : MapF P k (w.alloc (.map #[] 0)) w.heap.size 0 (fun _ => none) :=
  ⟨.map [], World.ownsMap_made w P k Mp.rv, fun _ => ⟨rfl, fun _ => rfl⟩⟩
theorem MapF.kept (h : MapF P k w b n f) {row : Option Nat} (hg : w.grownBy w' row) (hne : some b ≠ row) : MapF P k w' b n f := by
  obtain ⟨D, h1, h2⟩ := h
  exact ⟨D, h1.kept hg hne, h2⟩
theorem MapF.below (h : MapF P k w b n f) (hb : Below w.heap.size w w') : MapF P k w' b n f :=
  h.kept (row := none) ⟨hb.os, hb.tape, hb.output, hb.size, fun j hj _ => hb.block j hj⟩ (by simp)
theorem MapF.alloc (h : MapF P k w b n f) (o : Obj) : MapF P k (w.alloc o) b n f := by
  obtain ⟨D, h1, h2⟩ := h
  exact ⟨D, h1.alloc o, h2⟩
theorem MapF.drewN (h : MapF P k w b n f) (m : Nat) : MapF P k (w.drewN m) b n f := h
theorem MapF.setCell (h : MapF P k w b n f) {a : Addr} (ha : b ≠ a.block) (u : Value) : MapF P k (w.setCell a u) b n f := by
  obtain ⟨D, h1, h2⟩ := h
  exact ⟨D, h1.setCell ha u, h2⟩
theorem MapF.more (h : MapF P k w b n f) {m : Nat} (hn : n ≤ m) : MapF P k w b m f := by
  obtain ⟨D, h1, h2⟩ := h
  exact ⟨D, h1.mono hn, h2⟩
theorem MapF.put_ {s : ByteArray} {v : Value} {D : DataW Value} (hD : w.ownsMap P k Mp.rv b n D) (hs : ∀ s : ByteArray, Maps.has D (Mp.kl s) = (f s).isSome ∧ ∀ z, D.atKey (Mp.kl s) (.held z) = .held ((f s).getD z))
    (hD' : w'.ownsMap P k Mp.rv b (n + 1) (D.put (Mp.kl s) (.held v))) : MapF P k w' b (n + 1) (Mp.put f s v) := by
  refine ⟨_, hD', fun t => ?_⟩
  have hi := hD.isMap
  have hk : WideAt.IsKeyLit (Mp.kl s) := trivial
  by_cases e : t = s
  · subst e
    rw [Mp.put_same]
    exact ⟨has_put_same hi hk _, fun z => atKey_put_same hi hk _ _⟩
  · have hne : Mp.kl t ≠ Mp.kl s := fun h => e (Mp.kl_eq.1 h)
    rw [Mp.put_other _ _ _ e, has_put_other hne]
    exact ⟨(hs t).1, fun z => by rw [atKey_put_other hne]; exact (hs t).2 z⟩
end
section
variable {P : Program} (w : World) {ops : Array Oper} {rest : List Oper} {o : Oper} {a : Act} {Q : Exit → Act → World → Prop}
/-- 'v, ok := m[s]' -/
theorem wpList_look_ok (hg : o.guard = none) (m x : Operand) (t k e : TypeId) (hop : o.op = Op.lookup t m x true) (hk : P.underlying k = some .string) (ht : P.underlying t = some (.map k e)) {z : Value} (hz : ∀ W, (zeroValue e).run P W = .ok z W)
    (b n : Nat) (f : Mp.Fn) (s : ByteArray) (hs : s.size ≤ maxLen) (hm : a.eval m = .map (some b)) (hx : a.eval x = .string s) (h : MapF P k w b n f)
    (hK : wpList P ops Q rest (a.put o.dst (.tuple #[(f s).getD z, .bool (f s).isSome])) w) : wpList P ops Q (o :: rest) a w := by
  obtain ⟨D, hD, hf⟩ := h
  refine wpList_lookup_own_ok w hg m x t hop k e (string_keyed hk) ht Mp.rv (hz w) (.held z) [] rfl b n D hm hD (.string s) (Mp.kl s) hx (keyOf_string_mk hk hs) ?_
  intro v ps hv
  rw [(hf s).2 z] at hv
  have e1 : v = (f s).getD z := by
    unfold Mp.rv at hv
    injection hv with hv
    injection hv with hv _
    injection hv
  rw [e1, (hf s).1]
  exact hK
/-- 'v, ok := m[s]', where it is. -/
theorem wpList_look_yes (hg : o.guard = none) (m x : Operand) (t k e : TypeId) (hop : o.op = Op.lookup t m x true) (hk : P.underlying k = some .string) (ht : P.underlying t = some (.map k e)) {z : Value} (hz : ∀ W, (zeroValue e).run P W = .ok z W)
    (b n : Nat) (f : Mp.Fn) (s : ByteArray) (hs : s.size ≤ maxLen) (hm : a.eval m = .map (some b)) (hx : a.eval x = .string s) (h : MapF P k w b n f) (v : Value) (hv : f s = some v)
    (hK : wpList P ops Q rest (a.put o.dst (.tuple #[v, .bool true])) w) : wpList P ops Q (o :: rest) a w :=
  wpList_look_ok w hg m x t k e hop hk ht hz b n f s hs hm hx h (by rw [hv]; exact hK)
/-- .. where it is not. -/
theorem wpList_look_no (hg : o.guard = none) (m x : Operand) (t k e : TypeId) (hop : o.op = Op.lookup t m x true) (hk : P.underlying k = some .string) (ht : P.underlying t = some (.map k e)) {z : Value} (hz : ∀ W, (zeroValue e).run P W = .ok z W)
    (b n : Nat) (f : Mp.Fn) (s : ByteArray) (hs : s.size ≤ maxLen) (hm : a.eval m = .map (some b)) (hx : a.eval x = .string s) (h : MapF P k w b n f) (hv : f s = none)
    (hK : wpList P ops Q rest (a.put o.dst (.tuple #[z, .bool false])) w) : wpList P ops Q (o :: rest) a w :=
  wpList_look_ok w hg m x t k e hop hk ht hz b n f s hs hm hx h (by rw [hv]; exact hK)
/-- 'm[s]' -/
theorem wpList_look (hg : o.guard = none) (m x : Operand) (t k e : TypeId) (hop : o.op = Op.lookup t m x false) (hk : P.underlying k = some .string) (ht : P.underlying t = some (.map k e)) {z : Value} (hz : ∀ W, (zeroValue e).run P W = .ok z W)
    (b n : Nat) (f : Mp.Fn) (s : ByteArray) (hs : s.size ≤ maxLen) (hm : a.eval m = .map (some b)) (hx : a.eval x = .string s) (h : MapF P k w b n f)
    (hK : wpList P ops Q rest (a.put o.dst ((f s).getD z)) w) : wpList P ops Q (o :: rest) a w := by
  obtain ⟨D, hD, hf⟩ := h
  refine wpList_plain hg fun K' hK' => ?_
  obtain ⟨v, ps, hrun, hv⟩ := hD.lookup (string_keyed hk) ht (hz w) (zd := .held z) (zp := []) rfl (keyOf_string_mk hk hs)
  have hv' : Mp.rv v = some (D.atKey (Mp.kl s) (.held z), ps) := hv
  rw [(hf s).2 z] at hv'
  have e1 : v = (f s).getD z := by
    unfold Mp.rv at hv'
    injection hv' with hv
    injection hv with hv _
    injection hv
  subst e1
  unfold Oper.wp
  simp [execOp, hop, hm, hx, hrun, Result.andThen]
  exact hK' _ _ hK
/-- 'm[s] = v' -/
theorem wpList_store (hg : o.guard = none) (m x v : Operand) (t k e : TypeId) (hop : o.op = Op.mapUpdate t m x v) (hk : P.underlying k = some .string) (ht : P.underlying t = some (.map k e))
    (b n : Nat) (f : Mp.Fn) (s : ByteArray) (hs : s.size ≤ maxLen) (hn : n < maxLen) (val : Value) (hm : a.eval m = .map (some b)) (hx : a.eval x = .string s) (hv : a.eval v = val) (h : MapF P k w b n f)
    (hK : ∀ w', MapF P k w' b (n + 1) (Mp.put f s val) → w.grownBy w' (some b) → wpList P ops Q rest (a.put o.dst undef) w') : wpList P ops Q (o :: rest) a w := by
  obtain ⟨D, hD, hf⟩ := h
  refine wpList_mapUpdate_own w hg m x v t hop k e (string_keyed hk) ht Mp.rv b n D hm hD hn (.string s) val (Mp.kl s) hx hv (keyOf_string_mk hk hs) (.held val) [] rfl ?_
  intro w' hD' hg'
  exact hK w' (MapF.put_ hD hf hD') hg'
end
end Go.Proofs.YtajcgoinhpengaaDoor

/- Where names lead, in plain words: the first place of a name; a walk along links, with what is known already. -/
namespace Go.Proofs.YtajcgoinhpengaaDoor
open Go.RowKit

namespace Lk
/-- The first place of a name. -/
def first : List ByteArray → ByteArray → Option Nat
  | [], _ => none
  | x :: l, s => if x = s then some 0 else (first l s).map (· + 1)
theorem first_some : ∀ {l : List ByteArray} {s : ByteArray} {i : Nat}, first l s = some i → l[i]? = some s
  | [], s, i, h => by cases h
  | x :: l, s, i, h => by
    unfold first at h
    split at h
    · rename_i e
      cases h
      simpa using e
    · cases hf : first l s with
      | none => rw [hf] at h; cases h
      | some j =>
        rw [hf] at h
        cases h
        simpa using first_some hf
theorem first_none : ∀ {l : List ByteArray} {s : ByteArray}, first l s = none ↔ s ∉ l
  | [], s => by simp [first]
  | x :: l, s => by
    unfold first
    by_cases e : x = s
    · simp [e]
    · rw [if_neg e]
      have h := first_none (l := l) (s := s)
      cases hf : first l s with
      | none => simp only [Option.map_none, List.mem_cons, true_iff, not_or]; exact ⟨fun q => e q.symm, h.1 hf⟩
      | some j =>
        simp only [Option.map_some, reduceCtorEq, false_iff, Classical.not_not]
        by_cases hm : s ∈ l
        · exact List.mem_cons_of_mem _ hm
        · rw [h.2 hm] at hf; cases hf
theorem first_lt {l : List ByteArray} {s : ByteArray} {i : Nat} (h : first l s = some i) : i < l.length := (List.getElem?_eq_some_iff.1 (first_some h)).1
/-- From a place on: the last one first. -/
def from_ (l : List ByteArray) (k : Nat) (s : ByteArray) : Option Nat := (first (l.drop k) s).map (· + k)
theorem from_zero (l : List ByteArray) (s : ByteArray) : from_ l 0 s = first l s := by
  unfold from_
  rw [List.drop_zero]
  cases first l s <;> rfl
theorem from_end (l : List ByteArray) (s : ByteArray) : from_ l l.length s = none := by
  unfold from_
  rw [List.drop_length]
  rfl
theorem from_step {l : List ByteArray} {k : Nat} {x : ByteArray} (h : l[k]? = some x) (s : ByteArray) : from_ l k s = if s = x then some k else from_ l (k + 1) s := by
  unfold from_
  obtain ⟨hlt, hx⟩ := List.getElem?_eq_some_iff.1 h
  rw [List.drop_eq_getElem_cons hlt, hx, first]
  by_cases e : x = s
  · rw [if_pos e, if_pos e.symm]
    simp
  · rw [if_neg e, if_neg (fun h => e h.symm)]
    cases first (l.drop (k + 1)) s with
    | none => rfl
    | some j => simp only [Option.map_some, Option.some.injEq]; omega
abbrev Fd := Int × Int
abbrev Kn := ByteArray → Option Fd
def mark (K : Kn) (s : ByteArray) (e : Fd) : Kn := fun t => if t = s then some e else K t
noncomputable def marks (K : Kn) (l : List ByteArray) (e : Fd) : Kn := fun t => @ite _ (t ∈ l) (Classical.propDecidable _) (some e) (K t)
theorem marks_in {K : Kn} {l : List ByteArray} {e : Fd} {t : ByteArray} (h : t ∈ l) : marks K l e t = some e := by
  unfold marks
  rw [if_pos h]
theorem marks_out {K : Kn} {l : List ByteArray} {e : Fd} {t : ByteArray} (h : t ∉ l) : marks K l e t = K t := by
  unfold marks
  rw [if_neg h]
theorem marks_nil (K : Kn) (e : Fd) : marks K [] e = K := by
  funext t
  exact marks_out (by simp)
theorem marks_snoc (K : Kn) (l : List ByteArray) (s : ByteArray) (e : Fd) : mark (marks K l e) s e = marks K (l ++ [s]) e := by
  funext t
  unfold mark
  by_cases h1 : t = s
  · rw [if_pos h1, marks_in (by simp [h1])]
  · rw [if_neg h1]
    by_cases h2 : t ∈ l
    · rw [marks_in h2, marks_in (by simp [h2])]
    · rw [marks_out h2, marks_out (by simp [h1, h2])]
theorem marks_twice (K : Kn) (l : List ByteArray) (e e' : Fd) : marks (marks K l e) l e' = marks K l e' := by
  funext t
  by_cases h : t ∈ l
  · rw [marks_in h, marks_in h]
  · rw [marks_out h, marks_out h, marks_out h]
/-- As a map's contents. -/
def kf (K : Kn) : Mp.Fn := fun t => (K t).map fun e => Value.agg #[.int .i64 e.1, .int .i64 e.2]
theorem kf_put (K : Kn) (s : ByteArray) (e : Fd) : Mp.put (kf K) s (.agg #[.int .i64 e.1, .int .i64 e.2]) = kf (mark K s e) := by
  funext t
  unfold Mp.put kf mark
  by_cases h : t = s
  · simp [h]
  · simp [h]
theorem kf_none : kf (fun _ => none) = fun _ => none := rfl
def loop : Fd := (0, 9)
def gone : Fd := (0, 3)
/-- Where a name leads, and by which names that were not known. -/
def find (zn ln tg : List ByteArray) : Nat → Kn → ByteArray → List ByteArray × Fd
  | 0, _, _ => ([], (0, 0))
  | f + 1, K, s => match K s with
    | some e => ([], e)
    | none => match first zn s with
      | some i => ([s], ((i : Int), 0))
      | none => match first ln s with
        | none => ([s], gone)
        | some j => (s :: (find zn ln tg f (mark K s loop) (tg.getD j ⟨#[]⟩)).1, (find zn ln tg f (mark K s loop) (tg.getD j ⟨#[]⟩)).2)
theorem nodup_len {α : Type} [DecidableEq α] : ∀ (xs ys : List α), xs.Nodup → (∀ a ∈ xs, a ∈ ys) → xs.length ≤ ys.length
  | [], ys, _, _ => Nat.zero_le _
  | x :: xs, ys, hn, h => by
    obtain ⟨a, b, rfl⟩ := List.append_of_mem (h x (by simp))
    obtain ⟨h1, h2⟩ := List.nodup_cons.1 hn
    have ih := nodup_len xs (a ++ b) h2 (fun y hy => by
      have := h y (by simp [hy])
      simp only [List.mem_append, List.mem_cons] at this ⊢
      rcases this with h | rfl | h
      · exact .inl h
      · exact absurd hy h1
      · exact .inr h)
    simp only [List.length_append, List.length_cons] at ih ⊢
    omega
end Lk
end Go.Proofs.YtajcgoinhpengaaDoor

/- link.behind and link.places: the first places of names, by a range over a function. -/
namespace Go.Proofs.YtajcgoinhpengaaDoor
open Go.RowKit Go.Shelf
attribute [local go_sem] Oper.semAt_some

namespace Lk
/-- What has come when the places from r on are over, the last one first. -/
def down (ns : List ByteArray) (r : Nat) : List (Nat × ByteArray) := (List.range' r (ns.length - r)).reverse.map fun i => (i, ns.getD i ⟨#[]⟩)
theorem down_end (ns : List ByteArray) : down ns ns.length = [] := by unfold down; simp
theorem down_step {ns : List ByteArray} {r : Nat} (h : r < ns.length) : down ns r = down ns (r + 1) ++ [(r, ns.getD r ⟨#[]⟩)] := by
  unfold down
  rw [show ns.length - r = (ns.length - (r + 1)) + 1 from by omega, List.range'_succ, List.reverse_cons, List.map_append]
  rfl
/-- A text, if it is no longer than any text is. -/
def clip (s : ByteArray) : ByteArray := if s.size ≤ maxLen then s else ⟨#[]⟩
theorem clip_le (s : ByteArray) : (clip s).size ≤ maxLen := by
  unfold clip
  split
  · assumption
  · exact Nat.zero_le _
theorem clip_id {s : ByteArray} (h : s.size ≤ maxLen) : clip s = s := if_pos h
/-- What a map holds behind these. -/
def fn (l : List (Nat × ByteArray)) : Mp.Fn := l.foldl (fun f x => Mp.put f (clip x.2) (.int .i64 (x.1 : Int))) (fun _ => none)
theorem fn_snoc (l : List (Nat × ByteArray)) (x : Nat × ByteArray) : fn (l ++ [x]) = Mp.put (fn l) (clip x.2) (.int .i64 (x.1 : Int)) := by unfold fn; rw [List.foldl_append]; rfl
def places (ns : List ByteArray) : Mp.Fn := fun s => (first ns s).map fun (i : Nat) => Value.int .i64 (i : Int)
theorem fn_down (ns : List ByteArray) (hsz : ∀ s ∈ ns, s.size ≤ maxLen) : ∀ r, r ≤ ns.length → fn (down ns r) = fun s => (from_ ns r s).map fun (i : Nat) => Value.int .i64 (i : Int) := by
  intro r hr
  obtain ⟨d, hd⟩ : ∃ d, ns.length - r = d := ⟨_, rfl⟩
  induction d generalizing r with
  | zero =>
    have e : r = ns.length := by omega
    subst e
    rw [down_end]
    funext s
    rw [from_end]
    rfl
  | succ d ih =>
    have hlt : r < ns.length := by omega
    have hg : ns[r]? = some (ns.getD r ⟨#[]⟩) := by rw [List.getD, List.getElem?_eq_getElem hlt]; rfl
    rw [down_step hlt, fn_snoc, ih (r + 1) (by omega) (by omega)]
    simp only
    rw [clip_id (hsz _ (List.mem_of_getElem? hg))]
    funext s
    rw [from_step hg s]
    unfold Mp.put
    by_cases e : s = ns.getD r ⟨#[]⟩
    · rw [if_pos e, if_pos e]; rfl
    · rw [if_neg e, if_neg e]
theorem fn_all (ns : List ByteArray) (hsz : ∀ s ∈ ns, s.size ≤ maxLen) : fn (down ns 0) = places ns := by
  rw [fn_down ns hsz 0 (Nat.zero_le _)]
  funext s
  simp only [from_zero, places]
/-- What lay below n, but for block b, lies as it lay. -/
structure But (b n : Nat) (W W' : World) : Prop where
  size : W.heap.size ≤ W'.heap.size
  same : ∀ k, k < n → k ≠ b → W'.heap[k]? = W.heap[k]?
theorem But.refl (b n : Nat) (W : World) : But b n W W := ⟨Nat.le_refl _, fun _ _ _ => rfl⟩
theorem But.trans {b n : Nat} {A B C : World} (h : But b n A B) (k : But b n B C) : But b n A C := ⟨Nat.le_trans h.size k.size, fun i hi hb => (k.same i hi hb).trans (h.same i hi hb)⟩
theorem But.cell {b n : Nat} {W W' : World} (h : But b n W W') {p : Addr} (hp : p.block < n) (hb : p.block ≠ b) : W'.cell? p = W.cell? p := World.cell?_of_block (h.same p.block hp hb)
theorem But.put {b n : Nat} {w : World} (hn : n ≤ w.heap.size) (W : World) (l : Nat) (o o' : Obj) (hl : w.heap.size ≤ l) (_ : W.heap[l]? = some o) (_ : o.isCells = false) (_ : o.isWalk = false) : But b n W (W.putObj l o') :=
  ⟨(grownBy_putObj' W l o').size, fun k hk _ => World.putObj_heap_other (by omega)⟩
end Lk
def Lk.SqRet (ns : List ByteArray) (JY JX : List (Nat × ByteArray) → World → Prop) (e : Ending) (W' : World) : Prop :=
  (∃ v, e = .returned v) ∧ ((∃ ys, ys = Lk.down ns 0 ∧ JY ys W') ∨ (∃ pre : List (Nat × ByteArray), True ∧ JX pre W'))
set_option maxRecDepth 100000 in
set_option maxHeartbeats 2000000 in
/-- The iterator: the last place first. -/
theorem behind1_in (n : Nat) (hn : 1 ≤ n) (l bc bn b n₀ : Nat) (ns : List ByteArray) (hcount : ns.length ≤ 1000000) (hsz : ∀ s ∈ ns, s.size ≤ maxLen) (gn : Nat) (lbn : Array Value) (eg : ∀ args w, (callFunc gn args).run Tryd.prog w = .ok (.enter gn args) w) (JY JX : List (Nat × ByteArray) → World → Prop)
    (hY : ∀ pre x W, JY pre W → pre.length < ns.length → YieldAt Fence.wide (n - 1) Tryd.prog l #[.int .i64 (x.1 : Int), .string (Lk.clip x.2)] W fun e W' =>
      (e = .returned (.bool true) ∧ JY (pre ++ [x]) W' ∧ Lk.But b n₀ W W') ∨ (e = .returned (.bool false) ∧ JX (pre ++ [x]) W'))
    (W : World) (hc : W.cell? ⟨bc, 0, none⟩ = some (.int .i64 (ns.length : Int))) (hf : W.cell? ⟨bn, 0, none⟩ = some (.func (.func gn) #[] lbn)) (hbc : bc < n₀ ∧ bc ≠ b) (hbn : bn < n₀ ∧ bn ≠ b)
    (hname : ∀ W' i, Lk.But b n₀ W W' → i < ns.length → Calls Tryd.prog gn (#[.int .i64 (i : Int)] ++ lbn) W' fun e w' => e = .returned (.string (ns.getD i ⟨#[]⟩)) ∧ W' = w') (h0 : JY [] W) :
    CallsIn Fence.wide n Tryd.prog 82 #[.func (.yield l) #[] #[], .pointer (some ⟨bc, 0, none⟩), .pointer (some ⟨bn, 0, none⟩)] W (Lk.SqRet ns JY JX) := by
  have HNm := Lib.hid hname
  clear hname
  refine callsIn_of_wp Tryd.func82 rfl trivial ?_ rfl
  simp only [Tryd.ntmps82, List.size_toArray, List.length_cons, List.length_nil, Nat.reduceAdd, Nat.reduceSub, Array.replicate_succ, Array.replicate_zero, List.push_toArray, List.append_toArray, List.nil_append, List.cons_append]
  have w1 : IntKind.i64.wrap ((ns.length : Int) - 1) = (ns.length : Int) - 1 := by rw [IntKind.wrap_i64]; omega
  have w2 : wrap64 ((ns.length : Int) - 1) = (ns.length : Int) - 1 := by unfold wrap64; omega
  gi_wp2
  gi_loopw [4] (fun i wr => ∃ r : Nat, r ≤ ns.length ∧ i = .int .i64 ((r : Int) - 1) ∧ Hid (JY (Lk.down ns r) wr) ∧ Hid (Lk.But b n₀ W wr)) (fun i _ => (intOf i + 1).toNat)
  case atStart => exact ⟨ns.length, Nat.le_refl _, rfl, (by show JY _ _; rw [Lk.down_end]; exact h0), Lk.But.refl _ _ _⟩
  case round =>
    obtain ⟨r, hr, rfl, HJ, HB⟩ := hrel
    have c0 := (HB.out.cell (p := ⟨bc, 0, none⟩) hbc.1 hbc.2).trans hc
    have c1 := (HB.out.cell (p := ⟨bn, 0, none⟩) hbn.1 hbn.2).trans hf
    rcases Nat.eq_zero_or_pos r with h0r | h0r
    · subst h0r
      have q1 : ¬ (0 : Int) ≤ ((0 : Nat) : Int) - 1 := by omega
      gi_wp2
      go_end0
      exact ⟨⟨_, rfl⟩, .inl ⟨_, rfl, HJ.out⟩⟩
    · obtain ⟨r, rfl⟩ : ∃ k, r = k + 1 := ⟨r - 1, by omega⟩
      have e1 : (((r + 1 : Nat) : Int) - 1) = (r : Int) := by omega
      rw [e1]
      have HN := Lib.hid (HNm.out wr r HB.out (by omega))
      obtain ⟨fn, tmps, assign, body, hy, hR⟩ := hY _ (r, ns.getD r ⟨#[]⟩) wr HJ.out (by unfold Lk.down; simp; omega)
      dsimp only at hy
      rw [Lk.clip_id (hsz _ (List.mem_of_getElem? (show ns[r]? = some (ns.getD r ⟨#[]⟩) by rw [List.getD, List.getElem?_eq_getElem (by omega)]; rfl)))] at hy
      obtain ⟨sr, hsr⟩ : ∃ s, ns.getD r ⟨#[]⟩ = s := ⟨_, rfl⟩
      rw [hsr] at HN hy hR
      have q1 : (0 : Int) ≤ (r : Int) := by omega
      have q2 : IntKind.i64.wrap ((r : Int) - 1) = (r : Int) - 1 := by rw [IntKind.wrap_i64]; omega
      have q3 : wrap64 ((r : Int) - 1) = (r : Int) - 1 := by unfold wrap64; omega
      clear e1 h0r
      gi_wp2_with (first | (refine ⟨trivial, ?_⟩; gi_at_fn gn; refine (callsIn_wide.2 HN.out).mono ?_; rintro e w' ⟨rfl, rfl⟩))
      refine hR.mono ?_
      rintro e W3 (⟨rfl, hJ3, hk3⟩ | ⟨rfl, hJx3⟩)
      · have HJ3 : Hid (JY (Lk.down ns r) W3) := by
          show JY _ _
          rw [Lk.down_step (by omega), hsr]
          exact hJ3
        have HB3 := Lib.hid (HB.out.trans hk3)
        clear hJ3 hk3
        gi_wp2
        go_roundw
        case rel => exact ⟨r, by omega, by first | rfl | (simp; done) | (simp; omega), HJ3.out, HB3.out⟩
        case measure => first | (simp [intOf]; done) | (simp [intOf]; omega)
      · have HX := Lib.hid hJx3
        clear hJx3
        gi_wp2
        refine bodyPost_ret (results_none rfl _ _ _) rfl ?_
        exact ⟨⟨_, rfl⟩, .inr ⟨_, trivial, HX.out⟩⟩
end Go.Proofs.YtajcgoinhpengaaDoor
