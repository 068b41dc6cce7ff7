/- Words for memory: a slice that reads as a list; draws alone; small lemmas. -/
import Derived.Test.YthmhadgbhakdlaaDoorChecked
import Derived.WalkKit
import Derived.Below
import Derived.Laws.OwnMore
import Derived.Deep.AppendLies
import Derived.Deep.Draws
import Derived.Lib.Hide
import Derived.Maps.AppendAt
import Derived.RegionTactic
import Derived.OwnWalk
import Derived.Laws.RangeAny
import Derived.Lib.IndexAny
import Derived.Lib.DecodeN
import Derived.Lib.CutLaws

namespace Go.Proofs.YthmhadgbhakdlaaDoor
open Go.RowKit

theorem ret_int {k : IntKind} {a b : Int} (h : a = b) : Ending.returned (.int k a) = .returned (.int k b) := by rw [h]
theorem ret_bool {a b : Bool} (h : a = b) : Ending.returned (.bool a) = .returned (.bool b) := by rw [h]
theorem u8_bd (c : UInt8) : 0 ≤ (c.toNat : Int) ∧ (c.toNat : Int) ≤ 255 := by have := c.toNat_lt; omega

/-- The letters of a text. -/
def tl (s : ByteArray) : List UInt8 := s.data.toList
theorem tl_length (s : ByteArray) : (tl s).length = s.size := by simp [tl]

theorem tl_extract (s : ByteArray) (k : Nat) : tl (s.extract 0 k) = (tl s).take k := by simp [tl]

/-- Draws alone. -/
def Drew (w w' : World) : Prop := ∃ n, w' = w.drewN n
theorem Drew.refl (w : World) : Drew w w := ⟨0, rfl⟩
theorem Drew.drewN {w w' : World} (h : Drew w w') (n : Nat) : Drew w (w'.drewN n) := by
  obtain ⟨m, rfl⟩ := h
  exact ⟨m + n, World.drewN_drewN ..⟩
theorem Drew.trans {a b c : World} (h : Drew a b) (k : Drew b c) : Drew a c := by
  obtain ⟨n, rfl⟩ := k
  exact h.drewN n
theorem below_drewN {B : Nat} {a w : World} (h : Below B a w) (n : Nat) : Below B a (w.drewN n) := ⟨h.os, h.tape, h.output, h.size, h.block⟩
theorem Drew.below {w w' : World} (h : Drew w w') (B : Nat) : Below B w w' := by
  obtain ⟨n, rfl⟩ := h
  exact below_drewN (Below.refl B w) n
theorem Drew.cell {w w' : World} (h : Drew w w') (p : Addr) : w'.cell? p = w.cell? p := by
  obtain ⟨n, rfl⟩ := h
  rfl
theorem Drew.heap {w w' : World} (h : Drew w w') : w'.heap = w.heap := by
  obtain ⟨n, rfl⟩ := h
  rfl

theorem block_of_add (a : Addr) (n : Nat) : (a.add n).block = a.block := by unfold Addr.add; split <;> rfl
theorem add_of_add (a : Addr) (i j : Nat) : (a.add i).add j = a.add (i + j) := by
  unfold Addr.add
  by_cases hi : i = 0 <;> by_cases hj : j = 0 <;> simp [hi, hj, Nat.add_assoc]

/-- A slice's cells: of n elements, 'size' cells each, below block B. -/
def Reads (w : World) (B size : Nat) (A : Option Addr) (n : Nat) (xs : List Value) : Prop :=
  xs.length = n * size ∧ (0 < n → ∃ ad, A = some ad ∧ ad.block < B ∧ ∀ j u, xs[j]? = some u → w.cell? (ad.add j) = some u)

section
variable {w w' : World} {B B' size n : Nat} {A : Option Addr} {xs : List Value}
theorem Reads.none_ : Reads w B size A 0 [] := ⟨by simp, fun h => absurd h (by omega)⟩
theorem Reads.at_ {k : Nat} (h : Reads w B 1 A n xs) (hk : k < n) : ∃ ad u, A = some ad ∧ ad.block < B ∧ xs[k]? = some u ∧ w.cell? (ad.add k) = some u := by
  obtain ⟨ad, e, hb, hc⟩ := h.2 (by omega)
  have hl : k < xs.length := by have := h.1; omega
  exact ⟨ad, xs[k], e, hb, List.getElem?_eq_getElem hl, hc k _ (List.getElem?_eq_getElem hl)⟩
theorem Reads.keep (h : Reads w B size A n xs) (hk : ∀ p : Addr, p.block < B → w'.cell? p = w.cell? p) : Reads w' B size A n xs :=
  ⟨h.1, fun hn => by
    obtain ⟨ad, e, hb, hc⟩ := h.2 hn
    exact ⟨ad, e, hb, fun j u hu => (hk _ (by rw [block_of_add]; exact hb)).trans (hc j u hu)⟩⟩
theorem Reads.more (h : Reads w B size A n xs) (hB : B ≤ B') : Reads w B' size A n xs :=
  ⟨h.1, fun hn => by
    obtain ⟨ad, e, hb, hc⟩ := h.2 hn
    exact ⟨ad, e, by omega, hc⟩⟩
theorem Reads.below (h : Reads w B size A n xs) (hb : Below B w w') : Reads w' B size A n xs := h.keep fun _ hp => hb.cell hp
theorem Reads.drewN (h : Reads w B size A n xs) (k : Nat) : Reads (w.drewN k) B size A n xs := h
theorem Reads.of_drew (h : Reads w B size A n xs) (k : Drew w w') : Reads w' B size A n xs := h.keep fun p _ => k.cell p
end

section
variable {w w' : World} {B size n : Nat} {A : Option Addr} {xs : List Value}
theorem Reads.alloc (h : Reads w B size A n xs) (hB : B ≤ w.heap.size) (o : Obj) : Reads (w.alloc o) B size A n xs := h.keep fun p hp => World.cell?_alloc_lt w o p (by omega)
theorem Reads.setCell (h : Reads w B size A n xs) {p : Addr} (hB : B ≤ p.block) (u : Value) : Reads (w.setCell p u) B size A n xs :=
  h.keep fun q hq => World.cell?_setCell_other w p q u (fun e => by subst e; omega)
theorem Reads.grown (h : Reads w B size A n xs) {row : Option Nat} (hg : w.grownBy w' row) (hB : B ≤ w.heap.size) (hr : ∀ g, row = some g → B ≤ g) : Reads w' B size A n xs :=
  h.keep fun p hp => World.cell?_of_block (hg.block p.block (by omega) (fun e => by have := hr _ e.symm; omega))
theorem Reads.of_own {base : Nat} {e : TypeId} {c : Nat} (h : w.ownsRow base e size (.slice A n c) n xs) : Reads w w.heap.size size A n xs := by
  refine ⟨h.1, fun hn => ?_⟩
  obtain ⟨g, cap, hv, _, hlt⟩ := h.form hn
  have hA : A = some ⟨g, 0, none⟩ := by injection hv
  subst hA
  exact ⟨_, rfl, hlt, h.cells (g := g) rfl⟩
end

section
variable {P : Program} (w : World)

theorem run_append_of_nil (base : Nat) (t ty e : TypeId) (i : TypeInfo) (size : Nat) (ht : P.underlying t = some (.slice e)) (hi : P.info? e = some i)
    (v : Value) (n : Nat) (xs : List Value) (hown : w.ownsRow base e size v n xs) (c : Nat) : (Builtin.append_ #[t, t] ty #[v, .slice none 0 c]).run P w = .ok v w := by
  rcases hown.2 with ⟨rfl, rfl⟩ | ⟨g, cap, cur, rfl, _, _, hnc, _⟩
  · simp [Builtin.append_, run_underlying ht, sizeOf, typeInfo, hi, Builtin.lenOf, Builtin.firstCells]
  · simp [Builtin.append_, run_underlying ht, sizeOf, typeInfo, hi, Builtin.lenOf, Builtin.firstCells, hnc, storeCells]

theorem run_append_any (base : Nat) (t ty e : TypeId) (i : TypeInfo) (z : Value) (size bytes : Nat) (ht : P.underlying t = some (.slice e)) (hi : P.info? e = some i) (hz : i.zero = some z)
    (hsize : i.size = size) (hby : i.bytes = bytes) (hzs : z.cells.size = size) (hsz : 0 < size)
    (v : Value) (n : Nat) (xs : List Value) (hown : w.ownsRow base e size v n xs)
    (B : Nat) (A : Option Addr) (m c : Nat) (news : List Value) (hr : Reads w B size A m news) (h1 : ∀ u ∈ news, u.oneCell' = true)
    (h63 : n + m ≤ maxLen) (hbytes : (n + m) * bytes ≤ 140737488355328) (hbase : base ≤ w.heap.size) :
    ∃ v' w', (Builtin.append_ #[t, t] ty #[v, .slice A m c]).run P w = .ok v' w' ∧ w'.ownsRow base e size v' (n + m) (xs ++ news) ∧ w.grownBy w' v.ownBlock ∧
      (v'.ownBlock = v.ownBlock ∨ v'.ownBlock = some w.heap.size) := by
  rcases A with _ | ad
  · have hm : m = 0 := by
      rcases Nat.eq_zero_or_pos m with h0 | h0
      · exact h0
      · obtain ⟨ad, h, _⟩ := hr.2 h0
        cases h
    subst hm
    have hn : news = [] := List.eq_nil_of_length_eq_zero (by simpa using hr.1)
    subst hn
    exact ⟨v, w, run_append_of_nil w base t ty e i size ht hi v n xs hown c, by simpa using hown, World.grownBy.refl w _, .inl rfl⟩
  · have hcells : ∀ j u, news[j]? = some u → w.cell? (ad.add j) = some u := by
      intro j u hu
      rcases Nat.eq_zero_or_pos m with h0 | h0
      · subst h0
        have hn : news = [] := List.eq_nil_of_length_eq_zero (by simpa using hr.1)
        subst hn
        simp at hu
      · obtain ⟨ad', h, _, hc⟩ := hr.2 h0
        injection h with h
        subst h
        exact hc j u hu
    obtain ⟨v', w', hrun, h2, h3, _, h5⟩ := run_append_own_at (P := P) w base t ty e i z size bytes ht hi hz hsize hby hzs hsz v n xs hown ad m c news hr.1 hcells h1 h63 hbytes hbase
    exact ⟨v', w', hrun, h2, h3, h5⟩

theorem wp_append_any {o : Oper} {a : Act} {K : Act → World → Prop} {Q : Exit → Act → World → Prop} (s x : Operand) (t : TypeId)
    (ho : o.op = .call { callee := .builtin .append, args := #[s, x], argTypes := #[t, t] })
    (base : Nat) (e : TypeId) (i : TypeInfo) (z : Value) (size bytes : Nat) (ht : P.underlying t = some (.slice e)) (hi : P.info? e = some i) (hz : i.zero = some z)
    (hsize : i.size = size) (hby : i.bytes = bytes) (hzs : z.cells.size = size) (hsz : 0 < size)
    (v : Value) (n : Nat) (xs : List Value) (hs : a.eval s = v) (hown : w.ownsRow base e size v n xs)
    (B : Nat) (A : Option Addr) (m c : Nat) (news : List Value) (hx : a.eval x = .slice A m c) (hr : Reads w B size A m news) (h1 : ∀ u ∈ news, u.oneCell' = true)
    (h63 : n + m ≤ maxLen) (hbytes : (n + m) * bytes ≤ 140737488355328) (hbase : base ≤ w.heap.size)
    (h : ∀ v' w', w'.ownsRow base e size v' (n + m) (xs ++ news) → w.grownBy w' v.ownBlock → (v'.ownBlock = v.ownBlock ∨ v'.ownBlock = some w.heap.size) → K (a.put o.dst v') w') : o.wp P a w K Q := by
  obtain ⟨v', w', hrun, h2, h3, h4⟩ := run_append_any (P := P) w base t o.type e i z size bytes ht hi hz hsize hby hzs hsz v n xs hown B A m c news hr h1 h63 hbytes hbase
  unfold Oper.wp execOp
  simp only [ho, resolve, invoke, builtin, Sem.run_bind, Sem.run_pure, Result.andThen_ok, List.map_toArray, List.map_cons, List.map_nil, hs, hx, hrun]
  exact h v' w' h2 h3 h4

theorem wpList_append_any {ops : Array Oper} {rest : List Oper} {o : Oper} {a : Act} {Q : Exit → Act → World → Prop} (hgd : o.guard = none) (s x : Operand) (t : TypeId)
    (ho : o.op = .call { callee := .builtin .append, args := #[s, x], argTypes := #[t, t] })
    (base : Nat) (e : TypeId) (i : TypeInfo) (z : Value) (size bytes : Nat) (ht : P.underlying t = some (.slice e)) (hi : P.info? e = some i) (hz : i.zero = some z)
    (hsize : i.size = size) (hby : i.bytes = bytes) (hzs : z.cells.size = size) (hsz : 0 < size)
    (v : Value) (n : Nat) (xs : List Value) (hs : a.eval s = v) (hown : w.ownsRow base e size v n xs)
    (B : Nat) (A : Option Addr) (m c : Nat) (news : List Value) (hx : a.eval x = .slice A m c) (hr : Reads w B size A m news) (h1 : ∀ u ∈ news, u.oneCell' = true)
    (h63 : n + m ≤ maxLen) (hbytes : (n + m) * bytes ≤ 140737488355328) (hbase : base ≤ w.heap.size)
    (h : ∀ v' w', w'.ownsRow base e size v' (n + m) (xs ++ news) → w.grownBy w' v.ownBlock → (v'.ownBlock = v.ownBlock ∨ v'.ownBlock = some w.heap.size) → wpList P ops Q rest (a.put o.dst v') w') : wpList P ops Q (o :: rest) a w :=
  wpList_plain hgd fun _ hK => wp_append_any w s x t ho base e i z size bytes ht hi hz hsize hby hzs hsz v n xs hs hown B A m c news hx hr h1 h63 hbytes hbase fun v' w' h2 h3 h4 => hK _ _ (h v' w' h2 h3 h4)

end

/-- The value of a row that is owned, written out. -/
theorem own_slice {w : World} {base : Nat} {e : TypeId} {size n : Nat} {v : Value} {xs : List Value} (h : w.ownsRow base e size v n xs) : ∃ A c, v = .slice A n c ∧ n ≤ maxLen := by
  rcases h.2 with ⟨rfl, rfl⟩ | ⟨g, cap, cur, rfl, _, _, h1, h2, _⟩
  · exact ⟨none, 0, rfl, Nat.zero_le _⟩
  · exact ⟨_, cap, rfl, Nat.le_trans h1 h2⟩
theorem below_then {w w1 w2 : World} (h : Below w.heap.size w w1) (k : Below w1.heap.size w1 w2) : Below w.heap.size w w2 := h.trans (k.mono h.size)
theorem below_drew {w w1 w2 : World} (h : Below w.heap.size w w1) (k : Drew w1 w2) : Below w.heap.size w w2 := h.trans (k.below _)
theorem ret_str {a b : ByteArray} (h : a = b) : Ending.returned (.string a) = .returned (.string b) := by rw [h]
theorem calls_int {P : Program} {f : FuncId} {args : Array Value} {w : World} {k : IntKind} {a b : Int} {R : World → Prop} (h : Calls P f args w fun e w' => e = .returned (.int k a) ∧ R w') (e : a = b) :
    Calls P f args w fun e w' => e = .returned (.int k b) ∧ R w' := by rw [← e]; exact h
theorem calls_bool {P : Program} {f : FuncId} {args : Array Value} {w : World} {a b : Bool} {R : World → Prop} (h : Calls P f args w fun e w' => e = .returned (.bool a) ∧ R w') (e : a = b) :
    Calls P f args w fun e w' => e = .returned (.bool b) ∧ R w' := by rw [← e]; exact h
theorem calls_str {P : Program} {f : FuncId} {args : Array Value} {w : World} {a b : ByteArray} {R : World → Prop} (h : Calls P f args w fun e w' => e = .returned (.string a) ∧ R w') (e : a = b) :
    Calls P f args w fun e w' => e = .returned (.string b) ∧ R w' := by rw [← e]; exact h
/-- The value returned, put otherwise. -/
theorem calls_val {P : Program} {f : FuncId} {args : Array Value} {w : World} {a b : Value} {R : World → Prop} (h : Calls P f args w fun e w' => e = .returned a ∧ R w') (e : a = b) :
    Calls P f args w fun e w' => e = .returned b ∧ R w' := by rw [← e]; exact h
end Go.Proofs.YthmhadgbhakdlaaDoor

/- Plain texts: what utf.Plain and chart.Key tell, and what a key's letters are. -/
namespace Go.Proofs.YthmhadgbhakdlaaDoor
open Go.RowKit

namespace Te
def wrongL : List UInt8 := [239, 191, 189]
/-- What stands at a place is told as wrong, and is no wrong sign itself. -/
def bad (s : ByteArray) (pos : Nat) : Bool := (Utf8.decode s pos).1 == 65533 && !(Lib.hasPrefix ((tl s).drop pos) wrongL)
def rightFrom (s : ByteArray) : Nat → Nat → Bool
  | 0, _ => true
  | f + 1, pos => if pos < s.size then !(bad s pos) && rightFrom s f (pos + (Utf8.decode s pos).2) else true
def low (c : Nat) : Bool := decide (c < 32) || c == 127
def plainFrom (s : ByteArray) : Nat → Nat → Bool
  | 0, _ => true
  | f + 1, pos => if pos < s.size then !(low (Utf8.decode s pos).1) && plainFrom s f (pos + (Utf8.decode s pos).2) else true
def right (s : ByteArray) : Bool := rightFrom s s.size 0
def plain (s : ByteArray) : Bool := right s && plainFrom s s.size 0
def signs : List UInt8 := [92, 91, 93, 34]
def key (s : ByteArray) : Bool :=
  decide (1 ≤ s.size) && decide (s.size ≤ 64) && plain s && !(Lib.containsAny (tl s) signs) && ((tl s).head? != some 32) && ((tl s).getLast? != some 32)

theorem rightFrom_end (s : ByteArray) (f pos : Nat) (h : ¬ pos < s.size) : rightFrom s f pos = true := by
  cases f with
  | zero => rfl
  | succ f => rw [rightFrom, if_neg h]
theorem plainFrom_end (s : ByteArray) (f pos : Nat) (h : ¬ pos < s.size) : plainFrom s f pos = true := by
  cases f with
  | zero => rfl
  | succ f => rw [plainFrom, if_neg h]
theorem width_pos (s : ByteArray) (pos : Nat) (h : pos < s.size) : 1 ≤ (Utf8.decode s pos).2 := by
  by_cases ha : (s[pos]'h).toNat < 128
  · rw [decode_ascii s pos h ha]
    exact Nat.le_refl _
  · exact (decode_high s pos h (by omega)).2
/-- The letters behind the first one of a sign are high. -/
theorem tail_high (s : ByteArray) (pos j : Nat) (h0 : 0 < j) (hj : j < (Utf8.decode s pos).2) : pos + j < s.size ∧ 128 ≤ (s.get! (pos + j)).toNat := by
  rw [Lib.decode_at] at hj
  unfold Lib.decodeN at hj
  have h1 := (s.get! (pos + 1)).toNat_lt
  have h2 := (s.get! (pos + 2)).toNat_lt
  have h3 := (s.get! (pos + 3)).toNat_lt
  have hj' : j = 1 ∨ j = 2 ∨ j = 3 ∨ 4 ≤ j := by omega
  repeat' split at hj
  all_goals simp only at hj
  all_goals first
    | (exfalso; omega)
    | (rcases hj' with rfl | rfl | rfl | h4 <;> first | (exfalso; omega) | (constructor <;> omega))
theorem get_tl (s : ByteArray) (k : Nat) (h : k < s.size) : (tl s)[k]? = some (s.get! k) := by
  have h1 : (tl s)[k]? = some s[k] := by
    unfold tl
    rw [Array.getElem?_toList, Array.getElem?_eq_getElem (by exact h)]
    rfl
  rw [h1]
  congr 1
  have := get_at s k h
  simpa using this.symm
theorem first_ascii (s : ByteArray) (pos : Nat) (h : pos < s.size) (ha : (s.get! pos).toNat < 128) : Utf8.decode s pos = ((s.get! pos).toNat, 1) := by
  have e : s.get! pos = s[pos]'h := by simpa using get_at s pos h
  rw [e] at ha ⊢
  exact decode_ascii s pos h ha
theorem first_high (s : ByteArray) (pos : Nat) (h : pos < s.size) (ha : 128 ≤ (s.get! pos).toNat) : 128 ≤ (Utf8.decode s pos).1 := by
  have e : s.get! pos = s[pos]'h := by simpa using get_at s pos h
  rw [e] at ha
  exact (decode_high s pos h ha).1
/-- A plain text has no low letter. -/
theorem plain_all (s : ByteArray) : ∀ (f pos : Nat), s.size ≤ pos + f → plainFrom s f pos = true → ∀ k, pos ≤ k → k < s.size → 32 ≤ (s.get! k).toNat
  | 0, pos, hf, _, k, h1, h2 => by omega
  | f + 1, pos, hf, hp, k, h1, h2 => by
    have hps : pos < s.size := by omega
    rw [plainFrom, if_pos hps, Bool.and_eq_true, Bool.not_eq_true'] at hp
    obtain ⟨hl, hr⟩ := hp
    have hw := width_pos s pos hps
    by_cases hk : k < pos + (Utf8.decode s pos).2
    · rcases Nat.eq_or_lt_of_le h1 with rfl | hlt
      · by_cases ha : (s.get! pos).toNat < 128
        · rw [first_ascii s pos hps ha] at hl
          unfold low at hl
          simp only [Bool.or_eq_false_iff, decide_eq_false_iff_not] at hl
          omega
        · omega
      · obtain ⟨_, h⟩ := tail_high s pos (k - pos) (by omega) (by omega)
        rw [show pos + (k - pos) = k from by omega] at h
        omega
    · exact plain_all s f _ (by omega) hr k (by omega) h2
theorem plain_tl (s : ByteArray) (h : plain s = true) : ∀ b ∈ tl s, 32 ≤ b.toNat := by
  unfold plain at h
  rw [Bool.and_eq_true] at h
  intro b hb
  obtain ⟨k, hk, rfl⟩ := List.mem_iff_getElem.1 hb
  have hks : k < s.size := by rw [tl_length] at hk; exact hk
  have h1 := get_tl s k hks
  rw [List.getElem?_eq_getElem hk] at h1
  rw [Option.some.inj h1]
  exact plain_all s s.size 0 (by omega) h.2 k (Nat.zero_le _) hks
theorem key_plain {s : ByteArray} (h : key s = true) : plain s = true := by
  unfold key at h
  simp only [Bool.and_eq_true] at h
  exact h.1.1.1.2
theorem key_letters {s : ByteArray} (h : key s = true) : ∀ b ∈ tl s, 32 ≤ b.toNat := plain_tl s (key_plain h)
theorem key_size {s : ByteArray} (h : key s = true) : 1 ≤ s.size ∧ s.size ≤ 64 := by
  unfold key at h
  simp only [Bool.and_eq_true, decide_eq_true_eq] at h
  exact ⟨h.1.1.1.1.1, h.1.1.1.1.2⟩
end Te
end Go.Proofs.YthmhadgbhakdlaaDoor

/- Marked up texts, in plain words: what markup.Resolve, Escape and Tokens answer. -/
namespace Go.Proofs.YthmhadgbhakdlaaDoor
open Go.RowKit

namespace Mk
abbrev Txt := List UInt8
def bts (l : Txt) : ByteArray := ⟨l.toArray⟩
theorem bts_size (l : Txt) : (bts l).size = l.length := rfl
theorem tl_bts (l : Txt) : tl (bts l) = l := rfl
theorem bts_tl (s : ByteArray) : bts (tl s) = s := rfl
def white (b : UInt8) : Bool := b == 32 || b == 9 || b == 10 || b == 13
def low (b : UInt8) : Bool := decide (b.toNat < 32) && !white b
def letter (b : UInt8) : Bool := (decide (97 ≤ b.toNat) && decide (b.toNat ≤ 122)) || (decide (65 ≤ b.toNat) && decide (b.toNat ≤ 90)) || b == 95
def sign (b : UInt8) : Bool := letter b || (decide (48 ≤ b.toNat) && decide (b.toNat ≤ 57)) || b == 45 || b == 46 || b == 58
/-- What stands ahead of the first c, and from it on. -/
def bef (c : UInt8) (l : Txt) : Txt := l.takeWhile (· != c)
def aft (c : UInt8) (l : Txt) : Txt := l.dropWhile (· != c)
theorem bef_aft (c : UInt8) (l : Txt) : bef c l ++ aft c l = l := List.takeWhile_append_dropWhile
def begins : Txt → Bool
  | [] => false
  | b :: _ => letter b
def cutN (l : Txt) : Txt × Txt := if begins l then (l.takeWhile sign, l.dropWhile sign) else ([], l)
def skip (l : Txt) : Txt := l.dropWhile white
def dig (b : UInt8) (base : Nat) : Option Nat :=
  let n := if 48 ≤ b.toNat ∧ b.toNat ≤ 57 then some (b.toNat - 48) else if 97 ≤ b.toNat ∧ b.toNat ≤ 102 then some (b.toNat - 87) else if 65 ≤ b.toNat ∧ b.toNat ≤ 70 then some (b.toNat - 55) else none
  match n with
  | some k => if base ≤ k then none else some k
  | none => none
def numGo (base : Nat) : Nat → Txt → Option Nat
  | n, [] => some n
  | n, b :: r => match dig b base with
    | some d => numGo base (n * base + d) r
    | none => none
def num (base most : Nat) (l : Txt) : Option Nat := if l = [] ∨ most < l.length then none else numGo base 0 l
/-- A character's bytes, if it is one. -/
def encodes (n : Nat) : Bool := decide (n ≤ 1114111) && !(decide (55296 ≤ n) && decide (n ≤ 57343))
def chrNum (l : Txt) : Option Nat :=
  match l with
  | 120 :: r => num 16 6 r
  | _ => num 10 7 l
def chr (l : Txt) : Nat × Txt :=
  match chrNum l with
  | none => (4, [])
  | some n => if n < 32 ∧ white (UInt8.ofNat n) = false then (1, []) else if encodes n = true then (0, tl (Utf8.encode n)) else (1, [])
def ref (l : Txt) : Nat × Txt :=
  if l = [97, 109, 112] then (0, [38]) else if l = [108, 116] then (0, [60]) else if l = [103, 116] then (0, [62]) else if l = [113, 117, 111, 116] then (0, [34]) else if l = [97, 112, 111, 115] then (0, [39])
  else if (cutN l).1 ≠ [] ∧ (cutN l).2 = [] then (3, [])
  else match l with
    | 35 :: r => chr r
    | _ => (4, [])
/-- What is resolved, behind acc; or a place, and why not. -/
def res : Nat → Txt → Nat → Txt → Txt × Nat × Nat
  | 0, l, _, acc => (acc ++ l, 0, 0)
  | f + 1, l, at_, acc =>
    if aft 38 l = [] then (acc ++ l, 0, 0)
    else if aft 59 (aft 38 l) = [] then ([], at_ + (bef 38 l).length, 4)
    else if (ref ((bef 59 (aft 38 l)).drop 1)).1 ≠ 0 then ([], at_ + (bef 38 l).length, (ref ((bef 59 (aft 38 l)).drop 1)).1)
    else res f ((aft 59 (aft 38 l)).drop 1) (at_ + (bef 38 l).length + (bef 59 (aft 38 l)).length + 1) (acc ++ bef 38 l ++ (ref ((bef 59 (aft 38 l)).drop 1)).2)
def resolve (l : Txt) : Txt × Nat × Nat := res (l.length + 1) l 0 []
def esc1 (b : UInt8) : Txt := if b = 38 then [38, 97, 109, 112, 59] else if b = 60 then [38, 108, 116, 59] else if b = 62 then [38, 103, 116, 59] else if b = 34 then [38, 113, 117, 111, 116, 59] else if b = 39 then [38, 97, 112, 111, 115, 59] else [b]
def esc (l : Txt) : Txt := l.flatMap esc1
/-- A part of a marked up text. -/
structure T where
  kind : Nat
  name : Txt
  attrs : List (Txt × Txt)
  text : Txt
  at_ : Nat
structure S where
  toks : List T
  opened : List Txt
  rooted : Bool
structure Tag where
  name : Txt
  attrs : List (Txt × Txt)
  opens : Bool
  closes : Bool
def comm : Txt := [60, 33, 45, 45]
def commEnd : Txt := [45, 45, 62]
def note : Txt := [60, 63]
def noteEnd : Txt := [63, 62]
/-- Where a tag ends: q is the quote that is open. -/
def scanQ : Option UInt8 → Nat → Txt → Option Nat
  | _, _, [] => none
  | some q, i, b :: r => scanQ (if b = q then none else some q) (i + 1) r
  | none, i, b :: r => if b = 34 ∨ b = 39 then scanQ (some b) (i + 1) r else if b = 62 then some (i + 1) else scanQ none (i + 1) r
def idxOf (l sub : Txt) : Option Nat := if Lib.index l sub = -1 then none else some (Lib.index l sub).toNat
def pieceEnd (l : Txt) : Option Nat :=
  if comm.isPrefixOf l then (idxOf (l.drop 4) commEnd).map fun n => 4 + n + 3
  else if note.isPrefixOf l then (idxOf (l.drop 2) noteEnd).map fun n => 2 + n + 2
  else scanQ none 1 (l.drop 1)
def readAttr (l : Txt) : Option ((Txt × Txt) × Txt) :=
  if (cutN l).1 = [] then none else
  match skip (cutN l).2 with
  | 61 :: r => match skip r with
    | q :: r2 => if q = 34 ∨ q = 39 then (if aft q r2 = [] then none else if aft 60 (bef q r2) = [] then some (((cutN l).1, bef q r2), (aft q r2).drop 1) else none) else none
    | [] => none
  | _ => none
def tagGo : Nat → Txt → Txt → List (Txt × Txt) → Option Tag
  | 0, _, _, _ => none
  | f + 1, nm, rest, ats =>
    if skip rest = [] ∨ skip rest = [47] then some ⟨nm, ats, true, decide (skip rest ≠ [])⟩
    else if (skip rest).length = rest.length then none
    else match readAttr (skip rest) with
      | none => none
      | some (a, behind) => tagGo f nm behind (ats ++ [a])
def readTag (l : Txt) : Option Tag :=
  match l with
  | 47 :: r => if (cutN r).1 ≠ [] ∧ skip (cutN r).2 = [] then some ⟨(cutN r).1, [], false, true⟩ else none
  | _ => if (cutN l).1 = [] then none else tagGo (l.length + 1) (cutN l).1 (cutN l).2 []
/-- Two attributes have one name. -/
def twice : List Txt → List (Txt × Txt) → Bool
  | _, [] => false
  | seen, a :: r => seen.contains a.1 || twice (seen ++ [a.1]) r
/-- The attributes, resolved; or why not. -/
def resAll : List (Txt × Txt) → Nat ⊕ List (Txt × Txt)
  | [] => .inr []
  | a :: r => if (resolve a.2).2.2 ≠ 0 then .inl (resolve a.2).2.2 else
    match resAll r with
    | .inl e => .inl e
    | .inr l => .inr ((a.1, (resolve a.2).1) :: l)
def begin_ (t : Tag) (at_ : Nat) (st : S) : Nat ⊕ S :=
  if st.rooted = true ∧ st.opened = [] then .inl 12
  else if 32 < t.attrs.length ∨ 32 ≤ st.opened.length then .inl 6
  else if twice [] t.attrs = true then .inl 8
  else match resAll t.attrs with
    | .inl e => .inl e
    | .inr ats => .inr ⟨st.toks ++ [⟨1, t.name, ats, [], at_⟩], st.opened ++ [t.name], true⟩
def finish (t : Tag) (at_ : Nat) (st : S) : Nat ⊕ S :=
  if st.opened.getLast? = some t.name then .inr ⟨st.toks ++ [⟨2, t.name, [], [], at_⟩], st.opened.dropLast, st.rooted⟩ else .inl 12
def piece (s : Txt) (at_ : Nat) (st : S) : Nat ⊕ S :=
  if comm.isPrefixOf s then (if idxOf ((s.drop 4).take (s.length - 7)) [45, 45] = none then .inr st else .inl 4)
  else if note.isPrefixOf s then (if 0 < at_ then .inl 4 else .inr st)
  else match readTag ((s.drop 1).take (s.length - 2)) with
    | none => .inl 4
    | some t =>
      match (if t.opens = true then begin_ t at_ st else .inr st) with
      | .inl e => .inl e
      | .inr st2 => if t.closes = true then finish t at_ st2 else .inr st2
def between (pre : Txt) (at_ : Nat) (st : S) : (Nat × Nat) ⊕ S :=
  if st.opened = [] then (if skip pre = [] then .inr st else .inl (at_ + pre.length - (skip pre).length, 12))
  else if pre = [] then .inr st
  else if (resolve pre).2.2 ≠ 0 then .inl (at_ + (resolve pre).2.1, (resolve pre).2.2)
  else .inr ⟨st.toks ++ [⟨3, [], [], (resolve pre).1, at_⟩], st.opened, st.rooted⟩
def thr : Nat → Txt → Nat → S → (Nat × Nat) ⊕ S
  | 0, _, at_, _ => .inl (at_, 5)
  | f + 1, l, at_, st =>
    match between (bef 60 l) at_ st with
    | .inl e => .inl e
    | .inr st1 =>
      if aft 60 l = [] then (if st1.opened ≠ [] ∨ st1.rooted = false then .inl (at_ + (bef 60 l).length, 5) else .inr st1)
      else match pieceEnd (aft 60 l) with
        | none => .inl (at_ + (bef 60 l).length, 5)
        | some n => match piece ((aft 60 l).take n) (at_ + (bef 60 l).length) st1 with
          | .inl e => .inl (at_ + (bef 60 l).length, e)
          | .inr st2 => thr f ((aft 60 l).drop n) (at_ + (bef 60 l).length + n) st2
def start : S := ⟨[], [], false⟩
def tokens (l : Txt) : (Nat × Nat) ⊕ S := thr (l.length + 1) l 0 start
end Mk
end Go.Proofs.YthmhadgbhakdlaaDoor
