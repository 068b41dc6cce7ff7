/- Where names lead, in plain words: the first place of a name; a walk along links, with what is known already. -/
import Derived.Test.YthmhadgbhakdlaaDoorP12
import Derived.RangeFuncNested
import Derived.RangeFuncBound
import Derived.RangeFuncCalls
import Derived.RangeFuncLeaves
import Derived.Shelf.Abstract
import Derived.Shelf.AbstractIn
import Derived.Shelf.RegionOpen
import Derived.OwnWalkIn
import Derived.TacticsInMore
import Derived.LoopNIn
import Derived.LoopIn
import Derived.Maps.OwnIn
import Derived.Test.YthmhadgbhakdlaaDoorP07
import Derived.Test.YthmhadgbhakdlaaDoorP14
import Derived.Test.YthmhadgbhakdlaaDoorChecked
import Derived.Test.YthmhadgbhakdlaaDoorP01
import Derived.WalkKit
import Derived.Outline
import Derived.Deep.QuietTactic
import Derived.BigQuiet
import Derived.Deep.DeepFit
import Derived.Lib.Hide
import Derived.IntWalk
import Derived.WalkSpells
import Derived.WalkLawsBesides

namespace Go.Proofs.YthmhadgbhakdlaaDoor
open Go.RowKit

namespace Lk
/-- The first place of a name. -/
def first : List ByteArray → ByteArray → Option Nat
  | [], _ => none
  | x :: l, s => if x = s then some 0 else (first l s).map (· + 1)
theorem first_some : ∀ {l : List ByteArray} {s : ByteArray} {i : Nat}, first l s = some i → l[i]? = some s
  | [], s, i, h => by cases h
  | x :: l, s, i, h => by
    unfold first at h
    split at h
    · rename_i e
      cases h
      simpa using e
    · cases hf : first l s with
      | none => rw [hf] at h; cases h
      | some j =>
        rw [hf] at h
        cases h
        simpa using first_some hf
theorem first_none : ∀ {l : List ByteArray} {s : ByteArray}, first l s = none ↔ s ∉ l
  | [], s => by simp [first]
  | x :: l, s => by
    unfold first
    by_cases e : x = s
    · simp [e]
    · rw [if_neg e]
      have h := first_none (l := l) (s := s)
      cases hf : first l s with
      | none => simp only [Option.map_none, List.mem_cons, true_iff, not_or]; exact ⟨fun q => e q.symm, h.1 hf⟩
      | some j =>
        simp only [Option.map_some, reduceCtorEq, false_iff, Classical.not_not]
        by_cases hm : s ∈ l
        · exact List.mem_cons_of_mem _ hm
        · rw [h.2 hm] at hf; cases hf
theorem first_lt {l : List ByteArray} {s : ByteArray} {i : Nat} (h : first l s = some i) : i < l.length := (List.getElem?_eq_some_iff.1 (first_some h)).1
/-- From a place on: the last one first. -/
def from_ (l : List ByteArray) (k : Nat) (s : ByteArray) : Option Nat := (first (l.drop k) s).map (· + k)
theorem from_zero (l : List ByteArray) (s : ByteArray) : from_ l 0 s = first l s := by
  unfold from_
  rw [List.drop_zero]
  cases first l s <;> rfl
theorem from_end (l : List ByteArray) (s : ByteArray) : from_ l l.length s = none := by
  unfold from_
  rw [List.drop_length]
  rfl
theorem from_step {l : List ByteArray} {k : Nat} {x : ByteArray} (h : l[k]? = some x) (s : ByteArray) : from_ l k s = if s = x then some k else from_ l (k + 1) s := by
  unfold from_
  obtain ⟨hlt, hx⟩ := List.getElem?_eq_some_iff.1 h
  rw [List.drop_eq_getElem_cons hlt, hx, first]
  by_cases e : x = s
  · rw [if_pos e, if_pos e.symm]
    simp
  · rw [if_neg e, if_neg (fun h => e h.symm)]
    cases first (l.drop (k + 1)) s with
    | none => rfl
    | some j => simp only [Option.map_some, Option.some.injEq]; omega
abbrev Fd := Int × Int
abbrev Kn := ByteArray → Option Fd
def mark (K : Kn) (s : ByteArray) (e : Fd) : Kn := fun t => if t = s then some e else K t
noncomputable def marks (K : Kn) (l : List ByteArray) (e : Fd) : Kn := fun t => @ite _ (t ∈ l) (Classical.propDecidable _) (some e) (K t)
theorem marks_in {K : Kn} {l : List ByteArray} {e : Fd} {t : ByteArray} (h : t ∈ l) : marks K l e t = some e := by
  unfold marks
  rw [if_pos h]
theorem marks_out {K : Kn} {l : List ByteArray} {e : Fd} {t : ByteArray} (h : t ∉ l) : marks K l e t = K t := by
  unfold marks
  rw [if_neg h]
theorem marks_nil (K : Kn) (e : Fd) : marks K [] e = K := by
  funext t
  exact marks_out (by simp)
theorem marks_snoc (K : Kn) (l : List ByteArray) (s : ByteArray) (e : Fd) : mark (marks K l e) s e = marks K (l ++ [s]) e := by
  funext t
  unfold mark
  by_cases h1 : t = s
  · rw [if_pos h1, marks_in (by simp [h1])]
  · rw [if_neg h1]
    by_cases h2 : t ∈ l
    · rw [marks_in h2, marks_in (by simp [h2])]
    · rw [marks_out h2, marks_out (by simp [h1, h2])]
theorem marks_twice (K : Kn) (l : List ByteArray) (e e' : Fd) : marks (marks K l e) l e' = marks K l e' := by
  funext t
  by_cases h : t ∈ l
  · rw [marks_in h, marks_in h]
  · rw [marks_out h, marks_out h, marks_out h]
/-- As a map's contents. -/
def kf (K : Kn) : Mp.Fn := fun t => (K t).map fun e => Value.agg #[.int .i64 e.1, .int .i64 e.2]
theorem kf_put (K : Kn) (s : ByteArray) (e : Fd) : Mp.put (kf K) s (.agg #[.int .i64 e.1, .int .i64 e.2]) = kf (mark K s e) := by
  funext t
  unfold Mp.put kf mark
  by_cases h : t = s
  · simp [h]
  · simp [h]
theorem kf_none : kf (fun _ => none) = fun _ => none := rfl
def loop : Fd := (0, 9)
def gone : Fd := (0, 3)
/-- Where a name leads, and by which names that were not known. -/
def find (zn ln tg : List ByteArray) : Nat → Kn → ByteArray → List ByteArray × Fd
  | 0, _, _ => ([], (0, 0))
  | f + 1, K, s => match K s with
    | some e => ([], e)
    | none => match first zn s with
      | some i => ([s], ((i : Int), 0))
      | none => match first ln s with
        | none => ([s], gone)
        | some j => (s :: (find zn ln tg f (mark K s loop) (tg.getD j ⟨#[]⟩)).1, (find zn ln tg f (mark K s loop) (tg.getD j ⟨#[]⟩)).2)
theorem nodup_len {α : Type} [DecidableEq α] : ∀ (xs ys : List α), xs.Nodup → (∀ a ∈ xs, a ∈ ys) → xs.length ≤ ys.length
  | [], ys, _, _ => Nat.zero_le _
  | x :: xs, ys, hn, h => by
    obtain ⟨a, b, rfl⟩ := List.append_of_mem (h x (by simp))
    obtain ⟨h1, h2⟩ := List.nodup_cons.1 hn
    have ih := nodup_len xs (a ++ b) h2 (fun y hy => by
      have := h y (by simp [hy])
      simp only [List.mem_append, List.mem_cons] at this ⊢
      rcases this with h | rfl | h
      · exact .inl h
      · exact absurd hy h1
      · exact .inr h)
    simp only [List.length_append, List.length_cons] at ih ⊢
    omega
end Lk
end Go.Proofs.YthmhadgbhakdlaaDoor

/- link.behind and link.places: the first places of names, by a range over a function. -/
namespace Go.Proofs.YthmhadgbhakdlaaDoor
open Go.RowKit Go.Shelf
attribute [local go_sem] Oper.semAt_some

namespace Lk
/-- What has come when the places from r on are over, the last one first. -/
def down (ns : List ByteArray) (r : Nat) : List (Nat × ByteArray) := (List.range' r (ns.length - r)).reverse.map fun i => (i, ns.getD i ⟨#[]⟩)
theorem down_end (ns : List ByteArray) : down ns ns.length = [] := by unfold down; simp
theorem down_step {ns : List ByteArray} {r : Nat} (h : r < ns.length) : down ns r = down ns (r + 1) ++ [(r, ns.getD r ⟨#[]⟩)] := by
  unfold down
  rw [show ns.length - r = (ns.length - (r + 1)) + 1 from by omega, List.range'_succ, List.reverse_cons, List.map_append]
  rfl
/-- A text, if it is no longer than any text is. -/
def clip (s : ByteArray) : ByteArray := if s.size ≤ maxLen then s else ⟨#[]⟩
theorem clip_le (s : ByteArray) : (clip s).size ≤ maxLen := by
  unfold clip
  split
  · assumption
  · exact Nat.zero_le _
theorem clip_id {s : ByteArray} (h : s.size ≤ maxLen) : clip s = s := if_pos h
/-- What a map holds behind these. -/
def fn (l : List (Nat × ByteArray)) : Mp.Fn := l.foldl (fun f x => Mp.put f (clip x.2) (.int .i64 (x.1 : Int))) (fun _ => none)
theorem fn_snoc (l : List (Nat × ByteArray)) (x : Nat × ByteArray) : fn (l ++ [x]) = Mp.put (fn l) (clip x.2) (.int .i64 (x.1 : Int)) := by unfold fn; rw [List.foldl_append]; rfl
def places (ns : List ByteArray) : Mp.Fn := fun s => (first ns s).map fun (i : Nat) => Value.int .i64 (i : Int)
theorem fn_down (ns : List ByteArray) (hsz : ∀ s ∈ ns, s.size ≤ maxLen) : ∀ r, r ≤ ns.length → fn (down ns r) = fun s => (from_ ns r s).map fun (i : Nat) => Value.int .i64 (i : Int) := by
  intro r hr
  obtain ⟨d, hd⟩ : ∃ d, ns.length - r = d := ⟨_, rfl⟩
  induction d generalizing r with
  | zero =>
    have e : r = ns.length := by omega
    subst e
    rw [down_end]
    funext s
    rw [from_end]
    rfl
  | succ d ih =>
    have hlt : r < ns.length := by omega
    have hg : ns[r]? = some (ns.getD r ⟨#[]⟩) := by rw [List.getD, List.getElem?_eq_getElem hlt]; rfl
    rw [down_step hlt, fn_snoc, ih (r + 1) (by omega) (by omega)]
    simp only
    rw [clip_id (hsz _ (List.mem_of_getElem? hg))]
    funext s
    rw [from_step hg s]
    unfold Mp.put
    by_cases e : s = ns.getD r ⟨#[]⟩
    · rw [if_pos e, if_pos e]; rfl
    · rw [if_neg e, if_neg e]
theorem fn_all (ns : List ByteArray) (hsz : ∀ s ∈ ns, s.size ≤ maxLen) : fn (down ns 0) = places ns := by
  rw [fn_down ns hsz 0 (Nat.zero_le _)]
  funext s
  simp only [from_zero, places]
/-- What lay below n, but for block b, lies as it lay. -/
structure But (b n : Nat) (W W' : World) : Prop where
  size : W.heap.size ≤ W'.heap.size
  same : ∀ k, k < n → k ≠ b → W'.heap[k]? = W.heap[k]?
theorem But.refl (b n : Nat) (W : World) : But b n W W := ⟨Nat.le_refl _, fun _ _ _ => rfl⟩
theorem But.trans {b n : Nat} {A B C : World} (h : But b n A B) (k : But b n B C) : But b n A C := ⟨Nat.le_trans h.size k.size, fun i hi hb => (k.same i hi hb).trans (h.same i hi hb)⟩
theorem But.cell {b n : Nat} {W W' : World} (h : But b n W W') {p : Addr} (hp : p.block < n) (hb : p.block ≠ b) : W'.cell? p = W.cell? p := World.cell?_of_block (h.same p.block hp hb)
theorem But.put {b n : Nat} {w : World} (hn : n ≤ w.heap.size) (W : World) (l : Nat) (o o' : Obj) (hl : w.heap.size ≤ l) (_ : W.heap[l]? = some o) (_ : o.isCells = false) (_ : o.isWalk = false) : But b n W (W.putObj l o') :=
  ⟨(grownBy_putObj' W l o').size, fun k hk _ => World.putObj_heap_other (by omega)⟩
end Lk
def Lk.SqRet (ns : List ByteArray) (JY JX : List (Nat × ByteArray) → World → Prop) (e : Ending) (W' : World) : Prop :=
  (∃ v, e = .returned v) ∧ ((∃ ys, ys = Lk.down ns 0 ∧ JY ys W') ∨ (∃ pre : List (Nat × ByteArray), True ∧ JX pre W'))
end Go.Proofs.YthmhadgbhakdlaaDoor

/- link.behind and link.places: a map of the first places of names. -/
namespace Go.Proofs.YthmhadgbhakdlaaDoor
open Go.RowKit Go.Shelf
open Go.Maps Go.WideShapes Go.ChangeShapes Go.WideMaps
attribute [local go_sem] Oper.semAt_some

/-- What lay below w's end reads as it did. -/
def Lk.Old (w W : World) : Prop := ∀ p : Addr, p.block < w.heap.size → W.cell? p = w.cell? p
def Lk.Tells (gn : Nat) (lbn : Array Value) (ns : List ByteArray) (w : World) : Prop :=
  ∀ W' i, Lk.Old w W' → i < ns.length → Calls Tryd.prog gn (#[.int .i64 (i : Int)] ++ lbn) W' fun e w' => e = .returned (.string (ns.getD i ⟨#[]⟩)) ∧ W' = w'
/-- What link.places hands back. -/
def Lk.PlRet (ns : List ByteArray) (w : World) (e : Ending) (w' : World) : Prop :=
  ∃ b, e = .returned (.map (some b)) ∧ w.heap.size ≤ b ∧ MapF Tryd.prog 9 w' b ns.length (Lk.places ns) ∧ Below w.heap.size w w'
theorem wpListIn_store {F : Fence} {nF : Nat} {P : Program} (w : World) {ops : Array Oper} {rest : List Oper} {o : Oper} {a : Act} {Q : Exit → Act → World → Prop} (hg : o.guard = none) (m x v : Operand) (t k e : TypeId) (hop : o.op = Op.mapUpdate t m x v) (hk : P.underlying k = some .string) (ht : P.underlying t = some (.map k e))
    (b n : Nat) (f : Mp.Fn) (s : ByteArray) (hs : s.size ≤ maxLen) (hn : n < maxLen) (val : Value) (hm : a.eval m = .map (some b)) (hx : a.eval x = .string s) (hv : a.eval v = val) (h : MapF P k w b n f)
    (hK : ∀ w', MapF P k w' b (n + 1) (Mp.put f s val) → w.grownBy w' (some b) → wpListIn F nF P ops Q rest (a.put o.dst undef) w') : wpListIn F nF P ops Q (o :: rest) a w := by
  obtain ⟨D, hD, hf⟩ := h
  refine wpListIn_mapUpdate_own w hg m x v t hop k e (string_keyed hk) ht Mp.rv b n D hm hD hn (.string s) val (Mp.kl s) hx hv (keyOf_string_mk hk hs) (.held val) [] rfl ?_
  intro w' hD' hg'
  exact hK w' (MapF.put_ hD hf hD') hg'
theorem run_makeHint (c : Int) (W : World) : (Instr.makeMap 89 (some (.int .i64 c))).run Tryd.prog W = .ok (.map (some W.heap.size)) (W.alloc (.map #[] 0)) := by
  simp [Instr.makeMap, run_underlying Tryd.underlying89]
  rfl
theorem clip_bound {α β : Type} (a : List α) (b : List β) (h : a.length < b.length) (hb : b.length ≤ 1000000) : a.length < maxLen := by unfold maxLen; omega
end Go.Proofs.YthmhadgbhakdlaaDoor

/- The contract of scan.kind; the fields of a line in plain words. -/
namespace Go.Proofs.YthmhadgbhakdlaaDoor
open Go.RowKit

namespace Sc
/-- The kind of a byte: 1 parts, 2 is bad, 3 begins a comment, 4 quotes. -/
def kind (c : Int) : Int := if c = 32 ∨ c = 9 ∨ c = 13 then 1 else if c < 32 ∨ c = 127 then 2 else if c = 35 then 3 else if c = 34 then 4 else 0
theorem cases_ (c : Int) (h0 : 0 ≤ c) (h1 : c ≤ 255) : (0 ≤ c ∧ c ≤ 8) ∨ (c = 9) ∨ (10 ≤ c ∧ c ≤ 12) ∨ (c = 13) ∨ (14 ≤ c ∧ c ≤ 31) ∨ (c = 32) ∨ (c = 33) ∨ (c = 34) ∨ (c = 35) ∨ (36 ≤ c ∧ c ≤ 126) ∨ (c = 127) ∨ (128 ≤ c ∧ c ≤ 255) := by omega
/-- Where the scanner is: between fields; within one (where it began, what it has); within quotes (where they began). -/
inductive Mode where
  | b
  | f (begin : Int) (text : List UInt8)
  | q (quote begin : Int) (text : List UInt8)
/-- The fields, each with its column; or the column, and why. -/
inductive Res where
  | ok (l : List (List UInt8 × Int))
  | bad (col why : Int)
def scan : List UInt8 → Int → Mode → List (List UInt8 × Int) → Res
  | [], _, .b, acc => .ok acc
  | [], _, .f b t, acc => .ok (acc ++ [(t, b)])
  | [], _, .q q _ _, _ => .bad q 5
  | c :: l, at_, .b, acc =>
    if kind c.toNat = 1 then scan l (at_ + 1) .b acc else if kind c.toNat = 3 then .ok acc else if kind c.toNat = 2 then .bad (at_ + 1) 4
    else if acc.length = 24 then .bad (at_ + 1) 6 else if kind c.toNat = 4 then scan l (at_ + 1) (.q (at_ + 1) (at_ + 1) []) acc else scan l (at_ + 1) (.f (at_ + 1) [c]) acc
  | c :: l, at_, .f b t, acc =>
    if kind c.toNat = 1 then scan l (at_ + 1) .b (acc ++ [(t, b)]) else if kind c.toNat = 3 then .ok (acc ++ [(t, b)]) else if kind c.toNat = 2 then .bad (at_ + 1) 4
    else if kind c.toNat = 4 then scan l (at_ + 1) (.q (at_ + 1) b t) acc else scan l (at_ + 1) (.f b (t ++ [c])) acc
  | c :: l, at_, .q q b t, acc =>
    if kind c.toNat = 2 then .bad (at_ + 1) 4 else if kind c.toNat = 4 then scan l (at_ + 1) (.f b t) acc else scan l (at_ + 1) (.q q b (t ++ [c])) acc
/-- The fields of a line. -/
def fields (s : List UInt8) : Res := if 2048 < s.length then .bad 2049 6 else scan s 0 .b []
theorem kind_bd (c : Int) : kind c = 0 ∨ kind c = 1 ∨ kind c = 2 ∨ kind c = 3 ∨ kind c = 4 := by
  unfold kind
  split
  · simp
  · split
    · simp
    · split
      · simp
      · split <;> simp
section
variable {c : UInt8} {l : List UInt8} {a b q : Int} {t : List UInt8} {acc : List (List UInt8 × Int)}
theorem b_1 (h : kind c.toNat = 1) : scan (c :: l) a .b acc = scan l (a + 1) .b acc := by rw [scan, if_pos h]
theorem b_3 (h : kind c.toNat = 3) : scan (c :: l) a .b acc = .ok acc := by rw [scan, if_neg (by omega), if_pos h]
theorem b_2 (h : kind c.toNat = 2) : scan (c :: l) a .b acc = .bad (a + 1) 4 := by rw [scan, if_neg (by omega), if_neg (by omega), if_pos h]
theorem b_long (h : kind c.toNat = 0 ∨ kind c.toNat = 4) (hl : acc.length = 24) : scan (c :: l) a .b acc = .bad (a + 1) 6 := by rw [scan, if_neg (by omega), if_neg (by omega), if_neg (by omega), if_pos hl]
theorem f_b (h : kind c.toNat = 1 ∨ kind c.toNat = 3) : scan (c :: l) a (.f b t) acc = scan (c :: l) a .b (acc ++ [(t, b)]) := by
  rcases h with h | h
  · rw [b_1 h, scan, if_pos h]
  · rw [b_3 h, scan, if_neg (by omega), if_pos h]
theorem f_end : scan [] a (.f b t) acc = scan [] a .b (acc ++ [(t, b)]) := rfl
theorem f_2 (h : kind c.toNat = 2) : scan (c :: l) a (.f b t) acc = .bad (a + 1) 4 := by rw [scan, if_neg (by omega), if_neg (by omega), if_pos h]
theorem f_4 (h : kind c.toNat = 4) : scan (c :: l) a (.f b t) acc = scan l (a + 1) (.q (a + 1) b t) acc := by rw [scan, if_neg (by omega), if_neg (by omega), if_neg (by omega), if_pos h]
theorem f_0 (h : kind c.toNat = 0) : scan (c :: l) a (.f b t) acc = scan l (a + 1) (.f b (t ++ [c])) acc := by rw [scan, if_neg (by omega), if_neg (by omega), if_neg (by omega), if_neg (by omega)]
theorem b_f (h : kind c.toNat = 0 ∨ kind c.toNat = 4) (hl : acc.length ≠ 24) : scan (c :: l) a .b acc = scan (c :: l) a (.f (a + 1) []) acc := by
  rcases h with h | h
  · rw [f_0 h, scan, if_neg (by omega), if_neg (by omega), if_neg (by omega), if_neg hl, if_neg (by omega)]
    rfl
  · rw [f_4 h, scan, if_neg (by omega), if_neg (by omega), if_neg (by omega), if_neg hl, if_pos h]
theorem q_2 (h : kind c.toNat = 2) : scan (c :: l) a (.q q b t) acc = .bad (a + 1) 4 := by rw [scan, if_pos h]
theorem q_4 (h : kind c.toNat = 4) : scan (c :: l) a (.q q b t) acc = scan l (a + 1) (.f b t) acc := by rw [scan, if_neg (by omega), if_pos h]
theorem q_0 (h : kind c.toNat ≠ 2) (h4 : kind c.toNat ≠ 4) : scan (c :: l) a (.q q b t) acc = scan l (a + 1) (.q q b (t ++ [c])) acc := by rw [scan, if_neg h, if_neg h4]
end
end Sc
end Go.Proofs.YthmhadgbhakdlaaDoor

/- Plain law of the words: what Pick means. -/
namespace Go.Proofs.YthmhadgbhakdlaaDoor.Wd
def low (c : UInt8) : UInt8 := if 65 ≤ c ∧ c ≤ 90 then c + 32 else c
def lows (l : List UInt8) : List UInt8 := l.map low
def same (a b : List UInt8) : Bool := decide (lows a = lows b)
def begins (n s : List UInt8) : Bool := decide (s.length ≤ n.length) && same (n.take s.length) s
def pickLoop (s : List UInt8) : List (List UInt8) → Nat → Int → Nat → Int
  | [], _, b, c => if c = 1 then b else -1
  | n :: r, i, b, c => if begins n s = true then (if n.length = s.length then (i : Int) else pickLoop s r (i + 1) i (c + 1)) else pickLoop s r (i + 1) b c
def pick (s : List UInt8) (names : List (List UInt8)) : Int := if s = [] then -1 else pickLoop s names 0 (-1) 0

theorem pickLoop_append (s m : List UInt8) (h : begins m s = false) : ∀ (l : List (List UInt8)) (i : Nat) (b : Int) (c : Nat), pickLoop s (l ++ [m]) i b c = pickLoop s l i b c := by
  intro l
  induction l with
  | nil => intro i b c; simp [pickLoop, h]
  | cons n r ih => intro i b c; simp only [List.cons_append, pickLoop, ih]
theorem pick_append (s m : List UInt8) (l : List (List UInt8)) (h : begins m s = false) : pick s (l ++ [m]) = pick s l := by
  unfold pick; rw [pickLoop_append s m h]

/-- What the loop gives: what it brought with it, none, or the place of a name that begins so. -/
theorem pickLoop_form (s : List UInt8) : ∀ (l : List (List UInt8)) (i : Nat) (b : Int) (c : Nat),
    pickLoop s l i b c = -1 ∨ pickLoop s l i b c = b ∨ ∃ k n, pickLoop s l i b c = ((i + k : Nat) : Int) ∧ l[k]? = some n ∧ begins n s = true := by
  intro l
  induction l with
  | nil => intro i b c; simp only [pickLoop]; split <;> simp
  | cons n r ih =>
    intro i b c
    simp only [pickLoop]
    by_cases h : begins n s = true
    · rw [if_pos h]
      by_cases h2 : n.length = s.length
      · rw [if_pos h2]; exact .inr (.inr ⟨0, n, by simp, by simp, h⟩)
      · rw [if_neg h2]
        rcases ih (i + 1) i (c + 1) with h3 | h3 | ⟨k, m, h3, h4, h5⟩
        · exact .inl h3
        · exact .inr (.inr ⟨0, n, by simpa using h3, by simp, h⟩)
        · exact .inr (.inr ⟨k + 1, m, by rw [h3]; omega, by simpa using h4, h5⟩)
    · rw [if_neg h]
      rcases ih (i + 1) b c with h3 | h3 | ⟨k, m, h3, h4, h5⟩
      · exact .inl h3
      · exact .inr (.inl h3)
      · exact .inr (.inr ⟨k + 1, m, by rw [h3]; omega, by simpa using h4, h5⟩)
theorem pick_form (s : List UInt8) (l : List (List UInt8)) : pick s l = -1 ∨ ∃ (k : Nat) (n : List UInt8), pick s l = (k : Int) ∧ l[k]? = some n ∧ begins n s = true := by
  unfold pick
  split
  · exact .inl rfl
  · rcases pickLoop_form s l 0 (-1) 0 with h | h | ⟨k, n, h, h1, h2⟩
    · exact .inl h
    · exact .inl h
    · exact .inr ⟨k, n, by rw [h]; omega, h1, h2⟩

/-- None of these begins so. -/
theorem pickLoop_none (s : List UInt8) : ∀ (l : List (List UInt8)) (i : Nat) (b : Int) (c : Nat), (∀ n ∈ l, begins n s = false) → pickLoop s l i b c = if c = 1 then b else -1 := by
  intro l
  induction l with
  | nil => intro i b c _; rfl
  | cons n r ih => intro i b c h; simp only [pickLoop]; rw [if_neg (by simp [h n])]; exact ih _ _ _ fun m hm => h m (by simp [hm])

/-- One alone begins so. -/
theorem pickLoop_one (s : List UInt8) : ∀ (l : List (List UInt8)) (i : Nat) (b : Int) (k : Nat) (n : List UInt8), l[k]? = some n → begins n s = true → (∀ j m, l[j]? = some m → j ≠ k → begins m s = false) →
    pickLoop s l i b 0 = ((i + k : Nat) : Int) := by
  intro l
  induction l with
  | nil => intro i b k n h; simp at h
  | cons x r ih =>
    intro i b k n hk hb ho
    simp only [pickLoop]
    cases k with
    | zero =>
      obtain rfl : x = n := by simpa using hk
      rw [if_pos hb]
      split
      · simp
      · rw [pickLoop_none s r _ _ _ fun m hm => ?_]
        · simp
        · obtain ⟨j, hj⟩ := List.mem_iff_getElem?.1 hm
          exact ho (j + 1) m (by simpa using hj) (by omega)
    | succ k =>
      rw [if_neg (by simp [ho 0 x (by simp) (by omega)])]
      rw [ih (i + 1) b k n (by simpa using hk) hb fun j m hj hne => ho (j + 1) m (by simpa using hj) (by omega)]
      omega

/-- What is found and is longer is the only one. -/
theorem pickLoop_only (s : List UInt8) : ∀ (l : List (List UInt8)) (i : Nat) (b : Int) (c : Nat) (k : Nat) (n : List UInt8), b < i → pickLoop s l i b c = ((i + k : Nat) : Int) → l[k]? = some n → n.length ≠ s.length →
    c = 0 ∧ ∀ j m, l[j]? = some m → j ≠ k → begins m s = false := by
  intro l
  induction l with
  | nil => intro i b c k n _ _ h; simp at h
  | cons x r ih =>
    intro i b c k n hb hp hk hl
    simp only [pickLoop] at hp
    by_cases h : begins x s = true
    · rw [if_pos h] at hp
      by_cases h2 : x.length = s.length
      · rw [if_pos h2] at hp
        have : k = 0 := by omega
        subst this
        obtain rfl : x = n := by simpa using hk
        exact absurd h2 hl
      · rw [if_neg h2] at hp
        cases k with
        | succ k =>
          have := ih (i + 1) i (c + 1) k n (by omega) (by rw [hp]; omega) (by simpa using hk) hl
          omega
        | zero =>
          -- the place is this one: nothing behind begins so
          have key : ∀ (r : List (List UInt8)) (i' : Nat) (c' : Nat), (i : Int) < i' → 1 ≤ c' → pickLoop s r i' (i : Int) c' = (i : Int) → c' = 1 ∧ ∀ m ∈ r, begins m s = false := by
            intro r
            induction r with
            | nil => intro i' c' _ _ hh; simp only [pickLoop] at hh; split at hh
                     · exact ⟨by assumption, by simp⟩
                     · omega
            | cons y r ih2 =>
              intro i' c' hi hc hh
              simp only [pickLoop] at hh
              by_cases hy : begins y s = true
              · rw [if_pos hy] at hh
                exfalso
                split at hh
                · omega
                · rcases pickLoop_form s r (i' + 1) i' (c' + 1) with h3 | h3 | ⟨k, m, h3, _, _⟩ <;> omega
              · rw [if_neg hy] at hh
                obtain ⟨h5, h6⟩ := ih2 (i' + 1) c' (by omega) hc hh
                refine ⟨h5, fun m hm => ?_⟩
                rcases List.mem_cons.1 hm with rfl | hm
                · simpa using hy
                · exact h6 m hm
          obtain ⟨h5, h6⟩ := key r (i + 1) (c + 1) (by omega) (by omega) (by simpa using hp)
          refine ⟨by omega, fun j m hj hne => ?_⟩
          cases j with
          | zero => omega
          | succ j => exact h6 m (List.mem_iff_getElem?.2 ⟨j, by simpa using hj⟩)
    · rw [if_neg h] at hp
      cases k with
      | zero =>
        exfalso
        rcases pickLoop_form s r (i + 1) b c with h3 | h3 | ⟨k, m, h3, _, _⟩ <;> omega
      | succ k =>
        obtain ⟨h5, h6⟩ := ih (i + 1) b c k n (by omega) (by rw [hp]; omega) (by simpa using hk) hl
        refine ⟨h5, fun j m hj hne => ?_⟩
        cases j with
        | zero =>
          obtain rfl : x = m := by simpa using hj
          simpa using h
        | succ j => exact h6 j m (by simpa using hj) (by omega)

theorem pick_bd (s : List UInt8) (l : List (List UInt8)) (h : l.length ≤ 1000000) : -1 ≤ pick s l ∧ pick s l < 1000000 := by
  rcases pick_form s l with e | ⟨k, n, e, e1, _⟩
  · omega
  · have := (List.getElem?_eq_some_iff.1 e1).1
    omega

theorem lows_take (l : List UInt8) (k : Nat) : lows (l.take k) = (lows l).take k := by simp [lows, List.map_take]
theorem begins_iff (n s : List UInt8) : begins n s = true ↔ s.length ≤ n.length ∧ (lows n).take s.length = lows s := by
  simp [begins, same, lows_take]
/-- What begins with more begins with less. -/
theorem begins_less (n t s : List UInt8) (h : begins n t = true) (h2 : begins t s = true) : begins n s = true := by
  rw [begins_iff] at h h2 ⊢
  obtain ⟨a, b⟩ := h
  obtain ⟨c, d⟩ := h2
  refine ⟨by omega, ?_⟩
  rw [← d, ← b, List.take_take, Nat.min_eq_left c]
theorem begins_take (n s : List UInt8) (k : Nat) (hk : s.length ≤ k) (h : begins n s = true) : begins (n.take k) s = true := by
  rw [begins_iff] at h ⊢
  obtain ⟨a, b⟩ := h
  refine ⟨by rw [List.length_take]; omega, ?_⟩
  rw [lows_take, List.take_take, Nat.min_eq_left hk, b]
theorem begins_own (n : List UInt8) (k : Nat) (hk : k ≤ n.length) : begins n (n.take k) = true := by
  rw [begins_iff]
  have : (n.take k).length = k := by rw [List.length_take]; omega
  rw [this, lows_take]; exact ⟨hk, rfl⟩

/-- With a letter more the same is meant. -/
theorem pick_more (s n : List UInt8) (l : List (List UInt8)) (k : Nat) (h : pick s l = (k : Int)) (hk : l[k]? = some n) (hl : s.length < n.length) : pick (n.take (s.length + 1)) l = (k : Int) := by
  have hs : s ≠ [] := by intro e; subst e; simp [pick] at h
  have hp : pickLoop s l 0 (-1) 0 = ((0 + k : Nat) : Int) := by unfold pick at h; rw [if_neg hs] at h; rw [h]; omega
  obtain ⟨_, ho⟩ := pickLoop_only s l 0 (-1) 0 k n (by omega) hp hk (by omega)
  have hbs : begins n s = true := by
    rcases pick_form s l with e | ⟨k', n', e, e1, e2⟩
    · omega
    · have : k' = k := by omega
      subst this
      rw [hk] at e1
      obtain rfl : n = n' := by simpa using e1
      exact e2
  have hne : n.take (s.length + 1) ≠ [] := by intro e; have := congrArg List.length e; rw [List.length_take] at this; simp only [List.length_nil] at this; omega
  unfold pick
  rw [if_neg hne, pickLoop_one _ l 0 (-1) k n hk (begins_own n _ (by omega)) fun j m hj hne => ?_]
  · simp
  · cases hm : begins m (n.take (s.length + 1))
    · rfl
    · have := begins_less m _ s hm (begins_take n s _ (by omega) hbs)
      rw [ho j m hj hne] at this
      cases this
end Go.Proofs.YthmhadgbhakdlaaDoor.Wd

/- The contracts of package word: small, Same, Pick, the tables of names. -/
namespace Go.Proofs.YthmhadgbhakdlaaDoor
open Go.RowKit

def lowI (x : Int) : Int := if 65 ≤ x ∧ x ≤ 90 then x + 32 else x

theorem lowI_low (c : UInt8) : lowI (c.toNat : Int) = ((Wd.low c).toNat : Int) := by
  unfold lowI Wd.low
  have e : (65 ≤ c ∧ c ≤ 90) ↔ (65 ≤ (c.toNat : Int) ∧ (c.toNat : Int) ≤ 90) := by
    simp [UInt8.le_iff_toNat_le]; omega
  by_cases h : 65 ≤ c ∧ c ≤ 90
  · rw [if_pos h, if_pos (e.1 h), UInt8.toNat_add]
    have := e.1 h
    simp; omega
  · rw [if_neg h, if_neg (fun h' => h (e.2 h'))]
theorem lowI_eq (c d : UInt8) : lowI (c.toNat : Int) = lowI (d.toNat : Int) ↔ Wd.low c = Wd.low d := by
  rw [lowI_low, lowI_low]
  constructor
  · intro h; exact UInt8.toNat_inj.1 (by omega)
  · intro h; rw [h]

theorem same_len (a b : ByteArray) (h : ¬ a.size = b.size) : Wd.same a.data.toList b.data.toList = false := by
  simp only [Wd.same, decide_eq_false_iff_not]
  intro e
  have := congrArg List.length e
  simp [Wd.lows] at this
  exact h this
theorem same_step (a b : ByteArray) (k : Nat) (hla : k < a.size) (hlb : k < b.size) (H : ∀ j (_ : j < k) (_ : k ≤ a.size) (_ : k ≤ b.size), Wd.low a[j] = Wd.low b[j]) (e : Wd.low a[k] = Wd.low b[k]) :
    ∀ j (_ : j < k + 1) (_ : k + 1 ≤ a.size) (_ : k + 1 ≤ b.size), Wd.low a[j] = Wd.low b[j] := by
  intro j hj ha hb
  by_cases h : j = k
  · subst h; exact e
  · exact H j (by omega) (by omega) (by omega)
theorem same_no (a b : ByteArray) (k : Nat) (hla : k < a.size) (hlb : k < b.size) (e : ¬ Wd.low a[k] = Wd.low b[k]) : Wd.same a.data.toList b.data.toList = false := by
  simp only [Wd.same, decide_eq_false_iff_not]
  intro h
  have h2 : (Wd.lows a.data.toList)[k]? = (Wd.lows b.data.toList)[k]? := by rw [h]
  simp only [Wd.lows, List.getElem?_map] at h2
  rw [List.getElem?_eq_getElem (by simpa using hla), List.getElem?_eq_getElem (by simpa using hlb)] at h2
  simp only [Option.map_some, Option.some.injEq, Array.getElem_toList] at h2
  exact e h2
theorem same_yes (a b : ByteArray) (hl : a.size = b.size) (H : ∀ j (_ : j < a.size) (_ : a.size ≤ a.size) (_ : a.size ≤ b.size), Wd.low a[j] = Wd.low b[j]) : Wd.same a.data.toList b.data.toList = true := by
  simp only [Wd.same, decide_eq_true_eq]
  refine List.ext_getElem (by simpa [Wd.lows] using hl) fun j h1 h2 => ?_
  simp only [Wd.lows, List.getElem_map]
  have hj : j < a.size := by simpa [Wd.lows] using h1
  simp only [Array.getElem_toList]
  exact H j hj (by omega) (by omega)

theorem reads_str {w : World} {B : Nat} {A : Option Addr} {n k : Nat} {ss : List ByteArray} (h : Reads w B 1 A n (ss.map Value.string)) (hk : k < n) :
    ∃ ad nm, A = some ad ∧ Hid (ss[k]? = some nm) ∧ w.cell? (ad.add k) = some (.string nm) := by
  obtain ⟨ad, u, e, _, hx, hc⟩ := h.at_ hk
  rw [List.getElem?_map] at hx
  match hs : ss[k]? with
  | none => rw [hs] at hx; simp at hx
  | some nm =>
    rw [hs] at hx
    obtain rfl : Value.string nm = u := by simpa using hx
    exact ⟨ad, nm, e, rfl, hc⟩
theorem pick_start (s : ByteArray) (ss : List ByteArray) (h : ¬ s.toList = []) : Wd.pick (tl s) (ss.map tl) = Wd.pickLoop (tl s) ((ss.map tl).drop 0) 0 (-1) 0 := by
  unfold Wd.pick
  rw [if_neg (show ¬ tl s = [] from fun e => h (by rw [ByteArray.toList_eq]; exact e)), List.drop_zero]
theorem drop_of {α : Type} {l : List α} {k : Nat} {a : α} (h : l[k]? = some a) : l.drop k = a :: l.drop (k + 1) := by
  obtain ⟨hk, e⟩ := List.getElem?_eq_some_iff.1 h
  rw [List.drop_eq_getElem_cons hk, e]
theorem pick_next1 (s : ByteArray) (ss : List ByteArray) (k : Nat) (bg : Int) (cnt : Nat) (nm : ByteArray) (h : Wd.pick (tl s) (ss.map tl) = Wd.pickLoop (tl s) ((ss.map tl).drop k) k bg cnt) (hn : ss[k]? = some nm) (hs : nm.size < s.size) :
    Wd.pick (tl s) (ss.map tl) = Wd.pickLoop (tl s) ((ss.map tl).drop (k + 1)) (k + 1) bg cnt := by
  rw [h, drop_of (a := tl nm) (by simp [hn]), Wd.pickLoop, if_neg]
  simp only [Wd.begins, tl_length, Bool.and_eq_true, decide_eq_true_eq]
  omega

theorem begins_of (s nm : ByteArray) (hs : ¬ nm.size < s.size) : Wd.begins (tl nm) (tl s) = Wd.same (nm.extract 0 s.size).data.toList s.data.toList := by
  have e : (nm.extract 0 s.size).data.toList = (tl nm).take (tl s).length := by
    rw [tl_length]; simp [tl]
  unfold Wd.begins
  rw [e]
  have : (tl s).length ≤ (tl nm).length := by rw [tl_length, tl_length]; omega
  simp [this]; rfl
theorem pick_next2 (s : ByteArray) (ss : List ByteArray) (k : Nat) (bg : Int) (cnt : Nat) (nm : ByteArray) (h : Wd.pick (tl s) (ss.map tl) = Wd.pickLoop (tl s) ((ss.map tl).drop k) k bg cnt) (hn : ss[k]? = some nm) (hs : ¬ nm.size < s.size)
    (hb : Wd.same (nm.extract 0 s.size).data.toList s.data.toList = false) :
    Wd.pick (tl s) (ss.map tl) = Wd.pickLoop (tl s) ((ss.map tl).drop (k + 1)) (k + 1) bg cnt := by
  rw [h, drop_of (a := tl nm) (by simp [hn]), Wd.pickLoop, if_neg]
  rw [begins_of s nm hs, hb]; simp
theorem pick_next3 (s : ByteArray) (ss : List ByteArray) (k : Nat) (bg : Int) (cnt : Nat) (nm : ByteArray) (h : Wd.pick (tl s) (ss.map tl) = Wd.pickLoop (tl s) ((ss.map tl).drop k) k bg cnt) (hn : ss[k]? = some nm) (hs : nm.size = s.size)
    (hb : Wd.same (nm.extract 0 s.size).data.toList s.data.toList = true) :
    Wd.pick (tl s) (ss.map tl) = (k : Int) := by
  rw [h, drop_of (a := tl nm) (by simp [hn]), Wd.pickLoop, if_pos (by rw [begins_of s nm (by omega), hb]), if_pos (by rw [tl_length, tl_length, hs])]
theorem pick_next4 (s : ByteArray) (ss : List ByteArray) (k : Nat) (bg : Int) (cnt : Nat) (nm : ByteArray) (h : Wd.pick (tl s) (ss.map tl) = Wd.pickLoop (tl s) ((ss.map tl).drop k) k bg cnt) (hn : ss[k]? = some nm) (hs : ¬ nm.size < s.size) (hne : ¬ nm.size = s.size)
    (hb : Wd.same (nm.extract 0 s.size).data.toList s.data.toList = true) :
    Wd.pick (tl s) (ss.map tl) = Wd.pickLoop (tl s) ((ss.map tl).drop (k + 1)) (k + 1) k (cnt + 1) := by
  rw [h, drop_of (a := tl nm) (by simp [hn]), Wd.pickLoop, if_pos (by rw [begins_of s nm hs, hb]), if_neg (by rw [tl_length, tl_length]; exact hne)]
theorem pick_end (s : ByteArray) (ss : List ByteArray) (k : Nat) (bg : Int) (cnt : Nat) (h : Wd.pick (tl s) (ss.map tl) = Wd.pickLoop (tl s) ((ss.map tl).drop k) k bg cnt) (hk : ss.length = k) :
    Wd.pick (tl s) (ss.map tl) = if cnt = 1 then bg else -1 := by
  rw [h, List.drop_eq_nil_of_le (by simp; omega)]; rfl

end Go.Proofs.YthmhadgbhakdlaaDoor

/- The contracts of package word: the days of the week. -/
namespace Go.Proofs.YthmhadgbhakdlaaDoor
open Go.RowKit

def Days : List ByteArray := [⟨#[83, 117, 110, 100, 97, 121]⟩, ⟨#[77, 111, 110, 100, 97, 121]⟩, ⟨#[84, 117, 101, 115, 100, 97, 121]⟩, ⟨#[87, 101, 100, 110, 101, 115, 100, 97, 121]⟩, ⟨#[84, 104, 117, 114, 115, 100, 97, 121]⟩, ⟨#[70, 114, 105, 100, 97, 121]⟩, ⟨#[83, 97, 116, 117, 114, 100, 97, 121]⟩]
def strCells (l : List ByteArray) : Array Value := (l.map Value.string).toArray

theorem reads_new (w : World) (l : List ByteArray) (t : TypeId) : Reads (w.alloc (.cells (strCells l) t)) (w.alloc (.cells (strCells l) t)).heap.size 1 (some ⟨w.heap.size, 0, none⟩) l.length (l.map Value.string) := by
  refine ⟨by simp, fun _ => ⟨_, rfl, by simp, fun j u hu => ?_⟩⟩
  have h := cell_of_row (w.alloc (.cells (strCells l) t)) w.heap.size j (strCells l) t (0, 0) (heap_alloc_new w _)
  have e : (⟨w.heap.size, 0, none⟩ : Addr).add j = ⟨w.heap.size, j, none⟩ := by
    unfold Addr.add
    split
    · subst_vars; rfl
    · simp
  rw [e, h]
  simpa [strCells] using hu

/-- How a month, a day is written. -/
def textOf (l : List ByteArray) (i : Int) : ByteArray := if 0 ≤ i ∧ i < l.length then (l.getD i.toNat ByteArray.empty).extract 0 3 else ByteArray.empty

theorem textOf_out (l : List ByteArray) (i : Int) (h : ¬ (0 ≤ i ∧ i < l.length)) : textOf l i = ByteArray.empty := by unfold textOf; rw [if_neg h]
theorem days_len (k : Nat) (hk : k < 7) : ∃ nm, Days[k]? = some nm ∧ 3 ≤ nm.size ∧ textOf Days (k : Int) = nm.extract 0 3 := by
  have : k = 0 ∨ k = 1 ∨ k = 2 ∨ k = 3 ∨ k = 4 ∨ k = 5 ∨ k = 6 := by omega
  rcases this with rfl | rfl | rfl | rfl | rfl | rfl | rfl <;> exact ⟨_, rfl, by decide, rfl⟩

theorem cell_new (w : World) (l : List ByteArray) (t : TypeId) (k : Nat) (nm : ByteArray) (h : l[k]? = some nm) : (w.alloc (.cells (strCells l) t)).cell? ⟨w.heap.size, k, none⟩ = some (.string nm) := by
  rw [cell_of_row (w.alloc (.cells (strCells l) t)) w.heap.size k (strCells l) t (0, 0) (heap_alloc_new w _)]
  simp [strCells, h]

theorem day_text (n : Int) : (textOf Days n).toList.isEmpty = !(decide (0 ≤ n) && decide (n ≤ 6)) ∧ (textOf Days n).size ≤ maxLen ∧ (0 ≤ n ∧ n ≤ 6 → Wd.pick (tl (textOf Days n)) (Days.map tl) = n) := by
  by_cases h : 0 ≤ n ∧ n ≤ 6
  · have : n = 0 ∨ n = 1 ∨ n = 2 ∨ n = 3 ∨ n = 4 ∨ n = 5 ∨ n = 6 := by omega
    rcases this with rfl | rfl | rfl | rfl | rfl | rfl | rfl <;> exact ⟨by rw [ByteArray.toList_eq]; decide, by decide, fun _ => by decide⟩
  · rw [textOf_out Days n (by simp [Days]; omega)]
    refine ⟨?_, by decide, fun h' => absurd h' h⟩
    have : (decide (0 ≤ n) && decide (n ≤ 6)) = false := by simpa using h
    rw [this, ByteArray.toList_eq]; rfl
end Go.Proofs.YthmhadgbhakdlaaDoor
