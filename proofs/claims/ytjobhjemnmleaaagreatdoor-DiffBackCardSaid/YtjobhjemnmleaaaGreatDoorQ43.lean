/- What is known of pairs of zones: a map whose keys are two numbers. -/
import Derived.Test.YtjobhjemnmleaaaGreatDoorQ42
namespace Go.Proofs.YtjobhjemnmleaaaGreatDoor
open Go.RowKit
open Go.Maps Go.WideShapes Go.ChangeShapes Go.WideMaps
theorem keyOf_ints {P : Program} {k s : TypeId} {fs : Array Field} (hu : P.underlying k = some (.struct fs)) (hs : P.underlying s = some (.int .i64)) (hc : P.cellsOf k = 2) (hcs : P.cellsOf s = 1) (hkt : P.keyType k = true)
  (hf : fs.toList.map (fun f => (f.type, f.offset)) = [(s, 0), (s, 1)]) (hn : fs.all (·.name != "_") = true) (hsz : 1 ≤ P.types.size) (a b : Int) (ha : (Lit.int .i64 a).wf = true) (hb : (Lit.int .i64 b).wf = true) :
  keyOf P k (.agg #[.int .i64 a, .int .i64 b]) = some (Mp.kl ⟨(keyBytes [.int .i64 a, .int .i64 b]).toArray⟩) := by
 obtain ⟨d, hd⟩ : ∃ d, P.types.size = d + 1 := ⟨P.types.size - 1, by omega⟩
 have hform : (Value.agg #[.int .i64 a, .int .i64 b]).formed P k = true := by simp [Value.formed, hu, hc]
 have hlits : P.keyLits (P.types.size + 1) k (Value.agg #[.int .i64 a, .int .i64 b]).cells.toList = some [.int .i64 a, .int .i64 b] := by
  unfold Program.keyLits;simp only [hu];have e1 : ((Value.agg #[.int .i64 a, .int .i64 b]).cells.toList) = [.int .i64 a, .int .i64 b] := rfl;rw [e1, if_pos ⟨by rw [hc]; rfl, hn⟩];have e2 : ∀ l : List Field, l.map (fun f => (f.type, f.offset)) = [(s, 0), (s, 1)] → (l.mapM fun f => P.keyLits P.types.size f.type (([Value.int .i64 a, Value.int .i64 b].drop f.offset).take (P.cellsOf f.type))) = some [[.int .i64 a], [.int .i64 b]] := by
   intro l hl;obtain ⟨f0, f1, rfl⟩ : ∃ f0 f1, l = [f0, f1] := two_of (by have := congrArg List.length hl; simpa using this)
   ·simp only [List.map_cons, List.map_nil, List.cons.injEq, Prod.mk.injEq, and_true] at hl;obtain ⟨⟨h1, h2⟩, h3, h4⟩ := hl;simp [h1, h2, h3, h4, hcs, hd, Program.keyLits, hs, ha, hb]
  rw [e2 _ hf];rfl
 unfold keyOf;simp only [hu];rw [hkt, hform, hlits];rfl
theorem pair_cells : Tryz.prog.cellsOf 127 = 2 := by kernel_rfl
theorem pair_laid : laidOutB Tryz.prog = true := by kernel_rfl
theorem pair_keyed : Keyed Tryz.prog 127 :=
 Keyed.of_law (deep_law_laid pair_laid (m := 3) (by omega) (of_decide_eq_true (by kernel_rfl)) (by kernel_rfl) (by rw [Tryz.underlying127]))
namespace Df
def pb (i j : Int) : ByteArray := ⟨(keyBytes [.int .i64 i, .int .i64 j]).toArray⟩
theorem lit_wf {i : Int} (h : 0 ≤ i ∧ i < 100000) : (Lit.int .i64 i).wf = true := by
 simp [Lit.wf, IntKind.min, IntKind.max, IntKind.signed, IntKind.bits]
 omega
theorem pb_inj {i j i' j' : Int} (hi : 0 ≤ i ∧ i < 100000) (hj : 0 ≤ j ∧ j < 100000) (hi' : 0 ≤ i' ∧ i' < 100000) (hj' : 0 ≤ j' ∧ j' < 100000) (h : pb i j = pb i' j') : i = i' ∧ j = j' := by
 unfold pb at h;have h2 : keyBytes [.int .i64 i, .int .i64 j] = keyBytes [.int .i64 i', .int .i64 j'] := by
  have := congrArg (fun b : ByteArray => b.data.toList) h;simpa using this
 have h3 := keyBytes_inj (l := [.int .i64 i, .int .i64 j]) (l' := [.int .i64 i', .int .i64 j']) ⟨rfl, rfl, trivial⟩ (fun a ha => by
  simp only [List.mem_cons, List.not_mem_nil, or_false] at ha;rcases ha with rfl | rfl
  ·exact lit_wf hi
  ·exact lit_wf hj) (fun a ha => by
  simp only [List.mem_cons, List.not_mem_nil, or_false] at ha;rcases ha with rfl | rfl
  ·exact lit_wf hi'
  ·exact lit_wf hj') h2
 simp only [List.cons.injEq, Lit.int.injEq, true_and, and_true] at h3;exact h3
theorem pair_key (i j : Int) (hi : 0 ≤ i ∧ i < 100000) (hj : 0 ≤ j ∧ j < 100000) : keyOf Tryz.prog 127 (.agg #[.int .i64 i, .int .i64 j]) = some (Mp.kl (pb i j)) :=
 keyOf_ints Tryz.underlying127 Tryz.underlying3 pair_cells (by kernel_rfl) (by kernel_rfl) rfl (by kernel_rfl) (of_decide_eq_true (by kernel_rfl)) i j (lit_wf hi) (lit_wf hj)
def fv (o : Option Int) : Value := .agg #[.int .i64 (fp o).1, .bool (fp o).2]
def Memo (G : Int → Int → Option Int) (f : Mp.Fn) : Prop := ∀ i j : Int, 0 ≤ i ∧ i < 100000 → 0 ≤ j ∧ j < 100000 → f (pb i j) = none ∨ f (pb i j) = some (fv (G i j))
theorem Memo.start (G : Int → Int → Option Int) : Memo G (fun _ => none) := fun _ _ _ _ => .inl rfl
theorem Memo.put {G : Int → Int → Option Int} {f : Mp.Fn} (h : Memo G f) {i j : Int} (hi : 0 ≤ i ∧ i < 100000) (hj : 0 ≤ j ∧ j < 100000) : Memo G (Mp.put f (pb i j) (fv (G i j))) := by
 intro i' j' hi' hj'
 by_cases e : pb i' j' = pb i j
 ·obtain ⟨e1, e2⟩ := pb_inj hi' hj' hi hj e;subst e1;subst e2;rw [Mp.put_same];exact .inr rfl
 ·rw [Mp.put_other _ _ _ e];exact h i' j' hi' hj'
theorem zero_found (W : World) : (zeroValue 131).run Tryz.prog W = .ok (.agg #[.int .i64 0, .bool false]) W := by kernel_rfl
section
variable (w : World) {ops : Array Oper} {rest : List Oper} {o : Oper} {a : Act} {Q : Exit → Act → World → Prop}
theorem look_pair (hg : o.guard = none) (m x : Operand) (b n : Nat) (f : Mp.Fn) (i j : Int) (hi : 0 ≤ i ∧ i < 100000) (hj : 0 ≤ j ∧ j < 100000) (hop : o.op = Op.lookup 125 m x true)
  (hm : a.eval m = .map (some b)) (hx : a.eval x = .agg #[.int .i64 i, .int .i64 j]) (h : MapF Tryz.prog 127 w b n f) (v : Value) (q : Bool) (hv : (f (pb i j)).getD (.agg #[.int .i64 0, .bool false]) = v) (hq : (f (pb i j)).isSome = q)
  (hK : wpList Tryz.prog ops Q rest (a.put o.dst (.tuple #[v, .bool q])) w) : wpList Tryz.prog ops Q (o :: rest) a w := by
 refine wpList_look_okK w hg m x 125 127 131 hop pair_keyed Tryz.underlying125 zero_found b n f _ (pb i j) (pair_key i j hi hj) hm hx h ?_;rw [hv, hq];exact hK
theorem store_pair (hg : o.guard = none) (m x v : Operand) (b n : Nat) (f : Mp.Fn) (i j : Int) (hi : 0 ≤ i ∧ i < 100000) (hj : 0 ≤ j ∧ j < 100000) (hn : n < maxLen) (u : Value) (hop : o.op = Op.mapUpdate 125 m x v)
  (hm : a.eval m = .map (some b)) (hx : a.eval x = .agg #[.int .i64 i, .int .i64 j]) (hv : a.eval v = u) (h : MapF Tryz.prog 127 w b n f)
  (hK : ∀ w', MapF Tryz.prog 127 w' b (n + 1) (Mp.put f (pb i j) u) → w.grownBy w' (some b) → wpList Tryz.prog ops Q rest (a.put o.dst undef) w') : wpList Tryz.prog ops Q (o :: rest) a w := by
 refine wpList_storeK w hg m x v 125 127 131 hop pair_keyed Tryz.underlying125 b n f _ (pb i j) (pair_key i j hi hj) hn u hm hx hv h ?_;intro w' hM hg';exact hK w' hM hg'
end
theorem leads_zone {s : Src.S} (h : Vd.well s = true) {x : ByteArray} (hx : x ∈ Src.names s) : ∃ (k : Nat) (z : Src.Txt × List Er.E), (Lk.walk s x).2 = ((k : Int), 0) ∧ s.zones[k]? = some z ∧ Eg.zoneAt s (k : Int) = some z ∧ eras s x = z.2 := by
 obtain ⟨n, p, hd⟩ := Lk.leads_ds (Vd.well_leads h x hx);have hlt := Lk.ds_lt hd;have hz : s.zones[p]? = some s.zones[p] := List.getElem?_eq_getElem hlt;have hw := Lk.walk_ds hd;refine ⟨p, s.zones[p], hw, hz, ?_, ?_⟩
 ·unfold Eg.zoneAt;rw [if_pos (by omega)];exact hz
 ·unfold eras;rw [hw];show ((s.zones[((p : Int)).toNat]?).getD _).2 = _
  rw [show ((p : Int)).toNat = p by omega, hz];rfl
def pairOf (s t : Src.S) (lo hi : Int) (i j : Int) : Option Int := first (Ln.lineOf s ((s.zones[i.toNat]?).getD ([], [])).2 lo hi) (Ln.lineOf t ((t.zones[j.toNat]?).getD ([], [])).2 lo hi)
structure Cx (gA bA bB : Nat) (sa sb : List Value) (la lb : List ByteArray) (Bn : Nat) (lv : Value) (l : List ByteArray) (w : World) : Prop where
 a : At w gA sa
 b : At w (gA + 1) sb
 ma : ∃ n, MapF Tryz.prog 9 w bA n (Hv.sf la)
 mb : ∃ n, MapF Tryz.prog 9 w bB n (Hv.sf lb)
 row : w.ownsRow Bn 9 1 lv l.length (l.map Value.string)
theorem Cx.grown {gA bA bB : Nat} {sa sb : List Value} {la lb : List ByteArray} {Bn : Nat} {lv : Value} {l : List ByteArray} {w w' : World} (h : Cx gA bA bB sa sb la lb Bn lv l w) {row : Option Nat} (hg : w.grownBy w' row)
  (hr : row ≠ some gA ∧ row ≠ some (gA + 1) ∧ row ≠ some bA ∧ row ≠ some bB ∧ ∀ g, lv.ownBlock = some g → row ≠ some g) : Cx gA bA bB sa sb la lb Bn lv l w' :=
 ⟨at_grown h.a hg hr.1, at_grown h.b hg hr.2.1, h.ma.imp fun _ q => q.kept hg (fun e => hr.2.2.1 e.symm), h.mb.imp fun _ q => q.kept hg (fun e => hr.2.2.2.1 e.symm), own_kept h.row hg hr.2.2.2.2⟩
theorem Cx.call {gA bA bB : Nat} {sa sb : List Value} {la lb : List ByteArray} {Bn : Nat} {lv : Value} {l : List ByteArray} {w w' : World} (h : Cx gA bA bB sa sb la lb Bn lv l w) (hb : Below w.heap.size w w') : Cx gA bA bB sa sb la lb Bn lv l w' :=
 ⟨h.a.call hb, h.b.call hb, h.ma.imp fun _ q => q.below hb, h.mb.imp fun _ q => q.below hb, own_call h.row hb⟩
def ChRet (s t : Src.S) (lo hi : Int) (w : World) (e : Ending) (w' : World) : Prop := Below w.heap.size w w' ∧
  ((¬ (Vd.well s = true ∧ Vd.well t = true) ∧ e = .returned (.tuple #[.slice none 0 0, .int .i64 2])) ∨
   (Vd.well s = true ∧ Vd.well t = true ∧ ¬ Ln.InY lo hi ∧ e = .returned (.tuple #[.slice none 0 0, .int .i64 1])) ∨
   (Vd.well s = true ∧ Vd.well t = true ∧ Ln.InY lo hi ∧ ∃ v, e = .returned (.tuple #[v, .int .i64 0]) ∧ w'.ownsRow w.heap.size 37 3 v (changes s t lo hi).length ((changes s t lo hi).flatMap Ch.cells)))
def upto (s t : Src.S) (lo hi : Int) (k : Nat) : List Ch := ((names s t).take k).filterMap (ch s t lo hi)
theorem upto_next {s t : Src.S} {lo hi : Int} {k : Nat} {x : ByteArray} (h : (names s t)[k]? = some x) : upto s t lo hi (k + 1) = upto s t lo hi k ++ (ch s t lo hi x).toList := by
 unfold upto;rw [Hv.take_next h, List.filterMap_append]
 congr 1
theorem upto_len (s t : Src.S) (lo hi : Int) (k : Nat) : (upto s t lo hi k).length ≤ k := by
 unfold upto;have h1 := List.length_filterMap_le (ch s t lo hi) ((names s t).take k);have h2 := List.length_take_le k (names s t);omega
end Df
theorem change_info : (Tryz.prog.info? 37).map (fun i => (i.zero, i.size, i.bytes)) = some (some (.agg #[.string ⟨#[]⟩, .int .i64 0, .int .i64 0]), 3, 32) := by kernel_rfl
end Go.Proofs.YtjobhjemnmleaaaGreatDoor
