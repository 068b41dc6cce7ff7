/- finder.find: where a name leads, and by which names that were not known. -/
import Derived.Test.YtajcgoinhpengaaDoorP17
import Derived.Deep.CutBlock
import Derived.OneCell
import Derived.Deep.DeepCutAuto

namespace Go.Proofs.YtajcgoinhpengaaDoor
open Go.RowKit

section
variable {a b c : World} {row row' : Option Nat}
theorem gb_then (h : a.grownBy b row) (k : b.grownBy c row') (hr : ∀ j, row' = some j → a.heap.size ≤ j ∨ row = some j) : a.grownBy c row :=
  ⟨k.os.trans h.os, k.tape.trans h.tape, k.output.trans h.output, Nat.le_trans h.size k.size, fun i hi hne => (k.block i (Nat.lt_of_lt_of_le hi h.size) (fun e => by
    rcases hr i e.symm with h1 | h1
    · omega
    · exact hne h1.symm)).trans (h.block i hi hne)⟩
theorem gb_alloc (h : a.grownBy b row) (o : Obj) : a.grownBy (b.alloc o) row := gb_then h (World.grownBy_alloc b o none) (fun j e => by cases e)
theorem gb_drew (h : a.grownBy b row) : a.grownBy b.drew row := ⟨h.os, h.tape, h.output, h.size, h.block⟩
theorem gb_set (h : a.grownBy b row) {p : Addr} (hp : a.heap.size ≤ p.block) (v : Value) : a.grownBy (b.setCell p v) row :=
  ⟨h.os, h.tape, h.output, by rw [heap_set]; exact h.size, fun i hi hne => (Below.heap_setCell b p v i (by omega)).trans (h.block i hi hne)⟩
end
theorem MapF.not_cells {P : Program} {k : TypeId} {w : World} {b n : Nat} {f : Mp.Fn} (h : MapF P k w b n f) : ∃ o : Obj, w.heap[b]? = some o ∧ o.isCells = false := by
  obtain ⟨D, ⟨es, clock, hb, _⟩, _⟩ := h
  exact ⟨_, hb, rfl⟩
theorem MapF.keeps {P : Program} {k : TypeId} {w w' : World} {b n : Nat} {f : Mp.Fn} (h : MapF P k w b n f) (hg : w.grownBy w' (some b)) {p : Addr} {v : Value} (hc : w.cell? p = some v) : w'.cell? p = some v :=
  cell_kept hc hg (fun r e => by cases e; exact h.not_cells)
theorem Reads.beside {P : Program} {k : TypeId} {w w' : World} {b n : Nat} {f : Mp.Fn} {B size m : Nat} {A : Option Addr} {xs : List Value} (hr : Reads w B size A m xs) (h : MapF P k w b n f) (hg : w.grownBy w' (some b)) : Reads w' B size A m xs :=
  ⟨hr.1, fun hn => by
    obtain ⟨ad, e, hb, hc⟩ := hr.2 hn
    exact ⟨ad, e, hb, fun j u hu => h.keeps hg (hc j u hu)⟩⟩
theorem At.ne_map {P : Program} {k : TypeId} {w : World} {b n g : Nat} {f : Mp.Fn} {x : Value} {xs : List Value} (hA : At w g (x :: xs)) (h : MapF P k w b n f) : g ≠ b := by
  intro e
  subst e
  obtain ⟨o, ho, hc⟩ := h.not_cells
  obtain ⟨o', ho', hc'⟩ := cells_of_cell (hA.cell 0 x rfl)
  rw [show (⟨g, 0, none⟩ : Addr).block = g from rfl, ho] at ho'
  cases ho'
  rw [hc] at hc'
  cases hc'
set_option maxRecDepth 100000 in
/-- An append of one text. -/
theorem name_append {ops : Array Oper} {rest : List Oper} {o : Oper} {a : Act} {Q : Exit → Act → World → Prop} (W : World) (B n : Nat) (xs : List Value) (v : Value) (s : ByteArray) (x y : Nat)
    (hO : W.ownsRow B 9 1 v n xs) (hl : n ≤ 2000000) (hB : B ≤ W.heap.size) (hgd : o.guard = none)
    (ho : o.op = .call { callee := .builtin .append, args := #[.tmp x, .tmp y], argTypes := #[34, 34] }) (hs : a.eval (.tmp x) = v) (hx : a.eval (.tmp y) = .slice (some ⟨W.heap.size, 0, none⟩) 1 1)
    (h : ∀ v' w', w'.ownsRow B 9 1 v' (n + 1) (xs ++ [.string s]) → Below B W w' → (∀ g xs, At W g xs → v.ownBlock ≠ some g → At w' g xs ∧ v'.ownBlock ≠ some g) → (W.alloc (.cells #[.string s] 9)).grownBy w' v.ownBlock → wpList Tryd.prog ops Q rest (a.put o.dst v') w') :
    wpList Tryd.prog ops Q (o :: rest) a (W.alloc (.cells #[.string s] 9)) := by
  obtain ⟨i0, hi0, hz0, hz1, hz2⟩ : ∃ i, Tryd.prog.info? 9 = some i ∧ i.zero = some (.string ⟨#[]⟩) ∧ i.size = 1 ∧ i.bytes = 16 := by
    have h : (Tryd.prog.info? 9).map (fun i => (i.zero, i.size, i.bytes)) = some (some (.string ⟨#[]⟩), 1, 16) := by kernel_rfl
    cases hc : Tryd.prog.info? 9 with
    | none => rw [hc] at h; cases h
    | some i =>
      rw [hc] at h
      simp only [Option.map_some, Option.some.injEq, Prod.mk.injEq] at h
      exact ⟨i, rfl, h.1, h.2.1, h.2.2⟩
  have hR : Reads (W.alloc (.cells #[.string s] 9)) (W.heap.size + 1) 1 (some ⟨W.heap.size, 0, none⟩) 1 [.string s] := by
    refine ⟨by simp, fun _ => ⟨_, rfl, Nat.lt_succ_self _, fun j u hu => ?_⟩⟩
    have e : (⟨W.heap.size, 0, none⟩ : Addr).add j = ⟨W.heap.size, j, none⟩ := by
      unfold Addr.add
      split
      · subst_vars; rfl
      · simp
    rw [e]
    exact (At.new W #[.string s] 9).cell j u hu
  refine wpList_append_any (P := Tryd.prog) _ hgd (.tmp x) (.tmp y) 34 ho B 9 i0 _ 1 16 Tryd.underlying34 hi0 hz0 hz1 hz2 rfl (by omega) v n xs hs (hO.alloc _) (W.heap.size + 1) _ 1 1 _ hx hR (by simp [Value.oneCell']) (by unfold maxLen; omega) (by omega) (by rw [World.size_alloc]; omega) ?_
  intro v' w' hown hg hat
  refine h v' w' hown (((Below.refl B W).alloc hB _).grown hg (by rw [World.size_alloc]; omega) (fun g e => (hO.lt g e).1)) ?_ hg
  intro g xs hA hne
  have hA' := hA.allocO (.cells #[.string s] 9)
  refine ⟨⟨Nat.lt_of_lt_of_le hA'.1 hg.size, fun i v hi => ⟨(World.cell?_of_block (a := ⟨g, i, none⟩) (hg.block g hA'.1 (fun e => hne e.symm))).trans (hA'.2 i v hi).1, (World.frozen?_of_block (a := ⟨g, i, none⟩) (hg.block g hA'.1 (fun e => hne e.symm))).trans (hA'.2 i v hi).2⟩⟩, ?_⟩
  rcases hat with e | e
  · rw [e]; exact hne
  · rw [e, World.size_alloc]
    intro e2
    have := hA.lt
    injection e2 with e2
    omega
theorem Lk.at_kept {w w' : World} {g : Nat} {xs : List Value} {row : Option Nat} (h : At w g xs) (hg : w.grownBy w' row) (hne : some g ≠ row) : At w' g xs :=
  ⟨Nat.lt_of_lt_of_le h.1 hg.size, fun i v hi => ⟨(World.cell?_of_block (a := ⟨g, i, none⟩) (hg.block g h.1 hne)).trans (h.2 i v hi).1, (World.frozen?_of_block (a := ⟨g, i, none⟩) (hg.block g h.1 hne)).trans (h.2 i v hi).2⟩⟩
theorem Lk.at_kept2 {P : Program} {k : TypeId} {w w' : World} {g b n : Nat} {x : Value} {xs : List Value} {f : Mp.Fn} (h : At w g (x :: xs)) (hm : MapF P k w b n f) (hg : w.grownBy w' (some b)) : At w' g (x :: xs) :=
  Lk.at_kept h hg (fun e => h.ne_map hm (by injection e))
def nameLen (v : Value) : Nat := match v with | .slice _ n _ => n | _ => 0
/-- Where the search stands at a round's begin. -/
structure Lk.FAt (s : Src.S) (w : World) (h bk n : Nat) (K : Lk.Kn) (x : ByteArray) (y v b : Value) (wr : World) : Prop where
  st : ∃ (name : ByteArray) (done : List ByteArray) (f : Nat), y = .string name ∧ name.size ≤ maxLen ∧ f + 1 + done.length = s.links.length + 1 + 1 ∧ done.Nodup ∧ (∀ d ∈ done, d ∈ Lk.ln s) ∧
    wr.ownsRow w.heap.size 9 1 v done.length (done.map Value.string) ∧
    Lk.find (Lk.zn s) (Lk.ln s) (Lk.tg s) (s.links.length + 1) K x = (done ++ (Lk.find (Lk.zn s) (Lk.ln s) (Lk.tg s) f (Lk.marks K done Lk.loop) name).1, (Lk.find (Lk.zn s) (Lk.ln s) (Lk.tg s) f (Lk.marks K done Lk.loop) name).2) ∧
    b = .bool (Lk.marks K done Lk.loop name).isSome ∧
    At wr (h + 1) [.int .i64 ((Lk.marks K done Lk.loop name).getD (0, 0)).1, .int .i64 ((Lk.marks K done Lk.loop name).getD (0, 0)).2] ∧
    MapF Tryd.prog 9 wr bk (n + done.length) (Lk.kf (Lk.marks K done Lk.loop))
  res : At wr h [.int .i64 0, .int .i64 0]
  own : ∀ g, v.ownBlock = some g → g ≠ h ∧ g ≠ h + 1
  gb : w.grownBy wr (some bk)
/-- Behind the search. -/
structure Lk.FEnd (s : Src.S) (w : World) (h bk n : Nat) (K : Lk.Kn) (r : List ByteArray × Lk.Fd) (v : Value) (wr : World) : Prop where
  row : wr.ownsRow w.heap.size 9 1 v r.1.length (r.1.map Value.string)
  end_ : At wr (h + 1) [.int .i64 r.2.1, .int .i64 r.2.2]
  map : MapF Tryd.prog 9 wr bk (n + r.1.length) (Lk.kf (Lk.marks K r.1 Lk.loop))
  res : At wr h [.int .i64 0, .int .i64 0]
  own : ∀ g, v.ownBlock = some g → g ≠ h ∧ g ≠ h + 1
  gb : w.grownBy wr (some bk)
/-- What finder.find hands back, R being what is found. -/
def Lk.FdR (s : Src.S) (lv : Value) (g bz bl bk n : Nat) (K : Lk.Kn) (R : List ByteArray × Lk.Fd) (w : World) (e : Ending) (w' : World) : Prop :=
  (∃ A c, e = .returned (.tuple #[.slice A R.1.length c, .agg #[.int .i64 R.2.1, .int .i64 R.2.2]]) ∧ Reads w' w'.heap.size 1 A R.1.length (R.1.map Value.string)) ∧
  Lk.Fr s lv w' g bz bl bk (n + R.1.length + R.1.length) (Lk.kf (Lk.marks K R.1 R.2)) ∧ w.grownBy w' (some bk)
/-- Where the chain's names are told: k of them. -/
structure Lk.SAt (s : Src.S) (w : World) (h bk n : Nat) (K : Lk.Kn) (R : List ByteArray × Lk.Fd) (A : Option Addr) (L c : Nat) (i : Value) (wr : World) : Prop where
  st : ∃ k : Nat, k ≤ L ∧ i = .int .i64 k ∧ MapF Tryd.prog 9 wr bk (n + L + k) (Lk.kf (Lk.marks (Lk.marks K R.1 Lk.loop) (R.1.take k) R.2))
  row : wr.ownsRow w.heap.size 9 1 (.slice A L c) L (R.1.map Value.string)
  end_ : At wr (h + 1) [.int .i64 R.2.1, .int .i64 R.2.2]
  res : At wr h [.int .i64 0, .int .i64 0]
  gb : w.grownBy wr (some bk)
theorem Lk.find_len (zn ln tg : List ByteArray) : ∀ (f : Nat) (K : Lk.Kn) (x : ByteArray), (Lk.find zn ln tg f K x).1.length ≤ f
  | 0, _, _ => Nat.le_refl _
  | f + 1, K, x => by
    unfold Lk.find
    split
    · exact Nat.zero_le _
    · split
      · simp
      · split
        · simp
        · have := Lk.find_len zn ln tg f
          simp only [List.length_cons]
          exact Nat.succ_le_succ (this _ _)
theorem Lk.find_size (zn ln tg : List ByteArray) : ∀ (f : Nat) (K : Lk.Kn) (x : ByteArray), x.size ≤ maxLen → (∀ y ∈ tg, y.size ≤ maxLen) → ∀ y ∈ (Lk.find zn ln tg f K x).1, y.size ≤ maxLen
  | 0, _, _, _, _ => fun y hy => by cases hy
  | f + 1, K, x, hx, ht => by
    unfold Lk.find
    split
    · exact fun y hy => by cases hy
    · split
      · intro y hy
        have : y = x := by simpa using hy
        rw [this]; exact hx
      · split
        · intro y hy
          have : y = x := by simpa using hy
          rw [this]; exact hx
        · rename_i j _
          intro y hy
          simp only [List.mem_cons] at hy
          rcases hy with rfl | hy
          · exact hx
          · refine Lk.find_size zn ln tg f _ _ ?_ ht y hy
            rw [List.getD]
            cases hj : tg[j]? with
            | none => exact Nat.zero_le _
            | some z => exact ht z (List.mem_of_getElem? hj)
theorem nameLen_own {w : World} {base : Nat} {e : TypeId} {size n : Nat} {v : Value} {xs : List Value} (h : w.ownsRow base e size v n xs) : nameLen v = n := by
  obtain ⟨A, c, rfl, _⟩ := own_slice h
  rfl
theorem store_run {w : World} {b n : Nat} {K : Lk.Kn} (h : MapF Tryd.prog 9 w b n (Lk.kf K)) {s : ByteArray} (hs : s.size ≤ maxLen) (hn : n < maxLen) (e : Lk.Fd) :
    ∃ w', (Instr.mapUpdate 118 (.map (some b)) (.string s) (.agg #[.int .i64 e.1, .int .i64 e.2])).run Tryd.prog w = .ok () w' ∧ MapF Tryd.prog 9 w' b (n + 1) (Lk.kf (Lk.mark K s e)) ∧ w.grownBy w' (some b) := by
  obtain ⟨D, hD, hf⟩ := h
  obtain ⟨w', hrun, hD', hg'⟩ := hD.update (Maps.string_keyed Tryd.underlying9) Tryd.underlying118 hn (WideMaps.keyOf_string_mk Tryd.underlying9 hs) (val := .agg #[.int .i64 e.1, .int .i64 e.2]) (d := .held (.agg #[.int .i64 e.1, .int .i64 e.2])) (ps := []) rfl
  have := MapF.put_ hD hf hD'
  rw [Lk.kf_put] at this
  exact ⟨w', hrun, this, hg'⟩
theorem Lk.fend {s : Src.S} {w w10 : World} {h bk n : Nat} {K : Lk.Kn} {R : List ByteArray × Lk.Fd} {done : List ByteArray} {name : ByteArray} {e : Lk.Fd} {v9 : Value} {a b : Value} (hh : w.heap.size = h) (hkl : bk < w.heap.size) (hEq : (done ++ [name], e) = R)
    (hOb : w10.ownsRow w.heap.size 9 1 v9 (done.length + 1) (done.map Value.string ++ [.string name])) (hMb : MapF Tryd.prog 9 w10 bk (n + done.length + 1) (Lk.kf (Lk.mark (Lk.marks K done Lk.loop) name Lk.loop)))
    (hEb : At w10 (h + 1) [a, b]) (hRb : At w10 h [.int .i64 0, .int .i64 0]) (hva : v9.ownBlock ≠ some (h + 1)) (hvb : v9.ownBlock ≠ some h) (gbb : w.grownBy w10 (some bk)) :
    Lk.FEnd s w h bk n K R v9 ((w10.setCell ⟨h + 1, 0, none⟩ (.int .i64 e.1)).setCell ⟨h + 1, 1, none⟩ (.int .i64 e.2)) := by
  subst hEq
  refine ⟨?_, ?_, ?_, ?_, ?_, ?_⟩
  · rw [List.length_append, List.map_append]
    exact ownsRow_setCell_other (ownsRow_setCell_other hOb (a := ⟨h + 1, 0, none⟩) hva _) (a := ⟨h + 1, 1, none⟩) hva _
  · exact (hEb.set 0 _).set 1 _
  · rw [Lk.marks_snoc] at hMb
    rw [List.length_append]
    exact (hMb.setCell (a := ⟨h + 1, 0, none⟩) (by show bk ≠ h + 1; omega) _).setCell (a := ⟨h + 1, 1, none⟩) (by show bk ≠ h + 1; omega) _
  · exact (hRb.set_other ⟨h + 1, 0, none⟩ _ (by show h + 1 ≠ h; omega)).set_other ⟨h + 1, 1, none⟩ _ (by show h + 1 ≠ h; omega)
  · intro g' e'
    exact ⟨fun x => hvb (by rw [e', x]), fun x => hva (by rw [e', x])⟩
  · exact gb_set (gb_set gbb (p := ⟨h + 1, 0, none⟩) (by show w.heap.size ≤ h + 1; omega) _) (p := ⟨h + 1, 1, none⟩) (by show w.heap.size ≤ h + 1; omega) _
end Go.Proofs.YtajcgoinhpengaaDoor

/- The walk of finder.find. -/
namespace Go.Proofs.YtajcgoinhpengaaDoor
open Go.RowKit

theorem zero_found (W : World) : (zeroValue 90).run Tryd.prog W = .ok (.agg #[.int .i64 0, .int .i64 0]) W := by kernel_rfl
theorem zero_int (W : World) : (zeroValue 3).run Tryd.prog W = .ok (.int .i64 0) W := by kernel_rfl
theorem look_kf (w : World) {ops : Array Oper} {rest : List Oper} {o : Oper} {a : Act} {Q : Exit → Act → World → Prop} (hg : o.guard = none) (m x : Operand) (b n : Nat) (K : Lk.Kn) (s : ByteArray) (hs : s.size ≤ maxLen) (hop : o.op = Op.lookup 118 m x true)
    (hm : a.eval m = .map (some b)) (hx : a.eval x = .string s) (h : MapF Tryd.prog 9 w b n (Lk.kf K))
    (hK : wpList Tryd.prog ops Q rest (a.put o.dst (.tuple #[.agg #[.int .i64 ((K s).getD (0, 0)).1, .int .i64 ((K s).getD (0, 0)).2], .bool (K s).isSome])) w) : wpList Tryd.prog ops Q (o :: rest) a w := by
  refine wpList_look_ok w hg m x 118 9 90 hop Tryd.underlying9 Tryd.underlying118 zero_found b n (Lk.kf K) s hs hm hx h ?_
  have e1 : (Lk.kf K s).getD (.agg #[.int .i64 0, .int .i64 0]) = .agg #[.int .i64 ((K s).getD (0, 0)).1, .int .i64 ((K s).getD (0, 0)).2] := by
    unfold Lk.kf
    cases K s <;> rfl
  have e2 : (Lk.kf K s).isSome = (K s).isSome := by
    unfold Lk.kf
    cases K s <;> rfl
  rw [e1, e2]
  exact hK
theorem look_pl_yes (w : World) {ops : Array Oper} {rest : List Oper} {o : Oper} {a : Act} {Q : Exit → Act → World → Prop} (hg : o.guard = none) (m x : Operand) (b n : Nat) (ns : List ByteArray) (s : ByteArray) (hs : s.size ≤ maxLen) (i : Nat) (hi : Lk.first ns s = some i) (hop : o.op = Op.lookup 105 m x true)
    (hm : a.eval m = .map (some b)) (hx : a.eval x = .string s) (h : MapF Tryd.prog 9 w b n (Lk.places ns))
    (hK : wpList Tryd.prog ops Q rest (a.put o.dst (.tuple #[.int .i64 (i : Int), .bool true])) w) : wpList Tryd.prog ops Q (o :: rest) a w :=
  wpList_look_yes w hg m x 105 9 3 hop Tryd.underlying9 Tryd.underlying105 zero_int b n _ s hs hm hx h (.int .i64 (i : Int)) (by unfold Lk.places; rw [hi]; rfl) hK
theorem look_pl_no (w : World) {ops : Array Oper} {rest : List Oper} {o : Oper} {a : Act} {Q : Exit → Act → World → Prop} (hg : o.guard = none) (m x : Operand) (b n : Nat) (ns : List ByteArray) (s : ByteArray) (hs : s.size ≤ maxLen) (hi : Lk.first ns s = none) (hop : o.op = Op.lookup 105 m x true)
    (hm : a.eval m = .map (some b)) (hx : a.eval x = .string s) (h : MapF Tryd.prog 9 w b n (Lk.places ns))
    (hK : wpList Tryd.prog ops Q rest (a.put o.dst (.tuple #[.int .i64 0, .bool false])) w) : wpList Tryd.prog ops Q (o :: rest) a w :=
  wpList_look_no w hg m x 105 9 3 hop Tryd.underlying9 Tryd.underlying105 zero_int b n _ s hs hm hx h (by unfold Lk.places; rw [hi]; rfl) hK
theorem store_kf (w : World) {ops : Array Oper} {rest : List Oper} {o : Oper} {a : Act} {Q : Exit → Act → World → Prop} (hg : o.guard = none) (m x v : Operand) (b n : Nat) (K : Lk.Kn) (s : ByteArray) (hs : s.size ≤ maxLen) (hn : n < maxLen) (e : Lk.Fd) (hop : o.op = Op.mapUpdate 118 m x v)
    (hm : a.eval m = .map (some b)) (hx : a.eval x = .string s) (hv : a.eval v = .agg #[.int .i64 e.1, .int .i64 e.2]) (h : MapF Tryd.prog 9 w b n (Lk.kf K))
    (hK : ∀ w', MapF Tryd.prog 9 w' b (n + 1) (Lk.kf (Lk.mark K s e)) → w.grownBy w' (some b) → wpList Tryd.prog ops Q rest (a.put o.dst undef) w') : wpList Tryd.prog ops Q (o :: rest) a w := by
  refine wpList_store w hg m x v 118 9 90 hop Tryd.underlying9 Tryd.underlying118 b n (Lk.kf K) s hs hn _ hm hx hv h ?_
  intro w' hM hg'
  rw [Lk.kf_put] at hM
  exact hK w' hM hg'
set_option maxHeartbeats 16000000 in
set_option maxRecDepth 100000 in
theorem find_any (s : Src.S) (lv : Value) (g bz bl bk n : Nat) (K : Lk.Kn) (x : ByteArray) (w : World) (hF : Lk.Fr s lv w g bz bl bk n (Lk.kf K)) (hR : Src.RowR w w.heap.size 2 s.links.length lv (s.links.flatMap Src.lc))
    (hl : s.links.length ≤ 1000000) (hn : n ≤ 1000000) (hx : x.size ≤ maxLen) (hsz : ∀ k ∈ s.links, k.1.length ≤ maxLen) :
    Calls Tryd.prog 40 #[.pointer (some ⟨g, 0, none⟩), .string x] w (Lk.FdR s lv g bz bl bk n K (Lk.find (Lk.zn s) (Lk.ln s) (Lk.tg s) (s.links.length + 1) K x) w) := by
  obtain ⟨hg, hz, hlm, hk, ne1, ne2⟩ := hF
  obtain ⟨lA, lc, rfl, _, _, hrl⟩ := hR
  obtain ⟨h, hh⟩ : ∃ h, w.heap.size = h := ⟨_, rfl⟩
  have hgm := hg.ne_map hk
  have hgl := hg.lt
  have hkl := hk.lt
  have HGS : Hid (∀ W, w.grownBy W (some bk) → (W.cell? ⟨g, 0, none⟩ = some (.slice lA s.links.length lc) ∧ W.cell? ⟨g, 1, none⟩ = some (.map (some bz)) ∧ W.cell? ⟨g, 2, none⟩ = some (.map (some bl)) ∧ W.cell? ⟨g, 3, none⟩ = some (.map (some bk))) ∧
      MapF Tryd.prog 9 W bz s.zones.length (Lk.places (Lk.zn s)) ∧ MapF Tryd.prog 9 W bl s.links.length (Lk.places (Lk.ln s))) := fun W hgb =>
    ⟨⟨hk.keeps hgb (hg.cell 0 _ rfl), hk.keeps hgb (hg.cell 1 _ rfl), hk.keeps hgb (hg.cell 2 _ rfl), hk.keeps hgb (hg.cell 3 _ rfl)⟩, hz.kept hgb (fun e => by cases e; exact ne1 rfl), hlm.kept hgb (fun e => by cases e; exact ne2 rfl)⟩
  have HG := Lib.hid hg
  have HZ := Lib.hid hz
  have HLm := Lib.hid hlm
  have HRl := Lib.hid hrl
  have HK0 := Lib.hid hk
  have HSz := Lib.hid hsz
  obtain ⟨g0, g1, g2, g3⟩ := (HGS.out w (World.grownBy.refl w _)).1
  have g3' : (w.alloc (.cells #[.int .i64 0, .int .i64 0] 90)).cell? ⟨g, 3, none⟩ = some (.map (some bk)) := (World.cell?_alloc_lt w _ ⟨g, 3, none⟩ hgl).trans g3
  have hk1 := hk.alloc (.cells #[.int .i64 0, .int .i64 0] 90)
  obtain ⟨p0, hp0⟩ : ∃ p, (K x).getD (0, 0) = p := ⟨_, rfl⟩
  have HP0 := Lib.hid hp0
  obtain ⟨R, hR⟩ : ∃ R, Lk.find (Lk.zn s) (Lk.ln s) (Lk.tg s) (s.links.length + 1) K x = R := ⟨_, rfl⟩
  have HRR := Lib.hid hR
  rw [hR]
  have hA5 := (At.new w #[.int .i64 0, .int .i64 0] 90).allocO (.cells #[.int .i64 p0.1, .int .i64 p0.2] 90)
  have hA7 := At.new (w.alloc (.cells #[.int .i64 0, .int .i64 0] 90)) #[.int .i64 p0.1, .int .i64 p0.2] 90
  rw [World.size_alloc] at hA7
  rw [hh] at hA5 hA7
  have hM7 := hk1.alloc (.cells #[.int .i64 p0.1, .int .i64 p0.2] 90)
  have hG7 := gb_alloc (gb_alloc (World.grownBy.refl w (some bk)) (.cells #[.int .i64 0, .int .i64 0] 90)) (.cells #[.int .i64 p0.1, .int .i64 p0.2] 90)
  have HA5 := Lib.hid hA5
  have HA7 := Lib.hid hA7
  have HM7 := Lib.hid hM7
  have HG7 := Lib.hid hG7
  have HK1 := Lib.hid hk1
  clear hg hz hlm hrl hsz hR hA5 hA7 hM7 hG7 hk1 g0 g1 g2 g3 hk
  go_enter Tryd.func40, Tryd.ntmps40
  go_upto_block 0 with (first | (at_lookup; refine look_kf _ rfl _ _ bk n K x hx rfl rfl rfl HK1.out ?_))
  go_cut [6] (fun v wx => Lk.FEnd s w h bk n K R v wx)
  case first =>
    have hne : ∀ g', (Value.slice none 0 0 : Value).ownBlock = some g' → g' ≠ h ∧ g' ≠ h + 1 := fun g' e => by cases e
    go_wp2
    go_loopw [1, 6, 8] (fun y v b wr => Lk.FAt s w h bk n K x y v b wr) (fun _ v _ _ => s.links.length + 2 - nameLen v)
    case atStart =>
      refine ⟨⟨x, [], s.links.length + 1, rfl, hx, by simp, List.nodup_nil, (fun d hd => by cases hd), World.ownsRow_nil _ _ _ _, ?_, ?_, ?_, ?_⟩, HA5.out, hne, HG7.out⟩
      · rw [Lk.marks_nil]
        rfl
      · rw [Lk.marks_nil]
      · rw [Lk.marks_nil, HP0.out]
        exact HA7.out
      · rw [Lk.marks_nil]
        exact HM7.out
    case round =>
      obtain ⟨⟨name, done, f, rfl, hns, hf, hnd, hin, hO, hEq, rfl, hE, hM⟩, hRes, hOwn, hGb⟩ := hrel
      have hdl : done.length ≤ s.links.length := by
        have h1 := Lk.nodup_len done (Lk.ln s) hnd hin
        unfold Lk.ln at h1
        simpa using h1
      obtain ⟨f, rfl⟩ : ∃ f', f = f' + 1 := ⟨f - 1, by omega⟩
      rw [HRR.out] at hEq
      cases hKn : Lk.marks K done Lk.loop name with
      | some e0 =>
        have hfin : Lk.find (Lk.zn s) (Lk.ln s) (Lk.tg s) (f + 1) (Lk.marks K done Lk.loop) name = ([], e0) := by rw [Lk.find, hKn]
        rw [hfin, List.append_nil] at hEq
        rw [hKn] at hE
        have HEnd := Lib.hid (show Lk.FEnd s w h bk n K R u6 wr from by
          rw [hEq]
          exact ⟨hO, hE, hM, hRes, hOwn, hGb⟩)
        clear hfin hEq hE hO hM hRes hOwn hGb hKn hnd hin
        simp only [Option.isSome_some]
        go_wp2
        go_meet
        exact HEnd.out
      | none =>
        rw [hKn] at hE
        simp only [Option.isSome_none, Option.getD_none] at hE ⊢
        have hnot : name ∉ done := fun hm => by
          rw [Lk.marks_in hm] at hKn
          cases hKn
        have hgk := fun W hgb => HGS.out W hgb
        have hkw : bk < w.heap.size := hkl
        have hsz1 := hGb.size
        have hrow : ∀ j, u6.ownBlock = some j → w.heap.size ≤ j ∨ some bk = some j := fun j e => .inl (hO.lt j e).1
        have hbn : n + done.length < maxLen := by unfold maxLen; omega
        have hdl6 : done.length ≤ 2000000 := by omega
        have hmk := Lk.marks_snoc K done name Lk.loop
        cases hzi : Lk.first (Lk.zn s) name with
        | some i =>
          have hfin : Lk.find (Lk.zn s) (Lk.ln s) (Lk.tg s) (f + 1) (Lk.marks K done Lk.loop) name = ([name], ((i : Int), 0)) := by rw [Lk.find, hKn]; simp only [hzi]
          rw [hfin] at hEq
          have hne7 : some (h + 1) ≠ some bk := fun e => by injection e with e; omega
          have hne5 : some h ≠ some bk := fun e => by injection e with e; omega
          go_wp2_with (first | (at_builtin; refine name_append wr w.heap.size done.length _ u6 name 26 28 hO hdl6 hsz1 rfl rfl rfl rfl ?_; intro v9 w9 hown9 hb9 hat9 hg9; have gba := gb_then (gb_alloc hGb (.cells #[.string name] 9)) hg9 (fun j e => .inl (hO.lt j e).1); have gsa := HGS.out w9 gba; obtain ⟨⟨k0a, k1a, k2a, k3a⟩, kza, kla⟩ := gsa; have hMa := (hM.alloc (.cells #[.string name] 9)).kept hg9 (fun e => by have := (hO.lt bk e.symm).1; omega); obtain ⟨hEa, hva⟩ := hat9 (h + 1) _ hE (fun e => (hOwn _ e).2 rfl); obtain ⟨hRa, hvb⟩ := hat9 h _ hRes (fun e => (hOwn _ e).1 rfl)) | (at_mapUpdate; refine store_kf _ rfl _ _ _ bk _ _ name hns hbn Lk.loop rfl rfl rfl rfl hMa ?_; intro w10 hMb hg10; have gbb := gb_then gba hg10 (fun j e => .inr e); have gsb := HGS.out w10 gbb; obtain ⟨⟨k0b, k1b, k2b, k3b⟩, kzb, klb⟩ := gsb; have hEb := Lk.at_kept hEa hg10 hne7; have hRb := Lk.at_kept hRa hg10 hne5; have hOb := hown9.kept hg10 (.inr (fun e => by have := (hown9.lt bk e).1; omega)); obtain ⟨e0b, e1b, f0b, f1b⟩ := hEb.two) | (at_lookup; refine look_pl_yes _ rfl _ _ bz _ _ name hns i hzi rfl rfl rfl kzb ?_))
          go_meet
          exact Lk.fend (e := ((i : Int), 0)) hh hkl hEq.symm hOb hMb hEb hRb hva hvb gbb
        | none =>
          cases hlj : Lk.first (Lk.ln s) name with
          | none =>
            have hfin : Lk.find (Lk.zn s) (Lk.ln s) (Lk.tg s) (f + 1) (Lk.marks K done Lk.loop) name = ([name], Lk.gone) := by rw [Lk.find, hKn]; simp only [hzi, hlj]
            rw [hfin] at hEq
            have hne7 : some (h + 1) ≠ some bk := fun e => by injection e with e; omega
            have hne5 : some h ≠ some bk := fun e => by injection e with e; omega
            go_wp2_with (first | (at_builtin; refine name_append wr w.heap.size done.length _ u6 name 26 28 hO hdl6 hsz1 rfl rfl rfl rfl ?_; intro v9 w9 hown9 hb9 hat9 hg9; have gba := gb_then (gb_alloc hGb (.cells #[.string name] 9)) hg9 (fun j e => .inl (hO.lt j e).1); have gsa := HGS.out w9 gba; obtain ⟨⟨k0a, k1a, k2a, k3a⟩, kza, kla⟩ := gsa; have hMa := (hM.alloc (.cells #[.string name] 9)).kept hg9 (fun e => by have := (hO.lt bk e.symm).1; omega); obtain ⟨hEa, hva⟩ := hat9 (h + 1) _ hE (fun e => (hOwn _ e).2 rfl); obtain ⟨hRa, hvb⟩ := hat9 h _ hRes (fun e => (hOwn _ e).1 rfl)) | (at_mapUpdate; refine store_kf _ rfl _ _ _ bk _ _ name hns hbn Lk.loop rfl rfl rfl rfl hMa ?_; intro w10 hMb hg10; have gbb := gb_then gba hg10 (fun j e => .inr e); have gsb := HGS.out w10 gbb; obtain ⟨⟨k0b, k1b, k2b, k3b⟩, kzb, klb⟩ := gsb; have hEb := Lk.at_kept hEa hg10 hne7; have hRb := Lk.at_kept hRa hg10 hne5; have hOb := hown9.kept hg10 (.inr (fun e => by have := (hown9.lt bk e).1; omega)); obtain ⟨e0b, e1b, f0b, f1b⟩ := hEb.two) | (at_lookup; refine look_pl_no _ rfl _ _ bz _ _ name hns hzi rfl rfl rfl kzb ?_) | (at_lookup; refine look_pl_no _ rfl _ _ bl _ _ name hns hlj rfl rfl rfl klb ?_))
            go_meet
            exact Lk.fend (e := Lk.gone) hh hkl hEq.symm hOb hMb hEb hRb hva hvb gbb
          | some j =>
            have hjl : j < s.links.length := by
              have h1 := Lk.first_lt hlj
              unfold Lk.ln at h1
              simpa using h1
            obtain ⟨adl, xl, rfl, hab, Hx, HL⟩ := Ix.reads_cells (enc := Src.lc) (m := 2) (fun _ => rfl) rfl HRl.out hjl
            have htg : (Lk.tg s).getD j ⟨#[]⟩ = Src.bts xl.1 := by
              unfold Lk.tg
              rw [List.getD, List.getElem?_map, Hx.out]
              rfl
            have hts : (Src.bts xl.1).size ≤ maxLen := HSz.out xl (List.mem_of_getElem? Hx.out)
            have hfin : Lk.find (Lk.zn s) (Lk.ln s) (Lk.tg s) (f + 1) (Lk.marks K done Lk.loop) name = (name :: (Lk.find (Lk.zn s) (Lk.ln s) (Lk.tg s) f (Lk.marks K (done ++ [name]) Lk.loop) (Src.bts xl.1)).1, (Lk.find (Lk.zn s) (Lk.ln s) (Lk.tg s) f (Lk.marks K (done ++ [name]) Lk.loop) (Src.bts xl.1)).2) := by
              rw [Lk.find, hKn]
              simp only [hzi, hlj]
              rw [htg, hmk]
            rw [hfin] at hEq
            have hcw : w.cell? (adl.add (j * 2)) = some (.string (Src.bts xl.1)) := HL.out 0 _ rfl
            obtain ⟨tt, htt⟩ : ∃ t, Src.bts xl.1 = t := ⟨_, rfl⟩
            rw [htt] at hcw hts hEq
            obtain ⟨p1, hp1⟩ : ∃ p, (Lk.mark (Lk.marks K done Lk.loop) name Lk.loop tt).getD (0, 0) = p := ⟨_, rfl⟩
            obtain ⟨b1, hb1⟩ : ∃ b, (Lk.mark (Lk.marks K done Lk.loop) name Lk.loop tt).isSome = b := ⟨_, rfl⟩
            have hln : name ∈ Lk.ln s := List.mem_of_getElem? (Lk.first_some hlj)
            have qj1 : (0 : Int) ≤ (j : Int) := by omega
            have qj2 : (j : Int) < (s.links.length : Int) := by omega
            have HEq := Lib.hid hEq
            have HNd := Lib.hid (And.intro hnd (And.intro hin (And.intro hnot hln)))
            have HMk := Lib.hid hmk
            have HF := Lib.hid hf
            have HKw := Lib.hid hkw
            have hne7 : some (h + 1) ≠ some bk := fun e => by injection e with e; omega
            have hne5 : some h ≠ some bk := fun e => by injection e with e; omega
            clear hfin hEq hKn hnd hin hnot hln htg htt Hx HL hmk hf
            go_wp2_with (first | (at_builtin; refine name_append wr w.heap.size done.length _ u6 name 26 28 hO hdl6 hsz1 rfl rfl rfl rfl ?_; intro v9 w9 hown9 hb9 hat9 hg9; have gba := gb_then (gb_alloc hGb (.cells #[.string name] 9)) hg9 (fun j e => .inl (hO.lt j e).1); have gsa := HGS.out w9 gba; obtain ⟨⟨k0a, k1a, k2a, k3a⟩, kza, kla⟩ := gsa; have hMa := (hM.alloc (.cells #[.string name] 9)).kept hg9 (fun e => by have := (hO.lt bk e.symm).1; omega); obtain ⟨hEa, hva⟩ := hat9 (h + 1) _ hE (fun e => (hOwn _ e).2 rfl); obtain ⟨hRa, hvb⟩ := hat9 h _ hRes (fun e => (hOwn _ e).1 rfl)) | (at_mapUpdate; refine store_kf _ rfl _ _ _ bk _ _ name hns hbn Lk.loop rfl rfl rfl rfl hMa ?_; intro w10 hMb hg10; have gbb := gb_then gba hg10 (fun j e => .inr e); have gsb := HGS.out w10 gbb; obtain ⟨⟨k0b, k1b, k2b, k3b⟩, kzb, klb⟩ := gsb; have hEb := Lk.at_kept hEa hg10 hne7; have hRb := Lk.at_kept hRa hg10 hne5; have hOb := hown9.kept hg10 (.inr (fun e => by have := (hown9.lt bk e).1; omega)); obtain ⟨e0b, e1b, f0b, f1b⟩ := hEb.two) | (at_lookup; refine look_pl_no _ rfl _ _ bz _ _ name hns hzi rfl rfl rfl kzb ?_) | (at_lookup; refine look_pl_yes _ rfl _ _ bl _ _ name hns j hlj rfl rfl rfl klb ?_; have hcb := HK0.out.keeps gbb hcw) | (at_lookup; refine look_kf _ rfl _ _ bk _ _ tt hts rfl rfl rfl hMb ?_))
            go_roundw
            case rel =>
              have F := Lk.fend (s := s) (e := p1) (R := (done ++ [name], p1)) hh hkl rfl hOb hMb hEb hRb hva hvb gbb
              obtain ⟨hnd, hin, hnot, hln⟩ := HNd.out
              refine ⟨⟨tt, done ++ [name], f, rfl, hts, by have := HF.out; rw [List.length_append, List.length_singleton]; omega, ?_, ?_, F.row, ?_, ?_, ?_, F.map⟩, F.res, F.own, F.gb⟩
              · rw [List.nodup_append]
                exact ⟨hnd, by simp, fun a ha b hb e => hnot (by have : b = name := by simpa using hb
                                                                 rw [← this, ← e]; exact ha)⟩
              · intro d hd
                rcases List.mem_append.1 hd with hd | hd
                · exact hin d hd
                · have : d = name := by simpa using hd
                  rw [this]
                  exact hln
              · rw [HRR.out, HEq.out, List.append_assoc]
                rfl
              · rw [← HMk.out, hb1]
              · rw [← HMk.out, hp1]
                exact F.end_
            case measure =>
              rw [nameLen_own hOb, nameLen_own hO]
              omega
  case rest =>
  as_aux_lemma =>
    obtain ⟨hRow, hE, hM, hRs, hOw, hGb⟩ := hcut
    obtain ⟨A, c, rfl, hcm⟩ := own_slice hRow
    obtain ⟨L, hL⟩ : ∃ L, R.1.length = L := ⟨_, rfl⟩
    rw [hL] at hRow hM ⊢
    have hL2 : L ≤ s.links.length + 1 := by
      have h1 := Lk.find_len (Lk.zn s) (Lk.ln s) (Lk.tg s) (s.links.length + 1) K x
      rw [HRR.out, hL] at h1
      exact h1
    have hRz : ∀ y ∈ R.1, y.size ≤ maxLen := by
      have h1 := Lk.find_size (Lk.zn s) (Lk.ln s) (Lk.tg s) (s.links.length + 1) K x hx (fun y hy => by
        unfold Lk.tg at hy
        obtain ⟨k, hk, rfl⟩ := List.mem_map.1 hy
        exact HSz.out k hk)
      rwa [HRR.out] at h1
    have HL := Lib.hid hL
    have HRow := Lib.hid hRow
    have HE := Lib.hid hE
    have HRs := Lib.hid hRs
    have HOw := Lib.hid hOw
    have HRz := Lib.hid hRz
    have HM0 := Lib.hid hM
    have HGb := Lib.hid hGb
    clear hRow hE hM hRs hOw hGb hRz hL
    go_wp2
    go_loopw [79] (fun i wr => Lk.SAt s w h bk n K R A L c i wr) (fun i _ => L - (intOf i).toNat)
    case atStart => exact ⟨⟨0, Nat.zero_le _, rfl, by rw [List.take_zero, Lk.marks_nil]; exact HM0.out⟩, HRow.out, HE.out, HRs.out, HGb.out⟩
    case round =>
      obtain ⟨⟨k, hk, rfl, hM⟩, hRow, hE, hRs, hGb⟩ := hrel
      by_cases hlt : k < L
      · obtain ⟨nm, hnm⟩ : ∃ y, R.1[k]? = some y := ⟨_, List.getElem?_eq_getElem (by rw [HL.out]; exact hlt)⟩
        have hns := HRz.out nm (List.mem_of_getElem? hnm)
        obtain ⟨ad, u, rfl, hab, hu, hcu⟩ := (Reads.of_own hRow).at_ hlt
        have hu2 : u = .string nm := by
          rw [List.getElem?_map, hnm] at hu
          exact (Option.some.inj hu).symm
        rw [hu2] at hcu
        have q1 : (0 : Int) ≤ (k : Int) := by omega
        have q2 : (k : Int) < (L : Int) := by omega
        have htk : R.1.take (k + 1) = R.1.take k ++ [nm] := by rw [List.take_add_one, hnm]; rfl
        have hbn : n + L + k < maxLen := by unfold maxLen; omega
        obtain ⟨w2, hrun, hM2, hg2⟩ := store_run (show MapF Tryd.prog 9 wr.drew bk (n + L + k) _ from hM) hns hbn R.2
        rw [Lk.marks_snoc, ← htk] at hM2
        have hne7 : some (h + 1) ≠ some bk := fun e => by injection e with e; omega
        have hne5 : some h ≠ some bk := fun e => by injection e with e; omega
        have gs := (HGS.out wr hGb).1
        obtain ⟨k0, k1, k2, k3⟩ := gs
        obtain ⟨e0, e1, _⟩ := hE.two
        have HN : Hid (Lk.SAt s w h bk n K R (some ad) L c (.int .i64 ((k : Int) + 1)) w2) := by
          have hg3 : wr.grownBy w2 (some bk) := ⟨hg2.os, hg2.tape, hg2.output, hg2.size, hg2.block⟩
          exact ⟨⟨k + 1, by omega, by simp, hM2⟩, hRow.kept hg3 (.inr (fun e => by have := (hRow.lt bk e).1; omega)), Lk.at_kept hE hg3 hne7, Lk.at_kept hRs hg3 hne5, gb_then hGb hg3 (fun j e => .inr e)⟩
        clear hM hRow hE hRs hGb hu hu2 hnm htk hM2 hg2
        go_wp2
        go_region
        all_goals
          go_wp2
          go_roundw
          case rel => exact HN.out
          case measure => simp [intOf]; omega
      · have hkL : k = L := by omega
        subst hkL
        have q2 : ¬ (k : Int) < (k : Int) := by omega
        obtain ⟨e0, e1, _⟩ := hE.two
        obtain ⟨r0, r1, f0, f1⟩ := hRs.two
        have hMf := hM
        rw [List.take_of_length_le (by rw [HL.out]; exact Nat.le_refl _), Lk.marks_twice] at hMf
        have HFin : Hid (∀ W, W = ((wr.setCell ⟨h, 0, none⟩ (.int .i64 R.2.1)).setCell ⟨h, 1, none⟩ (.int .i64 R.2.2)).drew → Lk.FdR s (.slice lA s.links.length lc) g bz bl bk n K R w (.returned (.tuple #[.slice A R.1.length c, .agg #[.int .i64 R.2.1, .int .i64 R.2.2]])) W) := by
          rintro W rfl
          have hgb := gb_drew (gb_set (gb_set hGb (p := ⟨h, 0, none⟩) (by show w.heap.size ≤ h; omega) (.int .i64 R.2.1)) (p := ⟨h, 1, none⟩) (by show w.heap.size ≤ h; omega) (.int .i64 R.2.2))
          have gs := HGS.out _ hgb
          have hMe := (hMf.setCell (a := ⟨h, 0, none⟩) (by show bk ≠ h; omega) (.int .i64 R.2.1)).setCell (a := ⟨h, 1, none⟩) (by show bk ≠ h; omega) (.int .i64 R.2.2)
          have hAg := Lk.at_kept2 HG.out HK0.out hgb
          have hRd := Reads.of_own (ownsRow_setCell_other (ownsRow_setCell_other hRow (a := ⟨h, 0, none⟩) (fun e => (HOw.out h (by rw [HL.out]; exact e)).1 rfl) (.int .i64 R.2.1)) (a := ⟨h, 1, none⟩) (fun e => (HOw.out h (by rw [HL.out]; exact e)).1 rfl) (.int .i64 R.2.2))
          refine ⟨⟨A, c, rfl, ?_⟩, ⟨hAg, gs.2.1, gs.2.2, ?_, ne1, ne2⟩, hgb⟩
          · rw [HL.out]
            exact hRd
          · rw [HL.out]
            exact hMe
        have hLe := HL.out
        clear hM hMf hRow hE hRs hGb
        go_wp2
        go_region
        all_goals
          go_wp2
          refine bodyPost_ret (v := .tuple #[.slice A k c, .agg #[.int .i64 R.2.1, .int .i64 R.2.2]]) (by simp [results, Tryd.results40, go_sem, *]) rfl ?_
          rw [← hLe]
          exact HFin.out _ rfl
end Go.Proofs.YtajcgoinhpengaaDoor
