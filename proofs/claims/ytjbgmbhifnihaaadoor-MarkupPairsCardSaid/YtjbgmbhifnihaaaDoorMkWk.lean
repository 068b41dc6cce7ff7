/- markup: a walk that is held, and what its methods keep. -/
import Derived.Test.YtjbgmbhifnihaaaDoorMkMany
import Derived.WalkSmall
namespace Go.Proofs.YtjbgmbhifnihaaaDoor
open Go.RowKit

namespace Mk
/-- All that lay is kept, but S. -/
structure Kp (S : Nat → Prop) (w w' : World) : Prop where
  os : w'.os = w.os
  tape : w'.tape = w.tape
  output : w'.output = w.output
  size : w.heap.size ≤ w'.heap.size
  block : ∀ k, k < w.heap.size → ¬ S k → w'.heap[k]? = w.heap[k]?
section
variable {S S' : Nat → Prop} {a b w w' : World}
theorem Kp.refl (S : Nat → Prop) (w : World) : Kp S w w := ⟨rfl, rfl, rfl, Nat.le_refl _, fun _ _ _ => rfl⟩
theorem Kp.of_below (h : Below w.heap.size w w') : Kp S w w' := ⟨h.os, h.tape, h.output, h.size, fun k hk _ => h.block k hk⟩
theorem Kp.trans (h : Kp S a b) (k : Kp S' b w) (hS : ∀ j, j < a.heap.size → S' j → S j) : Kp S a w :=
  ⟨k.os.trans h.os, k.tape.trans h.tape, k.output.trans h.output, Nat.le_trans h.size k.size, fun i hi hn => (k.block i (Nat.lt_of_lt_of_le hi h.size) (fun x => hn (hS i hi x))).trans (h.block i hi hn)⟩
theorem Kp.then_ (h : Kp S a b) (k : Below b.heap.size b w) : Kp S a w := h.trans (Kp.of_below (S := S) k) fun _ _ x => x
theorem Kp.at_ {g : Nat} {xs : List Value} (k : Kp S w w') (h : At w g xs) (hb : ¬ S g) : At w' g xs := by
  have e := k.block g h.lt hb
  exact ⟨Nat.lt_of_lt_of_le h.1 k.size, fun i v hi => ⟨(World.cell?_of_block (a := ⟨g, i, none⟩) e).trans (h.2 i v hi).1, (World.frozen?_of_block (a := ⟨g, i, none⟩) e).trans (h.2 i v hi).2⟩⟩
theorem Kp.below {B : Nat} (k : Kp S w w') (hS : ∀ j, S j → B ≤ j) (hB : B ≤ w.heap.size) : Below B w w' :=
  ⟨k.os, k.tape, k.output, k.size, fun i hi => k.block i (by omega) (fun x => by have := hS i x; omega)⟩
theorem Kp.grown {row : Option Nat} (k : Kp S a w) (hg : w.grownBy w' row) (hr : ∀ j, row = some j → j < a.heap.size → S j) : Kp S a w' :=
  ⟨hg.os.trans k.os, hg.tape.trans k.tape, hg.output.trans k.output, Nat.le_trans k.size hg.size, fun i hi hn => (hg.block i (Nat.lt_of_lt_of_le hi k.size) (fun e => hn (hr i e.symm hi))).trans (k.block i hi hn)⟩
theorem Kp.set (k : Kp S a w) {p : Addr} (hp : p.block < a.heap.size → S p.block) (v : Value) : Kp S a (w.setCell p v) :=
  ⟨k.os, k.tape, k.output, by rw [heap_set]; exact k.size, fun i hi hn => (Below.heap_setCell _ _ _ _ (fun e => by subst e; exact hn (hp hi))).trans (k.block i hi hn)⟩
theorem Kp.alloc (k : Kp S a w) (o : Obj) : Kp S a (w.alloc o) := k.then_ (below_new w o)
theorem Kp.drewN (k : Kp S a w) (n : Nat) : Kp S a (w.drewN n) := ⟨k.os, k.tape, k.output, k.size, k.block⟩
theorem Kp.more (k : Kp S a w) (hS : ∀ j, j < a.heap.size → S j → S' j) : Kp S' a w := ⟨k.os, k.tape, k.output, k.size, fun i hi hn => k.block i hi (fun x => hn (hS i hi x))⟩
end
section
variable {B : Nat} {w w' : World} {rs : List Row} {r : Row}
/-- The row at the head is written, or has grown into a new block. -/
theorem Many.grow1 {v' : Value} {n' : Nat} {xs' : List Value} (h : Many B w (r :: rs)) (hown : w'.ownsRow B r.e r.size v' n' xs') (hg : w.grownBy w' r.v.ownBlock) (hat : v'.ownBlock = r.v.ownBlock ∨ v'.ownBlock = some w.heap.size) :
    Many B w' (⟨r.e, r.size, v', n', xs'⟩ :: rs) := by
  have ha := List.pairwise_cons.1 h.apart
  have hk : ∀ x ∈ rs, w'.ownsRow B x.e x.size x.v x.n x.xs := fun x hx => (h.own x (List.mem_cons_of_mem _ hx)).kept hg (ha.1 x hx).symm
  refine ⟨fun x hx => ?_, List.pairwise_cons.2 ⟨fun x hx => ?_, ha.2⟩⟩
  · rcases List.mem_cons.1 hx with rfl | hx
    · exact hown
    · exact hk x hx
  · show apartV v' x.v
    rcases hat with e | e
    · unfold apartV; rw [e]; exact ha.1 x hx
    · refine apartV.symm ?_
      unfold apartV
      rw [e]
      cases ex : x.v.ownBlock with
      | none => exact .inl rfl
      | some k =>
        right
        have := ((h.own x (List.mem_cons_of_mem _ hx)).lt k ex).2
        intro z
        have hk : k = w.heap.size := Option.some.inj z
        omega
theorem Many.drewN (h : Many B w rs) (n : Nat) : Many B (w.drewN n) rs := ⟨fun r hr => h.own r hr, h.apart⟩
theorem Many.more {B' : Nat} (h : Many B w rs) (hB : B' ≤ B) : Many B' w rs := ⟨fun r hr => own_mono (h.own r hr) hB, h.apart⟩
end
theorem At.grownO {w w' : World} {h : Nat} {row : Option Nat} {xs : List Value} (a : At w h xs) (hg : w.grownBy w' row) (hne : row ≠ some h) : At w' h xs := by
  have e := hg.block h a.lt (fun x => hne x.symm)
  exact ⟨Nat.lt_of_lt_of_le a.1 hg.size, fun i v hi => ⟨(World.cell?_of_block (a := ⟨h, i, none⟩) e).trans (a.2 i v hi).1, (World.frozen?_of_block (a := ⟨h, i, none⟩) e).trans (a.2 i v hi).2⟩⟩
/-- The cells of a part. -/
def tkv (t : T) (v : Value) : List Value := [.int .u8 (t.kind : Int), .string (bts t.name), v, .string (bts t.text), .int .i64 (t.at_ : Int)]
def tkCells : List T → List Value → List Value
  | t :: l, v :: vs => tkv t v ++ tkCells l vs
  | _, _ => []
theorem tkCells_snoc : ∀ (l : List T) (vs : List Value) (t : T) (v : Value), vs.length = l.length → tkCells (l ++ [t]) (vs ++ [v]) = tkCells l vs ++ tkv t v
  | [], [], t, v, _ => by simp [tkCells]
  | x :: l, u :: vs, t, v, h => by
    rw [List.cons_append, List.cons_append, tkCells, tkCells, tkCells_snoc l vs t v (by simpa using h), List.append_assoc]
  | [], _ :: _, _, _, h => by simp at h
  | _ :: _, [], _, _, h => by simp at h
def atRow (t : T) (v : Value) : Row := ⟨40, 2, v, t.attrs.length, atCells t.attrs⟩
def atRows : List T → List Value → List Row
  | t :: l, v :: vs => atRow t v :: atRows l vs
  | _, _ => []
theorem atRows_snoc : ∀ (l : List T) (vs : List Value) (t : T) (v : Value), vs.length = l.length → atRows (l ++ [t]) (vs ++ [v]) = atRows l vs ++ [atRow t v]
  | [], [], t, v, _ => by simp [atRows]
  | x :: l, u :: vs, t, v, h => by
    rw [List.cons_append, List.cons_append, atRows, atRows, atRows_snoc l vs t v (by simpa using h), List.cons_append]
  | [], _ :: _, _, _, h => by simp at h
  | _ :: _, [], _, _, h => by simp at h
def opCells (l : List Txt) : List Value := l.map fun t => .string (bts t)
def tkRow (l : List T) (tv : Value) (avs : List Value) : Row := ⟨38, 5, tv, l.length, tkCells l avs⟩
def opRow (l : List Txt) (ov : Value) : Row := ⟨9, 1, ov, l.length, opCells l⟩
/-- A walk in block g: its text, its parts, the names that are open; and rows beside. -/
structure Wk (w : World) (g : Nat) (s : ByteArray) (st : S) (tv ov : Value) (avs : List Value) (ex : List Row) : Prop where
  at_ : At w g [.string s, tv, ov, .bool st.rooted]
  len : avs.length = st.toks.length
  many : Many (g + 1) w (tkRow st.toks tv avs :: opRow st.opened ov :: (ex ++ atRows st.toks avs))
section
variable {w w' : World} {g : Nat} {s : ByteArray} {st : S} {tv ov : Value} {avs : List Value} {ex : List Row}
theorem Wk.call (h : Wk w g s st tv ov avs ex) (hb : Below w.heap.size w w') : Wk w' g s st tv ov avs ex := ⟨h.at_.call hb, h.len, h.many.call hb⟩
theorem Wk.alloc (h : Wk w g s st tv ov avs ex) (o : Obj) : Wk (w.alloc o) g s st tv ov avs ex := h.call (below_new w o)
theorem Wk.drewN (h : Wk w g s st tv ov avs ex) (n : Nat) : Wk (w.drewN n) g s st tv ov avs ex := ⟨h.at_.drew ⟨n, rfl⟩, h.len, h.many.drewN n⟩
theorem Wk.tk (h : Wk w g s st tv ov avs ex) : w.ownsRow (g + 1) 38 5 tv st.toks.length (tkCells st.toks avs) := h.many.own _ List.mem_cons_self
theorem Wk.op (h : Wk w g s st tv ov avs ex) : w.ownsRow (g + 1) 9 1 ov st.opened.length (opCells st.opened) := h.many.own _ (List.mem_cons_of_mem _ List.mem_cons_self)
theorem Wk.tk_ne (h : Wk w g s st tv ov avs ex) : tv.ownBlock ≠ some g := fun e => by have := (h.tk.lt g e).1; omega
theorem Wk.op_ne (h : Wk w g s st tv ov avs ex) : ov.ownBlock ≠ some g := fun e => by have := (h.op.lt g e).1; omega
/-- A row beside, without a block. -/
theorem Wk.add0 (h : Wk w g s st tv ov avs ex) (e : TypeId) (size : Nat) : Wk w g s st tv ov avs (⟨e, size, .slice none 0 0, 0, []⟩ :: ex) :=
  ⟨h.at_, h.len, (h.many.add0 e size).perm (by
    simp only [List.cons_append]
    exact (List.Perm.swap _ _ _).trans (List.Perm.cons _ (List.Perm.swap _ _ _)))⟩
/-- A row beside, whose block was made by a callee. -/
theorem Wk.addNew {r : Row} (h : Wk w g s st tv ov avs ex) (hb : Below w.heap.size w w') (hown : w'.ownsRow w.heap.size r.e r.size r.v r.n r.xs) : Wk w' g s st tv ov avs (r :: ex) :=
  ⟨h.at_.call hb, h.len, (h.many.addNew hb h.at_.lt hown).perm (by
    simp only [List.cons_append]
    exact (List.Perm.swap _ _ _).trans (List.Perm.cons _ (List.Perm.swap _ _ _)))⟩
/-- A part more. -/
theorem Wk.push {t : T} {v v' : Value} {n' : Nat} (h : Wk w g s st tv ov avs (atRow t v :: ex)) (hn : n' = st.toks.length + 1) (hown : w'.ownsRow (g + 1) 38 5 v' n' (tkCells st.toks avs ++ tkv t v)) (hg : w.grownBy w' tv.ownBlock) (hat : v'.ownBlock = tv.ownBlock ∨ v'.ownBlock = some w.heap.size) :
    Wk (w'.setCell ⟨g, 1, none⟩ v') g s ⟨st.toks ++ [t], st.opened, st.rooted⟩ v' ov (avs ++ [v]) ex := by
  subst hn
  refine ⟨(At.grownO h.at_ hg h.tk_ne).set 1 v', by simp [h.len], ?_⟩
  have h1 := (h.many.grow1 (v' := v') (n' := st.toks.length + 1) (xs' := tkCells st.toks avs ++ tkv t v) hown hg hat).setBelow (p := ⟨g, 1, none⟩) (Nat.lt_succ_self g) v'
  have e1 : tkRow (st.toks ++ [t]) v' (avs ++ [v]) = ⟨38, 5, v', st.toks.length + 1, tkCells st.toks avs ++ tkv t v⟩ := by
    unfold tkRow
    rw [tkCells_snoc _ _ _ _ h.len, List.length_append]
    rfl
  show Many (g + 1) _ (tkRow (st.toks ++ [t]) v' (avs ++ [v]) :: opRow st.opened ov :: (ex ++ atRows (st.toks ++ [t]) (avs ++ [v])))
  rw [e1, atRows_snoc _ _ _ _ h.len]
  refine h1.perm (List.Perm.cons _ (List.Perm.cons _ ?_))
  rw [← List.append_assoc]
  exact (List.perm_append_singleton _ _).symm
/-- A name more that is open. -/
theorem Wk.pushO {nm : Txt} {v' : Value} {n' : Nat} (h : Wk w g s st tv ov avs ex) (hn : n' = st.opened.length + 1) (hown : w'.ownsRow (g + 1) 9 1 v' n' (opCells st.opened ++ [.string (bts nm)])) (hg : w.grownBy w' ov.ownBlock) (hat : v'.ownBlock = ov.ownBlock ∨ v'.ownBlock = some w.heap.size) :
    Wk (w'.setCell ⟨g, 2, none⟩ v') g s ⟨st.toks, st.opened ++ [nm], st.rooted⟩ tv v' avs ex := by
  subst hn
  refine ⟨(At.grownO h.at_ hg h.op_ne).set 2 v', h.len, ?_⟩
  have h0 := h.many.perm (List.Perm.swap _ _ _)
  have h1 := (h0.grow1 (v' := v') (n' := st.opened.length + 1) (xs' := opCells st.opened ++ [.string (bts nm)]) hown hg hat).setBelow (p := ⟨g, 2, none⟩) (Nat.lt_succ_self g) v'
  have e1 : opRow (st.opened ++ [nm]) v' = ⟨9, 1, v', st.opened.length + 1, opCells st.opened ++ [.string (bts nm)]⟩ := by
    unfold opRow opCells
    rw [List.map_append, List.length_append]
    rfl
  show Many (g + 1) _ (tkRow st.toks tv avs :: opRow (st.opened ++ [nm]) v' :: (ex ++ atRows st.toks avs))
  rw [e1]
  exact h1.perm (List.Perm.swap _ _ _)
/-- The last name is closed. -/
theorem Wk.pop {A : Option Addr} {n c : Nat} (h : Wk w g s st tv (.slice A (n + 1) c) avs ex) (hn : st.opened.length = n + 1) :
    Wk (w.setCell ⟨g, 2, none⟩ (.slice A n c)) g s ⟨st.toks, st.opened.dropLast, st.rooted⟩ tv (.slice A n c) avs ex := by
  have hown := h.op
  rw [hn] at hown
  obtain ⟨gb, cap, e, _, _⟩ := hown.form (Nat.succ_pos n)
  injection e with e _ e2
  subst e e2
  have hne : st.opened ≠ [] := fun e => by rw [e] at hn; cases hn
  have hsp : opCells st.opened = opCells st.opened.dropLast ++ opCells [st.opened.getLast hne] := by
    unfold opCells
    rw [← List.map_append, List.dropLast_concat_getLast]
  have hdl : st.opened.dropLast.length = n := by rw [List.length_dropLast, hn]; rfl
  rw [hsp] at hown
  have hpop := ownsRow_pop (by unfold opCells; rw [List.length_map, hdl, Nat.mul_one]) hown
  refine ⟨h.at_.set 2 _, h.len, ?_⟩
  have h0 := h.many.perm (List.Perm.swap _ _ _)
  have ha := List.pairwise_cons.1 h0.apart
  have h1 : Many (g + 1) w (opRow st.opened.dropLast (.slice (some ⟨gb, 0, none⟩) n c) :: tkRow st.toks tv avs :: (ex ++ atRows st.toks avs)) := by
    refine ⟨fun x hx => ?_, List.pairwise_cons.2 ⟨fun x hx => ha.1 x hx, ha.2⟩⟩
    rcases List.mem_cons.1 hx with rfl | hx
    · show w.ownsRow _ _ _ _ st.opened.dropLast.length _
      rw [hdl]
      exact hpop
    · exact h0.own x (List.mem_cons_of_mem _ hx)
  exact (h1.perm (List.Perm.swap _ _ _)).setBelow (p := ⟨g, 2, none⟩) (Nat.lt_succ_self g) _
theorem Wk.root (h : Wk w g s st tv ov avs ex) : Wk (w.setCell ⟨g, 3, none⟩ (.bool true)) g s ⟨st.toks, st.opened, true⟩ tv ov avs ex :=
  ⟨h.at_.set 3 _, h.len, h.many.setBelow (p := ⟨g, 3, none⟩) (Nat.lt_succ_self g) _⟩
/-- A store into the cells of the row beside. -/
theorem Wk.store {b n c : Nat} {e : TypeId} {size : Nat} {xs : List Value} (h : Wk w g s st tv ov avs (⟨e, size, .slice (some ⟨b, 0, none⟩) n c, n, xs⟩ :: ex)) (j : Nat) (u : Value) :
    Wk (w.setCell ⟨b, j, none⟩ u) g s st tv ov avs (⟨e, size, .slice (some ⟨b, 0, none⟩) n c, n, xs.set j u⟩ :: ex) := by
  have hp : ∀ r : Row, List.Perm (tkRow st.toks tv avs :: opRow st.opened ov :: (r :: ex ++ atRows st.toks avs)) (r :: tkRow st.toks tv avs :: opRow st.opened ov :: (ex ++ atRows st.toks avs)) := fun r => by
    rw [List.cons_append]
    exact (List.Perm.cons _ (List.Perm.swap _ _ _)).trans (List.Perm.swap _ _ _)
  have h0 := h.many.perm (hp _)
  have hb : g + 1 ≤ b := ((h0.own _ List.mem_cons_self).lt b rfl).1
  exact ⟨h.at_.set_other _ _ (by show b ≠ g; omega), h.len, (h0.store j u).perm (hp _).symm⟩
end
def Sg (g : Nat) (tv ov : Value) (k : Nat) : Prop := k = g ∨ tv.ownBlock = some k ∨ ov.ownBlock = some k
def Mv (w : World) (v v' : Value) : Prop := v'.ownBlock = v.ownBlock ∨ ∃ k, v'.ownBlock = some k ∧ w.heap.size ≤ k
theorem Mv.refl (w : World) (v : Value) : Mv w v v := .inl rfl
theorem Mv.trans {w w1 : World} {v v1 v2 : Value} (h : Mv w v v1) (k : Mv w1 v1 v2) (hs : w.heap.size ≤ w1.heap.size) : Mv w v v2 := by
  rcases k with k | ⟨j, k1, k2⟩
  · rcases h with h | ⟨i, h1, h2⟩
    · exact .inl (k.trans h)
    · exact .inr ⟨i, k.trans h1, h2⟩
  · exact .inr ⟨j, k1, by omega⟩
/-- What a method of a walk answers: an error, or the walk, held still. -/
def WRet (w : World) (g : Nat) (s : ByteArray) (tv ov : Value) (E : Nat → Prop) (o : Nat ⊕ S) (e : Ending) (w' : World) : Prop :=
  Kp (fun k => Sg g tv ov k ∨ E k) w w' ∧ match o with
  | .inl k => e = .returned (.int .i64 (k : Int))
  | .inr st' => e = .returned (.int .i64 0) ∧ ∃ tv' ov' avs', Wk w' g s st' tv' ov' avs' [] ∧ Mv w tv tv' ∧ Mv w ov ov'
/-- A part more, and what is kept of all else. -/
theorem push_end {w W w9 : World} {g g9 cp9 L : Nat} {s : ByteArray} {st : S} {tv ov ov0 v : Value} {avs : List Value} {ex : List Row} {t : T} {E : Nat → Prop} (hK : Kp (fun k => Sg g tv ov0 k ∨ E k) w W) (h : Wk W g s st tv ov avs (atRow t v :: ex)) (hL : st.toks.length = L)
    (hown : w9.ownsRow (g + 1) 38 5 (.slice (some ⟨g9, 0, none⟩) (L + 1) cp9) (L + 1) (tkCells st.toks avs ++ tkv t v)) (hg : W.grownBy w9 tv.ownBlock) (hat : tv.ownBlock = some g9 ∨ g9 = W.heap.size) :
    Kp (fun k => Sg g tv ov0 k ∨ E k) w (w9.setCell ⟨g, 1, none⟩ (.slice (some ⟨g9, 0, none⟩) (L + 1) cp9)) ∧
      Wk (w9.setCell ⟨g, 1, none⟩ (.slice (some ⟨g9, 0, none⟩) (L + 1) cp9)) g s ⟨st.toks ++ [t], st.opened, st.rooted⟩ (.slice (some ⟨g9, 0, none⟩) (L + 1) cp9) ov (avs ++ [v]) ex ∧ Mv w tv (.slice (some ⟨g9, 0, none⟩) (L + 1) cp9) := by
  refine ⟨(hK.grown hg (fun j e _ => .inl (.inr (.inl e)))).set (fun _ => .inl (.inl rfl)) _, h.push (by rw [hL]) hown hg ?_, ?_⟩
  · rcases hat with h | h
    · exact .inl h.symm
    · exact .inr (congrArg some h)
  · rcases hat with h | h
    · exact .inl h.symm
    · exact .inr ⟨g9, rfl, by rw [h]; exact hK.size⟩
/-- A name more that is open, and what is kept of all else. -/
theorem pushO_end {w W w9 : World} {g g9 cp9 L : Nat} {s : ByteArray} {st : S} {tv tv0 ov : Value} {avs : List Value} {ex : List Row} {nm : Txt} {E : Nat → Prop} (hK : Kp (fun k => Sg g tv0 ov k ∨ E k) w W) (h : Wk W g s st tv ov avs ex) (hL : st.opened.length = L)
    (hown : w9.ownsRow (g + 1) 9 1 (.slice (some ⟨g9, 0, none⟩) (L + 1) cp9) (L + 1) (opCells st.opened ++ [.string (bts nm)])) (hg : W.grownBy w9 ov.ownBlock) (hat : ov.ownBlock = some g9 ∨ g9 = W.heap.size) :
    Kp (fun k => Sg g tv0 ov k ∨ E k) w (w9.setCell ⟨g, 2, none⟩ (.slice (some ⟨g9, 0, none⟩) (L + 1) cp9)) ∧
      Wk (w9.setCell ⟨g, 2, none⟩ (.slice (some ⟨g9, 0, none⟩) (L + 1) cp9)) g s ⟨st.toks, st.opened ++ [nm], st.rooted⟩ tv (.slice (some ⟨g9, 0, none⟩) (L + 1) cp9) avs ex ∧ Mv w ov (.slice (some ⟨g9, 0, none⟩) (L + 1) cp9) := by
  refine ⟨(hK.grown hg (fun j e _ => .inl (.inr (.inr e)))).set (fun _ => .inl (.inl rfl)) _, h.pushO (by rw [hL]) hown hg ?_, ?_⟩
  · rcases hat with h | h
    · exact .inl h.symm
    · exact .inr (congrArg some h)
  · rcases hat with h | h
    · exact .inl h.symm
    · exact .inr ⟨g9, rfl, by rw [h]; exact hK.size⟩
theorem tok_info : (Tryd.prog.info? 38).map (fun i => (i.zero, i.size, i.bytes)) = some (some (.agg #[.int .u8 0, .string ⟨#[]⟩, .slice none 0 0, .string ⟨#[]⟩, .int .i64 0]), 5, 72) := by kernel_rfl
theorem text_info : (Tryd.prog.info? 9).map (fun i => (i.zero, i.size, i.bytes)) = some (some (.string ⟨#[]⟩), 1, 16) := by kernel_rfl
end Mk
end Go.Proofs.YtjbgmbhifnihaaaDoor
