/- What a finder of flaws and its steps keep. -/
import Derived.Test.YtjobhjemnmleaaaGreatDoorQ24
import Derived.Test.YtjobhjemnmleaaaGreatDoorQ12
set_option maxRecDepth 100000
set_option maxHeartbeats 8000000
namespace Go.Proofs.YtjobhjemnmleaaaGreatDoor
open Go.RowKit
namespace Vd
section
variable {P : Program} {k : TypeId} {g m n : Nat} {v v' : Value} {a b c : World} {f : Mp.Fn}
theorem Kp.grown (h : Kp g v v' a b) (hg : b.grownBy c (some m)) (hm : a.heap.size ≤ m) : Kp g v v' a c :=
 ⟨hg.os.trans h.os, hg.tape.trans h.tape, hg.output.trans h.output, Nat.le_trans h.size hg.size, fun i hi hig hv =>
  ⟨(hg.block i (Nat.lt_of_lt_of_le hi h.size) (fun e => by injection e with e; omega)).trans (h.same i hi hig hv).1, (h.same i hi hig hv).2⟩⟩
theorem Kp.then_ (h : Kp g v v' a b) (k : Below b.heap.size b c) : Kp g v v' a c := h.trans (Kp.below k)
theorem Kp.row (h : Kp g v v' a b) {B size l : Nat} {e : TypeId} {nv : Value} {xs : List Value} (ho : a.ownsRow B e size nv l xs) (hb : ∀ j, nv.ownBlock = some j → j ≠ g ∧ v.ownBlock ≠ some j) :
  b.ownsRow B e size nv l xs ∧ ∀ j, nv.ownBlock = some j → j ≠ g ∧ v'.ownBlock ≠ some j := by
 have hlt := ho.lt;refine ⟨⟨ho.1, ho.2.imp id ?_⟩, fun j hj => ⟨(hb j hj).1, (h.same j (hlt j hj).2 (hb j hj).1 (hb j hj).2).2⟩⟩;rintro ⟨j, cap, cur, rfl, q2, q3, q4⟩;have hj : (Value.slice (some ⟨j, 0, none⟩) l cap).ownBlock = some j := rfl;exact ⟨j, cap, cur, rfl, q2, (h.same j (hlt j hj).2 (hb j hj).1 (hb j hj).2).1.trans q3, q4⟩
theorem Kp.base (h : Kp g v v' a b) {B : Nat} (hB : B ≤ g) (hv : ∀ j, v.ownBlock = some j → B ≤ j) (ha : B ≤ a.heap.size) : Below B a b :=
 ⟨h.os, h.tape, h.output, h.size, fun i hi => (h.same i (by omega) (by omega) (fun e => by have := hv i e; omega)).1⟩
end
section
variable {P : Program} {k : TypeId} {rv zv lv v : Value} {B g m n : Nat} {fl : List Fl} {f : Mp.Fn} {w w' : World}
theorem Fd.grown (h : Fd rv zv lv B g fl v w) (hm : MapF P k w m n f) (hg : w.grownBy w' (some m)) : Fd rv zv lv B g fl v w' :=
 ⟨Lk.at_kept2 h.at_ hm hg, h.row.kept hg (.inr (fun e => (h.map_ne hm).2 e)), h.ne⟩
theorem Fd.base (h : Fd rv zv lv B g fl v w) : ∀ j, v.ownBlock = some j → B ≤ j := fun j hj => (h.row.lt j hj).1
theorem Fd.alloc (h : Fd rv zv lv B g fl v w) (o : Obj) : Fd rv zv lv B g fl v (w.alloc o) := h.kept ((Below.refl _ _).alloc (Nat.le_refl _) o)
end
def Ret (rv zv lv : Value) (B g : Nat) (fl more : List Fl) (v : Value) (w : World) (e : Ending) (w' : World) : Prop :=
 (∃ x, e = .returned x) ∧ ∃ v', Fd rv zv lv B g (fl ++ more) v' w' ∧ Kp g v v' w w'
def steps {α : Type} (f : Nat → α → List Fl) (l : List α) : Nat → List Fl
 | 0 => []
 | k + 1 => steps f l k ++ ((l[k]?).map (f k)).getD []
theorem steps_next {α : Type} {f : Nat → α → List Fl} {l : List α} {k : Nat} {x : α} (h : l[k]? = some x) : steps f l (k + 1) = steps f l k ++ f k x := by
 rw [steps, h];rfl
theorem steps_one {α : Type} {f : Nat → α → List Fl} {l : List α} (h : ∀ k x, l[k]? = some x → (f k x).length ≤ 1) : ∀ k, (steps f l k).length ≤ k
 | 0 => Nat.le_refl _
 | k + 1 => by
  rw [steps, List.length_append];have := steps_one h k;have h2 : (((l[k]?).map (f k)).getD []).length ≤ 1 := by
   cases hk : l[k]? with
   | none => exact Nat.zero_le _
   | some x => exact h k x hk
  omega
noncomputable def tw1 (l : List ByteArray) (k : Nat) (x : ByteArray) : List Fl := @ite _ (x ∈ l.take k) (Classical.propDecidable _) [(8, x)] []
theorem tw1_in {l : List ByteArray} {k : Nat} {x : ByteArray} (h : x ∈ l.take k) : tw1 l k x = [(8, x)] := by unfold tw1; rw [if_pos h]
theorem tw1_out {l : List ByteArray} {k : Nat} {x : ByteArray} (h : x ∉ l.take k) : tw1 l k x = [] := by unfold tw1; rw [if_neg h]
noncomputable def tw (l : List ByteArray) : List Fl := steps (tw1 l) l l.length
theorem tw_le (l : List ByteArray) (k : Nat) : (steps (tw1 l) l k).length ≤ k := steps_one (fun k x _ => by
 by_cases h : x ∈ l.take k
 ·rw [tw1_in h]; exact Nat.le_refl _
 ·rw [tw1_out h]; exact Nat.zero_le _) k
def Seen (f : Mp.Fn) (l : List ByteArray) : Prop := ∀ x, (f x).isSome = true ↔ x ∈ l
theorem Seen.nil : Seen (fun _ => none) [] := fun x => by simp
theorem Seen.put {f : Mp.Fn} {l : List ByteArray} (h : Seen f l) (s : ByteArray) (u : Value) : Seen (Mp.put f s u) (l ++ [s]) := by
 intro x
 by_cases e : x = s
 ·rw [e, Mp.put_same]; simp
 ·rw [Mp.put_other _ _ _ e, h x]; simp [e]
theorem Seen.again {f : Mp.Fn} {l : List ByteArray} (h : Seen f l) {s : ByteArray} (hs : s ∈ l) : Seen f (l ++ [s]) := by
 intro x;rw [h x, List.mem_append, List.mem_singleton];exact ⟨.inl, fun q => q.elim id (fun e => e ▸ hs)⟩
theorem Seen.yes {f : Mp.Fn} {l : List ByteArray} (h : Seen f l) {x : ByteArray} (hx : x ∈ l) : (f x).isSome = true := (h x).2 hx
theorem Seen.no {f : Mp.Fn} {l : List ByteArray} (h : Seen f l) {x : ByteArray} (hx : x ∉ l) : (f x).isSome = false := by
 cases e : (f x).isSome
 ·rfl
 ·exact absurd ((h x).1 e) hx
structure TwAt (rv zv lv : Value) (B g : Nat) (fl : List Fl) (v0 : Value) (w0 : World) (bm : Nat) (A : Option Addr) (n c : Nat) (l : List ByteArray) (i : Value) (wr : World) : Prop where
 st : ∃ k v f, k ≤ n ∧ i = .int .i64 (k : Int) ∧ Fd rv zv lv B g (fl ++ steps (tw1 l) l k) v wr ∧ Kp g v0 v w0 wr ∧ MapF Tryz.prog 9 wr bm k f ∧ Seen f (l.take k) ∧ (∀ j, (Value.slice A n c).ownBlock = some j → j ≠ g ∧ v.ownBlock ≠ some j)
 row : wr.ownsRow (bm + 1) 9 1 (.slice A n c) n (l.map Value.string)
end Vd
theorem store_int (w : World) {ops : Array Oper} {rest : List Oper} {o : Oper} {a : Act} {Q : Exit → Act → World → Prop} (hg : o.guard = none) (m x v : Operand) (b n : Nat) (f : Mp.Fn) (s : ByteArray) (hs : s.size ≤ maxLen) (hn : n < maxLen) (e : Int) (hop : o.op = Op.mapUpdate 166 m x v)
  (hm : a.eval m = .map (some b)) (hx : a.eval x = .string s) (hv : a.eval v = .int .i64 e) (h : MapF Tryz.prog 9 w b n f)
  (hK : ∀ w', MapF Tryz.prog 9 w' b (n + 1) (Mp.put f s (.int .i64 e)) → w.grownBy w' (some b) → wpList Tryz.prog ops Q rest (a.put o.dst undef) w') : wpList Tryz.prog ops Q (o :: rest) a w :=
 wpList_store w hg m x v 166 9 3 hop Tryz.underlying9 Tryz.underlying166 b n f s hs hn _ hm hx hv h hK
theorem look_int (w : World) {ops : Array Oper} {rest : List Oper} {o : Oper} {a : Act} {Q : Exit → Act → World → Prop} (hg : o.guard = none) (m x : Operand) (b n : Nat) (f : Mp.Fn) (s : ByteArray) (hs : s.size ≤ maxLen) (hop : o.op = Op.lookup 166 m x true)
  (hm : a.eval m = .map (some b)) (hx : a.eval x = .string s) (h : MapF Tryz.prog 9 w b n f) (u : Value) (hu : (f s).getD (.int .i64 0) = u) (q : Bool) (hq : (f s).isSome = q)
  (hK : wpList Tryz.prog ops Q rest (a.put o.dst (.tuple #[u, .bool q])) w) : wpList Tryz.prog ops Q (o :: rest) a w := by
 subst hu hq;exact wpList_look_ok w hg m x 166 9 3 hop Tryz.underlying9 Tryz.underlying166 zero_int b n f s hs hm hx h hK
end Go.Proofs.YtjobhjemnmleaaaGreatDoor
namespace Go.Proofs.YtjobhjemnmleaaaGreatDoor
open Go.RowKit
theorem vdTwice_any (s : Src.S) (rv zv lv v : Value) (evs : List Value) (B g : Nat) (fl : List Vd.Fl) (w : World) (hF : Vd.Fd rv zv lv B g fl v w) (hR : Src.SrcR w B s rv zv lv evs) (hB : B ≤ g) (hL : Src.Lims s) (hsz : ∀ x ∈ Src.names s, x.size ≤ maxLen) (hfl : fl.length ≤ 100000) :
  Calls Tryz.prog 96 #[.pointer (some ⟨g, 0, none⟩)] w (Vd.Ret rv zv lv B g fl (Vd.tw (Src.names s)) v w) := by
 have hgl := hF.at_.lt;obtain ⟨bm, hbm⟩ : ∃ b, w.heap.size = b := ⟨_, rfl⟩
 have hB1 := (Below.refl w.heap.size w).alloc (Nat.le_refl _) (.map #[] 0);have hF1 := hF.alloc (.map #[] 0);have hM1 := MapF.made (P := Tryz.prog) (k := 9) w;obtain ⟨W1, hW1⟩ : ∃ W, w.alloc (.map #[] 0) = W := ⟨_, rfl⟩
 have hs1 : W1.heap.size = bm + 1 := by rw [← hW1, World.size_alloc, hbm]
 have hR1 := (hR.below (hB1.mono (by omega))).more (show B ≤ W1.heap.size by omega);rw [hW1] at hB1 hF1 hM1 hR1;have hC := srcNames_own s rv zv lv evs W1 hR1 hL;have hK1 := Vd.Kp.below (g := g) (v := v) hB1;have hvl : ∀ j, v.ownBlock = some j → j < w.heap.size := fun j hj => (hF.row.lt j hj).2
 obtain ⟨l, hl⟩ : ∃ l, Src.names s = l := ⟨_, rfl⟩
 have hll : s.zones.length + s.links.length = l.length := by rw [← hl]; simp [Src.names, Src.zoneNames, Src.linkNames]
 have hln : l.length ≤ 6000 := by have := hL.zones; have := hL.links; omega
 rw [hl] at hsz hC ⊢;rw [hll, hs1] at hC;rw [hbm] at hM1 hgl hvl;obtain ⟨n, hn⟩ : ∃ n, l.length = n := ⟨_, rfl⟩
 unfold Vd.tw;rw [hn] at hC hln ⊢;have a0 := hF1.at_.cell 0 _ rfl;have a1 := hF1.at_.cell 1 _ rfl;have a2 := hF1.at_.cell 2 _ rfl;have HC := Lib.hid hC;have HF := Lib.hid hF1;have HM := Lib.hid hM1;have HK := Lib.hid hK1;have HSz := Lib.hid hsz;have HVl := Lib.hid hvl;have HN := Lib.hid hn;have HS1 := Lib.hid hs1;clear hF hR hB1 hF1 hM1 hR1 hC hK1 hvl hsz hl hll hn hs1;have hmk := @run_makeMap Tryz.prog;go_enter Tryz.func96, Tryz.ntmps96
 go_wp2_with fail
 refine HC.out.mono ?_;rintro e w2 ⟨A, c, rfl, hb, _, _, hO⟩;replace hb : Below W1.heap.size W1 w2 := by rw [HS1.out]; exact hb
 have hF2 := HF.out.kept hb;have hK2 := HK.out.then_ hb;have hM2 := HM.out.below hb;have h0 : Vd.TwAt rv zv lv B g fl v w bm A n c l (.int .i64 0) w2 := ⟨⟨0, v, _, Nat.zero_le _, rfl, by rw [Vd.steps, List.append_nil]; exact hF2, hK2, hM2, Vd.Seen.nil, fun j hj => by
  have h1 := (hO.lt j hj).1;exact ⟨by omega, fun e => by have := HVl.out j e; omega⟩⟩, hO⟩
 have H0 := Lib.hid h0;clear hb hF2 hK2 hM2 hO h0 a0 a1 a2;go_wp2_with fail
 go_loopw [14] (fun i wr => Vd.TwAt rv zv lv B g fl v w bm A n c l i wr) (fun i _ => n - (intOf i).toNat)
 case atStart => exact H0.out
 case round =>
  obtain ⟨⟨k, u, f, hk, rfl, hF, hK, hM, hS, hBs⟩, hO⟩ := hrel
  by_cases hlt : k < n
  ·obtain ⟨x, hx⟩ : ∃ y, l[k]? = some y := ⟨_, List.getElem?_eq_getElem (by rw [HN.out]; exact hlt)⟩
   have hxs := HSz.out x (List.mem_of_getElem? hx);obtain ⟨ad, u1, rfl, hab, hu, hcu⟩ := (Reads.of_own hO).at_ hlt;have hu2 : u1 = .string x := by
    rw [List.getElem?_map, hx] at hu;exact (Option.some.inj hu).symm
   rw [hu2] at hcu;have q1 : (0 : Int) ≤ (k : Int) := by omega
   have q2 : (k : Int) < (n : Int) := by omega
   have htk : l.take (k + 1) = l.take k ++ [x] := by rw [List.take_add_one, hx]; rfl
   have hst := Vd.steps_next (f := Vd.tw1 l) hx;have hbn : k < maxLen := by unfold maxLen; omega
   have hle := Vd.tw_le l k;have hmg := (hF.map_ne hM).1
   by_cases hin : x ∈ l.take k
   ·rw [Vd.tw1_in hin] at hst;have hq := hS.yes hin;obtain ⟨u2, hu2⟩ : ∃ z, (f x).getD (.int .i64 0) = z := ⟨_, rfl⟩
    have hp := vdPut_any rv zv lv u B g _ 8 x wr hF (by rw [List.length_append]; omega) (by have := hK.size; omega);have hrw := hK.size;have hnext : Hid (∀ e w2, Vd.PutRet rv zv lv B g (fl ++ Vd.steps (Vd.tw1 l) l k) (8, x) u wr e w2 → (∃ y, e = .returned y) ∧ Vd.TwAt rv zv lv B g fl v w bm (some ad) n c l (.int .i64 ((k : Int) + 1)) w2) := by
     rintro e w2 ⟨he, v2, hF2, hK2⟩;have hM2 := hK2.map hM hmg (hF.map_ne hM).2;obtain ⟨hO2, hBs2⟩ := hK2.row hO hBs;refine ⟨he, ⟨k + 1, v2, f, by omega, by simp, ?_, hK.trans hK2, hM2.more (by omega), ?_, hBs2⟩, hO2⟩
     ·rw [hst, ← List.append_assoc];exact hF2
     ·rw [htk];exact hS.again hin
    have HP := Lib.hid hp;have HM3 := Lib.hid hM;clear hp hF hK hM hS hBs hO hu hx htk hst hin hmg hle;go_wp2_with (first | (at_lookup; refine look_int _ rfl _ _ bm k f x hxs rfl rfl rfl HM3.out u2 hu2 true hq ?_))
    refine HP.out.mono ?_;intro e w2 hpr;obtain ⟨⟨y, rfl⟩, hN4⟩ := hnext.out e w2 hpr;have HN5 := Lib.hid hN4;clear hpr hN4 hq hu2;go_wp2;go_roundw
    case rel => exact HN5.out
    case measure => simp [intOf]; omega
   ·rw [Vd.tw1_out hin, List.append_nil] at hst;have hq := hS.no hin;obtain ⟨u2, hu2⟩ : ∃ z, (f x).getD (.int .i64 0) = z := ⟨_, rfl⟩
    have hrw := hK.size;have hnext : Hid (∀ w3, MapF Tryz.prog 9 w3 bm (k + 1) (Mp.put f x (.int .i64 (k : Int))) → wr.grownBy w3 (some bm) → Vd.TwAt rv zv lv B g fl v w bm (some ad) n c l (.int .i64 ((k : Int) + 1)) w3) := by
     refine fun w3 hM3 hg3 => ⟨⟨k + 1, u, _, by omega, by simp, ?_, hK.grown hg3 (by omega), hM3, ?_, hBs⟩, hO.kept hg3 (.inr (fun e => by have := (hO.lt bm e).1; omega))⟩
     ·rw [hst];exact hF.grown hM hg3
     ·rw [htk];exact hS.put _ _
    have HM3 := Lib.hid hM;clear hF hK hM hS hBs hO hu hx htk hst hin hmg hle;go_wp2_with (first | (at_lookup; refine look_int _ rfl _ _ bm k f x hxs rfl rfl rfl HM3.out u2 hu2 false hq ?_) | (at_mapUpdate; refine store_int _ rfl _ _ _ bm k f x hxs hbn (k : Int) rfl rfl rfl rfl HM3.out ?_; intro w3 hM5 hg5; have HN5 := Lib.hid (hnext.out w3 hM5 hg5); clear hM5 hg5))
    go_roundw
    case rel => exact HN5.out
    case measure => simp [intOf]; omega
  ·have hkn : k = n := by omega
   subst hkn;have q2 : ¬ (k : Int) < (k : Int) := by omega
   have HE : Hid (Vd.Ret rv zv lv B g fl (Vd.steps (Vd.tw1 l) l k) v w (.returned (.tuple #[])) wr) := ⟨⟨_, rfl⟩, u, hF, hK⟩
   clear hF hK hM hS hBs hO;go_wp2;refine bodyPost_ret (results_none rfl _ _ _) rfl ?_;exact HE.out
namespace Vd
theorem flat_next {α β : Type} (f : α → List β) {l : List α} {k : Nat} {x : α} (h : l[k]? = some x) : (l.take (k + 1)).flatMap f = (l.take k).flatMap f ++ f x := by
 rw [List.take_add_one, h, List.flatMap_append];simp
theorem flat_all {α β : Type} (f : α → List β) {l : List α} {k : Nat} (h : l.length = k) : (l.take k).flatMap f = l.flatMap f := by
 rw [List.take_of_length_le (by omega)]
theorem flat_len {α β : Type} (f : α → List β) (m : Nat) : ∀ (l : List α), (∀ x ∈ l, (f x).length ≤ m) → (l.flatMap f).length ≤ l.length * m
 | [], _ => by simp
 | x :: l, h => by
  rw [List.flatMap_cons, List.length_append, List.length_cons, Nat.add_mul];have h1 := h x (by simp);have h2 := flat_len f m l (fun y hy => h y (by simp [hy]));omega
noncomputable def ms (rn : List ByteArray) (e : Er.E) : List Fl := @ite _ (e.k = 2 ∧ e.ru ∉ rn) (Classical.propDecidable _) [(3, e.ru)] []
theorem ms_yes {rn : List ByteArray} {e : Er.E} (h : e.k = 2) (h2 : e.ru ∉ rn) : ms rn e = [(3, e.ru)] := by unfold ms; rw [if_pos ⟨h, h2⟩]
theorem ms_kind {rn : List ByteArray} {e : Er.E} (h : ¬ e.k = 2) : ms rn e = [] := by unfold ms; rw [if_neg (fun q => h q.1)]
theorem ms_there {rn : List ByteArray} {e : Er.E} (h : e.ru ∈ rn) : ms rn e = [] := by unfold ms; rw [if_neg (fun q => q.2 h)]
theorem ms_le (rn : List ByteArray) (e : Er.E) : (ms rn e).length ≤ 1 := by
 unfold ms;split
 ·exact Nat.le_refl _
 ·exact Nat.zero_le _
def rn (s : Src.S) : List ByteArray := s.rules.map fun r => r.nm
noncomputable def mz (s : Src.S) (z : Src.Txt × List Er.E) : List Fl := z.2.flatMap (ms (rn s))
def RsAt (w0 : World) (bm : Nat) (l : List ByteArray) (n : Nat) (i : Value) (wr : World) : Prop :=
 ∃ k f, k ≤ n ∧ i = .int .i64 (k : Int) ∧ Below w0.heap.size w0 wr ∧ MapF Tryz.prog 9 wr bm k f ∧ Seen f (l.take k)
def ZsAt {α : Type} (h : α → List Fl) (l : List α) (n : Nat) (rv zv lv : Value) (B g : Nat) (fl : List Fl) (v0 : Value) (w0 : World) (bm nm : Nat) (f : Mp.Fn) (i : Value) (wr : World) : Prop :=
 ∃ k v, k ≤ n ∧ i = .int .i64 (k : Int) ∧ Fd rv zv lv B g (fl ++ (l.take k).flatMap h) v wr ∧ Kp g v0 v w0 wr ∧ MapF Tryz.prog 9 wr bm nm f
end Vd
theorem vdMissing_any (s : Src.S) (rv zv lv v : Value) (evs : List Value) (B g : Nat) (fl : List Vd.Fl) (w : World) (hF : Vd.Fd rv zv lv B g fl v w) (hR : Src.SrcR w B s rv zv lv evs) (hB : B ≤ g) (hL : Src.Lims s) (hE : ∀ z ∈ s.zones, z.2.length ≤ 100) (hsz : ∀ x ∈ Vd.rn s, x.size ≤ maxLen) (hse : ∀ z ∈ s.zones, ∀ e ∈ z.2, e.ru.size ≤ maxLen) (hfl : fl.length ≤ 100000) :
  Calls Tryz.prog 97 #[.pointer (some ⟨g, 0, none⟩)] w (Vd.Ret rv zv lv B g fl (s.zones.flatMap (Vd.mz s)) v w) := by
 have hgl := hF.at_.lt;obtain ⟨bm, hbm⟩ : ∃ b, w.heap.size = b := ⟨_, rfl⟩
 have hB1 := (Below.refl w.heap.size w).alloc (Nat.le_refl _) (.map #[] 0);have hF1 := hF.alloc (.map #[] 0);have hM1 := MapF.made (P := Tryz.prog) (k := 9) w;have hvl : ∀ j, v.ownBlock = some j → j < w.heap.size := fun j hj => (hF.row.lt j hj).2
 have hvb := hF.base;have hlen : (s.zones.zip evs).length = s.zones.length := by rw [List.length_zip, hR.len]; omega
 have hers := hR.eras;obtain ⟨rA, rc, rfl, _, hrc, hrr⟩ := hR.rules;obtain ⟨zA, zc, rfl, _, hzc, hrz⟩ := hR.zones;obtain ⟨lA, lc, rfl, _⟩ := hR.links;obtain ⟨W1, hW1⟩ : ∃ W, w.alloc (.map #[] 0) = W := ⟨_, rfl⟩
 have hs1 : W1.heap.size = bm + 1 := by rw [← hW1, World.size_alloc, hbm]
 rw [hW1] at hB1 hF1 hM1;rw [hbm] at hM1 hgl hvl;have a0 := hF1.at_.cell 0 _ rfl;have L1 := hL.rules;have L2 := hL.zones;have hzn : ∀ k x, (s.zones.zip evs)[k]? = some x → s.zones[k]? = some x.1 ∧ x ∈ s.zones.zip evs := fun k x h => ⟨(List.getElem?_zip_eq_some.1 h).1, List.mem_of_getElem? h⟩
 have hrnl : (Vd.rn s).length = s.rules.length := by unfold Vd.rn; simp
 have hrnk : ∀ (k : Nat) (x : Ru.R), s.rules[k]? = some x → (Vd.rn s)[k]? = some x.nm := fun k x h => by unfold Vd.rn; rw [List.getElem?_map, h]; rfl
 have hmz : ∀ k, ((s.zones.take k).flatMap (Vd.mz s)).length ≤ k * 100 := fun k => Nat.le_trans (Vd.flat_len (Vd.mz s) 100 _ (fun z hz => Nat.le_trans (Vd.flat_len (Vd.ms (Vd.rn s)) 1 z.2 (fun e _ => Vd.ms_le _ e)) (by have := hE z (List.mem_of_mem_take hz); omega))) (by rw [List.length_take]; exact Nat.mul_le_mul_right _ (Nat.min_le_left _ _))
 obtain ⟨n1, hn1⟩ : ∃ n, s.rules.length = n := ⟨_, rfl⟩
 obtain ⟨n2, hn2⟩ : ∃ n, s.zones.length = n := ⟨_, rfl⟩
 obtain ⟨n3, hn3⟩ : ∃ n, s.links.length = n := ⟨_, rfl⟩
 rw [hn1] at hrr L1 hF hF1 a0 hrnl ⊢;rw [hn2] at hrz L2 hF hF1 hlen ⊢;rw [hn3] at hF hF1 ⊢;unfold maxLen at hrc hzc;have HN1 := Lib.hid hn1;have HN2 := Lib.hid hn2;have HRr := Lib.hid hrr;have HRz := Lib.hid hrz;have HLen := Lib.hid hlen;have HErs := Lib.hid hers;have HZn := Lib.hid hzn;have HE := Lib.hid hE;have HSz := Lib.hid hsz;have HSe := Lib.hid hse;have HF0 := Lib.hid hF;have HF := Lib.hid hF1;have HM := Lib.hid hM1;have HB1 := Lib.hid hB1;have HVl := Lib.hid (And.intro hvl hvb);have HS1 := Lib.hid hs1;have HRnl := Lib.hid hrnl;have HRnk := Lib.hid hrnk;have HMz := Lib.hid hmz;have HBm := Lib.hid hbm;clear hF hR hB1 hF1 hM1 hvl hvb hsz hse hn1 hn2 hn3 hrr hrz hlen hers hzn hE hs1 hrnl hrnk hmz hrc hzc hL;have hmk := @run_makeMap Tryz.prog;go_enter Tryz.func97, Tryz.ntmps97
 go_wp2_with fail
 clear a0 hmk;go_loopw [18] (fun i wr => Vd.RsAt w bm (Vd.rn s) n1 i wr) (fun i _ => n1 - (intOf i).toNat)
 case atStart => exact ⟨0, _, Nat.zero_le _, rfl, HB1.out, HM.out, Vd.Seen.nil⟩
 case round =>
  obtain ⟨k, f, hk, rfl, hB', hM, hS⟩ := hrel
  by_cases hlt : k < n1
  ·have q1 : (0 : Int) ≤ (k : Int) := by omega
   have q2 : (k : Int) < (n1 : Int) := by omega
   obtain ⟨ad, x, rfl, hab, Hx, HLc⟩ := Ix.reads_cells (enc := Ru.R.cells) (m := 11) (fun _ => rfl) HN1.out (HRr.out.below (hB'.mono (by have := HF0.out.at_.lt; omega))) hlt;have hnk := HRnk.out k x Hx.out;have hxs : x.nm.size ≤ maxLen := HSz.out x.nm (List.mem_of_getElem? hnk);obtain ⟨nm, fr, tt, mo, kk, nn, d, sc, cc, sv, lt⟩ := x;have x0 : wr.cell? (ad.add (k * 11)) = some (.string nm) := HLc.out 0 _ rfl;have x1 : wr.cell? ⟨(ad.add (k * 11)).block, (ad.add (k * 11)).off + 1, none⟩ = some (.int .i64 fr) := HLc.out 1 _ rfl;have x2 : wr.cell? ⟨(ad.add (k * 11)).block, (ad.add (k * 11)).off + 2, none⟩ = some (.int .i64 tt) := HLc.out 2 _ rfl;have x3 : wr.cell? ⟨(ad.add (k * 11)).block, (ad.add (k * 11)).off + 3, none⟩ = some (.int .i64 mo) := HLc.out 3 _ rfl;have x4 : wr.cell? ⟨(ad.add (k * 11)).block, (ad.add (k * 11)).off + 4, none⟩ = some (.int .u8 kk) := HLc.out 4 _ rfl;have x5 : wr.cell? ⟨(ad.add (k * 11)).block, (ad.add (k * 11)).off + 5, none⟩ = some (.int .i64 nn) := HLc.out 5 _ rfl;have x6 : wr.cell? ⟨(ad.add (k * 11)).block, (ad.add (k * 11)).off + 6, none⟩ = some (.int .i64 d) := HLc.out 6 _ rfl;have x7 : wr.cell? ⟨(ad.add (k * 11)).block, (ad.add (k * 11)).off + 7, none⟩ = some (.int .i64 sc) := HLc.out 7 _ rfl;have x8 : wr.cell? ⟨(ad.add (k * 11)).block, (ad.add (k * 11)).off + 8, none⟩ = some (.int .u8 cc) := HLc.out 8 _ rfl;have x9 : wr.cell? ⟨(ad.add (k * 11)).block, (ad.add (k * 11)).off + 9, none⟩ = some (.int .i64 sv) := HLc.out 9 _ rfl;have x10 : wr.cell? ⟨(ad.add (k * 11)).block, (ad.add (k * 11)).off + 10, none⟩ = some (.string lt) := HLc.out 10 _ rfl
   obtain ⟨cs, hcs⟩ : ∃ c : Array Value, #[.string nm, .int .i64 fr, .int .i64 tt, .int .i64 mo, .int .u8 kk, .int .i64 nn, .int .i64 d, .int .i64 sc, .int .u8 cc, .int .i64 sv, .string lt] = c := ⟨_, rfl⟩
   have hM2 := hM.alloc (.cells cs 112);rw [← hcs] at hM2;have hB2 := hB'.alloc hB'.size (.cells cs 112);rw [← hcs] at hB2;have hbn : k < maxLen := by unfold maxLen; omega
   have htk : (Vd.rn s).take (k + 1) = (Vd.rn s).take k ++ [nm] := by rw [List.take_add_one, hnk]; rfl
   have hbmw := HBm.out;have hnext : Hid (∀ w3, MapF Tryz.prog 9 w3 bm (k + 1) (Mp.put f nm (.int .i64 (k : Int))) → (wr.alloc (.cells #[.string nm, .int .i64 fr, .int .i64 tt, .int .i64 mo, .int .u8 kk, .int .i64 nn, .int .i64 d, .int .i64 sc, .int .u8 cc, .int .i64 sv, .string lt] 112)).grownBy w3 (some bm) → Vd.RsAt w bm (Vd.rn s) n1 (.int .i64 ((k : Int) + 1)) w3) := by
    intro w3 hM3 hg3;refine ⟨k + 1, _, by omega, by simp, hB2.grown hg3 hB2.size (fun j e => by injection e with e; omega), hM3, ?_⟩;rw [htk];exact hS.put _ _
   have HM2 := Lib.hid hM2;clear hM2 hB2 hM hB' hS htk hnk hcs Hx HLc;go_wp2_with (first | (at_mapUpdate; refine store_int _ rfl _ _ _ bm k f nm hxs hbn (k : Int) rfl rfl rfl rfl HM2.out ?_; intro w3 hM5 hg5; have HN5 := Lib.hid (hnext.out w3 hM5 hg5); clear hM5 hg5))
   go_roundw
   case rel => exact HN5.out
   case measure => simp [intOf]; omega
  ·have hkn : k = n1 := by omega
   subst hkn;have q2 : ¬ (k : Int) < (k : Int) := by omega
   rw [List.take_of_length_le (by rw [HRnl.out]; exact Nat.le_refl _)] at hS;have hF2 := HF0.out.kept hB';have hK2 := Vd.Kp.below (g := g) (v := v) hB';have a1 := hF2.at_.cell 1 _ rfl;have H0 : Hid (Vd.ZsAt (Vd.mz s) s.zones n2 (.slice rA k rc) (.slice zA n2 zc) (.slice lA n3 lc) B g fl v w bm k f (.int .i64 0) wr) := ⟨0, v, Nat.zero_le _, rfl, by simpa using hF2, hK2, hM⟩
   have HS := Lib.hid hS;clear hF2 hK2 hM hS hB';go_wp2_with fail
   clear a1;go_loopw [34] (fun i wr => Vd.ZsAt (Vd.mz s) s.zones n2 (.slice rA k rc) (.slice zA n2 zc) (.slice lA n3 lc) B g fl v w bm k f i wr) (fun i _ => n2 - (intOf i).toNat)
   case atStart => exact H0.out
   case round =>
    clear H0;obtain ⟨k2, u, hk2, rfl, hF, hK, hM⟩ := hrel
    by_cases hlt2 : k2 < n2
    ·have q1 : (0 : Int) ≤ (k2 : Int) := by omega
     have q3 : (k2 : Int) < (n2 : Int) := by omega
     have hBw := hK.base hB HVl.out.2 (by have := HF0.out.at_.lt; omega);obtain ⟨adz, x, rfl, hab, Hx, HL⟩ := Ix.reads_cells (enc := Src.zc) (m := 2) (fun _ => rfl) HLen.out (HRz.out.below hBw) hlt2;obtain ⟨hzk, hzm⟩ := HZn.out k2 x Hx.out;obtain ⟨eA, ec, he2, _, hec, hre⟩ := HErs.out x hzm;have hmem : x.1 ∈ s.zones := List.mem_of_getElem? hzk;obtain ⟨zb, hzb⟩ : ∃ t, Src.bts x.1.1 = t := ⟨_, rfl⟩
     obtain ⟨es, hes⟩ : ∃ l, x.1.2 = l := ⟨_, rfl⟩
     obtain ⟨me, hme⟩ : ∃ l, es.length = l := ⟨_, rfl⟩
     have hm100 : me ≤ 100 := by rw [← hme, ← hes]; exact HE.out _ hmem
     have hsz : ∀ e ∈ es, e.ru.size ≤ maxLen := by rw [← hes]; exact HSe.out _ hmem
     have hmz : Vd.mz s x.1 = es.flatMap (Vd.ms (Vd.rn s)) := by unfold Vd.mz; rw [hes]
     rw [hes, hme] at he2 hre;have c0 : wr.cell? (adz.add (k2 * 2)) = some (.string zb) := by rw [← hzb]; exact HL.out 0 _ rfl
     have c1 : wr.cell? ⟨(adz.add (k2 * 2)).block, (adz.add (k2 * 2)).off + 1, none⟩ = some (.slice eA me ec) := by rw [← he2]; exact HL.out 1 _ rfl
     have hnx := Vd.flat_next (Vd.mz s) hzk;rw [hmz] at hnx;have hfk := HMz.out k2;have hBa := (Below.refl wr.heap.size wr).alloc (Nat.le_refl _) (.cells #[.string zb, .slice eA me ec] 117);have hA : Hid (Vd.ZsAt (Vd.ms (Vd.rn s)) es me (.slice rA k rc) (.slice (some adz) n2 zc) (.slice lA n3 lc) B g (fl ++ (s.zones.take k2).flatMap (Vd.mz s)) v w bm k f (.int .i64 0) (wr.alloc (.cells #[.string zb, .slice eA me ec] 117))) := ⟨0, u, Nat.zero_le _, rfl, by simpa using hF.kept hBa, hK.then_ hBa, hM.below hBa⟩
     have HMe := Lib.hid hme;have HRe := Lib.hid hre;have HSe2 := Lib.hid hsz;have HNx := Lib.hid hnx;unfold maxLen at hec;clear hF hK hM hBw hBa Hx HL hzk hzm he2 hre hmem hzb hes hme hsz hmz hnx;go_wp2;go_loopw [41] (fun i wr => Vd.ZsAt (Vd.ms (Vd.rn s)) es me (.slice rA k rc) (.slice (some adz) n2 zc) (.slice lA n3 lc) B g (fl ++ (s.zones.take k2).flatMap (Vd.mz s)) v w bm k f i wr) (fun i _ => me - (intOf i).toNat)
     case atStart => exact hA.out
     case round =>
      clear hA c0 c1;obtain ⟨j, u, hj, rfl, hF, hK, hM⟩ := hrel
      by_cases hlt3 : j < me
      ·have q4 : (0 : Int) ≤ (j : Int) := by omega
       have q5 : (j : Int) < (me : Int) := by omega
       have hBw := hK.base hB HVl.out.2 (by have := HF0.out.at_.lt; omega);obtain ⟨ad, x, rfl, hab, Hx, HLe⟩ := Ix.reads_cells (enc := Er.E.cells) (m := 13) (fun _ => rfl) HMe.out (HRe.out.below hBw) hlt3;have hxs := HSe2.out x (List.mem_of_getElem? Hx.out);have hnj := Vd.flat_next (Vd.ms (Vd.rn s)) Hx.out;obtain ⟨std, ek, esv, ru, fm, en, ⟨y, m, dk, dn, dd, sc, cc⟩⟩ := x;simp only at hxs;have y0 : wr.cell? (ad.add (j * 13)) = some (.int .i64 std) := HLe.out 0 _ rfl;have y1 : wr.cell? ⟨(ad.add (j * 13)).block, (ad.add (j * 13)).off + 1, none⟩ = some (.int .u8 ek) := HLe.out 1 _ rfl;have y2 : wr.cell? ⟨(ad.add (j * 13)).block, (ad.add (j * 13)).off + 2, none⟩ = some (.int .i64 esv) := HLe.out 2 _ rfl;have y3 : wr.cell? ⟨(ad.add (j * 13)).block, (ad.add (j * 13)).off + 3, none⟩ = some (.string ru) := HLe.out 3 _ rfl;have y4 : wr.cell? ⟨(ad.add (j * 13)).block, (ad.add (j * 13)).off + 4, none⟩ = some (.string fm) := HLe.out 4 _ rfl;have y5 : wr.cell? ⟨(ad.add (j * 13)).block, (ad.add (j * 13)).off + 5, none⟩ = some (.bool en) := HLe.out 5 _ rfl;have y6 : wr.cell? ⟨(ad.add (j * 13)).block, (ad.add (j * 13)).off + 6, none⟩ = some (.int .i64 y) := HLe.out 6 _ rfl;have y7 : wr.cell? ⟨(ad.add (j * 13)).block, (ad.add (j * 13)).off + 7, none⟩ = some (.int .i64 m) := HLe.out 7 _ rfl;have y8 : wr.cell? ⟨(ad.add (j * 13)).block, (ad.add (j * 13)).off + 8, none⟩ = some (.int .u8 dk) := HLe.out 8 _ rfl;have y9 : wr.cell? ⟨(ad.add (j * 13)).block, (ad.add (j * 13)).off + 9, none⟩ = some (.int .i64 dn) := HLe.out 9 _ rfl
       have y10 : wr.cell? ⟨(ad.add (j * 13)).block, (ad.add (j * 13)).off + 10, none⟩ = some (.int .i64 dd) := HLe.out 10 _ rfl;have y11 : wr.cell? ⟨(ad.add (j * 13)).block, (ad.add (j * 13)).off + 11, none⟩ = some (.int .i64 sc) := HLe.out 11 _ rfl;have y12 : wr.cell? ⟨(ad.add (j * 13)).block, (ad.add (j * 13)).off + 12, none⟩ = some (.int .u8 cc) := HLe.out 12 _ rfl;have hBa := (Below.refl wr.heap.size wr).alloc (Nat.le_refl _) (.cells #[.int .i64 std, .int .u8 ek, .int .i64 esv, .string ru, .string fm, .bool en, .int .i64 y, .int .i64 m, .int .u8 dk, .int .i64 dn, .int .i64 dd, .int .i64 sc, .int .u8 cc] 191);have hF2 := hF.kept hBa;have hK2 := hK.then_ hBa;have hM2 := hM.below hBa;have hjl : ((es.take j).flatMap (Vd.ms (Vd.rn s))).length ≤ j := Nat.le_trans (Vd.flat_len _ 1 _ (fun e _ => Vd.ms_le _ e)) (by rw [List.length_take]; omega)
       by_cases hkd : ek = 2
       ·subst hkd
        by_cases hin : ru ∈ Vd.rn s
        ·rw [Vd.ms_there hin, List.append_nil] at hnj;have hq := HS.out.yes hin;obtain ⟨u2, hu2⟩ : ∃ z, (f ru).getD (.int .i64 0) = z := ⟨_, rfl⟩
         have HN5 : Hid (Vd.ZsAt (Vd.ms (Vd.rn s)) es me (.slice rA k rc) (.slice (some adz) n2 zc) (.slice lA n3 lc) B g (fl ++ (s.zones.take k2).flatMap (Vd.mz s)) v w bm k f (.int .i64 ((j : Int) + 1)) (wr.alloc (.cells #[.int .i64 std, .int .u8 2, .int .i64 esv, .string ru, .string fm, .bool en, .int .i64 y, .int .i64 m, .int .u8 dk, .int .i64 dn, .int .i64 dd, .int .i64 sc, .int .u8 cc] 191))) := ⟨j + 1, u, by omega, by simp, by rw [hnj]; exact hF2, hK2, hM2⟩
         have HM2 := Lib.hid hM2;clear hF hK hM hF2 hK2 hM2 hBa hBw hnj Hx HLe hin;go_wp2_with (first | (at_lookup; refine look_int _ rfl _ _ bm k f ru hxs rfl rfl rfl HM2.out u2 hu2 true hq ?_))
         go_roundw
         case rel => exact HN5.out
         case measure => simp [intOf]; omega
        ·rw [Vd.ms_yes rfl hin] at hnj;have hq := HS.out.no hin;obtain ⟨u2, hu2⟩ : ∃ z, (f ru).getD (.int .i64 0) = z := ⟨_, rfl⟩
         have HP := Lib.hid (vdPut_any _ _ _ u B g _ 3 ru _ hF2 (by rw [List.length_append, List.length_append]; omega) (by have := hK2.size; have := HF0.out.at_.lt; omega));have HN5 : Hid (∀ e w2, Vd.PutRet (.slice rA k rc) (.slice (some adz) n2 zc) (.slice lA n3 lc) B g ((fl ++ (s.zones.take k2).flatMap (Vd.mz s)) ++ (es.take j).flatMap (Vd.ms (Vd.rn s))) (3, ru) u (wr.alloc (.cells #[.int .i64 std, .int .u8 2, .int .i64 esv, .string ru, .string fm, .bool en, .int .i64 y, .int .i64 m, .int .u8 dk, .int .i64 dn, .int .i64 dd, .int .i64 sc, .int .u8 cc] 191)) e w2 → (∃ y, e = .returned y) ∧ Vd.ZsAt (Vd.ms (Vd.rn s)) es me (.slice rA k rc) (.slice (some adz) n2 zc) (.slice lA n3 lc) B g (fl ++ (s.zones.take k2).flatMap (Vd.mz s)) v w bm k f (.int .i64 ((j : Int) + 1)) w2) := by
          rintro e w2 ⟨he, v2, hF3, hK3⟩;obtain ⟨hm1, hm2⟩ := hF2.map_ne hM2;exact ⟨he, j + 1, v2, by omega, by simp, by rw [hnj, ← List.append_assoc]; exact hF3, hK2.trans hK3, hK3.map hM2 hm1 hm2⟩
         have HM2 := Lib.hid hM2;clear hF hK hM hF2 hK2 hM2 hBa hBw hnj Hx HLe hin hfk hjl;go_wp2_with (first | (at_lookup; refine look_int _ rfl _ _ bm k f ru hxs rfl rfl rfl HM2.out u2 hu2 false hq ?_))
         refine HP.out.mono ?_;intro e w2 hpr;obtain ⟨⟨y, rfl⟩, hN6⟩ := HN5.out e w2 hpr;have HN6 := Lib.hid hN6;clear hpr hN6 hq hu2;go_wp2;go_roundw
         case rel => exact HN6.out
         case measure => simp [intOf]; omega
       ·have hk0 : (ek == 2) = false := by rw [beq_eq_false_iff_ne]; exact hkd
        rw [Vd.ms_kind hkd, List.append_nil] at hnj;have HN5 : Hid (Vd.ZsAt (Vd.ms (Vd.rn s)) es me (.slice rA k rc) (.slice (some adz) n2 zc) (.slice lA n3 lc) B g (fl ++ (s.zones.take k2).flatMap (Vd.mz s)) v w bm k f (.int .i64 ((j : Int) + 1)) (wr.alloc (.cells #[.int .i64 std, .int .u8 ek, .int .i64 esv, .string ru, .string fm, .bool en, .int .i64 y, .int .i64 m, .int .u8 dk, .int .i64 dn, .int .i64 dd, .int .i64 sc, .int .u8 cc] 191))) := ⟨j + 1, u, by omega, by simp, by rw [hnj]; exact hF2, hK2, hM2⟩
        clear hF hK hM hF2 hK2 hM2 hBa hBw hnj Hx HLe;go_wp2;go_roundw
        case rel => exact HN5.out
        case measure => simp [intOf]; omega
      ·have hjm : j = me := by omega
       subst hjm;have q5 : ¬ (j : Int) < (j : Int) := by omega
       have HN5 : Hid (Vd.ZsAt (Vd.mz s) s.zones n2 (.slice rA k rc) (.slice (some adz) n2 zc) (.slice lA n3 lc) B g fl v w bm k f (.int .i64 ((k2 : Int) + 1)) wr) := by
        refine ⟨k2 + 1, u, by omega, by simp, ?_, hK, hM⟩;rw [HNx.out, ← List.append_assoc, ← Vd.flat_all _ HMe.out];exact hF
       clear hF hK hM;go_wp2;go_roundw
       case rel => exact HN5.out
       case measure => simp [intOf]; omega
    ·have hkz : k2 = n2 := by omega
     subst hkz;have q3 : ¬ (k2 : Int) < (k2 : Int) := by omega
     have HE9 : Hid (Vd.Ret (.slice rA k rc) (.slice zA k2 zc) (.slice lA n3 lc) B g fl (s.zones.flatMap (Vd.mz s)) v w (.returned (.tuple #[])) wr) := ⟨⟨_, rfl⟩, u, by rw [← Vd.flat_all _ HN2.out]; exact hF, hK⟩
     clear hF hK hM;go_wp2;refine bodyPost_ret (results_none rfl _ _ _) rfl ?_;exact HE9.out
end Go.Proofs.YtjobhjemnmleaaaGreatDoor
