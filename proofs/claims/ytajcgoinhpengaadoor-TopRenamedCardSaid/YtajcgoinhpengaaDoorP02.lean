/- Words for a block of cells: what it holds, kept over all that is done elsewhere. -/
import Derived.Test.YtajcgoinhpengaaDoorP01
import Derived.ScopeJumps
import Derived.WalkMore

namespace Go.Proofs.YtajcgoinhpengaaDoor
open Go.RowKit

/-- Block g holds these cells, and none of them is frozen. -/
def At (w : World) (g : Nat) (xs : List Value) : Prop := g < w.heap.size ∧ ∀ i v, xs[i]? = some v → w.cell? ⟨g, i, none⟩ = some v ∧ w.frozen? ⟨g, i, none⟩ = false
section
variable {w w' : World} {g B : Nat} {xs : List Value}
theorem At.new (w : World) (cs : Array Value) (t : TypeId) : At (w.alloc (.cells cs t)) w.heap.size cs.toList := by
  refine ⟨by simp, fun i v h => ⟨?_, ?_⟩⟩
  · rw [World.cell?_alloc_new]
    simpa using h
  · exact World.frozen?_alloc_new ..
theorem At.lt (h : At w g xs) : g < w.heap.size := h.1
theorem At.below (h : At w g xs) (hb : Below B w w') (hg : g < B) : At w' g xs :=
  ⟨Nat.lt_of_lt_of_le h.1 hb.size, fun i v hi => ⟨(hb.cell (p := ⟨g, i, none⟩) hg).trans (h.2 i v hi).1, (hb.frozen (p := ⟨g, i, none⟩) hg).trans (h.2 i v hi).2⟩⟩
theorem At.call (h : At w g xs) (hb : Below w.heap.size w w') : At w' g xs := h.below hb h.1
theorem At.drew (h : At w g xs) (hd : Drew w w') : At w' g xs := by
  obtain ⟨n, rfl⟩ := hd
  exact ⟨h.1, fun i v hi => h.2 i v hi⟩
theorem At.alloc (h : At w g xs) (c : Array Value) (t : TypeId) : At (w.alloc (.cells c t)) g xs :=
  h.below (((Below.refl _ _).alloc (Nat.le_refl _) _) : Below w.heap.size w _) h.1
theorem At.allocO (h : At w g xs) (o : Obj) : At (w.alloc o) g xs :=
  h.below (((Below.refl _ _).alloc (Nat.le_refl _) _) : Below w.heap.size w _) h.1
theorem heap_set (w : World) (p : Addr) (v : Value) : (w.setCell p v).heap.size = w.heap.size := by simp
theorem At.set (h : At w g xs) (i : Nat) (v : Value) : At (w.setCell ⟨g, i, none⟩ v) g (xs.set i v) := by
  refine ⟨by rw [heap_set]; exact h.1, fun j u hj => ⟨?_, ?_⟩⟩
  · by_cases e : i = j
    · subst e
      have hl : i < xs.length := by
        have := (List.getElem?_eq_some_iff.1 hj).1
        simpa using this
      have hu : v = u := by
        rw [List.getElem?_set_self hl] at hj
        exact Option.some.inj hj
      subst hu
      exact World.cell?_setCell_same _ _ _ (h.2 i _ (List.getElem?_eq_getElem hl)).1
    · rw [List.getElem?_set_ne e] at hj
      rw [World.cell?_setCell_other _ _ _ _ (by intro x; injection x with _ y _; exact e y)]
      exact (h.2 j u hj).1
  · rw [World.frozen?_setCell]
    by_cases e : i = j
    · subst e
      have hl : i < xs.length := by
        have := (List.getElem?_eq_some_iff.1 hj).1
        simpa using this
      exact (h.2 i _ (List.getElem?_eq_getElem hl)).2
    · rw [List.getElem?_set_ne e] at hj
      exact (h.2 j u hj).2
theorem At.set_other (h : At w g xs) (p : Addr) (v : Value) (hp : p.block ≠ g) : At (w.setCell p v) g xs := by
  refine ⟨by rw [heap_set]; exact h.1, fun j u hj => ⟨?_, ?_⟩⟩
  · rw [World.cell?_setCell_other _ _ _ _ (by intro x; subst x; exact hp rfl)]
    exact (h.2 j u hj).1
  · rw [World.frozen?_setCell]
    exact (h.2 j u hj).2
theorem At.cell (h : At w g xs) (i : Nat) (v : Value) (hi : xs[i]? = some v) : w.cell? ⟨g, i, none⟩ = some v := (h.2 i v hi).1
theorem At.free (h : At w g xs) (i : Nat) (v : Value) (hi : xs[i]? = some v) : w.frozen? ⟨g, i, none⟩ = false := (h.2 i v hi).2
end
/-- The cells of two, three, .. -/
theorem At.two {w : World} {g : Nat} {a b : Value} (h : At w g [a, b]) : w.cell? ⟨g, 0, none⟩ = some a ∧ w.cell? ⟨g, 1, none⟩ = some b ∧ w.frozen? ⟨g, 0, none⟩ = false ∧ w.frozen? ⟨g, 1, none⟩ = false :=
  ⟨h.cell 0 a rfl, h.cell 1 b rfl, h.free 0 a rfl, h.free 1 b rfl⟩
theorem At.three {w : World} {g : Nat} {a b c : Value} (h : At w g [a, b, c]) : w.cell? ⟨g, 0, none⟩ = some a ∧ w.cell? ⟨g, 1, none⟩ = some b ∧ w.cell? ⟨g, 2, none⟩ = some c ∧
    w.frozen? ⟨g, 0, none⟩ = false ∧ w.frozen? ⟨g, 1, none⟩ = false ∧ w.frozen? ⟨g, 2, none⟩ = false :=
  ⟨h.cell 0 a rfl, h.cell 1 b rfl, h.cell 2 c rfl, h.free 0 a rfl, h.free 1 b rfl, h.free 2 c rfl⟩
theorem At.seven {w : World} {g : Nat} {a b c d e f k : Value} (h : At w g [a, b, c, d, e, f, k]) :
    (w.cell? ⟨g, 0, none⟩ = some a ∧ w.cell? ⟨g, 1, none⟩ = some b ∧ w.cell? ⟨g, 2, none⟩ = some c ∧ w.cell? ⟨g, 3, none⟩ = some d ∧ w.cell? ⟨g, 4, none⟩ = some e ∧ w.cell? ⟨g, 5, none⟩ = some f ∧ w.cell? ⟨g, 6, none⟩ = some k) ∧
    (w.frozen? ⟨g, 0, none⟩ = false ∧ w.frozen? ⟨g, 1, none⟩ = false ∧ w.frozen? ⟨g, 2, none⟩ = false ∧ w.frozen? ⟨g, 3, none⟩ = false ∧ w.frozen? ⟨g, 4, none⟩ = false ∧ w.frozen? ⟨g, 5, none⟩ = false ∧ w.frozen? ⟨g, 6, none⟩ = false) :=
  ⟨⟨h.cell 0 a rfl, h.cell 1 b rfl, h.cell 2 c rfl, h.cell 3 d rfl, h.cell 4 e rfl, h.cell 5 f rfl, h.cell 6 k rfl⟩, ⟨h.free 0 a rfl, h.free 1 b rfl, h.free 2 c rfl, h.free 3 d rfl, h.free 4 e rfl, h.free 5 f rfl, h.free 6 k rfl⟩⟩
end Go.Proofs.YtajcgoinhpengaaDoor

/- link.behind and link.places: a map of the first places of names. -/
namespace Go.Proofs.YtajcgoinhpengaaDoor
open Go.RowKit Go.Shelf
open Go.Maps Go.WideShapes Go.ChangeShapes Go.WideMaps
attribute [local go_sem] Oper.semAt_some

theorem behind_any (c : Int) (gn : Nat) (lbn : Array Value) (w : World) :
    Calls Tryd.prog 73 #[.int .i64 c, .func (.func gn) #[] lbn] w fun e w' => e = .returned (.func (.func 82) #[] #[.pointer (some ⟨w.heap.size, 0, none⟩), .pointer (some ⟨w.heap.size + 1, 0, none⟩)]) ∧ (w.alloc (.cells #[.int .i64 c] 3)).alloc (.cells #[.func (.func gn) #[] lbn] 117) = w' := by
  go_enter Tryd.func73, Tryd.ntmps73
  go_wp2
  go_ret
  exact ⟨rfl, rfl⟩
/-- What lay below w's end reads as it did. -/
def Lk.Old (w W : World) : Prop := ∀ p : Addr, p.block < w.heap.size → W.cell? p = w.cell? p
def Lk.Tells (gn : Nat) (lbn : Array Value) (ns : List ByteArray) (w : World) : Prop :=
  ∀ W' i, Lk.Old w W' → i < ns.length → Calls Tryd.prog gn (#[.int .i64 (i : Int)] ++ lbn) W' fun e w' => e = .returned (.string (ns.getD i ⟨#[]⟩)) ∧ W' = w'
/-- What link.places hands back. -/
def Lk.PlRet (ns : List ByteArray) (w : World) (e : Ending) (w' : World) : Prop :=
  ∃ b, e = .returned (.map (some b)) ∧ w.heap.size ≤ b ∧ MapF Tryd.prog 9 w' b ns.length (Lk.places ns) ∧ Below w.heap.size w w'
theorem wpListIn_store {F : Fence} {nF : Nat} {P : Program} (w : World) {ops : Array Oper} {rest : List Oper} {o : Oper} {a : Act} {Q : Exit → Act → World → Prop} (hg : o.guard = none) (m x v : Operand) (t k e : TypeId) (hop : o.op = Op.mapUpdate t m x v) (hk : P.underlying k = some .string) (ht : P.underlying t = some (.map k e))
    (b n : Nat) (f : Mp.Fn) (s : ByteArray) (hs : s.size ≤ maxLen) (hn : n < maxLen) (val : Value) (hm : a.eval m = .map (some b)) (hx : a.eval x = .string s) (hv : a.eval v = val) (h : MapF P k w b n f)
    (hK : ∀ w', MapF P k w' b (n + 1) (Mp.put f s val) → w.grownBy w' (some b) → wpListIn F nF P ops Q rest (a.put o.dst undef) w') : wpListIn F nF P ops Q (o :: rest) a w := by
  obtain ⟨D, hD, hf⟩ := h
  refine wpListIn_mapUpdate_own w hg m x v t hop k e (string_keyed hk) ht Mp.rv b n D hm hD hn (.string s) val (Mp.kl s) hx hv (keyOf_string_mk hk hs) (.held val) [] rfl ?_
  intro w' hD' hg'
  exact hK w' (MapF.put_ hD hf hD') hg'
theorem run_makeHint (c : Int) (W : World) : (Instr.makeMap 105 (some (.int .i64 c))).run Tryd.prog W = .ok (.map (some W.heap.size)) (W.alloc (.map #[] 0)) := by
  simp [Instr.makeMap, run_underlying Tryd.underlying105]
  rfl
theorem clip_bound {α β : Type} (a : List α) (b : List β) (h : a.length < b.length) (hb : b.length ≤ 1000000) : a.length < maxLen := by unfold maxLen; omega
set_option maxRecDepth 100000 in
set_option maxHeartbeats 4000000 in
theorem places_any (ns : List ByteArray) (hcount : ns.length ≤ 1000000) (hsz : ∀ s ∈ ns, s.size ≤ maxLen) (gn : Nat) (lbn : Array Value) (eg : ∀ args w, (callFunc gn args).run Tryd.prog w = .ok (.enter gn args) w) (w : World) (hname : Lk.Tells gn lbn ns w) :
    Calls Tryd.prog 58 #[.int .i64 (ns.length : Int), .func (.func gn) #[] lbn] w (Lk.PlRet ns w) := by
  have hmm := run_makeHint (ns.length : Int)
  refine (callsIn_wide (n := 5)).1 ?_
  refine callsIn_of_wp_marks Tryd.func58 rfl trivial ?_ rfl
  simp only [Tryd.ntmps58, List.size_toArray, List.length_cons, List.length_nil, Nat.reduceAdd, Nat.reduceSub, Array.replicate_succ, Array.replicate_zero, List.push_toArray, List.append_toArray, List.nil_append, List.cons_append]
  gi_wp2_with (first | (refine ⟨trivial, ?_⟩; gi_at_call 73; refine (callsIn_wide.2 (behind_any _ _ _ _)).mono ?_; rintro e w' ⟨rfl, rfl⟩) | (gi_at_call 73; refine (callsIn_wide.2 (behind_any _ _ _ _)).mono ?_; rintro e w' ⟨rfl, rfl⟩))
  obtain ⟨h, hh⟩ : ∃ h, w.heap.size = h := ⟨_, rfl⟩
  have hB0 : Below h w ((((w.alloc (.map #[] 0)).alloc (.cells #[.map (some h)] 105)).alloc (.cells #[.int .i64 (ns.length : Int)] 3)).alloc (.cells #[.func (.func gn) #[] lbn] 117)) := by
    have := (((((Below.refl w.heap.size w).alloc (Nat.le_refl _) (.map #[] 0)).alloc (by simp) (.cells #[.map (some h)] 105)).alloc (by simp; omega) (.cells #[.int .i64 (ns.length : Int)] 3)).alloc (by simp; omega) (.cells #[.func (.func gn) #[] lbn] 117))
    rw [hh] at this
    exact this
  have hM0 : MapF Tryd.prog 9 ((((w.alloc (.map #[] 0)).alloc (.cells #[.map (some h)] 105)).alloc (.cells #[.int .i64 (ns.length : Int)] 3)).alloc (.cells #[.func (.func gn) #[] lbn] 117)) h 0 (fun _ => none) := by
    have := (((MapF.made (P := Tryd.prog) (k := 9) w).alloc (.cells #[.map (some h)] 105)).alloc (.cells #[.int .i64 (ns.length : Int)] 3)).alloc (.cells #[.func (.func gn) #[] lbn] 117)
    rw [hh] at this
    exact this
  have k1 : ((((w.alloc (.map #[] 0)).alloc (.cells #[.map (some h)] 105)).alloc (.cells #[.int .i64 (ns.length : Int)] 3)).alloc (.cells #[.func (.func gn) #[] lbn] 117)).cell? ⟨h + 1, 0, none⟩ = some (.map (some h)) := by
    have := ((At.new (w.alloc (.map #[] 0)) #[Value.map (some h)] 105).allocO (.cells #[.int .i64 (ns.length : Int)] 3)).allocO (.cells #[.func (.func gn) #[] lbn] 117)
    rw [World.size_alloc, hh] at this
    exact this.cell 0 _ rfl
  have k2 : ((((w.alloc (.map #[] 0)).alloc (.cells #[.map (some h)] 105)).alloc (.cells #[.int .i64 (ns.length : Int)] 3)).alloc (.cells #[.func (.func gn) #[] lbn] 117)).cell? ⟨h + 1 + 1, 0, none⟩ = some (.int .i64 (ns.length : Int)) := by
    have := (At.new ((w.alloc (.map #[] 0)).alloc (.cells #[.map (some h)] 105)) #[Value.int .i64 (ns.length : Int)] 3).allocO (.cells #[.func (.func gn) #[] lbn] 117)
    rw [World.size_alloc, World.size_alloc, hh] at this
    exact this.cell 0 _ rfl
  have k3 : ((((w.alloc (.map #[] 0)).alloc (.cells #[.map (some h)] 105)).alloc (.cells #[.int .i64 (ns.length : Int)] 3)).alloc (.cells #[.func (.func gn) #[] lbn] 117)).cell? ⟨h + 1 + 1 + 1, 0, none⟩ = some (.func (.func gn) #[] lbn) := by
    have := At.new (((w.alloc (.map #[] 0)).alloc (.cells #[.map (some h)] 105)).alloc (.cells #[.int .i64 (ns.length : Int)] 3)) #[Value.func (.func gn) #[] lbn] 117
    rw [World.size_alloc, World.size_alloc, World.size_alloc, hh] at this
    exact this.cell 0 _ rfl
  have k4 : ((((w.alloc (.map #[] 0)).alloc (.cells #[.map (some h)] 105)).alloc (.cells #[.int .i64 (ns.length : Int)] 3)).alloc (.cells #[.func (.func gn) #[] lbn] 117)).heap.size = h + 4 := by
    rw [← hh]; simp
  rw [hh]
  obtain ⟨W0, hW0⟩ : ∃ W, ((((w.alloc (.map #[] 0)).alloc (.cells #[.map (some h)] 105)).alloc (.cells #[.int .i64 (ns.length : Int)] 3)).alloc (.cells #[.func (.func gn) #[] lbn] 117)) = W := ⟨_, rfl⟩
  rw [hW0] at hB0 hM0 k1 k2 k3 k4 ⊢
  clear hW0 hmm
  refine wpIn_rangeFunc_ownG (F := Fence.wide) (n := 5) rfl (by decide) (gf := 82) (lb := #[.pointer (some ⟨h + 1 + 1, 0, none⟩), .pointer (some ⟨h + 1 + 1 + 1, 0, none⟩)]) rfl trivial (enters_of Tryd.func82 (by kernel_rfl) rfl)
    (encs := fun x : Nat × ByteArray => #[Value.int .i64 (x.1 : Int), Value.string (Lk.clip x.2)]) (Kp := Lk.But h (h + 4)) (S := fun ys => ys = Lk.down ns 0) (Sp := fun _ => True) (N := ns.length) (w0 := W0)
    (fun l JY JX W hW _ _ hY h0 => behind1_in 4 (by decide) l (h + 1 + 1) (h + 1 + 1 + 1) h (h + 4) ns hcount hsz gn lbn eg JY JX hY W ((hW.cell (p := ⟨h + 1 + 1, 0, none⟩) (by rw [k4]; show h + 1 + 1 < h + 4; omega)).trans k2) ((hW.cell (p := ⟨h + 1 + 1 + 1, 0, none⟩) (by rw [k4]; show h + 1 + 1 + 1 < h + 4; omega)).trans k3) ⟨by omega, by omega⟩ ⟨by omega, by omega⟩
      (fun W' i hb hi => hname W' i (fun p hp => (hb.cell (by omega) (by omega)).trans ((hW.cell (by rw [k4]; omega)).trans (hB0.cell (by omega)))) hi) h0)
    (fun a b => a.trans b) (Lk.But.put (by rw [k4]; exact Nat.le_refl _)) (Below.refl _ _) (fun _ => rfl)
    (fun pre W => ((MapF Tryd.prog 9 W h pre.length (Lk.fn pre) ∧ W.cell? ⟨h + 1, 0, none⟩ = some (.map (some h))) ∧ h + 4 ≤ W.heap.size) ∧ Below h w W)
    (fun _ _ _ => False)
    (OwnFrom.and (fun s A B row hs hg hr => ⟨⟨hs.1.1.kept hg (fun e => by have := (hr h e.symm).1; rw [k4] at this; omega), cell_kept hs.1.2 hg (fun r e => (hr r e).2)⟩, Nat.le_trans hs.2 hg.size⟩) (ownFrom_below (by omega) (by rw [k4]; omega)))
    (fun _ _ _ _ _ hs _ _ => hs)
    ⟨⟨⟨hM0, k1⟩, by rw [k4]; exact Nat.le_refl _⟩, hB0⟩
    (fun x => { tmps := #[.int .i64 (ns.length : Int), .func (.func gn) #[] lbn, undef, undef, .map none, .pointer (some ⟨h + 1, 0, none⟩), .int .i64 (x.1 : Int), .string (Lk.clip x.2), .int .i64 (ns.length : Int), .map (some h), .int .i64 (ns.length : Int), .func (.func gn) #[] lbn,
      .func (.func 82) #[] #[.pointer (some ⟨h + 1 + 1, 0, none⟩), .pointer (some ⟨h + 1 + 1 + 1, 0, none⟩)], .int .i64 (x.1 : Int), .string (Lk.clip x.2), undef, undef, undef, undef], defers := [] }) ?assign ?body ?done ?stop
  case assign =>
    intro l x W K hK
    gi_wp2
    exact hK
  case body =>
    rintro l pre x W ⟨⟨⟨hM, hc⟩, hz⟩, hB⟩ hlen
    have hn := clip_bound pre ns hlen hcount
    gi_wp2_with (first | (gi_at_mapUpdate; refine wpListIn_store _ rfl _ _ _ 105 9 3 rfl Tryd.underlying9 Tryd.underlying105 h pre.length _ (Lk.clip x.2) (Lk.clip_le x.2) hn _ rfl rfl rfl hM ?_; intro w1 hM1 hg1))
    refine ⟨KeepsFrom.of_grownBy hg1 (fun j e => by cases e <;> (rw [k4]; omega)), ⟨hg1.size, fun k hk hb => hg1.block k (by omega) (fun e => hb (by cases e; rfl))⟩, ⟨⟨?_, ?_⟩, Nat.le_trans hz hg1.size⟩, hB.grown hg1 (by omega) (fun k e => by cases e <;> omega)⟩
    · rw [Lk.fn_snoc, List.length_append]
      exact hM1
    · exact (World.cell?_of_block (a := ⟨h + 1, 0, none⟩) (hg1.block (h + 1) (by omega) (fun e => by cases e <;> omega))).trans hc
  case done =>
    rintro D ys W hD rfl ⟨⟨⟨hM, hc⟩, hz⟩, hB⟩ hK
    gi_wp2
    refine ⟨by simp, .inl ⟨_, _, rfl, run_takeDeferred hK, ?_⟩⟩
    rw [k4] at hD
    refine ⟨_, results_tmp rfl _ _ _, h, rfl, by omega, ?_, ?_⟩
    · have := hM.kept (grownBy_putObj' W D (.deferred none)) (fun e => by cases e <;> omega)
      rw [Lk.fn_all ns hsz] at this
      rwa [show (Lk.down ns 0).length = ns.length by unfold Lk.down; simp] at this
    · rw [hh]
      exact hB.trans (belowK_b (w := w) (by omega) W D _ _ (by omega) hK rfl rfl)
  case stop =>
    rintro D c pre W _ _ h _
    exact h.elim
end Go.Proofs.YtajcgoinhpengaaDoor

/- A scope in which the run jumps back to several labels: what holds at every jump to each, and a measure that every pass lowers. -/
namespace Go.Proofs.YtajcgoinhpengaaDoor
open Go Go.RowKit

/-- As Q; by a goto to label l: J l. -/
def Exit.jumps (J : Nat → Act → World → Prop) (Q : Exit → Act → World → Prop) : Exit → Act → World → Prop
  | .goto l, a, w => J l a w
  | e, a, w => Q e a w
theorem wp_scope_labels {P : Program} {a : Act} {w : World} {Q : Exit → Act → World → Prop} {c : Code} (J : Nat → Act → World → Prop) (μ : Nat → Act → World → Nat)
    (first : c.wp P (Exit.jumps J Q) a w)
    (pass : ∀ l a w, J l a w → ∃ rest, findLabel c l = some rest ∧ rest.wp P (Exit.jumps (fun l' a' w' => J l' a' w' ∧ μ l' a' w' < μ l a w) Q) a w) : (Code.scope c).wp P Q a w := by
  intro b k cs
  have key : ∀ n l a w, μ l a w = n → J l a w → ∃ rest, findLabel c l = some rest ∧ ∃ e a' w', Q e a' w' ∧ Arrives P (lone (b.at a (.code rest :: .inScope c :: k)) cs w) b k cs e a' w' := by
    intro n
    induction n using Nat.strongRecOn with
    | _ n ih =>
      intro l a w hn hJ
      obtain ⟨rest, hf, hp⟩ := pass l a w hJ
      refine ⟨rest, hf, ?_⟩
      obtain ⟨e, a₁, w₁, hq, harr⟩ := hp b (.inScope c :: k) cs
      cases e with
      | normal => exact ⟨.normal, a₁, w₁, hq, Steps.trans harr (.one step_inScope)⟩
      | exit id => exact ⟨.exit id, a₁, w₁, hq, fun k' hk => harr k' (by simp [exitTo, hk])⟩
      | goto l' =>
        obtain ⟨hJ', hlt⟩ := hq
        obtain ⟨rest2, hf2, e₂, a₂, w₂, hq₂, harr₂⟩ := ih _ (by omega) l' a₁ w₁ rfl hJ'
        have hg : gotoIn l' (.inScope c :: k) = some (.code rest2 :: .inScope c :: k) := by simp [gotoIn, hf2]
        exact ⟨e₂, a₂, w₂, hq₂, .of_steps (harr _ hg) harr₂⟩
      | ret => exact ⟨_, a₁, w₁, hq, harr⟩
      | panic ch => exact ⟨_, a₁, w₁, hq, harr⟩
      | outgrown => exact ⟨_, a₁, w₁, hq, harr⟩
  obtain ⟨e, a₁, w₁, hq, harr⟩ := first b (.inScope c :: k) cs
  cases e with
  | normal => exact ⟨.normal, a₁, w₁, hq, .head step_scope (Steps.trans harr (.one step_inScope))⟩
  | exit id => exact ⟨.exit id, a₁, w₁, hq, fun k' hk => .head step_scope (harr k' (by simp [exitTo, hk]))⟩
  | goto l' =>
    obtain ⟨rest2, hf2, e₂, a₂, w₂, hq₂, harr₂⟩ := key _ l' a₁ w₁ rfl hq
    have hg : gotoIn l' (.inScope c :: k) = some (.code rest2 :: .inScope c :: k) := by simp [gotoIn, hf2]
    exact ⟨e₂, a₂, w₂, hq₂, .of_steps (.head step_scope (harr _ hg)) harr₂⟩
  | ret => exact ⟨_, a₁, w₁, hq, .of_steps (.one step_scope) harr⟩
  | panic ch => exact ⟨_, a₁, w₁, hq, .of_steps (.one step_scope) harr⟩
  | outgrown => exact ⟨_, a₁, w₁, hq, .of_steps (.one step_scope) harr⟩
/-- The same; where the scope's own beginning comes to a label, what holds there serves. -/
theorem wp_scope_labels2 {P : Program} {a : Act} {w : World} {Q : Exit → Act → World → Prop} {c : Code} (J : Nat → Act → World → Prop) (μ : Nat → Act → World → Nat)
    (pass : ∀ l a w, J l a w → ∃ rest, findLabel c l = some rest ∧ rest.wp P (Exit.jumps (fun l' a' w' => J l' a' w' ∧ μ l' a' w' < μ l a w) Q) a w)
    (first : (∀ l rest a w, findLabel c l = some rest → J l a w → rest.wp P (Exit.jumps J Q) a w) → c.wp P (Exit.jumps J Q) a w) : (Code.scope c).wp P Q a w := by
  refine wp_scope_labels J μ (first fun l rest a w hf hJ => ?_) pass
  obtain ⟨rest', hf', hp⟩ := pass l a w hJ
  obtain rfl : rest' = rest := Option.some.inj (hf'.symm.trans hf)
  refine wp_mono hp fun e a' w' h => ?_
  cases e with
  | goto l' => exact h.1
  | normal => exact h
  | exit id => exact h
  | ret => exact h
  | panic ch => exact h
  | outgrown => exact h
/-- The same, at labels that stand as statements of the scope's own sequence. -/
theorem wp_scope_labels3 {P : Program} {a : Act} {w : World} {Q : Exit → Act → World → Prop} {c : Code} (J : Nat → Act → World → Prop) (μ : Nat → Act → World → Nat)
    (pass : ∀ l a w, J l a w → ∃ rest, findLabel c l = some (.seq .skip rest) ∧ rest.wp P (Exit.jumps (fun l' a' w' => J l' a' w' ∧ μ l' a' w' < μ l a w) Q) a w)
    (first : (∀ l rest a w, findLabel c l = some (.seq .skip rest) → J l a w → rest.wp P (Exit.jumps J Q) a w) → c.wp P (Exit.jumps J Q) a w) : (Code.scope c).wp P Q a w := by
  refine wp_scope_labels J μ (first fun l rest a w hf hJ => ?_) fun l a w hJ => ?_
  · obtain ⟨rest', hf', hp⟩ := pass l a w hJ
    have e := Option.some.inj (hf'.symm.trans hf)
    injection e with _ e
    subst e
    refine wp_mono hp fun e a' w' h => ?_
    cases e with
    | goto l' => exact h.1
    | normal => exact h
    | exit id => exact h
    | ret => exact h
    | panic ch => exact h
    | outgrown => exact h
  · obtain ⟨rest, hf, hp⟩ := pass l a w hJ
    exact ⟨_, hf, wp_seq (wp_skip hp)⟩
end Go.Proofs.YtajcgoinhpengaaDoor

/- The contract of scan.kind; the fields of a line in plain words. -/
namespace Go.Proofs.YtajcgoinhpengaaDoor
open Go.RowKit

namespace Sc
/-- The kind of a byte: 1 parts, 2 is bad, 3 begins a comment, 4 quotes. -/
def kind (c : Int) : Int := if c = 32 ∨ c = 9 ∨ c = 13 then 1 else if c < 32 ∨ c = 127 then 2 else if c = 35 then 3 else if c = 34 then 4 else 0
theorem cases_ (c : Int) (h0 : 0 ≤ c) (h1 : c ≤ 255) : (0 ≤ c ∧ c ≤ 8) ∨ (c = 9) ∨ (10 ≤ c ∧ c ≤ 12) ∨ (c = 13) ∨ (14 ≤ c ∧ c ≤ 31) ∨ (c = 32) ∨ (c = 33) ∨ (c = 34) ∨ (c = 35) ∨ (36 ≤ c ∧ c ≤ 126) ∨ (c = 127) ∨ (128 ≤ c ∧ c ≤ 255) := by omega
/-- Where the scanner is: between fields; within one (where it began, what it has); within quotes (where they began). -/
inductive Mode where
  | b
  | f (begin : Int) (text : List UInt8)
  | q (quote begin : Int) (text : List UInt8)
/-- The fields, each with its column; or the column, and why. -/
inductive Res where
  | ok (l : List (List UInt8 × Int))
  | bad (col why : Int)
def scan : List UInt8 → Int → Mode → List (List UInt8 × Int) → Res
  | [], _, .b, acc => .ok acc
  | [], _, .f b t, acc => .ok (acc ++ [(t, b)])
  | [], _, .q q _ _, _ => .bad q 5
  | c :: l, at_, .b, acc =>
    if kind c.toNat = 1 then scan l (at_ + 1) .b acc else if kind c.toNat = 3 then .ok acc else if kind c.toNat = 2 then .bad (at_ + 1) 4
    else if acc.length = 24 then .bad (at_ + 1) 6 else if kind c.toNat = 4 then scan l (at_ + 1) (.q (at_ + 1) (at_ + 1) []) acc else scan l (at_ + 1) (.f (at_ + 1) [c]) acc
  | c :: l, at_, .f b t, acc =>
    if kind c.toNat = 1 then scan l (at_ + 1) .b (acc ++ [(t, b)]) else if kind c.toNat = 3 then .ok (acc ++ [(t, b)]) else if kind c.toNat = 2 then .bad (at_ + 1) 4
    else if kind c.toNat = 4 then scan l (at_ + 1) (.q (at_ + 1) b t) acc else scan l (at_ + 1) (.f b (t ++ [c])) acc
  | c :: l, at_, .q q b t, acc =>
    if kind c.toNat = 2 then .bad (at_ + 1) 4 else if kind c.toNat = 4 then scan l (at_ + 1) (.f b t) acc else scan l (at_ + 1) (.q q b (t ++ [c])) acc
/-- The fields of a line. -/
def fields (s : List UInt8) : Res := if 2048 < s.length then .bad 2049 6 else scan s 0 .b []
theorem kind_bd (c : Int) : kind c = 0 ∨ kind c = 1 ∨ kind c = 2 ∨ kind c = 3 ∨ kind c = 4 := by
  unfold kind
  split
  · simp
  · split
    · simp
    · split
      · simp
      · split <;> simp
section
variable {c : UInt8} {l : List UInt8} {a b q : Int} {t : List UInt8} {acc : List (List UInt8 × Int)}
theorem b_1 (h : kind c.toNat = 1) : scan (c :: l) a .b acc = scan l (a + 1) .b acc := by rw [scan, if_pos h]
theorem b_3 (h : kind c.toNat = 3) : scan (c :: l) a .b acc = .ok acc := by rw [scan, if_neg (by omega), if_pos h]
theorem b_2 (h : kind c.toNat = 2) : scan (c :: l) a .b acc = .bad (a + 1) 4 := by rw [scan, if_neg (by omega), if_neg (by omega), if_pos h]
theorem b_long (h : kind c.toNat = 0 ∨ kind c.toNat = 4) (hl : acc.length = 24) : scan (c :: l) a .b acc = .bad (a + 1) 6 := by rw [scan, if_neg (by omega), if_neg (by omega), if_neg (by omega), if_pos hl]
theorem f_b (h : kind c.toNat = 1 ∨ kind c.toNat = 3) : scan (c :: l) a (.f b t) acc = scan (c :: l) a .b (acc ++ [(t, b)]) := by
  rcases h with h | h
  · rw [b_1 h, scan, if_pos h]
  · rw [b_3 h, scan, if_neg (by omega), if_pos h]
theorem f_end : scan [] a (.f b t) acc = scan [] a .b (acc ++ [(t, b)]) := rfl
theorem f_2 (h : kind c.toNat = 2) : scan (c :: l) a (.f b t) acc = .bad (a + 1) 4 := by rw [scan, if_neg (by omega), if_neg (by omega), if_pos h]
theorem f_4 (h : kind c.toNat = 4) : scan (c :: l) a (.f b t) acc = scan l (a + 1) (.q (a + 1) b t) acc := by rw [scan, if_neg (by omega), if_neg (by omega), if_neg (by omega), if_pos h]
theorem f_0 (h : kind c.toNat = 0) : scan (c :: l) a (.f b t) acc = scan l (a + 1) (.f b (t ++ [c])) acc := by rw [scan, if_neg (by omega), if_neg (by omega), if_neg (by omega), if_neg (by omega)]
theorem b_f (h : kind c.toNat = 0 ∨ kind c.toNat = 4) (hl : acc.length ≠ 24) : scan (c :: l) a .b acc = scan (c :: l) a (.f (a + 1) []) acc := by
  rcases h with h | h
  · rw [f_0 h, scan, if_neg (by omega), if_neg (by omega), if_neg (by omega), if_neg hl, if_neg (by omega)]
    rfl
  · rw [f_4 h, scan, if_neg (by omega), if_neg (by omega), if_neg (by omega), if_neg hl, if_pos h]
theorem q_2 (h : kind c.toNat = 2) : scan (c :: l) a (.q q b t) acc = .bad (a + 1) 4 := by rw [scan, if_pos h]
theorem q_4 (h : kind c.toNat = 4) : scan (c :: l) a (.q q b t) acc = scan l (a + 1) (.f b t) acc := by rw [scan, if_neg (by omega), if_pos h]
theorem q_0 (h : kind c.toNat ≠ 2) (h4 : kind c.toNat ≠ 4) : scan (c :: l) a (.q q b t) acc = scan l (a + 1) (.q q b (t ++ [c])) acc := by rw [scan, if_neg h, if_neg h4]
end
end Sc
end Go.Proofs.YtajcgoinhpengaaDoor

/- Plain law of the words: what Pick means. -/
namespace Go.Proofs.YtajcgoinhpengaaDoor.Wd
def low (c : UInt8) : UInt8 := if 65 ≤ c ∧ c ≤ 90 then c + 32 else c
def lows (l : List UInt8) : List UInt8 := l.map low
def same (a b : List UInt8) : Bool := decide (lows a = lows b)
def begins (n s : List UInt8) : Bool := decide (s.length ≤ n.length) && same (n.take s.length) s
def pickLoop (s : List UInt8) : List (List UInt8) → Nat → Int → Nat → Int
  | [], _, b, c => if c = 1 then b else -1
  | n :: r, i, b, c => if begins n s = true then (if n.length = s.length then (i : Int) else pickLoop s r (i + 1) i (c + 1)) else pickLoop s r (i + 1) b c
def pick (s : List UInt8) (names : List (List UInt8)) : Int := if s = [] then -1 else pickLoop s names 0 (-1) 0

theorem pickLoop_append (s m : List UInt8) (h : begins m s = false) : ∀ (l : List (List UInt8)) (i : Nat) (b : Int) (c : Nat), pickLoop s (l ++ [m]) i b c = pickLoop s l i b c := by
  intro l
  induction l with
  | nil => intro i b c; simp [pickLoop, h]
  | cons n r ih => intro i b c; simp only [List.cons_append, pickLoop, ih]
theorem pick_append (s m : List UInt8) (l : List (List UInt8)) (h : begins m s = false) : pick s (l ++ [m]) = pick s l := by
  unfold pick; rw [pickLoop_append s m h]

/-- What the loop gives: what it brought with it, none, or the place of a name that begins so. -/
theorem pickLoop_form (s : List UInt8) : ∀ (l : List (List UInt8)) (i : Nat) (b : Int) (c : Nat),
    pickLoop s l i b c = -1 ∨ pickLoop s l i b c = b ∨ ∃ k n, pickLoop s l i b c = ((i + k : Nat) : Int) ∧ l[k]? = some n ∧ begins n s = true := by
  intro l
  induction l with
  | nil => intro i b c; simp only [pickLoop]; split <;> simp
  | cons n r ih =>
    intro i b c
    simp only [pickLoop]
    by_cases h : begins n s = true
    · rw [if_pos h]
      by_cases h2 : n.length = s.length
      · rw [if_pos h2]; exact .inr (.inr ⟨0, n, by simp, by simp, h⟩)
      · rw [if_neg h2]
        rcases ih (i + 1) i (c + 1) with h3 | h3 | ⟨k, m, h3, h4, h5⟩
        · exact .inl h3
        · exact .inr (.inr ⟨0, n, by simpa using h3, by simp, h⟩)
        · exact .inr (.inr ⟨k + 1, m, by rw [h3]; omega, by simpa using h4, h5⟩)
    · rw [if_neg h]
      rcases ih (i + 1) b c with h3 | h3 | ⟨k, m, h3, h4, h5⟩
      · exact .inl h3
      · exact .inr (.inl h3)
      · exact .inr (.inr ⟨k + 1, m, by rw [h3]; omega, by simpa using h4, h5⟩)
theorem pick_form (s : List UInt8) (l : List (List UInt8)) : pick s l = -1 ∨ ∃ (k : Nat) (n : List UInt8), pick s l = (k : Int) ∧ l[k]? = some n ∧ begins n s = true := by
  unfold pick
  split
  · exact .inl rfl
  · rcases pickLoop_form s l 0 (-1) 0 with h | h | ⟨k, n, h, h1, h2⟩
    · exact .inl h
    · exact .inl h
    · exact .inr ⟨k, n, by rw [h]; omega, h1, h2⟩

/-- None of these begins so. -/
theorem pickLoop_none (s : List UInt8) : ∀ (l : List (List UInt8)) (i : Nat) (b : Int) (c : Nat), (∀ n ∈ l, begins n s = false) → pickLoop s l i b c = if c = 1 then b else -1 := by
  intro l
  induction l with
  | nil => intro i b c _; rfl
  | cons n r ih => intro i b c h; simp only [pickLoop]; rw [if_neg (by simp [h n])]; exact ih _ _ _ fun m hm => h m (by simp [hm])

/-- One alone begins so. -/
theorem pickLoop_one (s : List UInt8) : ∀ (l : List (List UInt8)) (i : Nat) (b : Int) (k : Nat) (n : List UInt8), l[k]? = some n → begins n s = true → (∀ j m, l[j]? = some m → j ≠ k → begins m s = false) →
    pickLoop s l i b 0 = ((i + k : Nat) : Int) := by
  intro l
  induction l with
  | nil => intro i b k n h; simp at h
  | cons x r ih =>
    intro i b k n hk hb ho
    simp only [pickLoop]
    cases k with
    | zero =>
      obtain rfl : x = n := by simpa using hk
      rw [if_pos hb]
      split
      · simp
      · rw [pickLoop_none s r _ _ _ fun m hm => ?_]
        · simp
        · obtain ⟨j, hj⟩ := List.mem_iff_getElem?.1 hm
          exact ho (j + 1) m (by simpa using hj) (by omega)
    | succ k =>
      rw [if_neg (by simp [ho 0 x (by simp) (by omega)])]
      rw [ih (i + 1) b k n (by simpa using hk) hb fun j m hj hne => ho (j + 1) m (by simpa using hj) (by omega)]
      omega

/-- What is found and is longer is the only one. -/
theorem pickLoop_only (s : List UInt8) : ∀ (l : List (List UInt8)) (i : Nat) (b : Int) (c : Nat) (k : Nat) (n : List UInt8), b < i → pickLoop s l i b c = ((i + k : Nat) : Int) → l[k]? = some n → n.length ≠ s.length →
    c = 0 ∧ ∀ j m, l[j]? = some m → j ≠ k → begins m s = false := by
  intro l
  induction l with
  | nil => intro i b c k n _ _ h; simp at h
  | cons x r ih =>
    intro i b c k n hb hp hk hl
    simp only [pickLoop] at hp
    by_cases h : begins x s = true
    · rw [if_pos h] at hp
      by_cases h2 : x.length = s.length
      · rw [if_pos h2] at hp
        have : k = 0 := by omega
        subst this
        obtain rfl : x = n := by simpa using hk
        exact absurd h2 hl
      · rw [if_neg h2] at hp
        cases k with
        | succ k =>
          have := ih (i + 1) i (c + 1) k n (by omega) (by rw [hp]; omega) (by simpa using hk) hl
          omega
        | zero =>
          -- the place is this one: nothing behind begins so
          have key : ∀ (r : List (List UInt8)) (i' : Nat) (c' : Nat), (i : Int) < i' → 1 ≤ c' → pickLoop s r i' (i : Int) c' = (i : Int) → c' = 1 ∧ ∀ m ∈ r, begins m s = false := by
            intro r
            induction r with
            | nil => intro i' c' _ _ hh; simp only [pickLoop] at hh; split at hh
                     · exact ⟨by assumption, by simp⟩
                     · omega
            | cons y r ih2 =>
              intro i' c' hi hc hh
              simp only [pickLoop] at hh
              by_cases hy : begins y s = true
              · rw [if_pos hy] at hh
                exfalso
                split at hh
                · omega
                · rcases pickLoop_form s r (i' + 1) i' (c' + 1) with h3 | h3 | ⟨k, m, h3, _, _⟩ <;> omega
              · rw [if_neg hy] at hh
                obtain ⟨h5, h6⟩ := ih2 (i' + 1) c' (by omega) hc hh
                refine ⟨h5, fun m hm => ?_⟩
                rcases List.mem_cons.1 hm with rfl | hm
                · simpa using hy
                · exact h6 m hm
          obtain ⟨h5, h6⟩ := key r (i + 1) (c + 1) (by omega) (by omega) (by simpa using hp)
          refine ⟨by omega, fun j m hj hne => ?_⟩
          cases j with
          | zero => omega
          | succ j => exact h6 m (List.mem_iff_getElem?.2 ⟨j, by simpa using hj⟩)
    · rw [if_neg h] at hp
      cases k with
      | zero =>
        exfalso
        rcases pickLoop_form s r (i + 1) b c with h3 | h3 | ⟨k, m, h3, _, _⟩ <;> omega
      | succ k =>
        obtain ⟨h5, h6⟩ := ih (i + 1) b c k n (by omega) (by rw [hp]; omega) (by simpa using hk) hl
        refine ⟨h5, fun j m hj hne => ?_⟩
        cases j with
        | zero =>
          obtain rfl : x = m := by simpa using hj
          simpa using h
        | succ j => exact h6 j m (by simpa using hj) (by omega)

theorem pick_bd (s : List UInt8) (l : List (List UInt8)) (h : l.length ≤ 1000000) : -1 ≤ pick s l ∧ pick s l < 1000000 := by
  rcases pick_form s l with e | ⟨k, n, e, e1, _⟩
  · omega
  · have := (List.getElem?_eq_some_iff.1 e1).1
    omega

theorem lows_take (l : List UInt8) (k : Nat) : lows (l.take k) = (lows l).take k := by simp [lows, List.map_take]
theorem begins_iff (n s : List UInt8) : begins n s = true ↔ s.length ≤ n.length ∧ (lows n).take s.length = lows s := by
  simp [begins, same, lows_take]
/-- What begins with more begins with less. -/
theorem begins_less (n t s : List UInt8) (h : begins n t = true) (h2 : begins t s = true) : begins n s = true := by
  rw [begins_iff] at h h2 ⊢
  obtain ⟨a, b⟩ := h
  obtain ⟨c, d⟩ := h2
  refine ⟨by omega, ?_⟩
  rw [← d, ← b, List.take_take, Nat.min_eq_left c]
theorem begins_take (n s : List UInt8) (k : Nat) (hk : s.length ≤ k) (h : begins n s = true) : begins (n.take k) s = true := by
  rw [begins_iff] at h ⊢
  obtain ⟨a, b⟩ := h
  refine ⟨by rw [List.length_take]; omega, ?_⟩
  rw [lows_take, List.take_take, Nat.min_eq_left hk, b]
theorem begins_own (n : List UInt8) (k : Nat) (hk : k ≤ n.length) : begins n (n.take k) = true := by
  rw [begins_iff]
  have : (n.take k).length = k := by rw [List.length_take]; omega
  rw [this, lows_take]; exact ⟨hk, rfl⟩

/-- With a letter more the same is meant. -/
theorem pick_more (s n : List UInt8) (l : List (List UInt8)) (k : Nat) (h : pick s l = (k : Int)) (hk : l[k]? = some n) (hl : s.length < n.length) : pick (n.take (s.length + 1)) l = (k : Int) := by
  have hs : s ≠ [] := by intro e; subst e; simp [pick] at h
  have hp : pickLoop s l 0 (-1) 0 = ((0 + k : Nat) : Int) := by unfold pick at h; rw [if_neg hs] at h; rw [h]; omega
  obtain ⟨_, ho⟩ := pickLoop_only s l 0 (-1) 0 k n (by omega) hp hk (by omega)
  have hbs : begins n s = true := by
    rcases pick_form s l with e | ⟨k', n', e, e1, e2⟩
    · omega
    · have : k' = k := by omega
      subst this
      rw [hk] at e1
      obtain rfl : n = n' := by simpa using e1
      exact e2
  have hne : n.take (s.length + 1) ≠ [] := by intro e; have := congrArg List.length e; rw [List.length_take] at this; simp only [List.length_nil] at this; omega
  unfold pick
  rw [if_neg hne, pickLoop_one _ l 0 (-1) k n hk (begins_own n _ (by omega)) fun j m hj hne => ?_]
  · simp
  · cases hm : begins m (n.take (s.length + 1))
    · rfl
    · have := begins_less m _ s hm (begins_take n s _ (by omega) hbs)
      rw [ho j m hj hne] at this
      cases this
end Go.Proofs.YtajcgoinhpengaaDoor.Wd
