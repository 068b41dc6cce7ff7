/- atlas.Key: the key of a name. -/
import Derived.Test.YtajcgoinhpengaaDoorP23
import Derived.Test.YtajcgoinhpengaaDoorP26
import Derived.Deep.DeepCutAuto
import Derived.Laws.EntriesVeiled

namespace Go.Proofs.YtajcgoinhpengaaDoor
open Go.RowKit Go.Shelf
attribute [local go_sem] Oper.semAt_some

namespace Ca
theorem at_kept {w w' : World} {g : Nat} {xs : List Value} {row : Option Nat} (h : At w g xs) (hg : w.grownBy w' row) (hr : ∀ r, row = some r → ∃ o : Obj, w.heap[r]? = some o ∧ o.isCells = false) : At w' g xs :=
  ⟨Nat.lt_of_lt_of_le h.1 hg.size, fun i v hi => ⟨cell_kept (h.2 i v hi).1 hg hr, (frozen_kept (h.2 i v hi).1 hg hr).trans (h.2 i v hi).2⟩⟩
/-- The boxes of atlas.Key: the chart, the source, the name, both results. -/
structure Bx (g : Nat) (v rv zv lv : Value) (name : ByteArray) (k : Value) (r : Value) (w : World) : Prop where
  l : At w g [v]
  s : At w (g + 1) [rv, zv, lv]
  n : At w (g + 1 + 1) [.string name]
  k : At w (g + 1 + 1 + 1) [k]
  r : At w (g + 1 + 1 + 1 + 1) [r]
theorem Bx.call {g : Nat} {v rv zv lv k r : Value} {name : ByteArray} {w w' : World} (h : Bx g v rv zv lv name k r w) (hb : Below w.heap.size w w') : Bx g v rv zv lv name k r w' :=
  ⟨h.l.call hb, h.s.call hb, h.n.call hb, h.k.call hb, h.r.call hb⟩
theorem Bx.kept {g : Nat} {v rv zv lv k r : Value} {name : ByteArray} {w w' : World} {row : Option Nat} (h : Bx g v rv zv lv name k r w) (hg : w.grownBy w' row) (hr : ∀ r, row = some r → ∃ o : Obj, w.heap[r]? = some o ∧ o.isCells = false) : Bx g v rv zv lv name k r w' :=
  ⟨at_kept h.l hg hr, at_kept h.s hg hr, at_kept h.n hg hr, at_kept h.k hg hr, at_kept h.r hg hr⟩
/-- What atlas.Key hands back. -/
def KyRet (r : ByteArray × Int) (w : World) (e : Ending) (w' : World) : Prop := e = .returned (.tuple #[.string r.1, .int .i64 r.2]) ∧ Below w.heap.size w w'
end Ca
theorem key_results {tmps : Array Value} {w : World} {a b : Nat} {x : ByteArray} {y : Int} (h6 : tmps[6]?.getD undef = .pointer (some ⟨a, 0, none⟩)) (h7 : tmps[7]?.getD undef = .pointer (some ⟨b, 0, none⟩)) (ha : w.cell? ⟨a, 0, none⟩ = some (.string x)) (hb : w.cell? ⟨b, 0, none⟩ = some (.int .i64 y)) :
    (results Tryd.f14 tmps).run Tryd.prog w = .ok (.tuple #[.string x, .int .i64 y]) w := by
  simp [results, Tryd.f14, go_sem, h6, h7, ha, hb]
theorem Ca.Bx.put {g : Nat} {v rv zv lv k r : Value} {name : ByteArray} {w : World} (h : Ca.Bx g v rv zv lv name k r w) (k' r' : Value) : Ca.Bx g v rv zv lv name k' r' ((w.setCell ⟨g + 1 + 1 + 1, 0, none⟩ k').setCell ⟨g + 1 + 1 + 1 + 1, 0, none⟩ r') :=
  ⟨(h.l.set_other _ _ (by show g + 1 + 1 + 1 ≠ g; omega)).set_other _ _ (by show g + 1 + 1 + 1 + 1 ≠ g; omega), (h.s.set_other _ _ (by show g + 1 + 1 + 1 ≠ g + 1; omega)).set_other _ _ (by show g + 1 + 1 + 1 + 1 ≠ g + 1; omega),
    (h.n.set_other _ _ (by show g + 1 + 1 + 1 ≠ g + 1 + 1; omega)).set_other _ _ (by show g + 1 + 1 + 1 + 1 ≠ g + 1 + 1; omega), (h.k.set 0 k').set_other _ _ (by show g + 1 + 1 + 1 + 1 ≠ g + 1 + 1 + 1; omega),
    (h.r.set_other _ _ (by show g + 1 + 1 + 1 ≠ g + 1 + 1 + 1 + 1; omega)).set 0 r'⟩
theorem Ca.put_below {g : Nat} {w W : World} (h : Below w.heap.size w W) (hg : w.heap.size = g) (k' r' : Value) : Below w.heap.size w ((W.setCell ⟨g + 1 + 1 + 1, 0, none⟩ k').setCell ⟨g + 1 + 1 + 1 + 1, 0, none⟩ r') :=
  (h.setCell (p := ⟨g + 1 + 1 + 1, 0, none⟩) (by show _ ≤ g + 1 + 1 + 1; omega) _).setCell (p := ⟨g + 1 + 1 + 1 + 1, 0, none⟩) (by show _ ≤ g + 1 + 1 + 1 + 1; omega) _
theorem key_out {tmps : Array Value} {w W : World} {a b : Nat} {Z : ByteArray × Int} (h6 : tmps[6]?.getD undef = .pointer (some ⟨a, 0, none⟩)) (h7 : tmps[7]?.getD undef = .pointer (some ⟨b, 0, none⟩)) (ha : W.cell? ⟨a, 0, none⟩ = some (.string Z.1)) (hb : W.cell? ⟨b, 0, none⟩ = some (.int .i64 Z.2)) (hB : Below w.heap.size w W) :
    bodyPostM Fence.wide 5 Tryd.prog Tryd.f14 (Ca.KyRet Z w) .ret { tmps := tmps, defers := [] } W :=
  ⟨_, key_results h6 h7 ha hb, rfl, hB⟩
theorem key_out1 {tmps : Array Value} {w W : World} {a b D : Nat} {Z : ByteArray × Int} (h6 : tmps[6]?.getD undef = .pointer (some ⟨a, 0, none⟩)) (h7 : tmps[7]?.getD undef = .pointer (some ⟨b, 0, none⟩)) (ha : W.cell? ⟨a, 0, none⟩ = some (.string Z.1)) (hb : W.cell? ⟨b, 0, none⟩ = some (.int .i64 Z.2)) (hB : Below w.heap.size w W)
    (hK : W.heap[D]? = some (.deferred (some []))) (hD : w.heap.size ≤ D) :
    bodyPostM Fence.wide 5 Tryd.prog Tryd.f14 (Ca.KyRet Z w) .ret { tmps := tmps, defers := [{ target := .collected D, args := #[] }] } W := by
  have hk := fun {p v} (h : W.cell? p = some v) => cell_kept h (grownBy_putObj' W D (.deferred none)) (fun r e => by cases e; exact ⟨_, hK, rfl⟩)
  exact ⟨by simp, .inl ⟨_, _, rfl, run_takeDeferred hK, ⟨_, key_results h6 h7 (hk ha) (hk hb), rfl, hB.trans (belowK_b (w := w) (Nat.le_refl _) W D _ _ hD hK rfl rfl)⟩⟩⟩
theorem key_out2 {tmps : Array Value} {w W : World} {a b D D2 : Nat} {Z : ByteArray × Int} (h6 : tmps[6]?.getD undef = .pointer (some ⟨a, 0, none⟩)) (h7 : tmps[7]?.getD undef = .pointer (some ⟨b, 0, none⟩)) (ha : W.cell? ⟨a, 0, none⟩ = some (.string Z.1)) (hb : W.cell? ⟨b, 0, none⟩ = some (.int .i64 Z.2)) (hB : Below w.heap.size w W)
    (hK : W.heap[D]? = some (.deferred (some []))) (hD : w.heap.size ≤ D) (hK2 : W.heap[D2]? = some (.deferred (some []))) (hD2 : w.heap.size ≤ D2) (hne : D ≠ D2) :
    bodyPostM Fence.wide 5 Tryd.prog Tryd.f14 (Ca.KyRet Z w) .ret { tmps := tmps, defers := [{ target := .collected D2, args := #[] }, { target := .collected D, args := #[] }] } W := by
  have hk := fun {p v} (h : W.cell? p = some v) => cell_kept h (grownBy_putObj' W D2 (.deferred none)) (fun r e => by cases e; exact ⟨_, hK2, rfl⟩)
  have hK' : (W.putObj D2 (.deferred none)).heap[D]? = some (.deferred (some [])) := (World.putObj_heap_other hne).trans hK
  exact ⟨by simp, .inl ⟨_, _, rfl, run_takeDeferred hK2, key_out1 h6 h7 (hk ha) (hk hb) (hB.trans (belowK_b (w := w) (Nat.le_refl _) W D2 _ _ hD2 hK2 rfl rfl)) hK' hD⟩⟩
theorem Ca.Ld.drewN {s : Src.S} {rv zv lv : Value} {h : Nat} {A : List ByteArray} {w : World} (k : Ca.Ld s rv zv lv h A w) (n : Nat) : Ca.Ld s rv zv lv h A (w.drewN n) :=
  ⟨k.box.drew ⟨n, rfl⟩, k.src.drew ⟨n, rfl⟩, k.map.drewN n, k.nodup, k.sub⟩
/-- What stands beside the boxes in the second loop of atlas.Key. -/
structure Ca.K2 (s : Src.S) (rv zv lv : Value) (h zb fb D : Nat) (p0 : Int) (W : World) : Prop where
  z : At W zb [.int .i64 p0]
  f : At W fb [.func (.func 55) #[] #[.pointer (some ⟨h + 2, 0, none⟩), .pointer (some ⟨h, 0, none⟩)]]
  d : ∃ A, Ca.Ld s rv zv lv h A W
  k : W.heap[D]? = some (.deferred (some []))
  sz : fb + 2 ≤ W.heap.size
theorem Ca.K2.kept {s : Src.S} {rv zv lv : Value} {h zb fb D B : Nat} {p0 : Int} {W W' : World} {row : Option Nat} (k : Ca.K2 s rv zv lv h zb fb D p0 W) (hg : W.grownBy W' row) (hr : ∀ r, row = some r → B ≤ r ∧ ∃ o : Obj, W.heap[r]? = some o ∧ o.isCells = false) (hB : h + 1 < B ∧ D < B) : Ca.K2 s rv zv lv h zb fb D p0 W' := by
  have hr2 : ∀ r, row = some r → ∃ o : Obj, W.heap[r]? = some o ∧ o.isCells = false := fun r e => (hr r e).2
  obtain ⟨A, hd⟩ := k.d
  refine ⟨Ca.at_kept k.z hg hr2, Ca.at_kept k.f hg hr2, ⟨A, Ca.at_kept hd.box hg hr2, Ca.at_kept hd.src hg hr2, hd.map.kept hg (fun e => by have := (hr _ e.symm).1; omega), hd.nodup, hd.sub⟩, ?_, Nat.le_trans k.sz hg.size⟩
  exact (hg.block D (Array.getElem?_eq_some_iff.1 k.k).1 (fun e => by have := (hr _ e.symm).1; omega)).trans k.k
theorem Ca.Bx.grown {g h : Nat} {v rv zv lv k r : Value} {name : ByteArray} {w w' : World} (b : Ca.Bx g v rv zv lv name k r w) (hg : w.grownBy w' (some h)) (hh : g + 1 + 1 + 1 + 1 < h) : Ca.Bx g v rv zv lv name k r w' :=
  ⟨Sc.At.grownO b.l hg (fun j e => by cases e; omega), Sc.At.grownO b.s hg (fun j e => by cases e; omega), Sc.At.grownO b.n hg (fun j e => by cases e; omega), Sc.At.grownO b.k hg (fun j e => by cases e; omega), Sc.At.grownO b.r hg (fun j e => by cases e; omega)⟩
/-- None of what has come is one that is sought. -/
def Ca.KyI {l : List Ca.E} (R : World → Prop) (p : Nat × ByteArray → Bool) (pre : List (Ca.Nm l)) (W : World) : Prop := (∀ y ∈ pre, p y.1 = false) ∧ R W
/-- The last one that has come is the first one that is sought. -/
def Ca.KyX {l : List Ca.E} (R : Value → World → Prop) (p : Nat × ByteArray → Bool) (jc : Code) (pre : List (Ca.Nm l)) (W : World) : Prop := jc = .ret ∧ ∃ q x, pre = q ++ [x] ∧ (∀ y ∈ q, p y.1 = false) ∧ p x.1 = true ∧ R (.string (Ca.keyAt l x.1.1)) W
theorem Ca.KyI.next {l : List Ca.E} {R : World → Prop} {p : Nat × ByteArray → Bool} {pre : List (Ca.Nm l)} {W W' : World} (h : Ca.KyI R p pre W) (x : Ca.Nm l) (hx : p x.1 = false) (hR : R W') : Ca.KyI R p (pre ++ [x]) W' :=
  ⟨fun y hy => by
    rcases List.mem_append.1 hy with hy | hy
    · exact h.1 y hy
    · rw [List.mem_singleton.1 hy]; exact hx, hR⟩
theorem Ca.hit_of {α β : Type} {f : α → β} {L : List α} {F : List β} (hF : L.map f = F) {p : β → Bool} {j : Nat} {q : List α} {x : α} (h : L.take j = q ++ [x]) (hq : ∀ y ∈ q, p (f y) = false) (hx : p (f x) = true) : F.find? p = some (f x) := by
  obtain ⟨r, hr⟩ : ∃ r, L = (q ++ [x]) ++ r := ⟨L.drop j, by rw [← h, List.take_append_drop]⟩
  subst hF
  rw [hr, List.map_append, List.map_append, List.append_assoc, List.find?_append]
  have h2 : (q.map f).find? p = none := by
    rw [List.find?_eq_none]
    intro y hy
    obtain ⟨z, hz, rfl⟩ := List.mem_map.1 hy
    rw [hq z hz]
    decide
  rw [h2]
  simp [hx]
theorem Ca.miss_of {α β : Type} {f : α → β} {L : List α} {F : List β} (hF : L.map f = F) {p : β → Bool} (h : ∀ y ∈ L, p (f y) = false) : F.find? p = none := by
  subst hF
  rw [List.find?_eq_none]
  intro y hy
  obtain ⟨z, hz, rfl⟩ := List.mem_map.1 hy
  rw [h z hz]
  decide
theorem Ca.find_hit {l : List Ca.E} {p : Nat × ByteArray → Bool} {j : Nat} {q : List (Ca.Nm l)} {x : Ca.Nm l} (h : (Ca.all l).take j = q ++ [x]) (hq : ∀ y ∈ q, p y.1 = false) (hx : p x.1 = true) : (Ca.flat l 0).find? p = some x.1 := Ca.hit_of (Ca.all_map l) h hq hx
theorem Ca.find_miss {l : List Ca.E} {p : Nat × ByteArray → Bool} (h : ∀ y ∈ Ca.all l, p y.1 = false) : (Ca.flat l 0).find? p = none := Ca.miss_of (Ca.all_map l) h
set_option maxHeartbeats 4000000 in
set_option maxRecDepth 100000 in
theorem caKey_any (l : List Ca.E) (A : Option Addr) (n c : Nat) (evl : List Value) (s : Src.S) (rv zv lv : Value) (evs : List Value) (name : ByteArray) (w : World) (hE : Ca.EntR w w.heap.size l (.slice A n c) evl) (hl : l.length = n) (hW : Ca.Wd l)
    (hR : Src.SrcR w w.heap.size s rv zv lv evs) (hLm : Src.Lims s) (hSm : Src.SmW s) (hN : Lk.Nm s) (hsz : ∀ x ∈ Src.names s, x.size ≤ maxLen) (hnm : name.size ≤ maxLen) (hWa : Wa w) :
    Calls Tryd.prog 14 #[.slice A n c, .agg #[rv, zv, lv], .string name] w (Ca.KyRet (Ca.keyA l s name) w) := by
  have hn : n ≤ 4096 := by rw [← hl]; exact hW.n
  obtain ⟨rA, rc, rfl, _⟩ := hR.rules
  obtain ⟨zA, zc, rfl, _⟩ := hR.zones
  obtain ⟨lA, lc, rfl, _⟩ := hR.links
  have hCk := fun W (hb : Below w.heap.size w W) => caCheck_any l A n c evl W (hE.call hb) hl hW
  have hSc := fun W (hb : Below w.heap.size w W) => srcCheck_anyW s _ _ _ evs W (hWa.below hb) (hR.call hb) hLm hSm
  have hZn := fun W (hb : Below w.heap.size w W) => linkZone_any s _ _ _ evs name W (hR.call hb) hN hnm
  have hLd := fun W (hb : Below w.heap.size w W) => caLeads_any s _ _ _ evs W (hR.call hb) hLm hsz
  have hL1 := fun W h (A' : List ByteArray) z (hb : Below w.heap.size w W) (hL : Ca.Ld s _ _ _ h A' W) (hz : z.size ≤ maxLen) => caLeads1_any s _ _ _ evs h A' z W hL (hR.call hb) hN hz (by have := hLm.zones; have := hLm.links; simp [Src.names, Src.zoneNames, Src.linkNames]; omega)
  obtain ⟨nr, hnr⟩ : ∃ n, s.rules.length = n := ⟨_, rfl⟩
  obtain ⟨nz, hnz⟩ : ∃ n, s.zones.length = n := ⟨_, rfl⟩
  obtain ⟨nl, hnl⟩ : ∃ n, s.links.length = n := ⟨_, rfl⟩
  rw [hnr, hnz, hnl] at hR
  simp only [hnr, hnz, hnl] at hSc hZn hLd hL1 ⊢
  obtain ⟨g, hg⟩ : ∃ g, w.heap.size = g := ⟨_, rfl⟩
  obtain ⟨W0, hW0⟩ : ∃ W, ((((w.alloc (.cells #[.slice A n c] 22)).alloc (.cells #[.slice rA nr rc, .slice zA nz zc, .slice lA nl lc] 27)).alloc (.cells #[.string name] 9)).alloc (.cells #[.string ⟨#[]⟩] 9)).alloc (.cells #[.int .i64 0] 31) = W := ⟨_, rfl⟩
  have hB0 : Below w.heap.size w W0 := by rw [← hW0]; exact bal (bal (bal (bal (bal1 _ _) _) _) _) _
  have hX0 : Ca.Bx g (.slice A n c) (.slice rA nr rc) (.slice zA nz zc) (.slice lA nl lc) name (.string ⟨#[]⟩) (.int .i64 0) W0 := by
    rw [← hW0, ← hg]
    refine ⟨?_, ?_, ?_, ?_, ?_⟩
    · exact ((((At.new w #[Value.slice A n c] 22).allocO _).allocO _).allocO _).allocO _
    · have h := (((At.new (w.alloc (.cells #[.slice A n c] 22)) #[Value.slice rA nr rc, .slice zA nz zc, .slice lA nl lc] 27).allocO (.cells #[.string name] 9)).allocO (.cells #[.string ⟨#[]⟩] 9)).allocO (.cells #[.int .i64 0] 31)
      rw [World.size_alloc] at h
      exact h
    · have h := ((At.new ((w.alloc (.cells #[.slice A n c] 22)).alloc (.cells #[.slice rA nr rc, .slice zA nz zc, .slice lA nl lc] 27)) #[Value.string name] 9).allocO (.cells #[.string ⟨#[]⟩] 9)).allocO (.cells #[.int .i64 0] 31)
      rw [World.size_alloc, World.size_alloc] at h
      exact h
    · have h := (At.new (((w.alloc (.cells #[.slice A n c] 22)).alloc (.cells #[.slice rA nr rc, .slice zA nz zc, .slice lA nl lc] 27)).alloc (.cells #[.string name] 9)) #[Value.string ⟨#[]⟩] 9).allocO (.cells #[.int .i64 0] 31)
      rw [World.size_alloc, World.size_alloc, World.size_alloc] at h
      exact h
    · have h := At.new ((((w.alloc (.cells #[.slice A n c] 22)).alloc (.cells #[.slice rA nr rc, .slice zA nz zc, .slice lA nl lc] 27)).alloc (.cells #[.string name] 9)).alloc (.cells #[.string ⟨#[]⟩] 9)) #[Value.int .i64 0] 31
      rw [World.size_alloc, World.size_alloc, World.size_alloc, World.size_alloc] at h
      exact h
  obtain ⟨Z, hZ⟩ : ∃ Z, Ca.keyA l s name = Z := ⟨_, rfl⟩
  rw [hZ]
  unfold Ca.keyA at hZ
  obtain ⟨p0, hp0⟩ : ∃ p, (Lk.walk s name).2.1 = p := ⟨_, rfl⟩
  obtain ⟨y0, hy0⟩ : ∃ p, (Lk.walk s name).2.2 = p := ⟨_, rfl⟩
  rw [hp0, hy0] at hZ
  simp only [hp0, hy0] at hZn
  obtain ⟨X, hXc⟩ : ∃ X, Ca.chk l = X := ⟨_, rfl⟩
  rw [hXc] at hZ
  simp only [hXc] at hCk
  obtain ⟨G, hG⟩ : ∃ G, Src.srcB s = G := ⟨_, rfl⟩
  rw [hG] at hZ
  simp only [hG] at hSc
  have HCk := Lib.hid hCk
  have HSc := Lib.hid hSc
  have HZn := Lib.hid hZn
  have HLd := Lib.hid hLd
  have HL1 := Lib.hid hL1
  have HE := Lib.hid hE
  have HL := Lib.hid hl
  have HW := Lib.hid hW
  have HB0 := Lib.hid hB0
  have HX0 := Lib.hid hX0
  have HZ := Lib.hid hZ
  have HW0 := Lib.hid hW0
  have HG := Lib.hid hg
  have x0 := hX0.l.cell 0 _ rfl
  clear hCk hSc hZn hLd hL1 hE hl hW hR hLm hSm hN hsz hWa hB0 hX0 hZ hW0 hg hXc hG hnr hnz hnl hp0 hy0
  refine (callsIn_wide (n := 5)).1 ?_
  refine callsIn_of_wp_marks Tryd.func14 rfl trivial ?_ rfl
  simp only [Tryd.ntmps14, List.size_toArray, List.length_cons, List.length_nil, Nat.reduceAdd, Nat.reduceSub, Array.replicate_succ, Array.replicate_zero, List.push_toArray, List.append_toArray, List.nil_append, List.cons_append]
  gi_wp2
  rw [HW0.out, HG.out]
  refine ⟨trivial, (callsIn_wide.2 (HCk.out _ HB0.out)).mono ?_⟩
  rintro e w1 ⟨rfl, hb⟩
  have HB1 := Lib.hid (below_then HB0.out hb)
  have HX1 := Lib.hid (HX0.out.call hb)
  clear hb x0
  obtain ⟨k0, f0⟩ := And.intro (HX1.out.k.cell 0 _ rfl) (HX1.out.k.free 0 _ rfl)
  obtain ⟨r0, g0⟩ := And.intro (HX1.out.r.cell 0 _ rfl) (HX1.out.r.free 0 _ rfl)
  by_cases hX0 : X = 0
  · subst hX0
    have hZ2 := HZ.out
    rw [if_pos rfl] at hZ2
    have HZ2 := Lib.hid hZ2
    have s0 := HX1.out.s.cell 0 _ rfl
    have s1 := HX1.out.s.cell 1 _ rfl
    have s2 := HX1.out.s.cell 2 _ rfl
    clear hZ2 HZ k0 f0 r0 g0
    gi_wp2
    refine ⟨trivial, (callsIn_wide.2 (HSc.out _ HB1.out)).mono ?_⟩
    rintro e w2 ⟨rfl, hb⟩
    have HB2 := Lib.hid (below_then HB1.out hb)
    have HX2 := Lib.hid (HX1.out.call hb)
    clear hb s0 s1 s2
    cases G with
    | false =>
      have HEz : Hid (Z = (⟨#[]⟩, 2)) := HZ2.out.symm
      obtain ⟨k0, f0⟩ := And.intro (HX2.out.k.cell 0 _ rfl) (HX2.out.k.free 0 _ rfl)
      obtain ⟨r0, g0⟩ := And.intro (HX2.out.r.cell 0 _ rfl) (HX2.out.r.free 0 _ rfl)
      gi_wp2
      have HXe := HX2.out.put (.string ⟨#[]⟩) (.int .i64 2)
      exact key_out rfl rfl (by rw [HEz.out]; exact HXe.k.cell 0 _ rfl) (by rw [HEz.out]; exact HXe.r.cell 0 _ rfl) (Ca.put_below HB2.out HG.out _ _)
    | true =>
      have hZ3 := HZ2.out
      rw [if_pos rfl] at hZ3
      have HZ3 := Lib.hid hZ3
      have x0 := HX2.out.l.cell 0 _ rfl
      clear hZ3 HZ2
      gi_wp2
      refine ⟨trivial, (callsIn_wide.2 (caNames_any _ _ ⟨_, _, _, rfl⟩)).mono ?_⟩
      rintro e w3 ⟨rfl, rfl⟩
      gi_wp2
      have hb3 := bal1 w2 (.cells #[.slice A n c] 22)
      have hB3 := below_then HB2.out hb3
      have hX3 := HX2.out.call hb3
      have hbx := At.new w2 #[Value.slice A n c] 22
      obtain ⟨Bl, hBl⟩ : ∃ b, w2.heap.size = b := ⟨_, rfl⟩
      obtain ⟨W3, hW3⟩ : ∃ W, w2.alloc (.cells #[.slice A n c] 22) = W := ⟨_, rfl⟩
      have hs3 : W3.heap.size = Bl + 1 := by rw [← hW3, World.size_alloc, hBl]
      rw [hBl] at hbx
      rw [hW3] at hB3 hX3 hbx ⊢
      rw [hBl]
      have hwB : w.heap.size ≤ Bl := by rw [← hBl]; exact HB2.out.size
      have HB3 := Lib.hid hB3
      have HX3 := Lib.hid hX3
      have HBx := Lib.hid hbx
      clear hb3 hB3 hX3 hbx hW3 hBl x0 HB2 HX2 HB1 HX1 HX0 HB0 HW0
      refine wpIn_rangeFunc_ownG (F := Fence.wide) (n := 5) rfl (by decide) (gf := 56) (lb := #[.pointer (some ⟨Bl, 0, none⟩)]) rfl trivial (enters_of Tryd.func56 (by kernel_rfl) rfl)
        (encs := fun x : Ca.Nm l => #[Value.int .i64 (x.1.1 : Int), Value.string x.1.2]) (Kp := Ca.Kp (fun _ => False) (Bl + 1)) (S := fun ys => ys = Ca.all l) (Sp := fun pre => ∃ j, pre = (Ca.all l).take j) (N := (Ca.all l).length) (w0 := W3)
        (fun l' JY JX W hW hAb _ hY h0 => names1_in 4 (by decide) l' Bl (Bl + 1) w.heap.size (fun _ => False) l A n c evl HL.out hn JY JX (fun pre W o h => hAb pre W _ none h (World.grownBy_alloc W o none) (fun r e => by cases e)) hY W ((hW.cell (p := ⟨Bl, 0, none⟩) (by rw [hs3]; show Bl < Bl + 1; omega)).trans (HBx.out.cell 0 _ rfl)) ((HE.out.below HB3.out).same (fun k hk => hW.block k (by omega))) (by omega) (fun _ _ h => h) (by have := hW.size; omega) h0)
        (fun a b => a.trans b) (Ca.Kp.put (by rw [hs3]; exact Nat.le_refl _)) (Below.refl _ _) (fun _ => rfl)
        (fun pre W => Ca.KyI (Ca.Bx g (.slice A n c) (.slice rA nr rc) (.slice zA nz zc) (.slice lA nl lc) name (.string ⟨#[]⟩) (.int .i64 0)) (fun p => decide (p.2 = name)) pre W ∧ Below w.heap.size w W)
        (fun jc pre W => Ca.KyX (fun k => Ca.Bx g (.slice A n c) (.slice rA nr rc) (.slice zA nz zc) (.slice lA nl lc) name k (.int .i64 0)) (fun p => decide (p.2 = name)) jc pre W ∧ Below w.heap.size w W)
        (OwnFrom.and (Own.from (fun s A B row hs hg hr => ⟨hs.1, hs.2.kept hg hr⟩) _) (ownFrom_below (Nat.le_refl _) (by rw [hs3]; omega)))
        (fun c => OwnFrom.and (Own.from (fun s A B row hs hg hr => ⟨hs.1, by obtain ⟨q, x, h1, h2, h3, h4⟩ := hs.2; exact ⟨q, x, h1, h2, h3, h4.kept hg hr⟩⟩) _) (ownFrom_below (Nat.le_refl _) (by rw [hs3]; omega)))
        ⟨⟨fun y hy => (by cases hy), HX3.out⟩, HB3.out⟩
        (fun x => { tmps := #[Value.slice A n c, Value.agg #[Value.slice rA nr rc, Value.slice zA nz zc, Value.slice lA nl lc], Value.string name, Value.pointer (some ⟨g, 0, none⟩), Value.pointer (some ⟨g + 1, 0, none⟩), Value.pointer (some ⟨g + 1 + 1, 0, none⟩), Value.pointer (some ⟨g + 1 + 1 + 1, 0, none⟩), Value.pointer (some ⟨g + 1 + 1 + 1 + 1, 0, none⟩), Value.int .i64 0, Value.int .i64 (x.1.1 : Int), Value.string x.1.2, undef, undef, undef, undef, undef, Value.slice A n c, Value.int .i64 0, Value.int .i64 0, Value.bool false, undef, Value.agg #[Value.slice rA nr rc, Value.slice zA nz zc, Value.slice lA nl lc], Value.int .i64 0, Value.bool false, Value.slice A n c, Value.func (.func 56) #[] #[Value.pointer (some ⟨Bl, 0, none⟩)], Value.int .i64 (x.1.1 : Int), Value.string x.1.2, undef, undef, undef, undef, undef, undef, undef, undef, undef, undef, undef, undef, undef, undef, undef, undef, undef, undef, undef, undef, undef, undef, undef, undef, undef, undef, undef, undef, undef, undef, undef, undef, undef], defers := [] }) ?assign ?body ?done ?stop
      case assign =>
        intro l' x W K hK
        gi_wp2
        exact hK
      case body =>
        rintro l' pre x W ⟨hI, hB⟩ _
        have hX := hI.2
        obtain ⟨⟨i, z⟩, hmem⟩ := x
        obtain ⟨j, e, hj, hij, hze⟩ := (Ca.flat_mem l 0 i z).1 hmem
        rw [Nat.zero_add] at hij
        subst hij
        have n0 := hX.n.cell 0 _ rfl
        have l0 := hX.l.cell 0 _ rfl
        obtain ⟨k0, f0⟩ := And.intro (hX.k.cell 0 _ rfl) (hX.k.free 0 _ rfl)
        obtain ⟨r0, g0⟩ := And.intro (hX.r.cell 0 _ rfl) (hX.r.free 0 _ rfl)
        have hin : i < n := by rw [← HL.out]; exact (List.getElem?_eq_some_iff.1 hj).1
        have hka := Ca.keyAt_of hj
        obtain ⟨ad, y, yA, ym, yc, rfl, hab, Hy, y0, _, _, _, _, _, _, _⟩ := (HE.out.below hB).at_ HL.out hin
        have hye : y = e := Option.some.inj (Hy.out.symm.trans hj)
        rw [hye, ← hka] at y0
        obtain ⟨ky, hky⟩ : ∃ t, Ca.keyAt l i = t := ⟨_, rfl⟩
        rw [hky] at y0
        have q1 : (0 : Int) ≤ (i : Int) := by omega
        have q2 : (i : Int) < (n : Int) := by omega
        have HX := Lib.hid hX
        have HB := Lib.hid hB
        have HNe := Lib.hid hI
        have HKy := Lib.hid hky
        clear hX hB hI hj hze hka hye hky
        by_cases hz : z = name
        · have qe := Ca.bytes_eq hz
          have qe' : z.toList = name.toList := by rw [hz]
          have HZe : Hid (decide (z = name) = true) := decide_eq_true hz
          clear hz
          gi_wp2
          refine ⟨((KeepsOthers.setCell _ _ _).trans (KeepsOthers.setCell _ _ _)).from _, ⟨rfl, pre, _, rfl, HNe.out.1, HZe.out, ?_⟩, Ca.put_below HB.out HG.out _ _⟩
          show Ca.Bx g (.slice (some ad) n c) (.slice rA nr rc) (.slice zA nz zc) (.slice lA nl lc) name (.string (Ca.keyAt l i)) (.int .i64 0) _
          rw [HKy.out]
          exact HX.out.put _ _
        · obtain ⟨qe, qe'⟩ := Ca.bytes_ne hz
          have HZe : Hid (decide (z = name) = false) := decide_eq_false hz
          clear hz
          gi_wp2
          exact ⟨KeepsFrom.refl _ _, Ca.Kp.refl _ _ _, HNe.out.next _ HZe.out HNe.out.2, HB.out⟩
      case stop =>
        rintro D jc pre W hD ⟨j, hj⟩ ⟨⟨rfl, q, x, hq, hne, hx, hX⟩, hB⟩ hK
        have HEz : Hid (Z = (Ca.keyAt l x.1.1, 0)) := by
          show Z = _
          have h := HZ3.out
          rw [Ca.find_hit (p := fun p => decide (p.2 = name)) (hj.symm.trans hq) hne hx] at h
          exact h.symm
        gi_wp2
        exact key_out1 rfl rfl (by rw [HEz.out]; exact hX.k.cell 0 _ rfl) (by rw [HEz.out]; exact hX.r.cell 0 _ rfl) hB hK (by have := HB3.out.size; omega)
      case done =>
        rintro D ys W hD rfl ⟨⟨hne, hX⟩, hB⟩ hK
        have hf := Ca.find_miss (p := fun p => decide (p.2 = name)) (l := l) hne
        have hZ4 := HZ3.out
        rw [hf] at hZ4
        have HZ4 := Lib.hid hZ4
        have n0 := hX.n.cell 0 _ rfl
        have s0 := hX.s.cell 0 _ rfl
        have s1 := hX.s.cell 1 _ rfl
        have s2 := hX.s.cell 2 _ rfl
        have HX4 := Lib.hid hX
        have HB4 := Lib.hid hB
        have HK4 := Lib.hid hK
        have HD4 : Hid (w.heap.size ≤ D) := by show _ ≤ D; have := HB3.out.size; omega
        clear hne hX hB hK hf hZ4 HZ3 HX3 HB3 HBx hs3
        gi_wp2
        refine ⟨trivial, (callsIn_wide.2 (HZn.out _ HB4.out)).mono ?_⟩
        rintro e w5 ⟨rfl, hb⟩
        have HB5 := Lib.hid (below_then HB4.out hb)
        have HX5 := Lib.hid (HX4.out.call hb)
        have hK5 := (hb.block D (Array.getElem?_eq_some_iff.1 HK4.out).1).trans HK4.out
        have ha5 := bal1 w5 (.cells #[.int .i64 p0] 3)
        have HK6 := Lib.hid ((ha5.block D (Array.getElem?_eq_some_iff.1 hK5).1).trans hK5)
        have HB6 := Lib.hid (below_then HB5.out ha5)
        have HX6 := Lib.hid (HX5.out.call ha5)
        clear hb hK5 ha5 s0 s1 s2 n0 HK4 HX4 HB4
        by_cases hy : y0 = 0
        · subst hy
          have hZ5 := HZ4.out
          rw [if_pos rfl] at hZ5
          have HZ5 := Lib.hid hZ5
          clear hZ5 HZ4
          obtain ⟨zb, hzb⟩ : ∃ b, w5.heap.size = b := ⟨_, rfl⟩
          obtain ⟨W6, hW6⟩ : ∃ W, w5.alloc (.cells #[.int .i64 p0] 3) = W := ⟨_, rfl⟩
          have hA6 : At W6 zb [.int .i64 p0] := by rw [← hW6, ← hzb]; exact At.new _ _ _
          have HW6 := Lib.hid hW6
          have HZb := Lib.hid hzb
          have HA6 := Lib.hid hA6
          have s0 := HX6.out.s.cell 0 _ rfl
          have s1 := HX6.out.s.cell 1 _ rfl
          have s2 := HX6.out.s.cell 2 _ rfl
          rw [hW6] at HK6 HB6 HX6
          clear hW6 hzb hA6
          gi_wp2
          rw [HZb.out, HW6.out]
          refine ⟨trivial, (callsIn_wide.2 (HLd.out _ HB6.out)).mono ?_⟩
          rintro e w7 ⟨rfl, hLd7, hb⟩
          have HB7 := Lib.hid (below_then HB6.out hb)
          have HX7 := Lib.hid (HX6.out.call hb)
          have HA7 := Lib.hid (HA6.out.call hb)
          have HK7 := Lib.hid ((hb.block D (Array.getElem?_eq_some_iff.1 HK6.out).1).trans HK6.out)
          have HL7 := Lib.hid hLd7
          obtain ⟨h, hh⟩ : ∃ h, W6.heap.size = h := ⟨_, rfl⟩
          rw [hh] at HL7 ⊢
          have l0 := (HX7.out.call (bal1 w7 (.cells #[.func (.func 55) #[] #[.pointer (some ⟨h + 2, 0, none⟩), .pointer (some ⟨h, 0, none⟩)]] 79))).l.cell 0 _ rfl
          clear hb hLd7 s0 s1 s2
          gi_wp2
          refine ⟨trivial, (callsIn_wide.2 (caNames_any _ _ ⟨_, _, _, rfl⟩)).mono ?_⟩
          rintro e w9 ⟨rfl, rfl⟩
          gi_wp2
          obtain ⟨fb, hfb⟩ : ∃ b, w7.heap.size = b := ⟨_, rfl⟩
          obtain ⟨W8, hW8⟩ : ∃ W, (w7.alloc (.cells #[(.func (.func 55) #[] #[.pointer (some ⟨h + 2, 0, none⟩), .pointer (some ⟨h, 0, none⟩)])] 79)).alloc (.cells #[.slice A n c] 22) = W := ⟨_, rfl⟩
          have hb8 : Below w7.heap.size w7 W8 := by rw [← hW8]; exact bal (bal1 _ _) _
          have hs8 : W8.heap.size = fb + 2 := by rw [← hW8, World.size_alloc, World.size_alloc, hfb]
          have hf8 : At W8 fb [(.func (.func 55) #[] #[.pointer (some ⟨h + 2, 0, none⟩), .pointer (some ⟨h, 0, none⟩)])] := by
            rw [← hW8, ← hfb]
            exact (At.new w7 #[(.func (.func 55) #[] #[.pointer (some ⟨h + 2, 0, none⟩), .pointer (some ⟨h, 0, none⟩)])] 79).allocO _
          have hl8 : At W8 (fb + 1) [.slice A n c] := by
            have hx := At.new (w7.alloc (.cells #[(.func (.func 55) #[] #[.pointer (some ⟨h + 2, 0, none⟩), .pointer (some ⟨h, 0, none⟩)])] 79)) #[Value.slice A n c] 22
            rw [World.size_alloc, hfb, hW8] at hx
            exact hx
          have hDl : D < w7.heap.size := (Array.getElem?_eq_some_iff.1 HK7.out).1
          have hK8 : Ca.K2 s (.slice rA nr rc) (.slice zA nz zc) (.slice lA nl lc) h zb fb D p0 W8 := ⟨HA7.out.call hb8, hf8, ⟨_, HL7.out.call hb8⟩, (hb8.block D hDl).trans HK7.out, by rw [hs8]; exact Nat.le_refl _⟩
          have hB8 := below_then HB7.out hb8
          have hX8 := HX7.out.call hb8
          have hhl := HL7.out.map.lt
          have hgh : g + 1 + 1 + 1 + 1 < h := by rw [← hh]; exact HX6.out.r.lt
          rw [hW8, hfb]
          rw [hfb] at hhl hDl
          have hgw : w.heap.size ≤ h := by rw [← hh]; exact HB6.out.size
          have hzbh : zb < h := by rw [← hh]; exact HA6.out.lt
          have hDh : D < h := by rw [← hh]; exact (Array.getElem?_eq_some_iff.1 HK6.out).1
          have eg := enters_of Tryd.func55 (by kernel_rfl) rfl
          have HB8 := Lib.hid hB8
          have HX8 := Lib.hid hX8
          have HK8 := Lib.hid hK8
          have HL8 := Lib.hid hl8
          have HWn := Lib.hid HW.out
          clear hb8 hB8 hX8 hK8 hf8 hl8 hW8 hfb hh l0 HB7 HX7 HA7 HK7 HL7 HB6 HX6 HA6 HK6 HB5 HX5 HW6 HZb
          refine wpIn_rangeFunc_ownG (F := Fence.wide) (n := 5) rfl (by decide) (gf := 56) (lb := #[.pointer (some ⟨fb + 1, 0, none⟩)]) rfl trivial (enters_of Tryd.func56 (by kernel_rfl) rfl)
            (encs := fun x : Ca.Nm l => #[Value.int .i64 (x.1.1 : Int), Value.string x.1.2]) (Kp := Ca.Kp (fun k => k = h + 1) (fb + 2)) (S := fun ys => ys = Ca.all l) (Sp := fun pre => ∃ j, pre = (Ca.all l).take j) (N := (Ca.all l).length) (w0 := W8)
            (fun l' JY JX W hW hAb _ hY h0 => names1_in 4 (by decide) l' (fb + 1) (fb + 2) w.heap.size (fun k => k = h + 1) l A n c evl HL.out hn JY JX (fun pre W o h => hAb pre W _ none h (World.grownBy_alloc W o none) (fun r e => by cases e)) hY W ((hW.cell (p := ⟨fb + 1, 0, none⟩) (by rw [hs8]; show fb + 1 < fb + 2; omega)).trans (HL8.out.cell 0 _ rfl)) ((HE.out.below HB8.out).same (fun k hk => hW.block k (by omega))) (by omega) (fun k hk e => by omega) (by have := hW.size; omega) h0)
            (fun a b => a.trans b) (Ca.Kp.put (by rw [hs8]; exact Nat.le_refl _)) (Below.refl _ _) (fun _ => rfl)
            (fun pre W => Ca.KyI (fun W => Ca.Bx g (.slice A n c) (.slice rA nr rc) (.slice zA nz zc) (.slice lA nl lc) name (.string ⟨#[]⟩) (.int .i64 0) W ∧ Ca.K2 s (.slice rA nr rc) (.slice zA nz zc) (.slice lA nl lc) h zb fb D p0 W) (fun p => decide (Ca.lead s p.2 = p0)) pre W ∧ Below w.heap.size w W)
            (fun jc pre W => Ca.KyX (fun k W => Ca.Bx g (.slice A n c) (.slice rA nr rc) (.slice zA nz zc) (.slice lA nl lc) name k (.int .i64 0) W ∧ W.heap[D]? = some (.deferred (some []))) (fun p => decide (Ca.lead s p.2 = p0)) jc pre W ∧ Below w.heap.size w W)
            (OwnFrom.and (fun s A B row hs hg hr => ⟨hs.1, hs.2.1.kept hg (fun r e => (hr r e).2), hs.2.2.kept hg hr (by rw [hs8]; omega)⟩) (ownFrom_below (Nat.le_refl _) (by rw [hs8]; omega)))
            (fun c => OwnFrom.and (fun s A B row hs hg hr => ⟨hs.1, by obtain ⟨q, x, h1, h2, h3, h4, h5⟩ := hs.2; exact ⟨q, x, h1, h2, h3, h4.kept hg (fun r e => (hr r e).2), (hg.block D (Array.getElem?_eq_some_iff.1 h5).1 (fun e => by have := (hr _ e.symm).1; rw [hs8] at this; omega)).trans h5⟩⟩) (ownFrom_below (Nat.le_refl _) (by rw [hs8]; omega)))
            ⟨⟨fun y hy => (by cases hy), HX8.out, HK8.out⟩, HB8.out⟩
            (fun x => { tmps := #[Value.slice A n c, Value.agg #[Value.slice rA nr rc, Value.slice zA nz zc, Value.slice lA nl lc], Value.string name, Value.pointer (some ⟨g, 0, none⟩), Value.pointer (some ⟨g + 1, 0, none⟩), Value.pointer (some ⟨g + 1 + 1, 0, none⟩), Value.pointer (some ⟨g + 1 + 1 + 1, 0, none⟩), Value.pointer (some ⟨g + 1 + 1 + 1 + 1, 0, none⟩), Value.int .i64 0, undef, undef, Value.pointer (some ⟨zb, 0, none⟩), Value.int .i64 0, Value.pointer (some ⟨fb, 0, none⟩), Value.int .i64 (x.1.1 : Int), Value.string x.1.2, Value.slice A n c, Value.int .i64 0, Value.int .i64 0, Value.bool false, undef, Value.agg #[Value.slice rA nr rc, Value.slice zA nz zc, Value.slice lA nl lc], Value.int .i64 0, Value.bool false, Value.slice A n c, Value.func (.func 56) #[] #[Value.pointer (some ⟨Bl, 0, none⟩)], undef, undef, undef, undef, undef, undef, undef, undef, undef, undef, Value.tuple #[Value.int .i64 p0, Value.int .i64 0], Value.agg #[Value.slice rA nr rc, Value.slice zA nz zc, Value.slice lA nl lc], Value.string name, Value.tuple #[Value.int .i64 p0, Value.int .i64 0], Value.int .i64 p0, Value.int .i64 0, Value.int .i64 0, Value.bool false, undef, Value.agg #[Value.slice rA nr rc, Value.slice zA nz zc, Value.slice lA nl lc], Value.func (.func 55) #[] #[Value.pointer (some ⟨h + 2, 0, none⟩), Value.pointer (some ⟨h, 0, none⟩)], Value.slice A n c, Value.func (.func 56) #[] #[Value.pointer (some ⟨fb + 1, 0, none⟩)], Value.int .i64 (x.1.1 : Int), Value.string x.1.2, undef, undef, undef, undef, undef, undef, undef, undef, undef, undef], defers := [] }) ?assign ?body ?done ?stop
          case assign =>
            intro l' x W K hK
            gi_wp2
            exact hK
          case body =>
            rintro l' pre x W ⟨hI, hB⟩ _
            obtain ⟨⟨i, z⟩, hmem⟩ := x
            obtain ⟨j, e, hj, hij, hze⟩ := (Ca.flat_mem l 0 i z).1 hmem
            rw [Nat.zero_add] at hij
            subst hij
            obtain ⟨hX, hK2⟩ := hI.2
            obtain ⟨A', hd⟩ := hK2.d
            have hzs : z.size ≤ maxLen := (HW.out.all e (List.mem_of_getElem? hj)).2.2 z hze
            have hin : i < n := by rw [← HL.out]; exact (List.getElem?_eq_some_iff.1 hj).1
            have hka := Ca.keyAt_of hj
            obtain ⟨ad, y, yA, ym, yc, rfl, hab, Hy, y0, _, _, _, _, _, _, _⟩ := (HE.out.below hB).at_ HL.out hin
            have hye : y = e := Option.some.inj (Hy.out.symm.trans hj)
            rw [hye, ← hka] at y0
            obtain ⟨ky, hky⟩ : ∃ t, Ca.keyAt l i = t := ⟨_, rfl⟩
            rw [hky] at y0
            have q1 : (0 : Int) ≤ (i : Int) := by omega
            have q2 : (i : Int) < (n : Int) := by omega
            have t0 := hK2.f.cell 0 _ rfl
            have z0 := hK2.z.cell 0 _ rfl
            obtain ⟨L, hL⟩ : ∃ L, Ca.lead s z = L := ⟨_, rfl⟩
            have hC : Calls Tryd.prog 55 #[.string z, .pointer (some ⟨h + 2, 0, none⟩), .pointer (some ⟨h, 0, none⟩)] W.drew fun e w' => e = .returned (.int .i64 L) ∧ Ca.Bx g (.slice (some ad) n c) (.slice rA nr rc) (.slice zA nz zc) (.slice lA nl lc) name (.string ⟨#[]⟩) (.int .i64 0) w' ∧ Ca.K2 s (.slice rA nr rc) (.slice zA nz zc) (.slice lA nl lc) h zb fb D p0 w' ∧ Below w.heap.size w w' ∧ W.grownBy w' (some (h + 1)) := by
              refine (HL1.out W.drew h A' z (below_drew hB ⟨1, rfl⟩) (hd.drewN 1) hzs).mono ?_
              rintro e w' ⟨he, hd', hg'⟩
              rw [hL] at he
              have hg2 : W.grownBy w' (some (h + 1)) := ⟨hg'.os, hg'.tape, hg'.output, hg'.size, hg'.block⟩
              refine ⟨he, hX.grown hg2 (by omega), ⟨Sc.At.grownO hK2.z hg2 (fun j e => by cases e; omega), Sc.At.grownO hK2.f hg2 (fun j e => by cases e; omega), hd', ?_, Nat.le_trans hK2.sz hg2.size⟩, hB.grown hg2 hB.size (fun j e => by cases e; omega), hg2⟩
              exact (hg2.block D (Array.getElem?_eq_some_iff.1 hK2.k).1 (fun e => by cases e; omega)).trans hK2.k
            have HC := Lib.hid hC
            have HI := Lib.hid hI
            have HB := Lib.hid hB
            have HKy := Lib.hid hky
            have HSz := Lib.hid hK2.sz
            have HLd := Lib.hid hL
            clear hX hB hI hK2 hd hj hze hka hye hky hC hL hzs
            have hmx : Tryd.prog.follows .mixedOrders = true := by kernel_rfl
            have hd1 : 1 ≤ 5 - 1 - 1 := by omega
            gi_wp2
            gi_region_with_o (refine ⟨trivial, ?_⟩; gi_at_call 55; refine (CallsIn.inRound l' (callsIn_wide.2 HC.out)).mono ?_; rintro e w' ⟨rfl, hX', hK', hB', hg'⟩; have z1 := hK'.z.cell 0 _ rfl)
            all_goals
              have HX2 := Lib.hid hX'
              have HK2 := Lib.hid hK'
              have HB2 := Lib.hid hB'
              have HG2 := Lib.hid hg'
              obtain ⟨k0, f0⟩ := And.intro (hX'.k.cell 0 _ rfl) (hX'.k.free 0 _ rfl)
              obtain ⟨r0, g0⟩ := And.intro (hX'.r.cell 0 _ rfl) (hX'.r.free 0 _ rfl)
              have l1 := hX'.l.cell 0 _ rfl
              have y1 := (World.cell?_of_block (hg'.block _ (block_lt_of_cell y0) (fun e => by rw [block_of_add] at e; injection e with e; omega))).trans y0
              clear hX' hK' hB' hg' y0 t0 z0
              by_cases hLp : L = p0
              · subst hLp
                have HP : Hid (decide (Ca.lead s z = L) = true) := decide_eq_true HLd.out
                have qe : (L == L) = true := by simp
                gi_wp2
                refine ⟨(KeepsFrom.of_grownBy HG2.out (fun j e => by cases e; rw [hs8]; omega)).trans (((KeepsOthers.setCell _ _ _).trans (KeepsOthers.setCell _ _ _)).from _), ⟨rfl, pre, _, rfl, HI.out.1, HP.out, ?_, ((KeepsOthers.setCell _ _ _).trans (KeepsOthers.setCell _ _ _)).same D _ HK2.out.k rfl⟩, Ca.put_below HB2.out HG.out _ _⟩
                show Ca.Bx g (.slice (some ad) n c) (.slice rA nr rc) (.slice zA nz zc) (.slice lA nl lc) name (.string (Ca.keyAt l i)) (.int .i64 0) _
                rw [HKy.out]
                exact HX2.out.put _ _
              · have HP : Hid (decide (Ca.lead s z = p0) = false) := by
                  show _ = false
                  rw [HLd.out]
                  exact decide_eq_false hLp
                have qe : (L == p0) = false := by rw [beq_eq_false_iff_ne]; exact hLp
                gi_wp2
                exact ⟨KeepsFrom.of_grownBy HG2.out (fun j e => by cases e; rw [hs8]; omega), ⟨HG2.out.size, fun k hk hs => HG2.out.block k (by have := HSz.out; omega) (fun e => hs (by injection e))⟩, HI.out.next _ HP.out ⟨HX2.out, HK2.out⟩, HB2.out⟩
          case stop =>
            rintro D2 jc pre W hD ⟨j, hj⟩ ⟨⟨rfl, q, x, hq, hne, hx, hX, hK1⟩, hB⟩ hK
            have HEz : Hid (Z = (Ca.keyAt l x.1.1, 0)) := by
              show Z = _
              have h := HZ5.out
              rw [Ca.find_hit (p := fun p => decide (Ca.lead s p.2 = p0)) (hj.symm.trans hq) hne hx] at h
              exact h.symm
            gi_wp2
            exact key_out2 rfl rfl (by rw [HEz.out]; exact hX.k.cell 0 _ rfl) (by rw [HEz.out]; exact hX.r.cell 0 _ rfl) hB hK1 HD4.out hK (by rw [hs8] at hD; omega) (by rw [hs8] at hD; omega)
          case done =>
            rintro D2 ys W hD rfl ⟨⟨hne, hX, hK2⟩, hB⟩ hK
            have HEz : Hid (Z = (⟨#[]⟩, 3)) := by
              show Z = _
              have h := HZ5.out
              rw [Ca.find_miss (p := fun p => decide (Ca.lead s p.2 = p0)) (l := l) hne] at h
              exact h.symm
            obtain ⟨k0, f0⟩ := And.intro (hX.k.cell 0 _ rfl) (hX.k.free 0 _ rfl)
            obtain ⟨r0, g0⟩ := And.intro (hX.r.cell 0 _ rfl) (hX.r.free 0 _ rfl)
            have HX9 := Lib.hid hX
            have HK9 := Lib.hid hK2.k
            have HKK := Lib.hid hK
            have HB9 := Lib.hid hB
            clear hne hX hK2 hB hK
            gi_wp2
            have HXe := HX9.out.put (.string ⟨#[]⟩) (.int .i64 3)
            have hko := (KeepsOthers.setCell W ⟨g + 1 + 1 + 1, 0, none⟩ (.string ⟨#[]⟩)).trans (KeepsOthers.setCell _ ⟨g + 1 + 1 + 1 + 1, 0, none⟩ (.int .i64 3))
            exact key_out2 rfl rfl (by rw [HEz.out]; exact HXe.k.cell 0 _ rfl) (by rw [HEz.out]; exact HXe.r.cell 0 _ rfl) (Ca.put_below HB9.out HG.out _ _) (hko.same D _ HK9.out rfl) HD4.out (hko.same D2 _ HKK.out rfl) (by rw [hs8] at hD; omega) (by rw [hs8] at hD; omega)
        · have qy : (y0 != 0) = true := by simpa using hy
          have HEz : Hid (Z = (⟨#[]⟩, y0)) := by
            show Z = _
            rw [← HZ4.out, if_neg hy]
          obtain ⟨k0, f0⟩ := And.intro (HX6.out.k.cell 0 _ rfl) (HX6.out.k.free 0 _ rfl)
          obtain ⟨r0, g0⟩ := And.intro (HX6.out.r.cell 0 _ rfl) (HX6.out.r.free 0 _ rfl)
          clear HZ4
          gi_wp2
          have HXe := HX6.out.put (.string ⟨#[]⟩) (.int .i64 y0)
          have hKe : (((w5.alloc (.cells #[.int .i64 p0] 3)).setCell ⟨g + 1 + 1 + 1, 0, none⟩ (.string ⟨#[]⟩)).setCell ⟨g + 1 + 1 + 1 + 1, 0, none⟩ (.int .i64 y0)).heap[D]? = some (.deferred (some [])) :=
            ((KeepsOthers.setCell _ _ _).trans (KeepsOthers.setCell _ _ _)).same D _ HK6.out rfl
          exact key_out1 rfl rfl (by rw [HEz.out]; exact HXe.k.cell 0 _ rfl) (by rw [HEz.out]; exact HXe.r.cell 0 _ rfl) (Ca.put_below HB6.out HG.out _ _) hKe HD4.out
  · have qx : (X != 0) = true := by simpa using hX0
    have HEz : Hid (Z = (⟨#[]⟩, X)) := by
      show Z = _
      rw [← HZ.out, if_neg hX0]
    clear HZ
    gi_wp2
    have HXe := HX1.out.put (.string ⟨#[]⟩) (.int .i64 X)
    exact key_out rfl rfl (by rw [HEz.out]; exact HXe.k.cell 0 _ rfl) (by rw [HEz.out]; exact HXe.r.cell 0 _ rfl) (Ca.put_below HB1.out HG.out _ _)
end Go.Proofs.YtajcgoinhpengaaDoor
