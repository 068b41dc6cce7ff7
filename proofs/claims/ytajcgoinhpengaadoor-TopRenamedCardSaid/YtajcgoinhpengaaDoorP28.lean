/- atlas.Missing: the names that lead nowhere. -/
import Derived.Test.YtajcgoinhpengaaDoorP27

namespace Go.Proofs.YtajcgoinhpengaaDoor
open Go.RowKit Go.Shelf
open Go.Maps Go.WideShapes Go.ChangeShapes Go.WideMaps
attribute [local go_sem] Oper.semAt_some

namespace Ca
theorem miss_snoc (s : Src.S) (z : ByteArray) : ∀ (r seen a : List ByteArray), miss s (r ++ [z]) seen a = missStep s (miss s r seen a) (seen ++ r) z
  | [], seen, a => by simp [miss]
  | x :: r, seen, a => by
    rw [List.cons_append, miss, miss, miss_snoc s z r]
    simp
theorem miss_len (s : Src.S) : ∀ (r seen a : List ByteArray), (miss s r seen a).length ≤ a.length + r.length
  | [], seen, a => by simp [miss]
  | x :: r, seen, a => by
    unfold miss
    refine Nat.le_trans (miss_len s r _ _) ?_
    unfold missStep
    split
    · simp; try omega
    · split
      · simp; try omega
      · simp; try omega
theorem sf_again {l : List ByteArray} {s : ByteArray} (h : s ∈ l) : sf (l ++ [s]) = sf l := by
  funext t
  unfold sf
  by_cases h2 : t ∈ l
  · rw [if_pos (has_iff.2 h2), if_pos (has_iff.2 (List.mem_append_left _ h2))]
  · rw [if_neg (fun q => h2 (has_iff.1 q)), if_neg (fun q => by
      rcases List.mem_append.1 (has_iff.1 q) with q | q
      · exact h2 q
      · rw [List.mem_singleton.1 q] at h2; exact h2 h)]
theorem own_kept {w w' : World} {base : Nat} {e : TypeId} {size n : Nat} {v : Value} {xs : List Value} {row : Option Nat} (h : w.ownsRow base e size v n xs) (hg : w.grownBy w' row) (hr : ∀ r, row = some r → ∃ o : Obj, w.heap[r]? = some o ∧ o.isCells = false) : w'.ownsRow base e size v n xs := by
  refine ⟨h.1, ?_⟩
  rcases h.2 with hn | ⟨g, cap, cur, hv, hb, hgg, rest⟩
  · exact .inl hn
  · refine .inr ⟨g, cap, cur, hv, hb, (hg.block g (Array.getElem?_eq_some_iff.1 hgg).1 (fun e => ?_)).trans hgg, rest⟩
    obtain ⟨o, ho, hc⟩ := hr g e.symm
    rw [hgg] at ho
    cases ho
    cases hc
/-- What stands between two rounds of atlas.Missing. -/
structure MI (s : Src.S) (rv zv lv : Value) (h fb : Nat) (names : List ByteArray) (W : World) : Prop where
  f : At W fb [.func (.func 55) #[] #[.pointer (some ⟨h + 2, 0, none⟩), .pointer (some ⟨h, 0, none⟩)]]
  d : ∃ A, Ld s rv zv lv h A W
  sb : At W (fb + 1 + 1) [.map (some (fb + 1))]
  sm : MapF Tryd.prog 9 W (fb + 1) names.length (sf names)
  mb : ∃ v, At W (fb + 1 + 1 + 1) [v] ∧ W.ownsRow (fb + 5) 9 1 v (miss s names [] []).length ((miss s names [] []).map Value.string)
  sz : fb + 5 ≤ W.heap.size
theorem MI.kept {s : Src.S} {rv zv lv : Value} {h fb : Nat} {names : List ByteArray} {W W' : World} {row : Option Nat} (k : MI s rv zv lv h fb names W) (hg : W.grownBy W' row) (hr : ∀ r, row = some r → fb + 5 ≤ r ∧ ∃ o : Obj, W.heap[r]? = some o ∧ o.isCells = false) (hh : h + 1 < fb) : MI s rv zv lv h fb names W' := by
  have hr2 : ∀ r, row = some r → ∃ o : Obj, W.heap[r]? = some o ∧ o.isCells = false := fun r e => (hr r e).2
  obtain ⟨A, hd⟩ := k.d
  obtain ⟨v, hv, ho⟩ := k.mb
  exact ⟨at_kept k.f hg hr2, ⟨A, at_kept hd.box hg hr2, at_kept hd.src hg hr2, hd.map.kept hg (fun e => by have := (hr _ e.symm).1; omega), hd.nodup, hd.sub⟩, at_kept k.sb hg hr2, k.sm.kept hg (fun e => by have := (hr _ e.symm).1; omega), ⟨v, at_kept hv hg hr2, own_kept ho hg hr2⟩, Nat.le_trans k.sz hg.size⟩
theorem MI.alloc {s : Src.S} {rv zv lv : Value} {h fb : Nat} {names : List ByteArray} {W : World} (k : MI s rv zv lv h fb names W) (o : Obj) (hh : h + 1 < fb) : MI s rv zv lv h fb names (W.alloc o) :=
  k.kept (World.grownBy_alloc W o none) (fun r e => by cases e) hh
/-- The names of what has come. -/
def nms {l : List E} (pre : List (Nm l)) : List ByteArray := pre.map fun x => x.1.2
theorem nms_snoc {l : List E} (pre : List (Nm l)) (x : Nm l) : nms (pre ++ [x]) = nms pre ++ [x.1.2] := by unfold nms; rw [List.map_append]; rfl
theorem nms_len {l : List E} (pre : List (Nm l)) : (nms pre).length = pre.length := by unfold nms; rw [List.length_map]
theorem nms_all (l : List E) : nms (all l) = (flat l 0).map (·.2) := by
  have h := congrArg (List.map fun (p : Nat × ByteArray) => p.2) (all_map l)
  rw [List.map_map] at h
  exact h
/-- A step of a round: what it keeps. -/
structure Stp (h fb : Nat) (W W' : World) : Prop where
  kf : KeepsFrom (fb + 5) W W'
  kp : Kp (fun k => k = h + 1 ∨ k = fb + 1 ∨ k = fb + 1 + 1 + 1) (fb + 5) W W'
theorem Stp.refl (h fb : Nat) (W : World) : Stp h fb W W := ⟨KeepsFrom.refl _ _, Kp.refl _ _ _⟩
theorem Stp.trans {h fb : Nat} {A B C : World} (a : Stp h fb A B) (b : Stp h fb B C) : Stp h fb A C := ⟨a.kf.trans b.kf, a.kp.trans b.kp⟩
theorem Stp.alloc {h fb : Nat} (W : World) (hs : fb + 5 ≤ W.heap.size) (o : Obj) : Stp h fb W (W.alloc o) := ⟨(KeepsOthers.alloc W o).from _, (Kp.refl _ _ _).alloc hs o⟩
theorem Stp.of {h fb b : Nat} {W W' : World} (hs : fb + 5 ≤ W.heap.size) (hg : W.grownBy W' (some b)) (hb : b = h + 1 ∨ b = fb + 1) (hh : h + 1 < fb) : Stp h fb W W' :=
  ⟨KeepsFrom.of_grownBy hg (fun j e => by cases e; omega), ⟨hg.size, fun k hk hn => hg.block k (by omega) (fun e => by
    injection e with e
    rcases hb with hb | hb
    · exact hn (.inl (e.trans hb))
    · exact hn (.inr (.inl (e.trans hb))))⟩⟩
theorem Stp.own {h fb : Nat} {W W' : World} {e : TypeId} {size n : Nat} {v : Value} {xs : List Value} (hs : fb + 5 ≤ W.heap.size) (ho : W.ownsRow (fb + 5) e size v n xs) (hg : W.grownBy W' v.ownBlock) : Stp h fb W W' := by
  refine ⟨(KeepsOthers.of_grownBy hg (fun j o hj hoj => ?_)).from _, ⟨hg.size, fun k hk _ => hg.block k (by omega) (fun e => by have := (ho.lt k e.symm).1; omega)⟩⟩
  rcases ho.2 with ⟨rfl, _⟩ | ⟨g, cap, cur, rfl, hb, hgg, _⟩
  · cases hj
  · injection hj with hj
    rw [← hj] at hoj
    have := hoj.symm.trans hgg
    cases this
    rfl
theorem Stp.set {h fb : Nat} (W : World) (u : Value) : Stp h fb W (W.setCell ⟨fb + 1 + 1 + 1, 0, none⟩ u) :=
  ⟨(KeepsOthers.setCell _ _ _).from _, ⟨by rw [heap_set]; exact Nat.le_refl _, fun k _ hn => Below.heap_setCell _ _ _ _ (fun e => hn (.inr (.inr e)))⟩⟩
theorem Ld.off {s : Src.S} {rv zv lv : Value} {h : Nat} {A : List ByteArray} {w w' : World} {row : Option Nat} (k : Ld s rv zv lv h A w) (hg : w.grownBy w' row) (hr : ∀ r, row = some r → h + 2 < r) : Ld s rv zv lv h A w' :=
  ⟨Sc.At.grownO k.box hg (fun j e => by have := hr j e; omega), Sc.At.grownO k.src hg (fun j e => by have := hr j e; omega), k.map.kept hg (fun e => by have := hr _ e.symm; omega), k.nodup, k.sub⟩
theorem Ld.set {s : Src.S} {rv zv lv : Value} {h : Nat} {A : List ByteArray} {w : World} (k : Ld s rv zv lv h A w) {p : Addr} (hp : h + 2 < p.block) (u : Value) : Ld s rv zv lv h A (w.setCell p u) :=
  ⟨k.box.set_other _ _ (by omega), k.src.set_other _ _ (by omega), k.map.setCell (by omega) _, k.nodup, k.sub⟩
/-- Behind the question of a name that is new. -/
structure MR (s : Src.S) (rv zv lv : Value) (h fb : Nat) (ns : List ByteArray) (z : ByteArray) (W : World) : Prop where
  f : At W fb [.func (.func 55) #[] #[.pointer (some ⟨h + 2, 0, none⟩), .pointer (some ⟨h, 0, none⟩)]]
  d : ∃ A, Ld s rv zv lv h A W
  sb : At W (fb + 1 + 1) [.map (some (fb + 1))]
  sm : MapF Tryd.prog 9 W (fb + 1) (ns.length + 1) (sf (ns ++ [z]))
  mb : ∃ v, At W (fb + 1 + 1 + 1) [v] ∧ W.ownsRow (fb + 5) 9 1 v (miss s ns [] []).length ((miss s ns [] []).map Value.string)
  sz : fb + 5 ≤ W.heap.size
theorem MI.seen {s : Src.S} {rv zv lv : Value} {h fb : Nat} {ns : List ByteArray} {z : ByteArray} {W : World} (k : MI s rv zv lv h fb ns W) (hz : z ∈ ns) : MI s rv zv lv h fb (ns ++ [z]) W := by
  refine ⟨k.f, k.d, k.sb, ?_, ?_, k.sz⟩
  · rw [sf_again hz, List.length_append]
    exact k.sm.more (Nat.le_succ _)
  · rw [miss_snoc, missStep, List.nil_append, if_pos (has_iff.2 hz)]
    exact k.mb
theorem MR.leads {s : Src.S} {rv zv lv : Value} {h fb : Nat} {ns : List ByteArray} {z : ByteArray} {W : World} (k : MR s rv zv lv h fb ns z W) (hz : z ∉ ns) (hl : ¬ lead s z < 0) : MI s rv zv lv h fb (ns ++ [z]) W := by
  refine ⟨k.f, k.d, k.sb, ?_, ?_, k.sz⟩
  · rw [List.length_append]
    exact k.sm
  · rw [miss_snoc, missStep, List.nil_append, if_neg (fun q => hz (has_iff.1 q)), if_neg hl]
    exact k.mb
theorem MR.push {s : Src.S} {rv zv lv : Value} {h fb : Nat} {ns : List ByteArray} {z : ByteArray} {W w9 : World} {v v9 : Value} {o : Obj} (k : MR s rv zv lv h fb ns z W) (hh : h + 2 < fb) (hz : z ∉ ns) (hl : lead s z < 0)
    (hv : At W (fb + 1 + 1 + 1) [v]) (ho : W.ownsRow (fb + 5) 9 1 v (miss s ns [] []).length ((miss s ns [] []).map Value.string)) (hg : (W.alloc o).grownBy w9 v.ownBlock)
    (ho9 : w9.ownsRow (fb + 5) 9 1 v9 ((miss s ns [] []).length + 1) ((miss s ns [] []).map Value.string ++ [Value.string z])) :
    MI s rv zv lv h fb (ns ++ [z]) (w9.setCell ⟨fb + 1 + 1 + 1, 0, none⟩ v9) := by
  have hr : ∀ r, v.ownBlock = some r → fb + 5 ≤ r := fun r e => (ho.lt r e).1
  obtain ⟨A, hd⟩ := k.d
  have hd9 := (hd.call (bal1 W o)).off hg (fun r e => by have := hr r e; omega)
  refine ⟨(Sc.At.grownO (k.f.allocO o) hg (fun j e => by have := hr j e; omega)).set_other _ _ (by show fb + 1 + 1 + 1 ≠ fb; omega), ⟨A, hd9.set (by show h + 2 < fb + 1 + 1 + 1; omega) _⟩, (Sc.At.grownO (k.sb.allocO o) hg (fun j e => by have := hr j e; omega)).set_other _ _ (by show fb + 1 + 1 + 1 ≠ fb + 1 + 1; omega), ?_, ?_, ?_⟩
  · rw [List.length_append]
    exact ((k.sm.alloc o).kept hg (fun e => by have := hr _ e.symm; omega)).setCell (by show fb + 1 ≠ fb + 1 + 1 + 1; omega) _
  · rw [miss_snoc, missStep, List.nil_append, if_neg (fun q => hz (has_iff.1 q)), if_pos hl]
    refine ⟨v9, (Sc.At.grownO (hv.allocO o) hg (fun j e => by have := hr j e; omega)).set 0 v9, ?_⟩
    rw [List.length_append, List.map_append]
    exact ownsRow_setCell_below ho9 (by show fb + 1 + 1 + 1 < fb + 5; omega) _
  · rw [heap_set]
    have := hg.size
    rw [World.size_alloc] at this
    have := k.sz
    omega
end Ca
section
variable {F : Fence} {nF : Nat} (w : World) {ops : Array Oper} {rest : List Oper} {o : Oper} {a : Act} {Q : Exit → Act → World → Prop}
theorem lookIn_set (hg : o.guard = none) (m x : Operand) (b n : Nat) (l : List ByteArray) (s : ByteArray) (h1 : s.size ≤ maxLen) (hop : o.op = Op.lookup 81 m x true)
    (hm : a.eval m = .map (some b)) (hx : a.eval x = .string s) (h : MapF Tryd.prog 9 w b n (Ca.sf l)) (q : Bool) (hq : Ca.has l s = q)
    (hK : wpListIn F nF Tryd.prog ops Q rest (a.put o.dst (.tuple #[.agg #[], .bool q])) w) : wpListIn F nF Tryd.prog ops Q (o :: rest) a w := by
  obtain ⟨D, hD, hf⟩ := h
  refine wpListIn_lookup_own_ok w hg m x 81 hop 9 85 (string_keyed Tryd.underlying9) Tryd.underlying81 Mp.rv (zero_unit w) (.held (.agg #[])) [] rfl b n D hm hD (.string s) (Mp.kl s) hx (keyOf_string_mk Tryd.underlying9 h1) ?_
  intro v ps hv
  rw [(hf s).2 (.agg #[])] at hv
  have e1 : v = (Ca.sf l s).getD (.agg #[]) := by
    unfold Mp.rv at hv
    injection hv with hv
    injection hv with hv _
    injection hv
  rw [e1, (hf s).1, (Ca.sf_get _ _).1, (Ca.sf_get _ _).2, hq]
  exact hK
theorem storeIn_set (hg : o.guard = none) (m x v : Operand) (b n : Nat) (l : List ByteArray) (s : ByteArray) (h1 : s.size ≤ maxLen) (hn : n < maxLen) (hop : o.op = Op.mapUpdate 81 m x v)
    (hm : a.eval m = .map (some b)) (hx : a.eval x = .string s) (hv : a.eval v = .agg #[]) (h : MapF Tryd.prog 9 w b n (Ca.sf l))
    (hK : ∀ w', MapF Tryd.prog 9 w' b (n + 1) (Ca.sf (l ++ [s])) → w.grownBy w' (some b) → wpListIn F nF Tryd.prog ops Q rest (a.put o.dst undef) w') : wpListIn F nF Tryd.prog ops Q (o :: rest) a w := by
  refine wpListIn_store w hg m x v 81 9 85 hop Tryd.underlying9 Tryd.underlying81 b n _ s h1 hn _ hm hx hv h ?_
  intro w' hM hg'
  rw [Ca.sf_put] at hM
  exact hK w' hM hg'
end
set_option maxHeartbeats 4000000 in
set_option maxRecDepth 100000 in
theorem caMissing_any (l : List Ca.E) (A : Option Addr) (n c : Nat) (evl : List Value) (s : Src.S) (rv zv lv : Value) (evs : List Value) (w : World) (hE : Ca.EntR w w.heap.size l (.slice A n c) evl) (hl : l.length = n) (hW : Ca.Wd l) (hz : (Ca.flat l 0).length ≤ 100000)
    (hR : Src.SrcR w w.heap.size s rv zv lv evs) (hLm : Src.Lims s) (hN : Lk.Nm s) (hsz : ∀ x ∈ Src.names s, x.size ≤ maxLen) :
    Calls Tryd.prog 10 #[.slice A n c, .agg #[rv, zv, lv]] w fun e w' => (∃ v, e = .returned v ∧ w'.ownsRow w.heap.size 9 1 v (Ca.missing l s).length ((Ca.missing l s).map Value.string)) ∧ Below w.heap.size w w' := by
  have hn : n ≤ 4096 := by rw [← hl]; exact hW.n
  obtain ⟨rA, rc, rfl, _⟩ := hR.rules
  obtain ⟨zA, zc, rfl, _⟩ := hR.zones
  obtain ⟨lA, lc, rfl, _⟩ := hR.links
  have hL1 := fun W h (A' : List ByteArray) z (hb : Below w.heap.size w W) (hL : Ca.Ld s _ _ _ h A' W) (hz : z.size ≤ maxLen) => caLeads1_any s _ _ _ evs h A' z W hL (hR.call hb) hN hz (by have := hLm.zones; have := hLm.links; simp [Src.names, Src.zoneNames, Src.linkNames]; omega)
  obtain ⟨nr, hnr⟩ : ∃ n, s.rules.length = n := ⟨_, rfl⟩
  obtain ⟨nz, hnz⟩ : ∃ n, s.zones.length = n := ⟨_, rfl⟩
  obtain ⟨nl, hnl⟩ : ∃ n, s.links.length = n := ⟨_, rfl⟩
  rw [hnr, hnz, hnl] at hR
  simp only [hnr, hnz, hnl] at hL1 ⊢
  obtain ⟨W1, hW1⟩ : ∃ W, w.alloc (.cells #[.slice rA nr rc, .slice zA nz zc, .slice lA nl lc] 27) = W := ⟨_, rfl⟩
  have hB1 : Below w.heap.size w W1 := by rw [← hW1]; exact bal1 _ _
  have hA1 : At W1 w.heap.size [.slice rA nr rc, .slice zA nz zc, .slice lA nl lc] := by rw [← hW1]; exact At.new _ _ _
  have hLd := caLeads_any s _ _ _ evs W1 (hR.call hB1) hLm hsz
  obtain ⟨h, hh⟩ : ∃ h, W1.heap.size = h := ⟨_, rfl⟩
  rw [hh] at hLd
  have hgh : w.heap.size < h := by rw [← hh, ← hW1, World.size_alloc]; omega
  obtain ⟨i0, hi0, hz0, hz1, hz2⟩ := info_parts str_info
  have HI := Lib.hid (And.intro hi0 (And.intro hz0 (And.intro hz1 hz2)))
  have HLd := Lib.hid hLd
  have HL1 := Lib.hid hL1
  have HE := Lib.hid hE
  have HL := Lib.hid hl
  have HW := Lib.hid hW
  have HZ := Lib.hid hz
  have HB1 := Lib.hid hB1
  have HW1 := Lib.hid hW1
  have HH := Lib.hid hh
  obtain ⟨s0, s1, s2, _⟩ := hA1.three
  clear hL1 hE hl hW hR hLm hN hsz hB1 hW1 hA1 hLd hnr hnz hnl hi0 hz0 hz1 hz2 hz hh
  have hmk := @run_makeMap Tryd.prog
  refine (callsIn_wide (n := 5)).1 ?_
  refine callsIn_of_wp_marks Tryd.func10 rfl trivial ?_ rfl
  simp only [Tryd.ntmps10, List.size_toArray, List.length_cons, List.length_nil, Nat.reduceAdd, Nat.reduceSub, Array.replicate_succ, Array.replicate_zero, List.push_toArray, List.append_toArray, List.nil_append, List.cons_append]
  gi_wp2
  rw [HW1.out]
  gi_wp2
  refine ⟨trivial, (callsIn_wide.2 HLd.out).mono ?_⟩
  rintro e w2 ⟨rfl, hLd2, hb⟩
  have HB2 := Lib.hid (below_then HB1.out (show Below W1.heap.size W1 w2 by rw [HH.out]; exact hb))
  have HLd2 := Lib.hid hLd2
  clear hb hLd2 s0 s1 s2 HLd
  gi_wp2
  refine ⟨trivial, (callsIn_wide.2 (caNames_any _ _ ⟨_, _, _, rfl⟩)).mono ?_⟩
  rintro e w9 ⟨rfl, rfl⟩
  gi_wp2
  obtain ⟨fb, hfb⟩ : ∃ b, w2.heap.size = b := ⟨_, rfl⟩
  have hB2 := HB2.out
  have hL2 := HLd2.out
  have hhl : h + 2 < fb := by rw [← hfb]; exact hL2.box.lt
  obtain ⟨W8, hW8⟩ : ∃ W, ((((w2.alloc (.cells #[(.func (.func 55) #[] #[.pointer (some ⟨h + 2, 0, none⟩), .pointer (some ⟨h, 0, none⟩)])] 79)).alloc (.map #[] 0)).alloc (.cells #[.map (some (w2.heap.size + 1))] 81)).alloc (.cells #[.slice none 0 0] 34)).alloc (.cells #[.slice A n c] 22) = W := ⟨_, rfl⟩
  have hb8 : Below w2.heap.size w2 W8 := by rw [← hW8]; exact bal (bal (bal (bal (bal1 _ _) _) _) _) _
  have hs8 : W8.heap.size = fb + 5 := by rw [← hW8, World.size_alloc, World.size_alloc, World.size_alloc, World.size_alloc, World.size_alloc, hfb]
  have hl8 : At W8 (fb + 1 + 1 + 1 + 1) [.slice A n c] := by
    have hx := At.new ((((w2.alloc (.cells #[(.func (.func 55) #[] #[.pointer (some ⟨h + 2, 0, none⟩), .pointer (some ⟨h, 0, none⟩)])] 79)).alloc (.map #[] 0)).alloc (.cells #[.map (some (w2.heap.size + 1))] 81)).alloc (.cells #[.slice none 0 0] 34)) #[Value.slice A n c] 22
    rw [World.size_alloc, World.size_alloc, World.size_alloc, World.size_alloc, hW8, hfb] at hx
    exact hx
  have hM8 : Ca.MI s (.slice rA nr rc) (.slice zA nz zc) (.slice lA nl lc) h fb [] W8 := by
    rw [← hW8]
    refine ⟨?_, ⟨_, hL2.call (bal (bal (bal (bal (bal1 _ _) _) _) _) _)⟩, ?_, ?_, ⟨.slice none 0 0, ?_, World.ownsRow_nil _ _ _ _⟩, by rw [hW8, hs8]; exact Nat.le_refl _⟩
    · rw [← hfb]
      exact ((((At.new w2 #[(.func (.func 55) #[] #[.pointer (some ⟨h + 2, 0, none⟩), .pointer (some ⟨h, 0, none⟩)])] 79).allocO _).allocO _).allocO _).allocO _
    · have hx := ((At.new ((w2.alloc (.cells #[(.func (.func 55) #[] #[.pointer (some ⟨h + 2, 0, none⟩), .pointer (some ⟨h, 0, none⟩)])] 79)).alloc (.map #[] 0)) #[Value.map (some (w2.heap.size + 1))] 81).allocO (.cells #[.slice none 0 0] 34)).allocO (.cells #[.slice A n c] 22)
      rw [World.size_alloc, World.size_alloc] at hx
      rw [← hfb]
      exact hx
    · have hx := (((MapF.made (P := Tryd.prog) (k := 9) (w2.alloc (.cells #[(.func (.func 55) #[] #[.pointer (some ⟨h + 2, 0, none⟩), .pointer (some ⟨h, 0, none⟩)])] 79))).alloc (.cells #[.map (some (w2.heap.size + 1))] 81)).alloc (.cells #[.slice none 0 0] 34)).alloc (.cells #[.slice A n c] 22)
      rw [World.size_alloc] at hx
      rw [← hfb]
      exact hx
    · have hx := (At.new (((w2.alloc (.cells #[(.func (.func 55) #[] #[.pointer (some ⟨h + 2, 0, none⟩), .pointer (some ⟨h, 0, none⟩)])] 79)).alloc (.map #[] 0)).alloc (.cells #[.map (some (w2.heap.size + 1))] 81)) #[Value.slice none 0 0] 34).allocO (.cells #[.slice A n c] 22)
      rw [World.size_alloc, World.size_alloc, World.size_alloc] at hx
      rw [← hfb]
      exact hx
  have hB8 := below_then hB2 hb8
  rw [hW8, hfb]
  have HB8 := Lib.hid hB8
  have HM8 := Lib.hid hM8
  have HL8 := Lib.hid hl8
  clear hmk hb8 hB8 hM8 hl8 hW8 hfb hB2 hL2 HB2 HLd2 HB1 HW1 HH
  refine wpIn_rangeFunc_ownG (F := Fence.wide) (n := 5) rfl (by decide) (gf := 56) (lb := #[.pointer (some ⟨fb + 1 + 1 + 1 + 1, 0, none⟩)]) rfl trivial (enters_of Tryd.func56 (by kernel_rfl) rfl)
    (encs := fun x : Ca.Nm l => #[Value.int .i64 (x.1.1 : Int), Value.string x.1.2]) (Kp := Ca.Kp (fun k => k = h + 1 ∨ k = fb + 1 ∨ k = fb + 1 + 1 + 1) (fb + 5)) (S := fun ys => ys = Ca.all l) (Sp := fun pre => ∃ j, pre = (Ca.all l).take j) (N := (Ca.all l).length) (w0 := W8)
    (fun l' JY JX W hW hAb _ hY h0 => names1_in 4 (by decide) l' (fb + 1 + 1 + 1 + 1) (fb + 5) w.heap.size (fun k => k = h + 1 ∨ k = fb + 1 ∨ k = fb + 1 + 1 + 1) l A n c evl HL.out hn JY JX (fun pre W o h => hAb pre W _ none h (World.grownBy_alloc W o none) (fun r e => by cases e)) hY W ((hW.cell (p := ⟨fb + 1 + 1 + 1 + 1, 0, none⟩) (by rw [hs8]; show fb + 1 + 1 + 1 + 1 < fb + 5; omega)).trans (HL8.out.cell 0 _ rfl)) ((HE.out.below HB8.out).same (fun k hk => hW.block k (by omega))) (by omega) (fun k hk e => by omega) (by have := hW.size; omega) h0)
    (fun a b => a.trans b) (Ca.Kp.put (by rw [hs8]; exact Nat.le_refl _)) (Below.refl _ _) (fun _ => rfl)
    (fun pre W => Ca.MI s (.slice rA nr rc) (.slice zA nz zc) (.slice lA nl lc) h fb (Ca.nms pre) W ∧ Below w.heap.size w W) (fun _ _ _ => False)
    (OwnFrom.and (fun q A B row hs hg hr => hs.kept hg (fun r e => ⟨by have := (hr r e).1; rw [hs8] at this; exact this, (hr r e).2⟩) (by omega)) (ownFrom_below (Nat.le_refl _) (by rw [hs8]; omega)))
    (fun _ _ _ _ _ hs _ _ => hs)
    ⟨HM8.out, HB8.out⟩
    (fun x => { tmps := #[Value.slice A n c, Value.agg #[Value.slice rA nr rc, Value.slice zA nz zc, Value.slice lA nl lc], undef, Value.pointer (some ⟨w.heap.size, 0, none⟩), Value.slice none 0 0, Value.pointer (some ⟨fb, 0, none⟩), Value.pointer (some ⟨fb + 1 + 1, 0, none⟩), Value.pointer (some ⟨fb + 1 + 1 + 1, 0, none⟩), undef, Value.string x.1.2, undef, undef, Value.agg #[Value.slice rA nr rc, Value.slice zA nz zc, Value.slice lA nl lc], Value.func (.func 55) #[] #[Value.pointer (some ⟨h + 2, 0, none⟩), Value.pointer (some ⟨h, 0, none⟩)], Value.map (some (fb + 1)), Value.slice A n c, Value.func (.func 56) #[] #[Value.pointer (some ⟨fb + 1 + 1 + 1 + 1, 0, none⟩)], Value.int .i64 (x.1.1 : Int), Value.string x.1.2, undef, undef, undef, undef, undef, undef, undef, undef, undef, undef, undef, undef, undef, undef, undef, undef, undef, undef, undef], defers := [] }) ?assign ?body ?done ?stop
  case assign =>
    intro l' x W K hK
    gi_wp2
    exact hK
  case body =>
    rintro l' pre x W ⟨hM, hB⟩ hlt
    obtain ⟨⟨i, z⟩, hmem⟩ := x
    obtain ⟨j, e, hj, hij, hze⟩ := (Ca.flat_mem l 0 i z).1 hmem
    have hzs : z.size ≤ maxLen := (HW.out.all e (List.mem_of_getElem? hj)).2.2 z hze
    obtain ⟨ns, hns⟩ : ∃ ns, Ca.nms pre = ns := ⟨_, rfl⟩
    have hnl : ns.length < 100000 := by rw [← hns, Ca.nms_len]; rw [Ca.all_len] at hlt; have := HZ.out; omega
    have hnx : Ca.nms (pre ++ [⟨(i, z), hmem⟩]) = ns ++ [z] := by rw [Ca.nms_snoc, hns]
    rw [hns] at hM
    have HNx := Lib.hid hnx
    have b0 := hM.sb.cell 0 _ rfl
    have hsz := hM.sz
    have HM := Lib.hid hM
    have HB := Lib.hid hB
    have hmx : ns.length < maxLen := by unfold maxLen; omega
    clear hj hze hns hnx hM hB hlt hij
    by_cases hin : z ∈ ns
    · have hq := Ca.has_iff.2 hin
      have HE2 : Hid (Ca.Stp h fb W (W.alloc (.cells #[] 85)) ∧ Ca.MI s (.slice rA nr rc) (.slice zA nz zc) (.slice lA nl lc) h fb (ns ++ [z]) (W.alloc (.cells #[] 85)) ∧ Below w.heap.size w (W.alloc (.cells #[] 85))) :=
        ⟨Ca.Stp.alloc W hsz _, (HM.out.seen hin).alloc _ (by omega), bal HB.out _⟩
      clear hin
      gi_wp2_with (gi_at_lookup; refine lookIn_set _ rfl _ _ (fb + 1) _ _ z hzs rfl rfl rfl HM.out.sm true hq ?_)
      exact ⟨by rw [hs8]; exact HE2.out.1.kf, HE2.out.1.kp, by rw [HNx.out]; exact HE2.out.2.1, HE2.out.2.2⟩
    · have hq := Ca.has_not hin
      have HC : Hid (∀ w3, MapF Tryd.prog 9 w3 (fb + 1) (ns.length + 1) (Ca.sf (ns ++ [z])) → (W.alloc (.cells #[] 85)).grownBy w3 (some (fb + 1)) →
          (w3.cell? ⟨fb, 0, none⟩ = some (.func (.func 55) #[] #[.pointer (some ⟨h + 2, 0, none⟩), .pointer (some ⟨h, 0, none⟩)])) ∧ Calls Tryd.prog 55 #[.string z, .pointer (some ⟨h + 2, 0, none⟩), .pointer (some ⟨h, 0, none⟩)] w3 fun e w4 => e = .returned (.int .i64 (Ca.lead s z)) ∧ Ca.MR s (.slice rA nr rc) (.slice zA nz zc) (.slice lA nl lc) h fb ns z w4 ∧ Ca.Stp h fb W w4 ∧ Below w.heap.size w w4) := by
        intro w3 hM3 hg3
        have hMa := HM.out.alloc (.cells #[] 85) (by omega : h + 1 < fb)
        have hBa := bal HB.out (.cells #[] 85)
        obtain ⟨A', hd⟩ := hMa.d
        obtain ⟨v, hv, ho⟩ := hMa.mb
        have hd3 := hd.off hg3 (fun r e => by cases e; omega)
        have hf3 := Sc.At.grownO hMa.f hg3 (fun j e => by cases e; omega)
        have hsb3 := Sc.At.grownO hMa.sb hg3 (fun j e => by cases e; omega)
        have hv3 := Sc.At.grownO hv hg3 (fun j e => by cases e; omega)
        have ho3 := ho.kept hg3 (.inr (fun e => by have := (ho.lt _ e).1; omega))
        have hB3 : Below w.heap.size w w3 := hBa.grown hg3 hBa.size (fun j e => by cases e; omega)
        have hs3 : fb + 5 ≤ w3.heap.size := Nat.le_trans hMa.sz hg3.size
        have hst3 := (Ca.Stp.alloc (h := h) W hsz (.cells #[] 85)).trans (Ca.Stp.of hMa.sz hg3 (.inr rfl) (by omega))
        refine ⟨hf3.cell 0 _ rfl, (HL1.out w3 h A' z hB3 hd3 hzs).mono ?_⟩
        rintro e w4 ⟨he, hd4, hg4⟩
        refine ⟨he, ⟨Sc.At.grownO hf3 hg4 (fun j e => by cases e; omega), hd4, Sc.At.grownO hsb3 hg4 (fun j e => by cases e; omega), hM3.kept hg4 (fun e => by injection e with e; omega), ⟨v, Sc.At.grownO hv3 hg4 (fun j e => by cases e; omega), ho3.kept hg4 (.inr (fun e => by have := (ho3.lt _ e).1; omega))⟩, Nat.le_trans hs3 hg4.size⟩, hst3.trans (Ca.Stp.of hs3 hg4 (.inl rfl) (by omega)), hB3.grown hg4 hB3.size (fun j e => by cases e; omega)⟩
      have b1 := (HM.out.sb.allocO (.cells #[] 85)).cell 0 _ rfl
      have HMa := Lib.hid (HM.out.sm.alloc (.cells #[] 85))
      have hsb2 : ∀ w3, (W.alloc (.cells #[] 85)).grownBy w3 (some (fb + 1)) → True := fun _ _ => trivial
      have HNi := Lib.hid hin
      clear hin hsb2
      obtain ⟨L, hL⟩ : ∃ L, Ca.lead s z = L := ⟨_, rfl⟩
      rw [hL] at HC
      have HLd := Lib.hid hL
      clear hL
      by_cases hL0 : L < 0
      · have HAp := Lib.hid fun (w4 : World) (vA : Option Addr) (vc m : Nat) (xs : List Value) (hm : m < 100000) (hO : w4.ownsRow (fb + 5) 9 1 (.slice vA m vc) m xs) (hs4 : fb + 5 ≤ w4.heap.size) {F : Fence} {nF : Nat} {ops : Array Oper} {rest : List Oper} {o : Oper} {a : Act} {Q : Exit → Act → World → Prop} (hgd : o.guard = none) (ho : o.op = .call { callee := .builtin .append, args := #[.tmp 33, .tmp 35], argTypes := #[34, 34] }) (hs : a.eval (.tmp 33) = .slice vA m vc) (hx : a.eval (.tmp 35) = .slice (some ⟨w4.heap.size, 0, none⟩) 1 1) hk =>
          wpListIn_append_own (F := F) (n := nF) (P := Tryd.prog) (ops := ops) (rest := rest) (o := o) (a := a) (Q := Q) (w4.alloc (.cells #[.string z] 9)) hgd (.tmp 33) (.tmp 35) 34 ho (fb + 5) 9 i0 _ 1 16 Tryd.underlying34 HI.out.1 HI.out.2.1 HI.out.2.2.1 HI.out.2.2.2 rfl (by decide) _ m xs hs (hO.alloc _) ⟨w4.heap.size, 0, none⟩ 1 1 [.string z] hx rfl (fun j u hj => by
            have hja : j = 0 ∧ u = .string z := by
              cases j with
              | zero => exact ⟨rfl, (Option.some.inj hj).symm⟩
              | succ j => simp at hj
            rw [hja.1, hja.2, add_zero]
            exact (At.new w4 #[Value.string z] 9).cell 0 _ rfl) (by intro u hu; rw [List.mem_singleton.1 hu]; rfl) (by unfold maxLen; omega) (by omega) (by rw [World.size_alloc]; omega) hk
        have hml := Ca.miss_len s ns [] []
        have hm5 : (Ca.miss s ns [] []).length < 100000 := by simp at hml; omega
        have HM5 := Lib.hid hm5
        clear hml hm5
        gi_wp2_with (first
          | (gi_at_lookup; refine lookIn_set _ rfl _ _ (fb + 1) _ _ z hzs rfl rfl rfl HM.out.sm false hq ?_)
          | (gi_at_mapUpdate; refine storeIn_set _ rfl _ _ _ (fb + 1) _ _ z hzs hmx rfl rfl rfl rfl HMa.out ?_; intro w3 hM3 hg3; obtain ⟨t3, hC3⟩ := HC.out w3 hM3 hg3; have HC3 := Lib.hid hC3; clear hM3 hg3 hC3)
          | (refine ⟨trivial, ?_⟩; gi_at_call 55; refine (CallsIn.inRound l' (callsIn_wide.2 HC3.out)).mono ?_; rintro e w4 ⟨rfl, hMR, hSt, hB4⟩; obtain ⟨v4, hm4, ho4⟩ := hMR.mb; obtain ⟨vA, vc, rfl, _⟩ := own_slice ho4; have m0 := hm4.cell 0 _ rfl; have HMR := Lib.hid hMR; have HSt := Lib.hid hSt; have HB4 := Lib.hid hB4; have HO4 := Lib.hid ho4; have HA4 := Lib.hid hm4; clear hMR hSt hB4 hm4 ho4)
          | (gi_at_builtin; refine HAp.out w4 vA vc _ _ HM5.out HO4.out HMR.out.sz rfl rfl rfl rfl ?_; intro v9 w9 hown9 hg9 _; obtain ⟨A9, c9, rfl, _⟩ := own_slice hown9; have m9 := (Sc.At.grownO (HA4.out.allocO (.cells #[.string z] 9)) hg9 (fun j e => by have := (HO4.out.lt j e).1; omega)).cell 0 _ rfl; have f9 := (Sc.At.grownO (HA4.out.allocO (.cells #[.string z] 9)) hg9 (fun j e => by have := (HO4.out.lt j e).1; omega)).free 0 _ rfl; have HO9 := Lib.hid hown9; have HG9 := Lib.hid hg9; clear hown9 hg9))
        have hE := HMR.out.push (by omega) HNi.out (by rw [HLd.out]; exact hL0) HA4.out HO4.out HG9.out HO9.out
        have hsA : fb + 5 ≤ (w4.alloc (.cells #[.string z] 9)).heap.size := by rw [World.size_alloc]; have := HMR.out.sz; omega
        have hS := ((HSt.out.trans (Ca.Stp.alloc w4 HMR.out.sz (.cells #[.string z] 9))).trans (Ca.Stp.own hsA (HO4.out.alloc _) HG9.out)).trans (Ca.Stp.set _ (.slice A9 ((Ca.miss s ns [] []).length + 1) c9))
        have hBb := bal HB4.out (.cells #[.string z] 9)
        have hB9 := (hBb.grown HG9.out hBb.size (fun j e => by have := (HO4.out.lt j e).1; omega)).setCell (p := ⟨fb + 1 + 1 + 1, 0, none⟩) (by show _ ≤ fb + 1 + 1 + 1; omega) (.slice A9 ((Ca.miss s ns [] []).length + 1) c9)
        exact ⟨by rw [hs8]; exact hS.kf, hS.kp, by rw [HNx.out]; exact hE, hB9⟩
      · gi_wp2_with (first
          | (gi_at_lookup; refine lookIn_set _ rfl _ _ (fb + 1) _ _ z hzs rfl rfl rfl HM.out.sm false hq ?_)
          | (gi_at_mapUpdate; refine storeIn_set _ rfl _ _ _ (fb + 1) _ _ z hzs hmx rfl rfl rfl rfl HMa.out ?_; intro w3 hM3 hg3; obtain ⟨t3, hC3⟩ := HC.out w3 hM3 hg3; have HC3 := Lib.hid hC3; clear hM3 hg3 hC3)
          | (refine ⟨trivial, ?_⟩; gi_at_call 55; refine (CallsIn.inRound l' (callsIn_wide.2 HC3.out)).mono ?_; rintro e w4 ⟨rfl, hMR, hSt, hB4⟩; have HMR := Lib.hid hMR; have HSt := Lib.hid hSt; have HB4 := Lib.hid hB4; clear hMR hSt hB4))
        exact ⟨by rw [hs8]; exact HSt.out.kf, HSt.out.kp, by rw [HNx.out]; exact HMR.out.leads HNi.out (by rw [HLd.out]; omega), HB4.out⟩
  case stop =>
    rintro D jc pre W _ _ h _
    exact h.elim
  case done =>
    rintro D ys W hD rfl ⟨hM, hB⟩ hK
    obtain ⟨v, hv, ho⟩ := hM.mb
    have he : Ca.miss s (Ca.nms (Ca.all l)) [] [] = Ca.missing l s := by
      unfold Ca.missing
      rw [Ca.nms_all]
    rw [he] at ho
    obtain ⟨vA, vc, rfl, _⟩ := own_slice ho
    have v0 := hv.cell 0 _ rfl
    have HOe := Lib.hid (Sc.own_mono (base' := w.heap.size) ho (by omega))
    have HB9 := Lib.hid hB
    have HK9 := Lib.hid hK
    clear hM hB hv ho he
    gi_wp2
    refine ⟨by simp, .inl ⟨_, _, rfl, run_takeDeferred HK9.out, ?_⟩⟩
    exact ⟨_, results_tmp rfl _ _ _, ⟨_, rfl, Ca.own_kept HOe.out (grownBy_putObj' W D (.deferred none)) (fun r e => by cases e; exact ⟨_, HK9.out, rfl⟩)⟩, HB9.out.trans (belowK_b (w := w) (Nat.le_refl _) W D _ _ (by rw [hs8] at hD; omega) HK9.out rfl rfl)⟩
end Go.Proofs.YtajcgoinhpengaaDoor

/- solsticelaw32.Small: whether a chart is small. -/
namespace Go.Proofs.YtajcgoinhpengaaDoor
open Go.RowKit

namespace Ca
/-- A small entry. -/
structure Fe (e : E) : Prop where
  k : e.key.size ≤ 1000
  t : e.terr.size ≤ 1000
  n : e.zones.length ≤ 40
  z : ∀ z ∈ e.zones, z.size ≤ 1000
structure Few (l : List E) : Prop where
  n : l.length ≤ 40
  all : ∀ e ∈ l, Fe e
theorem Few.wd {l : List E} (h : Few l) : Wd l := ⟨by have := h.n; omega, fun e he => ⟨Nat.le_trans (h.all e he).k (by unfold maxLen; omega), Nat.le_trans (h.all e he).t (by unfold maxLen; omega), fun z hz => Nat.le_trans ((h.all e he).z z hz) (by unfold maxLen; omega)⟩⟩
theorem flat_le : ∀ (l : List E) (i : Nat), (∀ e ∈ l, e.zones.length ≤ 40) → (flat l i).length ≤ l.length * 40
  | [], i, _ => by simp [flat]
  | e :: r, i, h => by
    unfold flat
    rw [List.length_append, List.length_map, List.length_cons]
    have h1 := h e List.mem_cons_self
    have h2 := flat_le r (i + 1) (fun x hx => h x (List.mem_cons_of_mem _ hx))
    omega
theorem Few.flat {l : List E} (h : Few l) : (Ca.flat l 0).length ≤ 100000 := by
  have h1 := flat_le l 0 (fun e he => (h.all e he).n)
  have h2 := h.n
  omega
/-- How wide a chart among the arguments is. -/
structure Wide (l : List E) : Prop where
  all : ∀ e ∈ l, e.key.size ≤ maxLen ∧ e.terr.size ≤ maxLen ∧ ∀ z ∈ e.zones, z.size ≤ maxLen
def SmRet (l : List E) (w : World) (e : Ending) (w' : World) : Prop := (e = .returned (.int .i64 0) ∨ (e = .returned (.int .i64 1) ∧ Few l)) ∧ Below w.heap.size w w'
end Ca
set_option maxHeartbeats 4000000 in
set_option maxRecDepth 100000 in
theorem small32_any (l : List Ca.E) (A : Option Addr) (n c : Nat) (evs : List Value) (w : World) (hR : Ca.EntR w w.heap.size l (.slice A n c) evs) (hl : l.length = n) (hW : Ca.Wide l) :
    Calls Tryd.prog 6 #[.slice A n c] w (Ca.SmRet l w) := by
  have HR := Lib.hid hR
  have HL := Lib.hid hl
  have HW := Lib.hid hW
  have hn63 : n ≤ 9223372036854775807 := by
    obtain ⟨A', c', e9, h1, h2, _⟩ := hR.row
    rw [hl] at h1
    unfold maxLen at h2
    omega
  clear hR hl hW
  go_enter Tryd.func6, Tryd.ntmps6
  by_cases hn : n ≤ 40
  · have q0 : ¬ (40 : Int) < (n : Int) := by omega
    go_wp2
    go_loopw [12] (fun i wr => ∃ k : Nat, k ≤ n ∧ i = .int .i64 (k : Int) ∧ Hid (Below w.heap.size w wr) ∧ Hid (∀ e ∈ l.take k, Ca.Fe e)) (fun i _ => n - (intOf i).toNat)
    case atStart => exact ⟨0, Nat.zero_le _, rfl, Below.refl _ _, fun e he => by cases he⟩
    case round =>
      obtain ⟨k, hk, rfl, HB, HF⟩ := hrel
      by_cases hlt : k < n
      · have q1 : (0 : Int) ≤ (k : Int) := by omega
        have q2 : (k : Int) < (n : Int) := by omega
        obtain ⟨ad, x, zA, m, zc, hAe, hab, Hx, c0', c1', c2', HZl, hz1, hz2, HZr, HEv⟩ := HR.out.at_ HL.out hlt
        subst hAe
        have c0 := (HB.out.cell (p := ad.add (k * 3)) (by rw [block_of_add]; exact hab)).trans c0'
        have c1 := (HB.out.cell (p := ⟨(ad.add (k * 3)).block, (ad.add (k * 3)).off + 1, none⟩) (by show (ad.add (k * 3)).block < _; rw [block_of_add]; exact hab)).trans c1'
        have c2 := (HB.out.cell (p := ⟨(ad.add (k * 3)).block, (ad.add (k * 3)).off + 2, none⟩) (by show (ad.add (k * 3)).block < _; rw [block_of_add]; exact hab)).trans c2'
        obtain ⟨h1, h2, h3⟩ := HW.out.all x (List.mem_of_getElem? Hx.out)
        obtain ⟨kx, hkx⟩ : ∃ t, x.key = t := ⟨_, rfl⟩
        obtain ⟨tx, htx⟩ : ∃ t, x.terr = t := ⟨_, rfl⟩
        rw [hkx] at c0 h1
        rw [htx] at c1 h2
        have H3 := Lib.hid h3
        have HBe := Lib.hid (bal HB.out (.cells #[.string kx, .string tx, .slice zA m zc] 45))
        have hm63 : m ≤ 9223372036854775807 := by have := Nat.le_trans hz1 hz2; unfold maxLen at this; omega
        unfold maxLen at h1 h2
        have HK := Lib.hid hkx
        have HT := Lib.hid htx
        clear c0' c1' c2' h3 HEv hkx htx hz1 hz2
        by_cases hk1 : kx.size ≤ 1000
        · have p1 : ¬ (1000 : Int) < (kx.size : Int) := by omega
          by_cases ht1 : tx.size ≤ 1000
          · have p2 : ¬ (1000 : Int) < (tx.size : Int) := by omega
            by_cases hm1 : m ≤ 40
            · have p3 : ¬ (40 : Int) < (m : Int) := by omega
              go_wp2
              go_loopw [35] (fun i wi => ∃ j : Nat, j ≤ m ∧ i = .int .i64 (j : Int) ∧ Hid (Below w.heap.size w wi) ∧ Hid (∀ z ∈ x.zones.take j, z.size ≤ 1000)) (fun i _ => m - (intOf i).toNat)
              case atStart => exact ⟨0, Nat.zero_le _, rfl, HBe.out, fun e he => by cases he⟩
              case round =>
                clear c0 c1 c2 HBe HB
                obtain ⟨j, hj, rfl, HB, HZ⟩ := hrel
                by_cases hlt2 : j < m
                · have q3 : (0 : Int) ≤ (j : Int) := by omega
                  have q4 : (j : Int) < (m : Int) := by omega
                  obtain ⟨ad2, z, rfl, Hz, hcell⟩ : ∃ ad2 nm, zA = some ad2 ∧ Hid (x.zones[j]? = some nm) ∧ wr.cell? (ad2.add j) = some (.string nm) := reads_str (HZr.out.below HB.out) hlt2
                  have hzs := H3.out z (List.mem_of_getElem? Hz.out)
                  unfold maxLen at hzs
                  have HN := Lib.hid (Ca.take_next Hz.out)
                  by_cases hz1 : z.size ≤ 1000
                  · have p4 : ¬ (1000 : Int) < (z.size : Int) := by omega
                    have HZn : Hid (∀ y ∈ x.zones.take (j + 1), y.size ≤ 1000) := by
                      intro y hy
                      rw [HN.out] at hy
                      rcases List.mem_append.1 hy with hy | hy
                      · exact HZ.out y hy
                      · rw [List.mem_singleton.1 hy]; exact hz1
                    go_wp2
                    go_roundw
                    case rel => exact ⟨j + 1, by omega, by go_num, HB.out, HZn.out⟩
                    case measure => simp [intOf]; omega
                  · have p4 : (1000 : Int) < (z.size : Int) := by omega
                    go_wp2
                    go_ret
                    exact ⟨.inl rfl, HB.out⟩
                · have hje : j = m := by omega
                  subst hje
                  have p5 : ¬ (j : Int) < (j : Int) := by omega
                  have HFn : Hid (∀ e ∈ l.take (k + 1), Ca.Fe e) := by
                    intro e he
                    rw [Ca.take_next Hx.out] at he
                    rcases List.mem_append.1 he with he | he
                    · exact HF.out e he
                    · rw [List.mem_singleton.1 he]
                      have h := HZ.out
                      rw [List.take_of_length_le (by rw [HZl.out]; exact Nat.le_refl _)] at h
                      exact ⟨by rw [HK.out]; exact hk1, by rw [HT.out]; exact ht1, by rw [HZl.out]; exact hm1, h⟩
                  go_wp2
                  go_roundw
                  case rel => exact ⟨k + 1, by omega, by go_num, HB.out, HFn.out⟩
                  case measure => simp [intOf]; omega
            · have p3 : (40 : Int) < (m : Int) := by omega
              go_wp2
              go_ret
              exact ⟨.inl rfl, HBe.out⟩
          · have p2 : (1000 : Int) < (tx.size : Int) := by omega
            go_wp2
            go_ret
            exact ⟨.inl rfl, HBe.out⟩
        · have p1 : (1000 : Int) < (kx.size : Int) := by omega
          go_wp2
          go_ret
          exact ⟨.inl rfl, HBe.out⟩
      · have p2 : ¬ (k : Int) < (n : Int) := by omega
        have HE : Hid (Ca.Few l) := by
          have h := HF.out
          rw [List.take_of_length_le (by rw [HL.out]; omega)] at h
          exact ⟨by rw [HL.out]; exact hn, h⟩
        go_wp2
        go_ret
        exact ⟨.inr ⟨rfl, HE.out⟩, HB.out⟩
  · have q0 : (40 : Int) < (n : Int) := by omega
    go_wp2
    go_ret
    exact ⟨.inl rfl, Below.refl _ _⟩
end Go.Proofs.YtajcgoinhpengaaDoor
