/- markup: an element is opened: (*walk).begin. -/
import Derived.Test.YthmhadgbhakdlaaDoorP11
import Derived.Test.YthmhadgbhakdlaaDoorP12

namespace Go.Proofs.YthmhadgbhakdlaaDoor
open Go.RowKit

namespace Mk
theorem add_off (g j : Nat) : (⟨g, 0, none⟩ : Addr).add j = ⟨g, j, none⟩ := by
  unfold Addr.add
  split
  · subst_vars; rfl
  · simp
theorem bg_turn {t : Tag} {p : Nat} {st : S} (h : st.rooted = true) (h2 : st.opened = []) : begin_ t p st = .inl 12 := by unfold begin_; rw [if_pos ⟨h, h2⟩]
theorem bg_long {t : Tag} {p : Nat} {st : S} (h : ¬ (st.rooted = true ∧ st.opened = [])) (h2 : 32 < t.attrs.length ∨ 32 ≤ st.opened.length) : begin_ t p st = .inl 6 := by unfold begin_; rw [if_neg h, if_pos h2]
theorem bg_twice {t : Tag} {p : Nat} {st : S} (h : ¬ (st.rooted = true ∧ st.opened = [])) (h2 : ¬ (32 < t.attrs.length ∨ 32 ≤ st.opened.length)) (h3 : twice [] t.attrs = true) : begin_ t p st = .inl 8 := by unfold begin_; rw [if_neg h, if_neg h2, if_pos h3]
theorem bg_bad {t : Tag} {p e : Nat} {st : S} (h : ¬ (st.rooted = true ∧ st.opened = [])) (h2 : ¬ (32 < t.attrs.length ∨ 32 ≤ st.opened.length)) (h3 : twice [] t.attrs = false) (h4 : resAll t.attrs = .inl e) : begin_ t p st = .inl e := by
  unfold begin_
  rw [if_neg h, if_neg h2, if_neg (by rw [h3]; decide), h4]
theorem bg_ok {t : Tag} {p : Nat} {st : S} {l : List (Txt × Txt)} (h : ¬ (st.rooted = true ∧ st.opened = [])) (h2 : ¬ (32 < t.attrs.length ∨ 32 ≤ st.opened.length)) (h3 : twice [] t.attrs = false) (h4 : resAll t.attrs = .inr l) :
    begin_ t p st = .inr ⟨st.toks ++ [⟨1, t.name, l, [], p⟩], st.opened ++ [t.name], true⟩ := by
  unfold begin_
  rw [if_neg h, if_neg h2, if_neg (by rw [h3]; decide), h4]
/-- The names that were there. -/
def seenF (l : List Txt) : Mp.Fn := fun x => if tl x ∈ l then some (.int .i64 1) else none
theorem seen_in {l : List Txt} {x : ByteArray} (h : tl x ∈ l) : (seenF l x).getD (.int .i64 0) = .int .i64 1 := by unfold seenF; rw [if_pos h]; rfl
theorem seen_out {l : List Txt} {x : ByteArray} (h : tl x ∉ l) : (seenF l x).getD (.int .i64 0) = .int .i64 0 := by unfold seenF; rw [if_neg h]; rfl
theorem seen_put {l : List Txt} {x : ByteArray} (_h : tl x ∉ l) : Mp.put (seenF l) x (.int .i64 1) = seenF (l ++ [tl x]) := by
  funext y
  unfold Mp.put seenF
  by_cases e : y = x
  · rw [if_pos e, if_pos (by rw [e]; exact List.mem_append_right _ List.mem_cons_self)]
  · rw [if_neg e]
    have hne : tl y ≠ tl x := fun h => e (ByteArray.ext (Array.toList_inj.1 h))
    by_cases h1 : tl y ∈ l
    · rw [if_pos h1, if_pos (List.mem_append_left _ h1)]
    · rw [if_neg h1, if_neg (by rw [List.mem_append, List.mem_singleton]; rintro (h | h); exact h1 h; exact hne h)]
theorem twice_yes {seen : List Txt} {a : Txt × Txt} {r : List (Txt × Txt)} (h : a.1 ∈ seen) : twice seen (a :: r) = true := by unfold twice; simp [h]
theorem twice_no {seen : List Txt} {a : Txt × Txt} {r : List (Txt × Txt)} (h : a.1 ∉ seen) : twice seen (a :: r) = twice (seen ++ [a.1]) r := by rw [twice]; simp [h]
def resMore (done : List (Txt × Txt)) : Nat ⊕ List (Txt × Txt) → Nat ⊕ List (Txt × Txt)
  | .inl e => .inl e
  | .inr l => .inr (done ++ l)
theorem res_bad_ {done : List (Txt × Txt)} {a : Txt × Txt} {r : List (Txt × Txt)} (h : (resolve a.2).2.2 ≠ 0) : resMore done (resAll (a :: r)) = .inl (resolve a.2).2.2 := by rw [resAll, if_pos h]; rfl
theorem res_on {done : List (Txt × Txt)} {a : Txt × Txt} {r : List (Txt × Txt)} (h : (resolve a.2).2.2 = 0) : resMore done (resAll (a :: r)) = resMore (done ++ [(a.1, (resolve a.2).1)]) (resAll r) := by
  rw [resAll, if_neg (fun x => x h)]
  cases resAll r with
  | inl e => rfl
  | inr l => simp [resMore]
theorem more_nil (o : Nat ⊕ List (Txt × Txt)) : resMore [] o = o := by cases o <;> rfl
theorem atCells_len (l : List (Txt × Txt)) : (atCells l).length = l.length * 2 := by
  induction l with
  | nil => rfl
  | cons a l ih => rw [show atCells (a :: l) = [.string (bts a.1), .string (bts a.2)] ++ atCells l from rfl, List.length_append, ih, List.length_cons]; simp; omega
theorem atCells_ap (a b : List (Txt × Txt)) : atCells (a ++ b) = atCells a ++ atCells b := by unfold atCells; rw [List.flatMap_append]
theorem atCells_set (done : List (Txt × Txt)) (a : Txt × Txt) (r : List (Txt × Txt)) (T : Txt) (k : Nat) (hk : done.length = k) : (atCells (done ++ a :: r)).set (k * 2 + 1) (.string (bts T)) = atCells ((done ++ [(a.1, T)]) ++ r) := by
  subst hk
  rw [atCells_ap, atCells_ap, atCells_ap, ← atCells_len, List.set_append_right _ _ (by omega), Nat.add_sub_cancel_left, List.append_assoc]
  rfl
theorem atCells_at {l : List (Txt × Txt)} {k : Nat} {a : Txt × Txt} (h : l[k]? = some a) : (atCells l)[k * 2]? = some (.string (bts a.1)) ∧ (atCells l)[k * 2 + 1]? = some (.string (bts a.2)) := by
  obtain ⟨hl, he⟩ := List.getElem?_eq_some_iff.1 h
  have hs : l = l.take k ++ a :: l.drop (k + 1) := by rw [← he]; simp
  have hk : (atCells (l.take k)).length = k * 2 := by rw [atCells_len, List.length_take_of_le (by omega)]
  rw [hs, atCells_ap]
  constructor
  · rw [List.getElem?_append_right (by omega), hk, Nat.sub_self]; rfl
  · rw [List.getElem?_append_right (by omega), hk, Nat.add_sub_cancel_left]; rfl
/-- The cells of an attribute, where a row of them lies. -/
theorem row_at {w : World} {B n c : Nat} {A : Option Addr} {l : List (Txt × Txt)} {k : Nat} {a : Txt × Txt} (h : w.ownsRow B 75 2 (.slice A n c) n (atCells l)) (hk : k < n) (ha : l[k]? = some a) :
    ∃ b, A = some ⟨b, 0, none⟩ ∧ B ≤ b ∧ b < w.heap.size ∧ (∀ pg : Addr, ⟨b, 0, none⟩ = pg → (w.cell? (pg.add (k * 2)) = some (.string (bts a.1)) ∧ w.cell? ⟨(pg.add (k * 2)).block, (pg.add (k * 2)).off + 1, none⟩ = some (.string (bts a.2)) ∧
      w.frozen? ⟨(pg.add (k * 2)).block, (pg.add (k * 2)).off + 1, none⟩ = false)) := by
  obtain ⟨b, cap, e, hb, hlt⟩ := h.form (by omega)
  injection e with e _ e2
  subst e e2
  obtain ⟨h1, h2⟩ := atCells_at ha
  refine ⟨b, rfl, hb, hlt, ?_⟩
  rintro pg rfl
  rw [add_off]
  exact ⟨(h.cellAt _ (by omega)).trans h1, (h.cellAt _ (by show k * 2 + 1 < n * 2; omega)).trans h2, h.frozenAt _⟩
theorem one_new (W : World) (a : Value) : ∀ j u, [a][j]? = some u → ((W.alloc (.cells #[a] 9)).drewN 1).cell? ((⟨W.heap.size, 0, none⟩ : Addr).add j) = some u :=
  World.news_of_block (cs := #[a]) (fr := (0, 0)) (heap_alloc_new W _)
theorem int_zero (W : World) : (zeroValue 3).run Tryd.prog W = .ok (.int .i64 0) W := by kernel_rfl
theorem look_cnt (w : World) {ops : Array Oper} {rest : List Oper} {o : Oper} {a : Act} {Q : Exit → Act → World → Prop} (hg : o.guard = none) (m x : Operand) (b n : Nat) (f : Mp.Fn) (s : ByteArray) (hs : s.size ≤ maxLen) (hop : o.op = Op.lookup 89 m x false)
    (hm : a.eval m = .map (some b)) (hx : a.eval x = .string s) (h : MapF Tryd.prog 9 w b n f) (u : Value) (hu : (f s).getD (.int .i64 0) = u)
    (hK : wpList Tryd.prog ops Q rest (a.put o.dst u) w) : wpList Tryd.prog ops Q (o :: rest) a w := by
  subst hu
  exact wpList_look w hg m x 89 9 3 hop Tryd.underlying9 Tryd.underlying89 int_zero b n f s hs hm hx h hK
theorem store_cnt (w : World) {ops : Array Oper} {rest : List Oper} {o : Oper} {a : Act} {Q : Exit → Act → World → Prop} (hg : o.guard = none) (m x v : Operand) (b n : Nat) (f : Mp.Fn) (s : ByteArray) (hs : s.size ≤ maxLen) (hn : n < maxLen) (e : Int) (hop : o.op = Op.mapUpdate 89 m x v)
    (hm : a.eval m = .map (some b)) (hx : a.eval x = .string s) (hv : a.eval v = .int .i64 e) (h : MapF Tryd.prog 9 w b n f)
    (hK : ∀ w', MapF Tryd.prog 9 w' b (n + 1) (Mp.put f s (.int .i64 e)) → w.grownBy w' (some b) → wpList Tryd.prog ops Q rest (a.put o.dst undef) w') : wpList Tryd.prog ops Q (o :: rest) a w :=
  wpList_store w hg m x v 89 9 3 hop Tryd.underlying9 Tryd.underlying89 b n f s hs hn _ hm hx hv h hK
/-- The row of a tag's attributes. -/
def axRow (v : Value) (n : Nat) (l : List (Txt × Txt)) : Row := ⟨75, 2, v, n, atCells l⟩
theorem Wk.ax {w : World} {g n : Nat} {s : ByteArray} {st : S} {tv ov v : Value} {avs : List Value} {l : List (Txt × Txt)} (h : Wk w g s st tv ov avs [axRow v n l]) : w.ownsRow (g + 1) 75 2 v n (atCells l) :=
  h.many.own _ (List.mem_cons_of_mem _ (List.mem_cons_of_mem _ List.mem_cons_self))
theorem below_grown {w a b : World} {j : Nat} (h : Below w.heap.size w a) (hg : a.grownBy b (some j)) (hj : w.heap.size ≤ j) : Below w.heap.size w b := h.grown hg h.size (fun k e => by cases e; exact hj)
end Mk
set_option maxHeartbeats 4000000 in
set_option maxRecDepth 100000 in
theorem begin_any (w : World) (g : Nat) (s : ByteArray) (st : Mk.S) (tv ov av : Value) (avs : List Value) (t : Mk.Tag) (cl : Bool) (p : Nat) (H : Mk.Wk w g s st tv ov avs [Mk.axRow av t.attrs.length t.attrs]) (hm : Mk.Sm st) (hsz : ∀ a ∈ t.attrs, a.1.length ≤ 100000000 ∧ a.2.length ≤ 100000000) :
    Calls Tryd.prog 55 #[.pointer (some ⟨g, 0, none⟩), .agg #[.string (Mk.bts t.name), av, .bool true, .bool cl], .int .i64 (p : Int)] w (Mk.WRet w g s tv ov (fun k => av.ownBlock = some k) (Mk.begin_ t p st)) := by
  obtain ⟨R, hR⟩ : ∃ R, Mk.begin_ t p st = R := ⟨_, rfl⟩
  have HR := Lib.hid hR
  rw [hR]
  clear hR
  have HTk := H.tk
  have HOp := H.op
  have HAx := H.ax
  obtain ⟨tA, tc, rfl, _⟩ := own_slice HTk
  obtain ⟨oA, oc, rfl, _⟩ := own_slice HOp
  obtain ⟨A, c, rfl, _⟩ := own_slice HAx
  obtain ⟨no, hno⟩ : ∃ n, st.opened.length = n := ⟨_, rfl⟩
  obtain ⟨L, hL⟩ : ∃ L, st.toks.length = L := ⟨_, rfl⟩
  obtain ⟨n, hn⟩ : ∃ n, t.attrs.length = n := ⟨_, rfl⟩
  have hno32 := hm.op
  have hL8 := hm.toks
  have ho0 : st.opened = [] ↔ no = 0 := by rw [← hno, List.length_eq_zero_iff]
  have hg : g < w.heap.size := H.at_.lt
  rw [hno] at HOp hno32 H ⊢
  rw [hL] at HTk hL8 H ⊢
  rw [hn] at HAx H ⊢
  have HN := Lib.hid hn
  have HNO := Lib.hid hno
  have HLL := Lib.hid hL
  obtain ⟨nb, hnb⟩ : ∃ x, Mk.bts t.name = x := ⟨_, rfl⟩
  have HNB := Lib.hid hnb
  rw [hnb]
  obtain ⟨ats, hats⟩ : ∃ l, t.attrs = l := ⟨_, rfl⟩
  have HAT := Lib.hid hats
  rw [hats] at H HAx hsz
  have hnl : ats.length = n := by rw [← hats]; exact hn
  obtain ⟨ro, hro⟩ : ∃ b, st.rooted = b := ⟨_, rfl⟩
  have hb2 : w.cell? ⟨g, 2, none⟩ = some (.slice oA no oc) := H.at_.cell 2 _ rfl
  have hb3 : w.cell? ⟨g, 3, none⟩ = some (.bool ro) := by rw [← hro]; exact H.at_.cell 3 _ rfl
  have HSz := Lib.hid hsz
  have HH := Lib.hid H
  have HAxw := Lib.hid HAx
  have HOw : Hid (∀ k, (Value.slice oA no oc).ownBlock = some k → k < w.heap.size) := fun k hk => (HOp.lt k hk).2
  have HTw : Hid (∀ k, (Value.slice tA L tc).ownBlock = some k → k < w.heap.size) := fun k hk => (HTk.lt k hk).2
  have HKb : Hid (∀ S, Mk.Kp S w (w.alloc (.cells #[.string nb, .slice A n c, .bool true, .bool cl] 100))) := fun S => Mk.kp_box _ _
  have HTg := Lib.hid (At.new w #[.string nb, .slice A n c, .bool true, .bool cl] 100)
  clear H hn hno hL hnb hats hm hsz HAx HTk HOp
  by_cases h1 : ro = true ∧ no = 0
  · have HE : Hid (R = .inl 12) := by show _ = _; rw [← HR.out]; exact Mk.bg_turn (hro.trans h1.1) (ho0.2 h1.2)
    obtain ⟨r1, r2⟩ := h1
    subst r1 r2
    clear HR ho0 hro
    go_enter Tryd.func55, Tryd.ntmps55
    go_wp2
    refine bodyPost_ret (v := .int .i64 12) (by simp [results, Tryd.results55, go_sem, *]) rfl ⟨HKb.out _, by rw [HE.out]; rfl⟩
  have h1' : ¬ (st.rooted = true ∧ st.opened = []) := fun h => h1 ⟨hro.symm.trans h.1, ho0.1 h.2⟩
  have hway : ro = false ∨ (ro = true ∧ ((no : Int) == 0) = false) := by
    cases ro with
    | false => exact .inl rfl
    | true => exact .inr ⟨rfl, by rw [beq_eq_false_iff_ne]; intro e; exact h1 ⟨rfl, by omega⟩⟩
  clear h1 hro ho0
  by_cases h2 : 32 < n ∨ 32 ≤ no
  · have HE : Hid (R = .inl 6) := by show _ = _; rw [← HR.out]; exact Mk.bg_long h1' (by rw [HN.out, HNO.out]; exact h2)
    clear h1' HR
    by_cases h3 : 32 < n
    · have q1 : (32 : Int) < (n : Int) := by omega
      rcases hway with rfl | ⟨rfl, e0⟩
      all_goals
        go_enter Tryd.func55, Tryd.ntmps55
        go_wp2
        refine bodyPost_ret (v := .int .i64 6) (by simp [results, Tryd.results55, go_sem, *]) rfl ⟨HKb.out _, by rw [HE.out]; rfl⟩
    · have q1 : ¬ (32 : Int) < (n : Int) := by omega
      have q2 : (32 : Int) ≤ (no : Int) := by omega
      rcases hway with rfl | ⟨rfl, e0⟩
      all_goals
        go_enter Tryd.func55, Tryd.ntmps55
        go_wp2
        refine bodyPost_ret (v := .int .i64 6) (by simp [results, Tryd.results55, go_sem, *]) rfl ⟨HKb.out _, by rw [HE.out]; rfl⟩
  have q1 : ¬ (32 : Int) < (n : Int) := by omega
  have q2 : ¬ (32 : Int) ≤ (no : Int) := by omega
  have HRn : Hid ((Mk.twice [] ats = true → R = .inl 8) ∧ (Mk.twice [] ats = false → (∀ e, Mk.resAll ats = .inl e → R = .inl e) ∧ ∀ l, Mk.resAll ats = .inr l → R = .inr ⟨st.toks ++ [⟨1, t.name, l, [], p⟩], st.opened ++ [t.name], true⟩)) := by
    rw [← HAT.out]
    have h2' : ¬ (32 < t.attrs.length ∨ 32 ≤ st.opened.length) := by rw [HN.out, HNO.out]; exact h2
    exact ⟨fun h => HR.out.symm.trans (Mk.bg_twice h1' h2' h), fun h => ⟨fun e he => HR.out.symm.trans (Mk.bg_bad h1' h2' h he), fun l hl => HR.out.symm.trans (Mk.bg_ok h1' h2' h hl)⟩⟩
  have n32 : n ≤ 32 := by omega
  have no32 : no < 32 := by omega
  clear h1' HR h2
  obtain ⟨D, hD⟩ : ∃ D, Mk.twice [] ats = D := ⟨_, rfl⟩
  have HD0 := Lib.hid hD
  rw [hD] at HRn
  clear hD
  have hmk := @run_makeMap Tryd.prog
  have HMp := Lib.hid (MapF.made (P := Tryd.prog) (k := 9) (w.alloc (.cells #[.string nb, .slice A n c, .bool true, .bool cl] 100)))
  rw [World.size_alloc] at HMp
  have HB0 : Hid (Below w.heap.size w ((w.alloc (.cells #[.string nb, .slice A n c, .bool true, .bool cl] 100)).alloc (.map #[] 0))) := (Mk.below_new _ _).alloc (by rw [World.size_alloc]; omega) _
  have HTg0 := Lib.hid (HTg.out.allocO (.map #[] 0))
  go_enter Tryd.func55, Tryd.ntmps55
  go_upto_region 1 with fail
  go_cut [25] (fun t wx => t = .bool false ∧ w.alloc (.cells #[.string nb, .slice A n c, .bool true, .bool cl] 100) = wx)
  case first =>
    rcases hway with rfl | ⟨rfl, e0⟩
    all_goals
      go_wp2
      go_meet
      exact ⟨rfl, rfl⟩
  case rest =>
    obtain ⟨rfl, rfl⟩ := hcut
    clear hway hb3
    go_wp2_with fail
    go_loopw [42] (fun i wr => ∃ k : Nat, k ≤ n ∧ i = .int .i64 (k : Int) ∧ Hid (Mk.twice ((ats.take k).map Prod.fst) (ats.drop k) = D) ∧ Hid (MapF Tryd.prog 9 wr (w.heap.size + 1) k (Mk.seenF ((ats.take k).map Prod.fst))) ∧ Hid (Below w.heap.size w wr) ∧ Hid (At wr w.heap.size [.string nb, .slice A n c, .bool true, .bool cl])) (fun i _ => n - (intOf i).toNat)
    case atStart => exact ⟨0, Nat.zero_le _, rfl, HD0.out, HMp.out, HB0.out, HTg0.out⟩
    case round =>
      obtain ⟨k, hk, rfl, HD, HM, HB, HT⟩ := hrel
      by_cases hlt : k < n
      · obtain ⟨a, ha⟩ : ∃ a, ats[k]? = some a := ⟨_, List.getElem?_eq_getElem (by rw [hnl]; exact hlt)⟩
        obtain ⟨b, rfl, hbg, hbl, hcells⟩ := Mk.row_at HH.out.ax hlt ha
        obtain ⟨pg, hpg⟩ : ∃ p : Addr, (⟨b, 0, none⟩ : Addr) = p := ⟨_, rfl⟩
        obtain ⟨c0', c1', _⟩ := hcells pg hpg
        have hpb : pg.block < w.heap.size := by rw [← hpg]; exact hbl
        have c0 := (HB.out.cell (p := pg.add (k * 2)) (by rw [block_of_add]; exact hpb)).trans c0'
        have c1 := (HB.out.cell (p := ⟨(pg.add (k * 2)).block, (pg.add (k * 2)).off + 1, none⟩) (by show (pg.add (k * 2)).block < _; rw [block_of_add]; exact hpb)).trans c1'
        have hsa := HSz.out a (List.mem_of_getElem? ha)
        have hdr : ats.drop k = a :: ats.drop (k + 1) := by
          obtain ⟨h1, h2⟩ := List.getElem?_eq_some_iff.1 ha
          rw [List.drop_eq_getElem_cons h1, h2]
        have htk : (ats.take (k + 1)).map Prod.fst = (ats.take k).map Prod.fst ++ [a.1] := by rw [List.take_add_one, ha]; simp
        have hD := HD.out
        rw [hdr] at hD
        have HTk2 := Lib.hid htk
        obtain ⟨a1, a2⟩ := a
        obtain ⟨x, hx⟩ : ∃ x, Mk.bts a1 = x := ⟨_, rfl⟩
        obtain ⟨y, hy⟩ : ∃ x, Mk.bts a2 = x := ⟨_, rfl⟩
        have htx : tl x = a1 := by rw [← hx]; rfl
        simp only at c0 c1 hD
        rw [hx] at c0
        rw [hy] at c1
        have hxs : x.size ≤ maxLen := by rw [← hx]; exact Nat.le_trans hsa.1 (by unfold maxLen; omega)
        have q3 : (0 : Int) ≤ (k : Int) := by omega
        have q4 : (k : Int) < (n : Int) := by omega
        have hkm : k < maxLen := by unfold maxLen; omega
        have hT1 := HT.out.cell 1 _ rfl
        rw [hpg] at hT1
        have hwz := HT.out.lt
        have HMa := Lib.hid (HM.out.alloc (.cells #[.string x, .string y] 75))
        have HNw := Lib.hid (At.new wr #[.string x, .string y] 75)
        have HBa := Lib.hid (HB.out.alloc HB.out.size (.cells #[.string x, .string y] 75))
        have HTa := Lib.hid (HT.out.allocO (.cells #[.string x, .string y] 75))
        have hwm := HM.out.lt
        have HPg := Lib.hid hpg
        rw [hpg]
        clear hpg c0' c1' hcells ha hdr htk hsa hx hy
        by_cases hin : a1 ∈ (ats.take k).map Prod.fst
        · have HDt : Hid (R = .inl 8) := HRn.out.1 (by rw [← hD]; exact Mk.twice_yes hin)
          have HL1 := Lib.hid (Mk.seen_in (x := x) (by rw [htx]; exact hin))
          have HU : Hid (∀ w3, (wr.alloc (.cells #[.string x, .string y] 75)).grownBy w3 (some (w.heap.size + 1)) → w3.cell? ⟨wr.heap.size, 0, none⟩ = some (.string x) ∧ Below w.heap.size w w3 ∧ At w3 w.heap.size [.string nb, .slice (some pg) n c, .bool true, .bool cl]) := fun w3 hg3 => by
            refine ⟨(Mk.At.grownO HNw.out hg3 (fun e => by injection e with e; omega)).cell 0 _ rfl, Mk.below_grown HBa.out hg3 (by omega), ?_⟩
            have h := Mk.At.grownO HTa.out hg3 (fun e => by injection e with e; omega)
            rw [HPg.out] at h
            exact h
          clear hD hin htx
          go_wp2_with (first
            | (at_lookup; refine Mk.look_cnt _ rfl _ _ (w.heap.size + 1) _ _ x hxs rfl rfl rfl HMa.out (.int .i64 1) HL1.out ?_)
            | (at_mapUpdate; refine Mk.store_cnt _ rfl _ _ _ (w.heap.size + 1) _ _ x hxs hkm 2 rfl rfl rfl rfl HMa.out ?_; intro w3 hM3 hg3; obtain ⟨u0, u1, u2⟩ := HU.out w3 hg3; have HM3 := Lib.hid hM3; have HB3 := Lib.hid u1; have HT3 := Lib.hid u2; clear hM3 hg3 u1 u2)
            | (at_lookup; refine Mk.look_cnt _ rfl _ _ (w.heap.size + 1) _ _ x hxs rfl rfl rfl HM3.out (.int .i64 2) (by rw [Mp.put_same]; rfl) ?_))
          refine bodyPost_ret (v := .int .i64 8) (by simp [results, Tryd.results55, go_sem, *]) rfl ⟨?_, by rw [HDt.out]; rfl⟩
          exact Mk.Kp.of_below HB3.out
        · have HDn : Hid (Mk.twice ((ats.take (k + 1)).map Prod.fst) (ats.drop (k + 1)) = D) := by show _ = _; rw [HTk2.out, ← hD]; exact (Mk.twice_no hin).symm
          have HL1 := Lib.hid (Mk.seen_out (x := x) (by rw [htx]; exact hin))
          have HPut : Hid (Mp.put (Mk.seenF ((ats.take k).map Prod.fst)) x (.int .i64 1) = Mk.seenF ((ats.take (k + 1)).map Prod.fst)) := by show _ = _; rw [Mk.seen_put (by rw [htx]; exact hin), htx, HTk2.out]
          have HU : Hid (∀ w3, (wr.alloc (.cells #[.string x, .string y] 75)).grownBy w3 (some (w.heap.size + 1)) → w3.cell? ⟨wr.heap.size, 0, none⟩ = some (.string x) ∧ Below w.heap.size w w3 ∧ At w3 w.heap.size [.string nb, .slice (some pg) n c, .bool true, .bool cl]) := fun w3 hg3 => by
            refine ⟨(Mk.At.grownO HNw.out hg3 (fun e => by injection e with e; omega)).cell 0 _ rfl, Mk.below_grown HBa.out hg3 (by omega), ?_⟩
            have h := Mk.At.grownO HTa.out hg3 (fun e => by injection e with e; omega)
            rw [HPg.out] at h
            exact h
          clear hD hin htx
          go_wp2_with (first
            | (at_lookup; refine Mk.look_cnt _ rfl _ _ (w.heap.size + 1) _ _ x hxs rfl rfl rfl HMa.out (.int .i64 0) HL1.out ?_)
            | (at_mapUpdate; refine Mk.store_cnt _ rfl _ _ _ (w.heap.size + 1) _ _ x hxs hkm 1 rfl rfl rfl rfl HMa.out ?_; intro w3 hM3 hg3; obtain ⟨u0, u1, u2⟩ := HU.out w3 hg3; have HM3 := Lib.hid hM3; have HB3 := Lib.hid u1; have HT3 := Lib.hid u2; clear hM3 hg3 u1 u2)
            | (at_lookup; refine Mk.look_cnt _ rfl _ _ (w.heap.size + 1) _ _ x hxs rfl rfl rfl HM3.out (.int .i64 1) (by rw [Mp.put_same]; rfl) ?_))
          go_roundw
          case rel => exact ⟨k + 1, by omega, by go_num, HDn.out, by rw [← HPut.out]; exact HM3.out, HB3.out, HT3.out⟩
          case measure => simp [intOf]; omega
      · have hkn : n = k := by omega
        subst hkn
        have q3 : ¬ (n : Int) < (n : Int) := by omega
        have HRm : Hid ((∀ e, Mk.resAll ats = .inl e → R = .inl e) ∧ ∀ l, Mk.resAll ats = .inr l → R = .inr ⟨st.toks ++ [⟨1, t.name, l, [], p⟩], st.opened ++ [t.name], true⟩) := by
          refine HRn.out.2 ?_
          have h := HD.out
          rw [List.drop_of_length_le (by omega)] at h
          rw [← h]
          rfl
        have HWr := Lib.hid (HH.out.call HB.out)
        have HKr : Hid (Mk.Kp (fun k => Mk.Sg g (.slice tA L tc) (.slice oA no oc) k ∨ (Value.slice A n c).ownBlock = some k) w wr) := Mk.Kp.of_below HB.out
        have hT1 := HT.out.cell 1 _ rfl
        have hwz := HT.out.lt
        clear HRn HD0 HD HM hmk HMp HB0 HTg0 HKb HTg HB HH
        go_wp2_with fail
        go_loopw [60] (fun i wq => ∃ (j : Nat) (done : List (Mk.Txt × Mk.Txt)), j ≤ n ∧ i = .int .i64 (j : Int) ∧ done.length = j ∧ Hid (Mk.resMore done (Mk.resAll (ats.drop j)) = Mk.resAll ats) ∧ Hid (Mk.Wk wq g s st (.slice tA L tc) (.slice oA no oc) avs [Mk.axRow (.slice A n c) n (done ++ ats.drop j)]) ∧ Hid (Mk.Kp (fun k => Mk.Sg g (.slice tA L tc) (.slice oA no oc) k ∨ (Value.slice A n c).ownBlock = some k) w wq) ∧ Hid (At wq w.heap.size [.string nb, .slice A n c, .bool true, .bool cl])) (fun i _ => n - (intOf i).toNat)
        case atStart => exact ⟨0, [], Nat.zero_le _, rfl, rfl, Mk.more_nil _, HWr.out, HKr.out, HT.out⟩
        case round =>
          clear HWr HKr HT hT1 hwz
          obtain ⟨j, done, hj, rfl, hdl, HX, HW, HK, HT⟩ := hrel
          have hT1 := HT.out.cell 1 _ rfl
          have hwz := HT.out.lt
          by_cases hlt : j < n
          · obtain ⟨a, ha⟩ : ∃ a, ats[j]? = some a := ⟨_, List.getElem?_eq_getElem (by rw [hnl]; exact hlt)⟩
            have hdr : ats.drop j = a :: ats.drop (j + 1) := by
              obtain ⟨h1, h2⟩ := List.getElem?_eq_some_iff.1 ha
              rw [List.drop_eq_getElem_cons h1, h2]
            have hsa := HSz.out a (List.mem_of_getElem? ha)
            have hW := HW.out
            have hX := HX.out
            rw [hdr] at hW hX
            clear HW HX
            obtain ⟨b, rfl, hbg, hbl, hcells⟩ := Mk.row_at hW.ax hlt (show (done ++ a :: ats.drop (j + 1))[j]? = some a by rw [List.getElem?_append_right (by omega), hdl, Nat.sub_self]; rfl)
            obtain ⟨pg, hpg⟩ : ∃ p : Addr, (⟨b, 0, none⟩ : Addr) = p := ⟨_, rfl⟩
            obtain ⟨_, c1, _⟩ := hcells pg hpg
            have hpb : pg.block < wr.heap.size := by rw [← hpg]; exact hbl
            have hpb2 : (pg.add (j * 2)).block < wr.heap.size := by rw [block_of_add]; exact hpb
            have HRv := Lib.hid (fun W => resolve_any (Mk.bts a.2) hsa.2 W)
            rw [Mk.tl_bts] at HRv
            have HXb : Hid ((Mk.resolve a.2).2.2 ≠ 0 → R = .inl (Mk.resolve a.2).2.2) := fun h => HRm.out.1 _ (hX.symm.trans (Mk.res_bad_ h))
            have HXo : Hid ((Mk.resolve a.2).2.2 = 0 → Mk.resMore (done ++ [(a.1, (Mk.resolve a.2).1)]) (Mk.resAll (ats.drop (j + 1))) = Mk.resAll ats) := fun h => (Mk.res_on h).symm.trans hX
            have HST := Lib.hid (fun T : Mk.Txt => Mk.atCells_set done a (ats.drop (j + 1)) T j hdl)
            obtain ⟨a1, a2⟩ := a
            obtain ⟨y, hy⟩ : ∃ x, Mk.bts a2 = x := ⟨_, rfl⟩
            simp only at c1 HRv HXb HXo HST
            rw [hy] at c1 HRv
            obtain ⟨⟨T, i1, e1⟩, hT⟩ : ∃ x, Mk.resolve a2 = x := ⟨_, rfl⟩
            rw [hT] at HRv HXb HXo
            simp only at HRv HXb HXo
            obtain ⟨TB, hTB⟩ : ∃ x, Mk.bts T = x := ⟨_, rfl⟩
            have HTB := Lib.hid hTB
            rw [hTB] at HRv
            have q4 : (0 : Int) ≤ (j : Int) := by omega
            have q5 : (j : Int) < (n : Int) := by omega
            have HW := Lib.hid hW
            have HDl := Lib.hid hdl
            have HPg := Lib.hid hpg
            have hwb : b ≠ w.heap.size := by
              have := (HAxw.out.lt b rfl).2
              omega
            rw [hpg] at hT1 ⊢
            clear hpg hcells ha hdr hsa hy hT hTB hdl hX hW
            by_cases he : e1 = 0
            · subst he
              have HXn := Lib.hid (HXo.out rfl)
              clear HXo HXb
              go_wp2_with fail
              refine (HRv.out _).mono ?_
              rintro e w2 ⟨rfl, hb⟩
              have HW2 := Lib.hid (HW.out.call hb)
              have HK2 := Lib.hid (HK.out.then_ hb)
              have HT2 := Lib.hid (HT.out.call hb)
              have zT := HT2.out.lt
              have g2 := (hb.cell (p := ⟨(pg.add (j * 2)).block, (pg.add (j * 2)).off + 1, none⟩) hpb2).trans c1
              clear hb
              have f2 : w2.frozen? ⟨(pg.add (j * 2)).block, (pg.add (j * 2)).off + 1, none⟩ = false := by rw [← HPg.out, Mk.add_off]; exact HW2.out.ax.frozenAt _
              have hT2 := HT2.out.cell 1 _ rfl
              rw [HPg.out] at hT2
              have HStep : Hid (Mk.Wk (w2.setCell ⟨(pg.add (j * 2)).block, (pg.add (j * 2)).off + 1, none⟩ (.string TB)) g s st (.slice tA L tc) (.slice oA no oc) avs [Mk.axRow (.slice (some pg) n c) n ((done ++ [(a1, T)]) ++ ats.drop (j + 1))] ∧ Mk.Kp (fun k => Mk.Sg g (.slice tA L tc) (.slice oA no oc) k ∨ (Value.slice (some pg) n c).ownBlock = some k) w (w2.setCell ⟨(pg.add (j * 2)).block, (pg.add (j * 2)).off + 1, none⟩ (.string TB)) ∧ At (w2.setCell ⟨(pg.add (j * 2)).block, (pg.add (j * 2)).off + 1, none⟩ (.string TB)) w.heap.size [.string nb, .slice (some pg) n c, .bool true, .bool cl]) := by
                have hs := HW2.out.store (j * 2 + 1) (.string TB)
                rw [← HTB.out, HST.out T, HTB.out] at hs
                rw [← HPg.out, Mk.add_off]
                exact ⟨hs, HK2.out.set (p := ⟨b, j * 2 + 1, none⟩) (fun _ => .inr rfl) _, HT2.out.set_other _ _ hwb⟩
              go_wp2
              go_roundw
              case rel => exact ⟨j + 1, done ++ [(a1, T)], by omega, by go_num, by rw [List.length_append, HDl.out]; rfl, HXn.out, HStep.out.1, HStep.out.2.1, HStep.out.2.2⟩
              case measure => simp [intOf]; omega
            · have q6 : ((e1 : Int) == 0) = false := by rw [beq_eq_false_iff_ne]; omega
              have HE := Lib.hid (HXb.out he)
              go_wp2_with fail
              refine (HRv.out _).mono ?_
              rintro e w2 ⟨rfl, hb⟩
              have HK2 := Lib.hid (HK.out.then_ hb)
              clear hb
              go_wp2
              refine bodyPost_ret (v := .int .i64 (e1 : Int)) (by simp [results, Tryd.results55, go_sem, *]) rfl ⟨HK2.out, by rw [HE.out]⟩
          · obtain rfl : n = j := by omega
            have q5 : ¬ (n : Int) < (n : Int) := by omega
            have hX := HX.out
            have hW := HW.out
            rw [List.drop_of_length_le (by omega)] at hX hW
            rw [List.append_nil] at hW
            have HE : Hid (R = .inr ⟨st.toks ++ [⟨1, t.name, done, [], p⟩], st.opened ++ [t.name], true⟩) := HRm.out.2 _ (hX.symm.trans (by show Sum.inr (done ++ []) = Sum.inr done; rw [List.append_nil]))
            have b3 := hW.at_.cell 3 _ rfl
            have b3f := hW.at_.free 3 _ rfl
            have bz := hW.at_.lt
            have HW1' := hW.root
            have HK1' := HK.out.set (p := ⟨g, 3, none⟩) (fun _ => .inl (.inl rfl)) (.bool true)
            have HT1' := HT.out.set_other ⟨g, 3, none⟩ (.bool true) (Nat.ne_of_lt hg)
            have HDn := Lib.hid hdl
            clear hX HX HW HRm HK HT hW hdl
            go_wp2_with fail
            obtain ⟨W1, hW1⟩ : ∃ W, wr.setCell ⟨g, 3, none⟩ (.bool true) = W := ⟨_, rfl⟩
            rw [hW1] at HW1' HK1' HT1' ⊢
            have HW1 := Lib.hid HW1'
            have HK1 := Lib.hid HK1'
            have HT1 := Lib.hid HT1'
            clear hW1 HW1' HK1' HT1' b3 b3f bz hT1 hwz
            have c2 := HW1.out.at_.cell 2 _ rfl
            have zg := HW1.out.at_.lt
            have d0 := HT1.out.cell 0 _ rfl
            have zt := HT1.out.lt
            obtain ⟨s0, s1, s2, s3, s4⟩ := info_parts Mk.text_info
            have HIs := Lib.hid (And.intro s1 (And.intro s2 (And.intro s3 s4)))
            obtain ⟨i0, i1, i2, i3, i4⟩ := info_parts Mk.tok_info
            have HI := Lib.hid (And.intro i1 (And.intro i2 (And.intro i3 i4)))
            clear i1 i2 i3 i4 s1 s2 s3 s4
            have HW2 := Lib.hid ((HW1.out.alloc (.cells #[.string nb] 9)).drewN 1)
            have HK2 := Lib.hid ((HK1.out.alloc (.cells #[.string nb] 9)).drewN 1)
            have HT2 := Lib.hid ((HT1.out.allocO (.cells #[.string nb] 9)).drew ⟨1, rfl⟩)
            have HO2 : Hid (((W1.alloc (.cells #[.string nb] 9)).drewN 1).ownsRow (g + 1) 9 1 (.slice oA no oc) no (Mk.opCells st.opened)) := by
              have h := HW2.out.op
              rw [HNO.out] at h
              exact h
            have HN2 := Lib.hid (Mk.one_new W1 (.string nb))
            have HEnd : Hid (∀ (g9 cp9 : Nat) (w9 : World), w9.ownsRow (g + 1) 9 1 (.slice (some ⟨g9, 0, none⟩) (no + 1) cp9) (no + 1) (Mk.opCells st.opened ++ [.string nb]) → ((W1.alloc (.cells #[.string nb] 9)).drewN 1).grownBy w9 (Value.slice oA no oc).ownBlock →
                ((Value.slice oA no oc).ownBlock = some g9 ∨ g9 = ((W1.alloc (.cells #[.string nb] 9)).drewN 1).heap.size) →
                Mk.Kp (fun k => Mk.Sg g (.slice tA L tc) (.slice oA no oc) k ∨ (Value.slice A n c).ownBlock = some k) w (w9.setCell ⟨g, 2, none⟩ (.slice (some ⟨g9, 0, none⟩) (no + 1) cp9)) ∧ Mk.Wk (w9.setCell ⟨g, 2, none⟩ (.slice (some ⟨g9, 0, none⟩) (no + 1) cp9)) g s ⟨st.toks, st.opened ++ [t.name], true⟩ (.slice tA L tc) (.slice (some ⟨g9, 0, none⟩) (no + 1) cp9) avs [Mk.axRow (.slice A n c) n done] ∧ Mk.Mv w (.slice oA no oc) (.slice (some ⟨g9, 0, none⟩) (no + 1) cp9) ∧
                At (w9.setCell ⟨g, 2, none⟩ (.slice (some ⟨g9, 0, none⟩) (no + 1) cp9)) w.heap.size [.string nb, .slice A n c, .bool true, .bool cl]) := by
              intro g9 cp9 w9 hown hg9 hat9
              rw [← HNB.out] at hown
              obtain ⟨h1, h2, h3⟩ := Mk.pushO_end HK2.out HW2.out HNO.out hown hg9 hat9
              exact ⟨h1, h2, h3, (Mk.At.grownO HT2.out hg9 (fun e => by have := HOw.out _ e; omega)).set_other _ _ (Nat.ne_of_lt hg)⟩
            go_upto_region 22 with fail
            go_cut [] (fun wx => ∃ V3, Mk.Kp (fun k => Mk.Sg g (.slice tA L tc) (.slice oA no oc) k ∨ (Value.slice A n c).ownBlock = some k) w wx ∧ Mk.Wk wx g s ⟨st.toks, st.opened ++ [t.name], true⟩ (.slice tA L tc) V3 avs [Mk.axRow (.slice A n c) n done] ∧ Mk.Mv w (.slice oA no oc) V3 ∧ At wx w.heap.size [.string nb, .slice A n c, .bool true, .bool cl])
            case first =>
              go_region_law (refine step_append_lies _ (by rfl) (.tmp 91) (.tmp 94) 47 (by rfl) (g + 1) 9 s0 _ 1 16 Tryd.underlying47 HIs.out.1 HIs.out.2.1 HIs.out.2.2.1 HIs.out.2.2.2 (by rfl) (by decide) _ no _ (by rfl) HO2.out _ 1 1 _ (by rfl) (by rfl) HN2.out (by simp [Value.oneCell']) (by decide) (by unfold maxLen; omega) (by omega) (by simp; omega) _ rfl ?_; intro g9 cp9 w9 hown9 hg9 hat9 hlt9; have h9 := Mk.At.grownO HW2.out.at_ hg9 (fun e => by have := (HO2.out.lt _ e).1; omega); have c9 : w9.cell? ⟨g, 2, none⟩ = some (.slice oA no oc) := h9.cell 2 _ rfl; have f9 : w9.frozen? ⟨g, 2, none⟩ = false := h9.free 2 _ rfl; have z9 := h9.lt)
              all_goals (have HF := Lib.hid (HEnd.out g9 cp9 w9 hown9 hg9 hat9); clear hown9 hg9 hat9 h9 hlt9)
              all_goals go_wp2
              all_goals go_meet
              all_goals exact ⟨_, HF.out⟩
            case rest =>
              obtain ⟨V3, hk3, hw3, hm3, ht3⟩ := hcut
              have HK3 := Lib.hid hk3
              have HW3 := Lib.hid hw3
              have HM3 := Lib.hid hm3
              have HT3 := Lib.hid ht3
              clear hk3 hw3 hm3 ht3
              have c1 := HW3.out.at_.cell 1 _ rfl
              have zg := HW3.out.at_.lt
              obtain ⟨d0, d1, _⟩ := Mk.four HT3.out
              have zt := HT3.out.lt
              have HW4 := Lib.hid ((HW3.out.alloc (.cells #[.int .u8 1, .string nb, .slice A n c, .string ⟨#[]⟩, .int .i64 (p : Int)] 59)).drewN 1)
              have HK4 := Lib.hid ((HK3.out.alloc (.cells #[.int .u8 1, .string nb, .slice A n c, .string ⟨#[]⟩, .int .i64 (p : Int)] 59)).drewN 1)
              have HO4 : Hid (((wc.alloc (.cells #[.int .u8 1, .string nb, .slice A n c, .string ⟨#[]⟩, .int .i64 (p : Int)] 59)).drewN 1).ownsRow (g + 1) 59 5 (.slice tA L tc) L (Mk.tkCells st.toks avs)) := by
                have h := HW4.out.tk
                rw [HLL.out] at h
                exact h
              have HN4 := Lib.hid (Mk.tok_new wc (.int .u8 1) (.string nb) (.slice A n c) (.string ⟨#[]⟩) (.int .i64 (p : Int)))
              have HEn4 : Hid (∀ (g8 cp8 : Nat) (w8 : World), w8.ownsRow (g + 1) 59 5 (.slice (some ⟨g8, 0, none⟩) (L + 1) cp8) (L + 1) (Mk.tkCells st.toks avs ++ [.int .u8 1, .string nb, .slice A n c, .string ⟨#[]⟩, .int .i64 (p : Int)]) → ((wc.alloc (.cells #[.int .u8 1, .string nb, .slice A n c, .string ⟨#[]⟩, .int .i64 (p : Int)] 59)).drewN 1).grownBy w8 (Value.slice tA L tc).ownBlock →
                  ((Value.slice tA L tc).ownBlock = some g8 ∨ g8 = ((wc.alloc (.cells #[.int .u8 1, .string nb, .slice A n c, .string ⟨#[]⟩, .int .i64 (p : Int)] 59)).drewN 1).heap.size) →
                  Mk.WRet w g s (.slice tA L tc) (.slice oA no oc) (fun k => (Value.slice A n c).ownBlock = some k) R (.returned (.int .i64 0)) (w8.setCell ⟨g, 1, none⟩ (.slice (some ⟨g8, 0, none⟩) (L + 1) cp8))) := by
                intro g8 cp8 w8 hown hg8 hat8
                rw [← HNB.out] at hown
                have hx : Mk.Wk ((wc.alloc (.cells #[.int .u8 1, .string nb, .slice A n c, .string ⟨#[]⟩, .int .i64 (p : Int)] 59)).drewN 1) g s ⟨st.toks, st.opened ++ [t.name], true⟩ (.slice tA L tc) V3 avs (Mk.atRow ⟨1, t.name, done, [], p⟩ (.slice A n c) :: []) := by
                  have h := HW4.out
                  unfold Mk.axRow at h
                  unfold Mk.atRow
                  rw [show (⟨1, t.name, done, [], p⟩ : Mk.T).attrs = done from rfl, HDn.out]
                  exact h
                obtain ⟨h1, h2, h3⟩ := Mk.push_end (t := ⟨1, t.name, done, [], p⟩) HK4.out hx HLL.out hown hg8 hat8
                exact ⟨h1, by rw [HE.out]; exact ⟨rfl, _, _, _, h2, h3, HM3.out⟩⟩
              go_wp2_with fail
              go_region_law (refine step_append_lies _ (by rfl) (.tmp 102) (.tmp 109) 35 (by rfl) (g + 1) 59 i0 _ 5 72 Tryd.underlying35 HI.out.1 HI.out.2.1 HI.out.2.2.1 HI.out.2.2.2 (by rfl) (by decide) _ L _ (by rfl) HO4.out _ 1 1 _ (by rfl) (by rfl) HN4.out (by simp [Value.oneCell']) (by decide) (by unfold maxLen; omega) (by omega) (by simp; omega) _ rfl ?_; intro g8 cp8 w8 hown8 hg8 hat8 hlt8; have h8 := Mk.At.grownO HW4.out.at_ hg8 (fun e => by have := (HO4.out.lt _ e).1; omega); have c8 : w8.cell? ⟨g, 1, none⟩ = some (.slice tA L tc) := h8.cell 1 _ rfl; have f8 : w8.frozen? ⟨g, 1, none⟩ = false := h8.free 1 _ rfl; have z8 := h8.lt)
              all_goals (have HF := Lib.hid (HEn4.out g8 cp8 w8 hown8 hg8 hat8); clear hown8 hg8 hat8 h8 hlt8)
              all_goals go_wp2
              all_goals refine bodyPost_ret (v := .int .i64 0) (by simp [results, Tryd.results55, go_sem, *]) rfl HF.out
end Go.Proofs.YthmhadgbhakdlaaDoor
