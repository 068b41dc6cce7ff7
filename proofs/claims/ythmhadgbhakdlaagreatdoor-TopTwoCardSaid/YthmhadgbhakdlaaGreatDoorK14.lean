/- intake.Parse of a text that was put together of parts. -/
import Derived.Test.YthmhadgbhakdlaaGreatDoorK13
import Derived.Test.YthmhadgbhakdlaaGreatDoorK03
import Derived.Shelf.Strings.BuilderF
import Derived.Shelf.Strings.BuilderK

namespace Go.Proofs.YthmhadgbhakdlaaGreatDoor
open Go.RowKit

namespace Ink
open Em
/-- Parts that can be read in turn. -/
def Gr : List Hv.K → List It → Prop
  | _, [] => True
  | st, it :: l => Gd1 st it ∧ st.length ≤ 4096 ∧ ∀ st', step st it = .inr st' → Gr st' l
/-- What Parse answers. -/
def PRet (X : Int ⊕ List Hv.K) (w : World) (e : Ending) (w' : World) : Prop :=
  Below w.heap.size w w' ∧ match X with
    | .inl c => ∃ x y : Int, e = .returned (.tuple #[.agg #[.slice none 0 0], .agg #[.int .i64 x, .int .i64 y, .int .i64 c]])
    | .inr st => ∃ kv evs, e = .returned (.tuple #[.agg #[kv], .agg #[.int .i64 0, .int .i64 0, .int .i64 0]]) ∧ Hv.HR w' w'.heap.size st kv evs
def LS (l : List It) : List ByteArray := (headL :: lns l).map bts
theorem LS_tl (l : List It) : (LS l).map tl = headL :: lns l := by
  unfold LS
  rw [List.map_map]
  conv => rhs; rw [← List.map_id (headL :: lns l)]
  exact List.map_congr_left fun x _ => tl_bts x
theorem LS_len (l : List It) : (LS l).length = (lns l).length + 1 := by unfold LS; rw [List.length_map, List.length_cons]
def pos (l : List It) (j : Nat) : Nat := (lns (l.take j)).length + 1
theorem lns_cons (i : It) (l : List It) : lns (i :: l) = i.ls ++ lns l := by simp [lns]
theorem lns_split {l : List It} {j : Nat} {i : It} (h : l[j]? = some i) : lns l = lns (l.take j) ++ i.ls ++ lns (l.drop (j + 1)) := by
  have e : l = l.take j ++ i :: l.drop (j + 1) := by
    have h1 := (List.getElem?_eq_some_iff.1 h).1
    have h2 : l[j] = i := (List.getElem?_eq_some_iff.1 h).2
    rw [← h2, ← List.drop_eq_getElem_cons h1, List.take_append_drop]
  conv => lhs; rw [e]
  rw [lns_app, lns_cons, List.append_assoc]
theorem pos_next {l : List It} {j : Nat} {i : It} (h : l[j]? = some i) : pos l (j + 1) = pos l j + i.ls.length := by
  unfold pos
  rw [List.take_add_one, h]
  show (lns (l.take j ++ [i])).length + 1 = _
  rw [lns_app, List.length_append, lns_cons]
  simp [lns]
  omega
theorem pos_le {l : List It} {j : Nat} {i : It} (h : l[j]? = some i) : pos l j + i.ls.length ≤ (lns l).length + 1 := by
  rw [lns_split h]
  unfold pos
  simp only [List.length_append]
  omega
theorem pos_end (l : List It) : pos l l.length = (lns l).length + 1 := by unfold pos; rw [List.take_length]
theorem LS_at {l : List It} {j q : Nat} {i : It} {x : Txt} (h : l[j]? = some i) (hq : i.ls[q]? = some x) : (LS l)[pos l j + q]? = some (bts x) := by
  unfold LS pos
  rw [List.getElem?_map, show (lns (l.take j)).length + 1 + q = (lns (l.take j)).length + q + 1 by omega, List.getElem?_cons_succ, lns_split h, List.append_assoc, List.getElem?_append_right (by omega), Nat.add_sub_cancel_left, List.getElem?_append_left (List.getElem?_eq_some_iff.1 hq).1, hq]
  rfl
theorem ls_pos (i : It) : 0 < i.ls.length := by
  cases i with
  | blank => exact Nat.succ_pos _
  | path p => exact Nat.succ_pos _
  | val v =>
    show 0 < (vlines v).length
    unfold vlines
    split
    · obtain ⟨x, t, e⟩ := bl_cons (parts (tl v.bytes).length (tl v.bytes))
      rw [e]
      exact Nat.succ_pos _
    · exact Nat.succ_pos _
theorem suffix_no {x : Txt} (h : x.getLast? ≠ some 13) : Lib.trimSuffix x [13] = x := by
  unfold Lib.trimSuffix
  have h2 : Lib.hasSuffix x [13] = false := by
    cases e : Lib.hasSuffix x [13] with
    | false => rfl
    | true =>
      exfalso
      obtain ⟨t, rfl⟩ := List.isSuffixOf_iff_suffix.1 e
      apply h
      rw [List.getLast?_append]
      rfl
  rw [h2]
  rfl
theorem head_fl : Fl headL := ⟨by decide, by decide⟩
theorem join_cons2 (z y : Txt) (r : List Txt) : Lib.join (z :: y :: r) [10] = z ++ 10 :: Lib.join (y :: r) [10] := by simp [Lib.join, List.intercalate]
theorem join_mem : ∀ (zs : List Txt) {z : Txt}, z ∈ zs → z.length ≤ (Lib.join zs [10]).length
  | [], _, h => by cases h
  | [x], z, h => by
    obtain rfl := List.mem_singleton.1 h
    have e : Lib.join [z] [10] = z := by simp [Lib.join, List.intercalate]
    rw [e]
    exact Nat.le_refl _
  | x :: y :: r, z, h => by
    rw [join_cons2, List.length_append, List.length_cons]
    rcases List.mem_cons.1 h with rfl | h
    · omega
    · have := join_mem (y :: r) h
      omega
theorem join_num : ∀ (zs : List Txt), zs.length ≤ (Lib.join zs [10]).length + 1
  | [] => Nat.zero_le _
  | [x] => by simp
  | x :: y :: r => by
    have := join_num (y :: r)
    rw [join_cons2, List.length_append, List.length_cons, List.length_cons] at *
    rw [List.length_cons]
    omega
theorem set_same {α : Type} {l : List α} {k : Nat} {v : α} (h : l[k]? = some v) : l.set k v = l := by
  obtain ⟨hk, e⟩ := List.getElem?_eq_some_iff.1 h
  subst e
  exact List.set_getElem_self hk
theorem gr_drop {st : List Hv.K} {l : List It} {j : Nat} {i : It} (h : Gr st (l.drop j)) (hi : l[j]? = some i) : Gd1 st i ∧ st.length ≤ 4096 ∧ ∀ st', step st i = .inr st' → Gr st' (l.drop (j + 1)) := by
  obtain ⟨h1, h2⟩ := List.getElem?_eq_some_iff.1 hi
  rw [List.drop_eq_getElem_cons h1, h2] at h
  exact h
theorem run_drop {st : List Hv.K} {l : List It} {j : Nat} {i : It} (hi : l[j]? = some i) : run st (l.drop j) = match step st i with
    | .inl e => .inl e
    | .inr st' => run st' (l.drop (j + 1)) := by
  obtain ⟨h1, h2⟩ := List.getElem?_eq_some_iff.1 hi
  rw [List.drop_eq_getElem_cons h1, h2]
  rfl
theorem step_bad {st : List Hv.K} {it : It} {c : Int} (h : step st it = .inl c) : c ≠ 0 := by
  unfold step at h
  cases it with
  | blank => cases h
  | path p =>
    simp only at h
    split at h
    · split at h
      · injection h with h; omega
      · split at h
        · injection h with h; omega
        · cases h
    · injection h with h; omega
  | val v =>
    simp only at h
    split at h
    · injection h with h; omega
    · split at h
      · injection h with h; omega
      · split at h
        · injection h with h; omega
        · cases h
theorem add_none (g p q : Nat) : (⟨g, p, none⟩ : Addr).add q = ⟨g, p + q, none⟩ := by
  unfold Addr.add
  split
  · rename_i h; subst h; rfl
  · rfl
theorem Rd.other {w : World} {b pm np : Nat} {Ps : List ByteArray} {nmv kv : Value} {st : List Hv.K} {evs : List Value} (h : Rd w b pm np Ps nmv st kv evs) (p : Addr) (u : Value) (hp : p.block + 1 < b) : Rd (w.setCell p u) b pm np Ps nmv st kv evs :=
  ⟨h.at_.set_other p u (by omega), ownsRow_setCell_below h.keys (by omega) u, h.len, fun q hq => ownsRow_setCell_below (h.vals q hq) (by omega) u, h.apart, h.pair, h.map.setCell (by have := h.pmb; omega) u, h.pmb⟩
theorem boxes {w : World} {a : Nat} {z0 f0 f1 f2 : Value} (hz : At w a [z0]) (hf : At w (a + 1) [f0, f1, f2]) (v x y c : Value) :
    At ((((w.setCell ⟨a, 0, none⟩ v).setCell ⟨a + 1, 0, none⟩ x).setCell ⟨a + 1, 1, none⟩ y).setCell ⟨a + 1, 2, none⟩ c) a [v] ∧ At ((((w.setCell ⟨a, 0, none⟩ v).setCell ⟨a + 1, 0, none⟩ x).setCell ⟨a + 1, 1, none⟩ y).setCell ⟨a + 1, 2, none⟩ c) (a + 1) [x, y, c] :=
  ⟨(((hz.set 0 v).set_other _ _ (by show a + 1 ≠ a; omega)).set_other _ _ (by show a + 1 ≠ a; omega)).set_other _ _ (by show a + 1 ≠ a; omega), (((hf.set_other ⟨a, 0, none⟩ v (by show a ≠ a + 1; omega)).set 0 x).set 1 y).set 2 c⟩
theorem boxes_rd {w : World} {b pm np : Nat} {Ps : List ByteArray} {nmv kv : Value} {st : List Hv.K} {evs : List Value} (h : Rd w b pm np Ps nmv st kv evs) {a : Nat} (ha : a + 2 < b) (v x y c : Value) : Rd ((((w.setCell ⟨a, 0, none⟩ v).setCell ⟨a + 1, 0, none⟩ x).setCell ⟨a + 1, 1, none⟩ y).setCell ⟨a + 1, 2, none⟩ c) b pm np Ps nmv st kv evs :=
  (((h.other ⟨a, 0, none⟩ v (by show a + 1 < b; omega)).other ⟨a + 1, 0, none⟩ x (by show a + 1 + 1 < b; omega)).other ⟨a + 1, 1, none⟩ y (by show a + 1 + 1 < b; omega)).other ⟨a + 1, 2, none⟩ c (by show a + 1 + 1 < b; omega)
theorem boxes_below {w0 w : World} {a : Nat} (h : Below a w0 w) (v x y c : Value) : Below a w0 ((((w.setCell ⟨a, 0, none⟩ v).setCell ⟨a + 1, 0, none⟩ x).setCell ⟨a + 1, 1, none⟩ y).setCell ⟨a + 1, 2, none⟩ c) :=
  (((h.setCell (p := ⟨a, 0, none⟩) (Nat.le_refl _) v).setCell (p := ⟨a + 1, 0, none⟩) (Nat.le_succ _) x).setCell (p := ⟨a + 1, 1, none⟩) (Nat.le_succ _) y).setCell (p := ⟨a + 1, 2, none⟩) (Nat.le_succ _) c
theorem parse_results {tmps : Array Value} {w : World} {a b : Nat} {kv x y c : Value} (h2 : tmps[2]?.getD undef = .pointer (some ⟨a, 0, none⟩)) (h3 : tmps[3]?.getD undef = .pointer (some ⟨b, 0, none⟩)) (hA : At w a [kv]) (hB : At w b [x, y, c]) :
    (results Tryz.f21 tmps).run Tryz.prog w = .ok (.tuple #[.agg #[kv], .agg #[x, y, c]]) w := by
  have c0 := hA.cell 0 _ rfl
  have d0 := hB.cell 0 _ rfl
  have d1 := hB.cell 1 _ rfl
  have d2 := hB.cell 2 _ rfl
  simp [results, Tryz.results21, go_sem, h2, h3, c0, d0, d1, d2]
theorem St.first (W : World) (T : TypeId) : St ((W.alloc (.map #[] 0)).alloc (.cells #[.slice none 0 0, .map (some W.heap.size), .map none] T)) (W.heap.size + 1) W.heap.size [] := by
  refine ⟨0, .map none, .slice none 0 0, [], ⟨?_, World.ownsRow_nil _ _ _ _, rfl, (fun p hp => by cases hp), (fun v hv => by cases hv), List.Pairwise.nil, ?_, by omega, by omega⟩, Nat.le_refl _, fun st0 k e => by simp at e⟩
  · have h := At.new (W.alloc (.map #[] 0)) #[.slice none 0 0, .map (some W.heap.size), .map none] T
    rw [World.size_alloc] at h
    exact h
  · have h : MapF Tryz.prog 9 (W.alloc (.map #[] 0)) W.heap.size 0 (Hv.sf []) := by show MapF _ _ _ _ _ _; exact MapF.made W
    exact h.alloc _
end Ink
set_option maxHeartbeats 16000000 in
set_option maxRecDepth 200000 in
theorem inParse_any (its : List Ink.It) (s : ByteArray) (hs : tl s = Lib.join (Ink.headL :: Ink.lns its) [10]) (hsz : s.size ≤ 1048576) (hok : ∀ i ∈ its, Ink.Ok1 i) (hfl : ∀ x ∈ Ink.lns its, Ink.Fl x) (hg : Ink.Gr [] its) (w : World) (hW : Wl w) :
    Calls Tryz.prog 21 #[.string s] w (Ink.PRet (Ink.run [] its) w) := by
  obtain ⟨X, hX⟩ : ∃ X, Ink.run [] its = X := ⟨_, rfl⟩
  rw [hX]
  have HFl : Hid (∀ x ∈ Ink.headL :: Ink.lns its, Ink.Fl x) := by
    intro x hx
    rcases List.mem_cons.1 hx with rfl | hx
    · exact Ink.head_fl
    · exact hfl x hx
  obtain ⟨L, hL⟩ : ∃ L, Ink.LS its = L := ⟨_, rfl⟩
  have hLt : L.map tl = Ink.headL :: Ink.lns its := by rw [← hL]; exact Ink.LS_tl its
  obtain ⟨N, hN⟩ : ∃ N, L.length = N := ⟨_, rfl⟩
  have hNl : (Ink.lns its).length + 1 = N := by rw [← hN, ← hL]; exact (Ink.LS_len its).symm
  have HS0 := Lib.hid hs
  have hsp := Ink.splitB_join (zs := L) (by rw [← hL]; simp [Ink.LS]) (fun z hz => (HFl.out (tl z) (by rw [← hLt]; exact List.mem_map_of_mem hz)).no)
  rw [hLt, ← hs, Em.bts_tl, hN] at hsp
  have HSp : Hid (∀ W, Wl W → Calls Tryz.prog 47 #[.string s, .string ⟨#[10]⟩] W fun e w' => e = .returned (.slice (some ⟨W.heap.size, 0, none⟩) N N) ∧ w' = W.alloc (.cells (L.map Value.string).toArray 9)) := fun W hW => by
    obtain ⟨m, hm⟩ := hW.maxl
    have h := Tryz.strings_Split s ⟨#[10]⟩ m W (by omega) hm (by decide)
    rw [hsp.1, hsp.2] at h
    exact h
  have HTs : Hid (∀ x, x ∈ L → ∀ W, Calls Tryz.prog 48 #[.string x, .string ⟨#[13]⟩] W fun e w' => e = .returned (.string x) ∧ W = w') := fun x hx W => by
    have hf := HFl.out (tl x) (by rw [← hLt]; exact List.mem_map_of_mem hx)
    have hxs : x.size ≤ 1048577 := by
      have h := Ink.join_mem (Ink.headL :: Ink.lns its) (z := tl x) (by rw [← hLt]; exact List.mem_map_of_mem hx)
      rw [← hs, tl_length, tl_length] at h
      omega
    have h := Tryz.strings_TrimSuffix x ⟨#[13]⟩ W (by omega)
    have e : Lib.trimSuffix x.data.toList (⟨#[13]⟩ : ByteArray).data.toList = tl x := Ink.suffix_no hf.cr
    rw [e] at h
    exact h.mono fun _ _ h => ⟨h.1, h.2.symm⟩
  have hN1 : 1 ≤ N := by omega
  have hNs : N ≤ 1048577 := by
    have h := Ink.join_num (Ink.headL :: Ink.lns its)
    rw [← hs, tl_length, List.length_cons] at h
    omega
  have HW := Lib.hid hW
  have HL := Lib.hid hL
  have HN := Lib.hid hN
  have HNl := Lib.hid hNl
  have HX := Lib.hid hX
  have HOk := Lib.hid hok
  have HGr := Lib.hid hg
  have q0 : ¬ (1048576 : Int) < (s.size : Int) := by omega
  have HZ0 : Hid (At ((w.alloc (.cells #[.slice none 0 0] 43)).alloc (.cells #[.int .i64 0, .int .i64 0, .int .i64 0] 47)) w.heap.size [.slice none 0 0]) := (At.new w _ _).allocO _
  have HF0 : Hid (At ((w.alloc (.cells #[.slice none 0 0] 43)).alloc (.cells #[.int .i64 0, .int .i64 0, .int .i64 0] 47)) (w.heap.size + 1) [.int .i64 0, .int .i64 0, .int .i64 0]) := by
    have h := At.new (w.alloc (.cells #[.slice none 0 0] 43)) #[.int .i64 0, .int .i64 0, .int .i64 0] 47
    rw [World.size_alloc] at h
    exact h
  have HB0 : Hid (Below w.heap.size w ((w.alloc (.cells #[.slice none 0 0] 43)).alloc (.cells #[.int .i64 0, .int .i64 0, .int .i64 0] 47))) := Hv.bl (Hv.bl1 w _) _
  clear hs hsz hok hfl hg hW hX hL hLt hN hNl hsp
  go_enter Tryz.func21, Tryz.ntmps21
  go_wp2_with fail
  refine (HSp.out _ (HW.out.below HB0.out)).mono ?_
  rintro e w2 ⟨rfl, rfl⟩
  obtain ⟨W1, hW1⟩ : ∃ W, (w.alloc (.cells #[.slice none 0 0] 43)).alloc (.cells #[.int .i64 0, .int .i64 0, .int .i64 0] 47) = W := ⟨_, rfl⟩
  have hs1 : W1.heap.size = w.heap.size + 1 + 1 := by rw [← hW1, World.size_alloc, World.size_alloc]
  rw [hW1] at HZ0 HF0 HB0 ⊢
  obtain ⟨bl, hbl⟩ : ∃ g, W1.heap.size = g := ⟨_, rfl⟩
  have HA2 : Hid (At (W1.alloc (.cells (L.map Value.string).toArray 9)) bl (L.map Value.string)) := by rw [← hbl]; exact At.new W1 _ _
  have HZ2 := Lib.hid (HZ0.out.allocO (.cells (L.map Value.string).toArray 9))
  have HF2 := Lib.hid (HF0.out.allocO (.cells (L.map Value.string).toArray 9))
  have HB2 := Lib.hid (Hv.bl HB0.out (.cells (L.map Value.string).toArray 9))
  obtain ⟨W2, hW2⟩ : ∃ W, W1.alloc (.cells (L.map Value.string).toArray 9) = W := ⟨_, rfl⟩
  have hs2 : W2.heap.size = bl + 1 := by rw [← hW2, World.size_alloc, hbl]
  rw [hW2] at HA2 HZ2 HF2 HB2 ⊢
  rw [hbl] at hs1 ⊢
  have HS1 := Lib.hid hs1
  clear hW1 hW2 hbl hs1 hs2 HZ0 HF0 HB0
  have hnw : IntKind.i64.wrap (N : Int) = (N : Int) := by rw [IntKind.wrap_i64]; omega
  go_wp2_with fail
  go_loopw [22] (fun i wr => ∃ k : Nat, k ≤ N ∧ i = .int .i64 (k : Int) ∧ Hid (At wr bl (L.map Value.string)) ∧ Hid (At wr w.heap.size [.slice none 0 0]) ∧ Hid (At wr (w.heap.size + 1) [.int .i64 0, .int .i64 0, .int .i64 0]) ∧ Hid (Below w.heap.size w wr)) (fun i _ => N - (intOf i).toNat)
  case atStart => exact ⟨0, Nat.zero_le _, rfl, HA2.out, HZ2.out, HF2.out, HB2.out⟩
  case round =>
    obtain ⟨k, hk, rfl, HA, HZ, HF, HB⟩ := hrel
    by_cases hlt : k < N
    · obtain ⟨x, hx⟩ : ∃ x, L[k]? = some x := ⟨_, List.getElem?_eq_getElem (by rw [HN.out]; exact hlt)⟩
      have hxc : (L.map Value.string)[k]? = some (.string x) := by rw [List.getElem?_map, hx]; rfl
      have p1 := HA.out.cell k _ hxc
      have p2 := HA.out.free k _ hxc
      have p1' : wr.cell? ⟨bl, 0 + k, none⟩ = some (.string x) := by rw [Nat.zero_add]; exact p1
      have p2' : wr.frozen? ⟨bl, 0 + k, none⟩ = false := by rw [Nat.zero_add]; exact p2
      have p3 := HA.out.lt
      have q1 : (0 : Int) ≤ (k : Int) := by omega
      have q2 : (k : Int) < (N : Int) := by omega
      have HT := Lib.hid (HTs.out x (List.mem_of_getElem? hx) wr)
      have HX1 := Lib.hid hxc
      clear hx hxc
      go_wp2_with fail
      refine HT.out.mono ?_
      rintro e w3 ⟨rfl, rfl⟩
      go_wp2
      have HA3 := Lib.hid (HA.out.set k (.string x))
      rw [Ink.set_same HX1.out] at HA3
      have HS3 := HS1.out
      have HZ3 := Lib.hid (HZ.out.set_other ⟨bl, k, none⟩ (.string x) (by show bl ≠ _; omega))
      have HF3 := Lib.hid (HF.out.set_other ⟨bl, k, none⟩ (.string x) (by show bl ≠ _; omega))
      have HB3 := Lib.hid (HB.out.setCell (p := ⟨bl, k, none⟩) (by show _ ≤ bl; omega) (.string x))
      go_roundw
      case rel => exact ⟨k + 1, by omega, by go_num, HA3.out, HZ3.out, HF3.out, HB3.out⟩
      case measure => simp [intOf]; omega
    · obtain rfl : k = N := by omega
      have q2 : ¬ (k : Int) < (k : Int) := by omega
      have hx0 : (L.map Value.string)[0]? = some (.string ⟨#[82, 69, 71, 73, 83, 84, 69, 82, 32, 49]⟩) := by
        rw [← HL.out]
        rfl
      have p1 := HA.out.cell 0 _ hx0
      have p3 := HA.out.lt
      have q3 : (0 : Int) < (k : Int) := by omega
      have hmk := make_none wr
      clear hx0
      go_wp2_with fail
      have hgs := HA.out.lt
      have HA4 := Lib.hid ((HA.out.allocO (.map #[] 0)).allocO (.cells #[.slice none 0 0, .map (some wr.heap.size), .map none] 120))
      have HZ4 := Lib.hid ((HZ.out.allocO (.map #[] 0)).allocO (.cells #[.slice none 0 0, .map (some wr.heap.size), .map none] 120))
      have HF4 := Lib.hid ((HF.out.allocO (.map #[] 0)).allocO (.cells #[.slice none 0 0, .map (some wr.heap.size), .map none] 120))
      have HB4 := Lib.hid (Hv.bl (Hv.bl HB.out (.map #[] 0)) (.cells #[.slice none 0 0, .map (some wr.heap.size), .map none] 120))
      have HSt4 := Lib.hid (Ink.St.first wr 120)
      obtain ⟨W4, hW4⟩ : ∃ W, ((wr.alloc (.map #[] 0)).alloc (.cells #[.slice none 0 0, .map (some wr.heap.size), .map none] 120)) = W := ⟨_, rfl⟩
      obtain ⟨g, hg⟩ : ∃ g, wr.heap.size = g := ⟨_, rfl⟩
      rw [hW4] at HA4 HZ4 HF4 HB4 HSt4 ⊢
      rw [hg] at HSt4 hgs ⊢
      have HG : Hid (bl < g ∧ bl = w.heap.size + 1 + 1) := ⟨hgs, HS1.out⟩
      clear hW4 hg hgs HA HZ HF HB p1 p3 q2 q3 hmk
      have HS1 := Lib.hid HG.out.2
      go_loopw [8] (fun i wr => ∃ p : Nat, i = .int .i64 (p : Int) ∧ p ≤ k ∧ ∃ j st, Hid (p = Ink.pos its j) ∧ j ≤ its.length ∧ Hid (Ink.St wr (g + 1) g st) ∧ Hid (Ink.Gr st (its.drop j)) ∧ Hid (Ink.run st (its.drop j) = X) ∧ Hid (At wr bl (L.map Value.string)) ∧ Hid (At wr w.heap.size [.slice none 0 0]) ∧ Hid (At wr (w.heap.size + 1) [.int .i64 0, .int .i64 0, .int .i64 0]) ∧ Hid (Below w.heap.size w wr)) (fun i _ => k - (intOf i).toNat)
      case atStart => exact ⟨1, rfl, by omega, 0, [], Lib.hid rfl, Nat.zero_le _, HSt4.out, by rw [List.drop_zero]; exact HGr.out, by rw [List.drop_zero]; exact HX.out, HA4.out, HZ4.out, HF4.out, HB4.out⟩
      case round =>
        obtain ⟨p, rfl, hp, j, st, hpj, hj, HSt, HGr2, HX2, HA, HZ, HF, HB⟩ := hrel
        by_cases hlt : p < k
        · have q1 : (p : Int) < (k : Int) := by omega
          have hjl : j < its.length := by
            rcases Nat.lt_or_ge j its.length with h | h
            · exact h
            · exfalso
              have e : j = its.length := by omega
              have h2 := Ink.pos_end its
              rw [← e, ← hpj.out, HNl.out] at h2
              omega
          obtain ⟨it, hit⟩ : ∃ it, its[j]? = some it := ⟨_, List.getElem?_eq_getElem hjl⟩
          have hgr := Ink.gr_drop HGr2.out hit
          have hrun := Ink.run_drop (st := st) hit
          rw [HX2.out] at hrun
          have hne := Ink.pos_next hit
          have hle := Ink.pos_le hit
          have h0 := Ink.ls_pos it
          rw [← hpj.out] at hne
          rw [← hpj.out, HNl.out] at hle
          have HIt := Lib.hid (whole_it it (HOk.out it (List.mem_of_getElem? hit)) ⟨bl, p, none⟩ (k - p) (k - p) wr (by omega) (by omega) HA.out.lt (fun q x hq => by
            rw [Ink.add_none]
            refine HA.out.cell (p + q) _ ?_
            rw [List.getElem?_map, hpj.out, ← HL.out, Ink.LS_at hit hq]
            rfl))
          obtain ⟨m, hm⟩ : ∃ m, it.ls.length = m := ⟨_, rfl⟩
          rw [hm] at HIt hne hle h0
          have hit' := Lib.hid hit
          have HNe := Lib.hid hne
          clear hit hm hne
          go_wp2_with fail
          refine HIt.out.mono ?_
          rintro e w5 ⟨rfl, hb⟩
          have HA5 := Lib.hid (HA.out.call hb)
          have HZ5 := Lib.hid (HZ.out.call hb)
          have HF5 := Lib.hid (HF.out.call hb)
          have HB5 := Lib.hid (below_then HB.out hb)
          have ht := take_any w5 (g + 1) g st it hgr.1 (HSt.out.call hb) hgr.2.1 (HW.out.below HB5.out)
          unfold Ink.TRet at ht
          cases hs : Ink.step st it with
          | inl c =>
            rw [hs] at ht hrun
            have hc := Ink.step_bad hs
            have HT := Lib.hid ht
            have HRun := Lib.hid hrun
            clear ht hgr hb hs hrun
            go_wp2_with fail
            refine HT.out.mono ?_
            rintro e w6 ⟨rfl, hb⟩
            have HA6 := Lib.hid (HA5.out.below hb (by show bl < g; exact HG.out.1))
            have HZ6 := Lib.hid (HZ5.out.below hb (by have := HG.out; show w.heap.size < g; omega))
            have HF6 := Lib.hid (HF5.out.below hb (by have := HG.out; show w.heap.size + 1 < g; omega))
            have HB6 := Lib.hid (HB5.out.trans (hb.mono (by have := HG.out; show w.heap.size ≤ g; omega)))
            clear hb
            have z1 := HZ6.out.free 0 _ rfl
            have z2 := HF6.out.free 0 _ rfl
            have z3 := HF6.out.free 1 _ rfl
            have z4 := HF6.out.free 2 _ rfl
            have z5 := HZ6.out.lt
            have y1 := HZ6.out.cell 0 _ rfl
            have y2 := HF6.out.cell 0 _ rfl
            have y3 := HF6.out.cell 1 _ rfl
            have y4 := HF6.out.cell 2 _ rfl
            have z6 := HF6.out.lt
            go_wp2_with fail
            have HQ := Lib.hid (Ink.boxes HZ6.out HF6.out (.slice none 0 0) (.int .i64 ((p : Int) + 1)) (.int .i64 1) (.int .i64 c))
            have HQB := Lib.hid (Ink.boxes_below HB6.out (.slice none 0 0) (.int .i64 ((p : Int) + 1)) (.int .i64 1) (.int .i64 c))
            refine bodyPost_ret (Ink.parse_results rfl rfl HQ.out.1 HQ.out.2) rfl ⟨HQB.out, ?_⟩
            rw [HRun.out]
            exact ⟨_, _, rfl⟩
          | inr st' =>
            rw [hs] at ht hrun
            have HT := Lib.hid ht
            have HRun := Lib.hid hrun
            have HGn := Lib.hid (hgr.2.2 st' hs)
            clear ht hgr hb hs hrun
            go_wp2_with fail
            refine HT.out.mono ?_
            rintro e w6 ⟨rfl, hS, hb⟩
            have HA6 := Lib.hid (HA5.out.below hb (by show bl < g; exact HG.out.1))
            have HZ6 := Lib.hid (HZ5.out.below hb (by have := HG.out; show w.heap.size < g; omega))
            have HF6 := Lib.hid (HF5.out.below hb (by have := HG.out; show w.heap.size + 1 < g; omega))
            have HB6 := Lib.hid (HB5.out.trans (hb.mono (by have := HG.out; show w.heap.size ≤ g; omega)))
            have HS6 := Lib.hid hS
            clear hb hS
            have q5 : IntKind.i64.wrap ((p : Int) + (m : Int)) = ((p + m : Nat) : Int) := by rw [IntKind.wrap_i64]; omega
            go_wp2
            go_roundw
            case rel => exact ⟨p + m, by go_num, hle, j + 1, st', Lib.hid HNe.out.symm, (by omega), HS6.out, HGn.out, HRun.out.symm, HA6.out, HZ6.out, HF6.out, HB6.out⟩
            case measure => simp [intOf]; omega
        · obtain rfl : p = k := by omega
          have q1 : ¬ (p : Int) < (p : Int) := by omega
          have hje : j = its.length := by
            rcases Nat.lt_or_ge j its.length with h | h
            · exfalso
              have h1 := Ink.pos_le (List.getElem?_eq_getElem h)
              have h2 := Ink.ls_pos its[j]
              rw [← hpj.out, HNl.out] at h1
              omega
            · omega
          have hX3 := HX2.out
          rw [hje, List.drop_length] at hX3
          have HX3 : Hid (Sum.inr st = X) := hX3
          obtain ⟨np, nmv, kv, evs, hR, _⟩ := HSt.out
          obtain ⟨vA, vc, rfl, _⟩ := own_slice hR.keys
          obtain ⟨sl, hsl⟩ : ∃ n, st.length = n := ⟨_, rfl⟩
          rw [hsl] at hR
          have HR := Lib.hid hR
          have r1 := hR.at_.cell 0 _ rfl
          have r2 := hR.at_.lt
          have z1 := HZ.out.free 0 _ rfl
          have z2 := HF.out.free 0 _ rfl
          have z3 := HF.out.free 1 _ rfl
          have z4 := HF.out.free 2 _ rfl
          have z5 := HZ.out.lt
          have y1 := HZ.out.cell 0 _ rfl
          have y2 := HF.out.cell 0 _ rfl
          have y3 := HF.out.cell 1 _ rfl
          have y4 := HF.out.cell 2 _ rfl
          have z6 := HF.out.lt
          clear hX3 hR
          go_wp2_with fail
          have HQ := Lib.hid (Ink.boxes HZ.out HF.out (.slice vA sl vc) (.int .i64 0) (.int .i64 0) (.int .i64 0))
          have HQB := Lib.hid (Ink.boxes_below HB.out (.slice vA sl vc) (.int .i64 0) (.int .i64 0) (.int .i64 0))
          have HQR := Lib.hid (Ink.boxes_rd HR.out (a := w.heap.size) (by have := HG.out; omega) (.slice vA sl vc) (.int .i64 0) (.int .i64 0) (.int .i64 0))
          refine bodyPost_ret (Ink.parse_results rfl rfl HQ.out.1 HQ.out.2) rfl ⟨HQB.out, ?_⟩
          rw [← HX3.out]
          exact ⟨_, evs, rfl, HQR.out.hive⟩
end Go.Proofs.YthmhadgbhakdlaaGreatDoor

/- Texts of right hives are put together of parts that can be read in turn. -/
namespace Go.Proofs.YthmhadgbhakdlaaGreatDoor
open Go.RowKit

namespace Ink
open Em
theorem gr_vals : ∀ (l done : List Hv.V) (st : List Hv.K) (p : ByteArray) (r : List It), Hv.valsB (Hv.names done) l = true → (∀ v ∈ l, v.Ok) → done.length + l.length ≤ 512 → st.length + 1 ≤ 4096 → Gr (st ++ [⟨p, done ++ l⟩]) r → Gr (st ++ [⟨p, done⟩]) (l.map .val ++ r)
  | [], done, st, p, r, _, _, _, _, hg => by
    rw [List.append_nil] at hg
    exact hg
  | v :: l, done, st, p, r, h, ho, hn, hs, hg => by
    unfold Hv.valsB at h
    simp only [Bool.and_eq_true, Bool.not_eq_true'] at h
    have e : step (st ++ [⟨p, done⟩]) (.val v) = .inr (st ++ [⟨p, done ++ [v]⟩]) := by
      unfold step
      simp only [List.getLast?_concat, List.dropLast_concat]
      rw [h.2.1, if_neg (by simp), if_neg (by rw [List.length_cons] at hn; omega)]
    have h2 : Hv.valsB (Hv.names (done ++ [v])) l = true := by rw [names_app]; exact h.2.2
    rw [List.map_cons, List.cons_append]
    refine ⟨⟨h.1, ho v List.mem_cons_self, _, e⟩, by rw [List.length_append]; exact hs, fun st' hst => ?_⟩
    rw [e] at hst
    injection hst with hst
    subst hst
    refine gr_vals l (done ++ [v]) st p r h2 (fun x hx => ho x (List.mem_cons_of_mem _ hx)) (by rw [List.length_append]; rw [List.length_cons] at hn; simp only [List.length_cons, List.length_nil]; omega) hs ?_
    rw [List.append_assoc]
    exact hg
theorem gr_key (k : Hv.K) (st : List Hv.K) (r : List It) (hk : Hv.keyB k = true) (ho : k.Ok) (hn : st.length + 1 ≤ 4096) (hg : Gr (st ++ [k]) r) : Gr st (kits k ++ r) := by
  unfold Hv.keyB at hk
  simp only [Bool.and_eq_true, decide_eq_true_eq] at hk
  have hp := Hv.path_size hk.1
  refine ⟨trivial, by omega, fun st' hst => ?_⟩
  have hst : Sum.inr st = (Sum.inr st' : Int ⊕ List Hv.K) := hst
  injection hst with hst
  subst hst
  refine ⟨⟨by omega, by omega⟩, by omega, fun st' hst => ?_⟩
  by_cases h : Hv.has (Hv.paths st) k.path = true
  · have e : step st (.path k.path) = .inl 8 := by unfold step; simp only; rw [if_pos hk.1, if_pos h]
    rw [e] at hst
    cases hst
  · have e : step st (.path k.path) = .inr (st ++ [⟨k.path, []⟩]) := by unfold step; simp only; rw [if_pos hk.1, if_neg h, if_neg (by omega)]
    rw [e] at hst
    injection hst with hst
    subst hst
    exact gr_vals k.vals [] st k.path r hk.2.2 ho.vals (by simpa using hk.2.1) hn hg
theorem gr_keys : ∀ (l st : List Hv.K) (r : List It), (∀ k ∈ l, Hv.keyB k = true) → (∀ k ∈ l, k.Ok) → st.length + l.length ≤ 4096 → Gr (st ++ l) r → Gr st (its l ++ r)
  | [], st, r, _, _, _, hg => by
    rw [List.append_nil] at hg
    exact hg
  | k :: l, st, r, h, ho, hn, hg => by
    rw [List.length_cons] at hn
    have e : its (k :: l) ++ r = kits k ++ (its l ++ r) := by simp [its]
    rw [e]
    refine gr_key k st _ (h k List.mem_cons_self) (ho k List.mem_cons_self) (by omega) ?_
    refine gr_keys l (st ++ [k]) r (fun x hx => h x (List.mem_cons_of_mem _ hx)) (fun x hx => ho x (List.mem_cons_of_mem _ hx)) (by rw [List.length_append]; simp only [List.length_cons, List.length_nil]; omega) ?_
    rw [List.append_assoc]
    exact hg
theorem gr_two (a b : List Hv.K) (ha : ∀ k ∈ a, Hv.keyB k = true) (hoa : ∀ k ∈ a, k.Ok) (hb : ∀ k ∈ b, Hv.keyB k = true) (hob : ∀ k ∈ b, k.Ok) (hn : a.length + b.length ≤ 4096) : Gr [] (its a ++ its b ++ [.blank]) := by
  rw [List.append_assoc]
  refine gr_keys a [] _ ha hoa (by simp; omega) ?_
  rw [List.nil_append]
  refine gr_keys b a _ hb hob hn ?_
  exact ⟨trivial, by rw [List.length_append]; exact hn, fun _ _ => trivial⟩
theorem path_plain {s : ByteArray} (h : Hv.path s = true) : Te.plain s = true := by
  unfold Hv.path at h
  simp only [Bool.and_eq_true, decide_eq_true_eq] at h
  exact h.2.2.1
theorem vals_all : ∀ (l : List Hv.V) (s : List ByteArray), Hv.valsB s l = true → ∀ v ∈ l, Hv.valB v = true
  | [], _, _, v, hv => by cases hv
  | x :: l, s, h, v, hv => by
    unfold Hv.valsB at h
    simp only [Bool.and_eq_true] at h
    rcases List.mem_cons.1 hv with rfl | hv
    · exact h.1
    · exact vals_all l _ h.2.2 v hv
theorem path_fl {p : ByteArray} (h : ∀ b ∈ tl p, b ≠ 10) : Fl (91 :: (tl p ++ [93])) := by
  refine ⟨fun b hb => ?_, ?_⟩
  · rcases List.mem_cons.1 hb with rfl | hb
    · decide
    · rcases List.mem_append.1 hb with hb | hb
      · exact h b hb
      · obtain rfl := List.mem_singleton.1 hb
        decide
  · rw [← List.cons_append, List.getLast?_concat]
    decide
theorem its_ok (l : List Hv.K) (h : ∀ k ∈ l, Hv.keyB k = true) (ho : ∀ k ∈ l, k.Ok) : ∀ i ∈ its l, Ok1 i ∧ ∀ x ∈ i.ls, Fl x := by
  intro i hi
  obtain ⟨k, hk, hi⟩ := List.mem_flatMap.1 hi
  have hkb := h k hk
  unfold Hv.keyB at hkb
  simp only [Bool.and_eq_true, decide_eq_true_eq] at hkb
  have hp := Hv.path_size hkb.1
  rcases List.mem_cons.1 hi with rfl | hi
  · refine ⟨trivial, fun x hx => ?_⟩
    obtain rfl : x = [] := by simpa [It.ls] using hx
    exact ⟨by decide, by decide⟩
  · rcases List.mem_cons.1 hi with rfl | hi
    · refine ⟨show k.path.size ≤ 100000 by omega, fun x hx => ?_⟩
      obtain rfl : x = 91 :: (tl k.path ++ [93]) := by simpa [It.ls] using hx
      exact path_fl fun b hb => (plain_no (path_plain hkb.1) b hb).1
    · obtain ⟨v, hv, rfl⟩ := List.mem_map.1 hi
      have hvb := vals_all k.vals [] hkb.2.2 v hv
      have hvo := (ho k hk).vals v hv
      exact ⟨⟨hvb, hvo⟩, vlines_fl hvb hvo⟩
theorem two_ok (a b : List Hv.K) (ha : ∀ k ∈ a, Hv.keyB k = true) (hoa : ∀ k ∈ a, k.Ok) (hb : ∀ k ∈ b, Hv.keyB k = true) (hob : ∀ k ∈ b, k.Ok) : ∀ i ∈ its a ++ its b ++ [.blank], Ok1 i ∧ ∀ x ∈ i.ls, Fl x := by
  intro i hi
  rcases List.mem_append.1 hi with hi | hi
  · rcases List.mem_append.1 hi with hi | hi
    · exact its_ok a ha hoa i hi
    · exact its_ok b hb hob i hi
  · obtain rfl := List.mem_singleton.1 hi
    refine ⟨trivial, fun x hx => ?_⟩
    obtain rfl : x = [] := by simpa [It.ls] using hx
    exact ⟨by decide, by decide⟩
theorem lns_fl {l : List It} (h : ∀ i ∈ l, Ok1 i ∧ ∀ x ∈ i.ls, Fl x) : ∀ x ∈ lns l, Fl x := by
  intro x hx
  obtain ⟨i, hi, hx⟩ := List.mem_flatMap.1 hx
  exact (h i hi).2 x hx
/-- A right hive's text begins with the head. -/
theorem text_front (l : List Hv.K) : ∃ r, Em.text l = [82, 69, 71, 73, 83, 84, 69, 82, 32, 49, 10] ++ r := ⟨_, rfl⟩
theorem hive_keys {l : List Hv.K} (h : Hv.hiveB l = true) : ∀ k ∈ l, Hv.keyB k = true := by
  unfold Hv.hiveB at h
  simp only [Bool.and_eq_true, decide_eq_true_eq] at h
  exact Em.keysB_all l [] h.2
end Ink
/-- intake.Parse of two right hives' texts, one behind the other. -/
theorem inParse_two (a b : List Hv.K) (ha : Hv.hiveB a = true) (hb : Hv.hiveB b = true) (hoa : ∀ k ∈ a, k.Ok) (hob : ∀ k ∈ b, k.Ok) (hn : a.length + b.length ≤ 4096) (s : ByteArray) (hs : tl s = Em.text a ++ (Em.text b).drop 11) (hsz : s.size ≤ 1048576) (w : World) (hW : Wl w) :
    Calls Tryz.prog 21 #[.string s] w (Ink.PRet (if Hv.hiveB (a ++ b) = true then .inr (a ++ b) else .inl 8) w) := by
  have h2 := Ink.two_ok a b (Ink.hive_keys ha) hoa (Ink.hive_keys hb) hob
  have h := inParse_any (Ink.its a ++ Ink.its b ++ [.blank]) s (by rw [hs, Ink.two_texts]) hsz (fun i hi => (h2 i hi).1) (Ink.lns_fl h2) (Ink.gr_two a b (Ink.hive_keys ha) hoa (Ink.hive_keys hb) hob hn) w hW
  rw [Ink.run_two a b ha hb hn] at h
  exact h
end Go.Proofs.YthmhadgbhakdlaaGreatDoor

/- intake.Parse of a text that is too long. -/
namespace Go.Proofs.YthmhadgbhakdlaaGreatDoor
open Go.RowKit

set_option maxHeartbeats 2000000 in
set_option maxRecDepth 100000 in
theorem inParse_long (s : ByteArray) (hs : 1048576 < s.size) (w : World) :
    Calls Tryz.prog 21 #[.string s] w fun e w' => e = .returned (.tuple #[.agg #[.slice none 0 0], .agg #[.int .i64 0, .int .i64 0, .int .i64 6]]) ∧ Below w.heap.size w w' := by
  have q0 : (1048576 : Int) < (s.size : Int) := by omega
  have HZ : Hid (At ((w.alloc (.cells #[.slice none 0 0] 43)).alloc (.cells #[.int .i64 0, .int .i64 0, .int .i64 6] 47)) w.heap.size [.slice none 0 0]) := (At.new w _ _).allocO _
  have HF : Hid (At ((w.alloc (.cells #[.slice none 0 0] 43)).alloc (.cells #[.int .i64 0, .int .i64 0, .int .i64 6] 47)) (w.heap.size + 1) [.int .i64 0, .int .i64 0, .int .i64 6]) := by
    have h := At.new (w.alloc (.cells #[.slice none 0 0] 43)) #[.int .i64 0, .int .i64 0, .int .i64 6] 47
    rw [World.size_alloc] at h
    exact h
  have HB : Hid (Below w.heap.size w ((w.alloc (.cells #[.slice none 0 0] 43)).alloc (.cells #[.int .i64 0, .int .i64 0, .int .i64 6] 47))) := Hv.bl (Hv.bl1 w _) _
  clear hs
  go_enter Tryz.func21, Tryz.ntmps21
  go_wp2
  exact bodyPost_ret (Ink.parse_results rfl rfl HZ.out HF.out) rfl ⟨rfl, HB.out⟩
end Go.Proofs.YthmhadgbhakdlaaGreatDoor

/- The shelf's contracts of strings.Builder's writers at a dump where the shelf lays no strings.Join: the tables of numbers written by hand. -/
namespace Go.Proofs
open Go.Shelf Go.RowKit

def Tryz.pr_ren : Go.Shelf.Ren := ⟨fun | 166 => 43 | 167 => 45 | 240 => 92 | 276 => 133 | n => n, (fun | 0 => 0 | 3 => 3 | 4 => 4 | 5 => 5 | 9 => 9 | 20 => 20 | 37 => 58 | 70 => 107 | 72 => 109 | 75 => 111 | 76 => 112 | 80 => 116 | 127 => 164 | 164 => 194 | n => n), fun | n => n⟩
theorem Tryz.pr166 : Lays.n166 Tryz.prog Tryz.pr_ren := {
  mixed := by kernel_rfl
  t0 := Tryz.underlying0
  a0 := Tryz.isAgg0
  z0 := Tryz.sizeOf0
  v0 := Tryz.zeroValue0
  t3 := Tryz.underlying3
  a3 := Tryz.isAgg3
  z3 := Tryz.sizeOf3
  v3 := Tryz.zeroValue3
  t4 := Tryz.underlying4
  a4 := Tryz.isAgg4
  z4 := Tryz.sizeOf4
  v4 := Tryz.zeroValue4
  t9 := Tryz.underlying9
  a9 := Tryz.isAgg9
  z9 := Tryz.sizeOf9
  v9 := Tryz.zeroValue9
  t20 := Tryz.underlying20
  a20 := Tryz.isAgg20
  z20 := Tryz.sizeOf20
  v20 := Tryz.zeroValue20
  t37 := Tryz.underlying58
  a37 := Tryz.isAgg58
  z37 := Tryz.sizeOf58
  v37 := Tryz.zeroValue58
  t70 := Tryz.underlying107
  a70 := Tryz.isAgg107
  z70 := Tryz.sizeOf107
  v70 := Tryz.zeroValue107
  t72 := Tryz.underlying109
  a72 := Tryz.isAgg109
  z72 := Tryz.sizeOf109
  v72 := Tryz.zeroValue109
  t75 := Tryz.underlying111
  a75 := Tryz.isAgg111
  z75 := Tryz.sizeOf111
  v75 := Tryz.zeroValue111
  t164 := Tryz.underlying194
  a164 := Tryz.isAgg194
  z164 := Tryz.sizeOf194
  v164 := Tryz.zeroValue194
  f166 := Tryz.func43.trans (congrArg some (by kernel_rfl))
  f240 := Tryz.func92.trans (congrArg some (by kernel_rfl))
  f276 := Tryz.func133.trans (congrArg some (by kernel_rfl)) }
theorem Tryz.pr167 : Lays.n167 Tryz.prog Tryz.pr_ren := {
  mixed := by kernel_rfl
  t0 := Tryz.underlying0
  a0 := Tryz.isAgg0
  z0 := Tryz.sizeOf0
  v0 := Tryz.zeroValue0
  t4 := Tryz.underlying4
  a4 := Tryz.isAgg4
  z4 := Tryz.sizeOf4
  v4 := Tryz.zeroValue4
  t5 := Tryz.underlying5
  a5 := Tryz.isAgg5
  z5 := Tryz.sizeOf5
  v5 := Tryz.zeroValue5
  t9 := Tryz.underlying9
  a9 := Tryz.isAgg9
  z9 := Tryz.sizeOf9
  v9 := Tryz.zeroValue9
  t20 := Tryz.underlying20
  a20 := Tryz.isAgg20
  z20 := Tryz.sizeOf20
  v20 := Tryz.zeroValue20
  t37 := Tryz.underlying58
  a37 := Tryz.isAgg58
  z37 := Tryz.sizeOf58
  v37 := Tryz.zeroValue58
  t70 := Tryz.underlying107
  a70 := Tryz.isAgg107
  z70 := Tryz.sizeOf107
  v70 := Tryz.zeroValue107
  t72 := Tryz.underlying109
  a72 := Tryz.isAgg109
  z72 := Tryz.sizeOf109
  v72 := Tryz.zeroValue109
  t75 := Tryz.underlying111
  a75 := Tryz.isAgg111
  z75 := Tryz.sizeOf111
  v75 := Tryz.zeroValue111
  t164 := Tryz.underlying194
  a164 := Tryz.isAgg194
  z164 := Tryz.sizeOf194
  v164 := Tryz.zeroValue194
  f167 := Tryz.func45.trans (congrArg some (by kernel_rfl))
  f240 := Tryz.func92.trans (congrArg some (by kernel_rfl))
  f276 := Tryz.func133.trans (congrArg some (by kernel_rfl)) }
theorem Tryz.prX : Builder.Extra Tryz.prog Tryz.pr_ren := {
  sizeBuilder := by kernel_rfl
  liesBuilder := by kernel_rfl
  t5 := Tryz.underlying5
  a5 := Tryz.isAgg5
  z5 := Tryz.sizeOf5
  v5 := Tryz.zeroValue5
  infoByte := by kernel_rfl
  cellsByte := by kernel_rfl
  sizeByte := by kernel_rfl
  neB5 := by decide }
theorem Tryz.prWriteByte (B b : Nat) (bs : List Value) (c : Int) (w : World) (h : Lib.IsBuilderF 109 5 B b bs w) (hlen : bs.length + 1 ≤ 140737488355328) (hBw : B ≤ w.heap.size) :
    Calls Tryz.prog 45 #[.pointer (some ⟨b, 0, none⟩), .int .u8 c] w fun e w' => e = .returned .nilIface ∧ (Lib.BuilderAtF 109 5 B b (.pointer (some ⟨b, 0, none⟩)) (bs ++ [.int .u8 c]) w' ∧ Below B w w' ∧ Lib.OthersKept 5 (some b) w w') :=
  Any.Builder_WriteByte_k Tryz.pr167 Tryz.prX B b bs c w h hlen hBw
theorem Tryz.prWriteString (B b : Nat) (bs : List Value) (s : ByteArray) (w : World) (h : Lib.IsBuilderF 109 5 B b bs w) (hlen : bs.length + s.size ≤ 140737488355328) (hBw : B ≤ w.heap.size) :
    Calls Tryz.prog 43 #[.pointer (some ⟨b, 0, none⟩), .string s] w fun e w' => e = .returned (.tuple #[.int .i64 s.size, .nilIface]) ∧ (Lib.BuilderAtF 109 5 B b (.pointer (some ⟨b, 0, none⟩)) (bs ++ Lib.strCells s) w' ∧ Below B w w' ∧ Lib.OthersKept 5 (some b) w w') :=
  Any.Builder_WriteString_k Tryz.pr166 Tryz.prX B b bs s w h hlen hBw
end Go.Proofs
