/- markup: the contract of Tokens. -/
import Derived.Test.YthmhadgbhakdlaaDoorP15
import Derived.Test.YthmhadgbhakdlaaDoorP05
import Derived.Shelf.Strings.BuilderK

namespace Go.Proofs.YthmhadgbhakdlaaDoor
open Go.RowKit

namespace Mk
/-- Parts that can be read. -/
structure Parts (w : World) (A : Option Addr) (c : Nat) (l : List T) (avs : List Value) : Prop where
  len : avs.length = l.length
  cap : l.length ≤ c ∧ c ≤ maxLen
  tk : Reads w w.heap.size 5 A l.length (tkCells l avs)
  at_ : ∀ (k : Nat) (t : T) (v : Value), l[k]? = some t → avs[k]? = some v → ∃ A' c', v = .slice A' t.attrs.length c' ∧ t.attrs.length ≤ c' ∧ c' ≤ maxLen ∧ Reads w w.heap.size 2 A' t.attrs.length (atCells t.attrs)
theorem own_cap {w : World} {base : Nat} {e : TypeId} {size n : Nat} {v : Value} {xs : List Value} (h : w.ownsRow base e size v n xs) : ∃ A c, v = .slice A n c ∧ n ≤ c ∧ c ≤ maxLen := by
  rcases h.2 with ⟨rfl, rfl⟩ | ⟨g, cap, cur, rfl, _, _, h1, h2, _⟩
  · exact ⟨none, 0, rfl, Nat.le_refl _, Nat.zero_le _⟩
  · exact ⟨_, cap, rfl, h1, h2⟩
theorem atRows_mem : ∀ (l : List T) (vs : List Value) (k : Nat) (t : T) (v : Value), l[k]? = some t → vs[k]? = some v → atRow t v ∈ atRows l vs
  | x :: l, y :: vs, 0, t, v, h1, h2 => by cases h1; cases h2; rw [atRows]; exact List.mem_cons_self
  | x :: l, y :: vs, k + 1, t, v, h1, h2 => by rw [atRows]; exact List.mem_cons_of_mem _ (atRows_mem l vs k t v h1 h2)
  | [], _, _, _, _, h1, _ => by cases h1
  | _ :: _, [], _, _, _, _, h2 => by cases h2
theorem Wk.parts {w : World} {g : Nat} {s : ByteArray} {st : S} {tv ov : Value} {avs : List Value} (h : Wk w g s st tv ov avs []) : ∃ A c, tv = .slice A st.toks.length c ∧ Parts w A c st.toks avs := by
  obtain ⟨A, c, e, h1, h2⟩ := own_cap h.tk
  subst e
  refine ⟨A, c, rfl, h.len, ⟨h1, h2⟩, Reads.of_own h.tk, fun k t v ht hv => ?_⟩
  have hr := h.many.own _ (List.mem_cons_of_mem _ (List.mem_cons_of_mem _ (List.mem_append_right _ (atRows_mem _ _ k t v ht hv))))
  obtain ⟨A', c', e, h3, h4⟩ := own_cap hr
  have e2 : v = .slice A' t.attrs.length c' := e
  subst e2
  exact ⟨A', c', rfl, h3, h4, Reads.of_own hr⟩
theorem Parts.call {w w' : World} {A : Option Addr} {c : Nat} {l : List T} {avs : List Value} (h : Parts w A c l avs) (hb : Below w.heap.size w w') : Parts w' A c l avs :=
  ⟨h.len, h.cap, (h.tk.below hb).more hb.size, fun k t v ht hv => by
    obtain ⟨A', c', e, h1, h2, h3⟩ := h.at_ k t v ht hv
    exact ⟨A', c', e, h1, h2, (h3.below hb).more hb.size⟩⟩
def Fine (s : ByteArray) : Prop := s.size ≤ 1048576 ∧ Te.right s = true ∧ ∀ b ∈ tl s, low b = false
/-- What Tokens answers. -/
def TokRet (w : World) (s : ByteArray) (e : Ending) (w' : World) : Prop :=
  Below w.heap.size w w' ∧
  (Fine s → match tokens (tl s) with
    | .inl x => e = .returned (.tuple #[.slice none 0 0, .agg #[.int .i64 0, .int .i64 (x.1 : Int), .int .i64 (x.2 : Int)]])
    | .inr st => ∃ A c avs, e = .returned (.tuple #[.slice A st.toks.length c, .agg #[.int .i64 0, .int .i64 0, .int .i64 0]]) ∧ Parts w' A c st.toks avs) ∧
  (¬ Fine s → ∃ c y : Nat, e = .returned (.tuple #[.slice none 0 0, .agg #[.int .i64 0, .int .i64 (c : Int), .int .i64 (y : Int)]]) ∧ y ≠ 0 ∧ c ≤ s.size)
theorem TokRet.bad {w w' : World} {s : ByteArray} {e : Ending} (hb : Below w.heap.size w w') (hf : ¬ Fine s) (c y : Nat) (he : e = .returned (.tuple #[.slice none 0 0, .agg #[.int .i64 0, .int .i64 (c : Int), .int .i64 (y : Int)]])) (hy : y ≠ 0) (hc : c ≤ s.size) : TokRet w s e w' :=
  ⟨hb, fun h => absurd h hf, fun _ => ⟨c, y, he, hy, hc⟩⟩
theorem wk_start (w : World) (s : ByteArray) : Wk (w.alloc (.cells #[.string s, .slice none 0 0, .slice none 0 0, .bool false] 66)) w.heap.size s start (.slice none 0 0) (.slice none 0 0) [] [] :=
  ⟨At.new w _ _, rfl, (Many.nil_.add0 9 1).add0 59 5⟩
end Mk
set_option maxHeartbeats 4000000 in
set_option maxRecDepth 100000 in
theorem tokens_any (s : ByteArray) (hs : s.size ≤ maxLen) (w : World) (hW : Wl w) :
    Calls Tryd.prog 10 #[.string s] w (Mk.TokRet w s) := by
  have hs' := hs
  unfold maxLen at hs
  have HFt := Lib.hid (fun (c y : Int) W => fault_any c y W)
  have HB0 := Lib.hid (Mk.below_new w (.cells #[.int .i64 0, .int .i64 0, .int .i64 0] 30))
  have HZ0 : Hid (At (w.alloc (.cells #[.int .i64 0, .int .i64 0, .int .i64 0] 30)) w.heap.size [.int .i64 0, .int .i64 0, .int .i64 0]) := At.new _ _ _
  by_cases hl : 1048576 < s.size
  · have q1 : (1048576 : Int) < (s.size : Int) := by omega
    have hnf : ¬ Mk.Fine s := fun h => by have := h.1; omega
    have HNf := Lib.hid hnf
    clear hnf hl hW hs'
    go_enter Tryd.func10, Tryd.ntmps10
    go_wp2_with fail
    refine (HFt.out _ _ _).mono ?_
    rintro e w1 ⟨rfl, hb⟩
    have HB1 := Lib.hid (below_then HB0.out hb)
    have HZ1 := Lib.hid (HZ0.out.call hb)
    clear hb
    have hz1 := HZ1.out.lt
    obtain ⟨f0, f1, f2, e5, e6, e7⟩ := HZ1.out.three
    go_wp2
    refine bodyPost_ret (v := .tuple #[.slice none 0 0, .agg #[.int .i64 0, .int .i64 0, .int .i64 6]]) (by simp [results, Tryd.results10, go_sem, *]) rfl ?_
    exact Mk.TokRet.bad (((HB1.out.setCell (p := ⟨w.heap.size, _, none⟩) (Nat.le_refl _) _).setCell (p := ⟨w.heap.size, _, none⟩) (Nat.le_refl _) _).setCell (p := ⟨w.heap.size, _, none⟩) (Nat.le_refl _) _) HNf.out 0 6 rfl (by decide) (Nat.zero_le _)
  have q1 : ¬ (1048576 : Int) < (s.size : Int) := by omega
  have HU := Lib.hid (fun W => utfPlace_any s hs' W)
  cases hr : Te.right s with
  | false =>
    rw [hr] at HU
    have hnf : ¬ Mk.Fine s := fun h => by have := h.2.1; rw [hr] at this; cases this
    have HNf := Lib.hid hnf
    have HU2 : Hid (∀ W, Calls Tryd.prog 15 #[.string s] W fun e w' => (∃ i : Nat, i ≤ s.size ∧ e = .returned (.tuple #[.int .i64 (i : Int), .int .i64 11])) ∧ Below W.heap.size W w') := HU
    clear hnf hl hW hs' hr HU
    go_enter Tryd.func10, Tryd.ntmps10
    go_wp2_with fail
    refine (HU2.out _).mono ?_
    rintro e w1 ⟨⟨i, hi, rfl⟩, hb⟩
    have HB1 := Lib.hid (below_then HB0.out hb)
    have HZ1 := Lib.hid (HZ0.out.call hb)
    clear hb
    go_wp2_with fail
    refine (HFt.out _ _ _).mono ?_
    rintro e w2 ⟨rfl, hb⟩
    have HB2 := Lib.hid (below_then HB1.out hb)
    have HZ2 := Lib.hid (HZ1.out.call hb)
    clear hb
    have hz1 := HZ2.out.lt
    obtain ⟨f0, f1, f2, e5, e6, e7⟩ := HZ2.out.three
    go_wp2
    refine bodyPost_ret (v := .tuple #[.slice none 0 0, .agg #[.int .i64 0, .int .i64 (i : Int), .int .i64 11]]) (by simp [results, Tryd.results10, go_sem, *]) rfl ?_
    exact Mk.TokRet.bad (((HB2.out.setCell (p := ⟨w.heap.size, _, none⟩) (Nat.le_refl _) _).setCell (p := ⟨w.heap.size, _, none⟩) (Nat.le_refl _) _).setCell (p := ⟨w.heap.size, _, none⟩) (Nat.le_refl _) _) HNf.out i 11 rfl (by decide) hi
  | true =>
    rw [hr] at HU
    have HU2 : Hid (∀ W, Calls Tryd.prog 15 #[.string s] W fun e w' => (∃ i : Nat, i ≤ s.size ∧ e = .returned (.tuple #[.int .i64 (i : Int), .int .i64 0])) ∧ Below W.heap.size W w') := HU
    have HBy := Lib.hid (fun W => badByte_any s hs' W)
    have HR := Lib.hid hr
    clear HU hr
    have hl' : s.size ≤ 1048576 := by omega
    have HW := Lib.hid hW
    clear hs' hW hl
    go_enter Tryd.func10, Tryd.ntmps10
    go_wp2_with fail
    refine (HU2.out _).mono ?_
    rintro e w1 ⟨⟨i, hi, rfl⟩, hb⟩
    have HB1 := Lib.hid (below_then HB0.out hb)
    have HZ1 := Lib.hid (HZ0.out.call hb)
    have HBt := Lib.hid hb
    clear hb
    go_wp2_with fail
    refine (HBy.out _).mono ?_
    rintro e w2 ⟨⟨n, rfl, hn⟩, rfl⟩
    rcases hn with ⟨rfl, hall⟩ | ⟨k, rfl, hk, b, hb, hlow⟩
    · have hf : Mk.Fine s := ⟨hl', HR.out, hall⟩
      have HF := Lib.hid hf
      have HTh := Lib.hid (through_any (w1.alloc (.cells #[.string s, .slice none 0 0, .slice none 0 0, .bool false] 66)) w1.heap.size s (.slice none 0 0) (.slice none 0 0) (by omega) (Mk.wk_start w1 s) ((HW.out.below HB1.out).below (Mk.below_new _ _)))
      clear hf hall
      have hz1 := HZ1.out.lt
      have HZa := Lib.hid (HZ1.out.allocO (.cells #[.string s, .slice none 0 0, .slice none 0 0, .bool false] 66))
      have HB2 := Lib.hid (HB1.out.alloc HB1.out.size (.cells #[.string s, .slice none 0 0, .slice none 0 0, .bool false] 66))
      go_wp2_with fail
      refine HTh.out.mono ?_
      intro e w3 hret
      have hz3 := hret.1.at_ HZa.out (by
        rintro ((h | h | h) | h)
        · have := HZ1.out.lt; omega
        · cases h
        · cases h
        · exact h)
      have hb3 : Below w.heap.size (w1.alloc (.cells #[.string s, .slice none 0 0, .slice none 0 0, .bool false] 66)) w3 := hret.1.below (fun j h => by
        rcases h with (h | h | h) | h
        · have := HB1.out.size; omega
        · cases h
        · cases h
        · exact h.elim) (by rw [World.size_alloc]; have := HB1.out.size; omega)
      have HZ3 := Lib.hid hz3
      have HB3 := Lib.hid (HB2.out.trans hb3)
      clear hz3 hb3
      have hz3 := HZ3.out.lt
      obtain ⟨f0, f1, f2, e5, e6, e7⟩ := HZ3.out.three
      cases htk : Mk.tokens (tl s) with
      | inl x =>
        obtain ⟨c, y⟩ := x
        rw [htk] at hret
        obtain rfl := hret.2
        have hE := Mk.flt_some (c : Int) (y : Int) (by have := (Mk.tokens_why htk).1; simpa using this)
        have HTk := Lib.hid htk
        clear hret htk
        have HNw := Lib.hid (At.new w3 #[.int .i64 0, .int .i64 (c : Int), .int .i64 (y : Int)] 30)
        obtain ⟨n0, n1, n2, _⟩ := HNw.out.three
        go_wp2
        go_region
        all_goals go_wp2
        all_goals refine bodyPost_ret (v := .tuple #[.slice none 0 0, .agg #[.int .i64 0, .int .i64 (c : Int), .int .i64 (y : Int)]]) (by simp [results, Tryd.results10, go_sem, *]) rfl ⟨?_, fun _ => by rw [HTk.out], fun h => absurd HF.out h⟩
        all_goals exact Below.drew (Below.alloc (((HB3.out.setCell (p := ⟨w.heap.size, _, none⟩) (Nat.le_refl _) _).setCell (p := ⟨w.heap.size, _, none⟩) (Nat.le_refl _) _).setCell (p := ⟨w.heap.size, _, none⟩) (Nat.le_refl _) _) (by simp only [heap_set]; exact HB3.out.size) _)
      | inr st =>
        rw [htk] at hret
        obtain ⟨rfl, tv2, ov2, avs2, hwk, _, _⟩ := hret.2
        have hE := Mk.flt_zero
        obtain ⟨A, c, rfl, hparts⟩ := hwk.parts
        have c1 := hwk.at_.cell 1 _ rfl
        have zg := hwk.at_.lt
        have HTk := Lib.hid htk
        have HWk := Lib.hid hwk
        have HTy := Lib.hid (Mk.Ty.kp (((Mk.Ty.new w #[.int .i64 0, .int .i64 0, .int .i64 0]).call HBt.out).call (Mk.below_new w1 (.cells #[.string s, .slice none 0 0, .slice none 0 0, .bool false] 66))) hret.1 (by
          rintro ((h | h | h) | h)
          · have := HZ1.out.lt; omega
          · cases h
          · cases h
          · exact h))
        have hgw : w.heap.size ≠ w1.heap.size := by have := HZ1.out.lt; omega
        have HP : Hid (∀ (x y z : Value) (o : Obj), Mk.Parts ((((w3.setCell ⟨w.heap.size, 0, none⟩ x).setCell ⟨w.heap.size, 1, none⟩ y).setCell ⟨w.heap.size, 2, none⟩ z).alloc o) A c st.toks avs2) := fun x y z o => by
          obtain ⟨A', c', e', hp'⟩ := ((HWk.out.setF3 HTy.out hgw x y z).alloc o).parts
          injection e' with e1 _ e2
          subst e1 e2
          exact hp'
        clear hret htk hwk hparts
        go_wp2
        refine bodyPost_ret (v := .tuple #[.slice A st.toks.length c, .agg #[.int .i64 0, .int .i64 0, .int .i64 0]]) (by simp [results, Tryd.results10, go_sem, *]) rfl ⟨?_, fun _ => by rw [HTk.out]; exact ⟨A, c, avs2, rfl, HP.out _ _ _ _⟩, fun h => absurd HF.out h⟩
        exact Below.alloc (((HB3.out.setCell (p := ⟨w.heap.size, _, none⟩) (Nat.le_refl _) _).setCell (p := ⟨w.heap.size, _, none⟩) (Nat.le_refl _) _).setCell (p := ⟨w.heap.size, _, none⟩) (Nat.le_refl _) _) (by simp only [heap_set]; exact HB3.out.size) _
    · have hnf : ¬ Mk.Fine s := fun h => by have := h.2.2 b hb; rw [hlow] at this; cases this
      have HNf := Lib.hid hnf
      have q5 : (0 : Int) ≤ (k : Int) := by omega
      have hks : k ≤ s.size := by rw [← tl_length]; omega
      clear hnf hk hb hlow
      go_wp2_with fail
      refine (HFt.out _ _ _).mono ?_
      rintro e w2 ⟨rfl, hb⟩
      have HB2 := Lib.hid (below_then HB1.out hb)
      have HZ2 := Lib.hid (HZ1.out.call hb)
      clear hb
      have hz1 := HZ2.out.lt
      obtain ⟨f0, f1, f2, e5, e6, e7⟩ := HZ2.out.three
      go_wp2
      refine bodyPost_ret (v := .tuple #[.slice none 0 0, .agg #[.int .i64 0, .int .i64 (k : Int), .int .i64 4]]) (by simp [results, Tryd.results10, go_sem, *]) rfl ?_
      exact Mk.TokRet.bad (((HB2.out.setCell (p := ⟨w.heap.size, _, none⟩) (Nat.le_refl _) _).setCell (p := ⟨w.heap.size, _, none⟩) (Nat.le_refl _) _).setCell (p := ⟨w.heap.size, _, none⟩) (Nat.le_refl _) _) HNf.out k 4 rfl (by decide) hks
end Go.Proofs.YthmhadgbhakdlaaDoor

/- markup: two lists of parts are one: solsticeref31.Same. -/
namespace Go.Proofs.YthmhadgbhakdlaaDoor
open Go.RowKit

namespace Mk
theorem add_more (ad : Addr) (i j : Nat) (hj : 0 < j) : ad.add (i + j) = ⟨(ad.add i).block, (ad.add i).off + j, none⟩ := by
  unfold Addr.add
  by_cases hi : i = 0
  · subst hi
    rw [if_pos rfl, if_neg (by omega)]
    simp
  · rw [if_neg hi, if_neg (by omega)]
    simp [Nat.add_assoc]
theorem tk_at : ∀ (l : List T) (avs : List Value) (k : Nat) (t : T) (v : Value) (j : Nat), j < 5 → l[k]? = some t → avs[k]? = some v → (tkCells l avs)[k * 5 + j]? = (tkv t v)[j]?
  | x :: l, y :: vs, 0, t, v, j, hj, h1, h2 => by
    cases h1; cases h2
    rw [tkCells, Nat.zero_mul, Nat.zero_add, List.getElem?_append_left (by unfold tkv; simpa using hj)]
  | x :: l, y :: vs, k + 1, t, v, j, hj, h1, h2 => by
    rw [tkCells, List.getElem?_append_right (by unfold tkv; simp; omega)]
    rw [show (k + 1) * 5 + j - (tkv x y).length = k * 5 + j by unfold tkv; simp; omega]
    exact tk_at l vs k t v j hj h1 h2
  | [], _, _, _, _, _, _, h1, _ => by cases h1
  | _ :: _, [], _, _, _, _, _, _, h2 => by cases h2
/-- A part's cells, where they lie. -/
theorem Parts.cells {w : World} {A : Option Addr} {c k : Nat} {l : List T} {avs : List Value} (h : Parts w A c l avs) (hk : k < l.length) : ∃ ad t A' c', A = some ad ∧ ad.block < w.heap.size ∧ l[k]? = some t ∧ t.attrs.length ≤ c' ∧ c' ≤ maxLen ∧ Reads w w.heap.size 2 A' t.attrs.length (atCells t.attrs) ∧
    w.cell? (ad.add (k * 5)) = some (.int .u8 (t.kind : Int)) ∧ w.cell? ⟨(ad.add (k * 5)).block, (ad.add (k * 5)).off + 1, none⟩ = some (.string (bts t.name)) ∧ w.cell? ⟨(ad.add (k * 5)).block, (ad.add (k * 5)).off + 2, none⟩ = some (.slice A' t.attrs.length c') ∧
    w.cell? ⟨(ad.add (k * 5)).block, (ad.add (k * 5)).off + 3, none⟩ = some (.string (bts t.text)) ∧ w.cell? ⟨(ad.add (k * 5)).block, (ad.add (k * 5)).off + 4, none⟩ = some (.int .i64 (t.at_ : Int)) := by
  obtain ⟨ad, e, hb, hc⟩ := h.tk.2 (by omega)
  obtain ⟨t, ht⟩ : ∃ t, l[k]? = some t := ⟨_, List.getElem?_eq_getElem hk⟩
  obtain ⟨v, hv⟩ : ∃ v, avs[k]? = some v := ⟨_, List.getElem?_eq_getElem (by rw [h.len]; exact hk)⟩
  obtain ⟨A', c', rfl, h1, h2, h3⟩ := h.at_ k t v ht hv
  refine ⟨ad, t, A', c', e, hb, ht, h1, h2, h3, ?_, ?_, ?_, ?_, ?_⟩
  · exact hc (k * 5 + 0) _ (tk_at l avs k t _ 0 (by omega) ht hv)
  all_goals rw [← add_more ad (k * 5) _ (by omega)]
  · exact hc _ _ (tk_at l avs k t _ 1 (by omega) ht hv)
  · exact hc _ _ (tk_at l avs k t _ 2 (by omega) ht hv)
  · exact hc _ _ (tk_at l avs k t _ 3 (by omega) ht hv)
  · exact hc _ _ (tk_at l avs k t _ 4 (by omega) ht hv)
theorem attr_cells {w : World} {A : Option Addr} {k n : Nat} {l : List (Txt × Txt)} (h : Reads w w.heap.size 2 A n (atCells l)) (hn : l.length = n) (hk : k < n) : ∃ ad a, A = some ad ∧ ad.block < w.heap.size ∧ l[k]? = some a ∧
    w.cell? (ad.add (k * 2)) = some (.string (bts a.1)) ∧ w.cell? ⟨(ad.add (k * 2)).block, (ad.add (k * 2)).off + 1, none⟩ = some (.string (bts a.2)) := by
  obtain ⟨ad, e, hb, hc⟩ := h.2 (by omega)
  obtain ⟨a, ha⟩ : ∃ a, l[k]? = some a := ⟨_, List.getElem?_eq_getElem (by omega)⟩
  obtain ⟨h1, h2⟩ := atCells_at ha
  refine ⟨ad, a, e, hb, ha, hc _ _ h1, ?_⟩
  rw [← add_more ad (k * 2) 1 (by omega)]
  exact hc _ _ h2
theorem bts_eq_iff {a b : Txt} : ((bts a).toList = (bts b).toList) ↔ a = b := by
  rw [Lib.toList_data, Lib.toList_data]
  exact Iff.rfl
theorem eq_attr (a b : Txt × Txt) (w : World) : (Op.equalIn 10000 75 (.agg #[.string (bts a.1), .string (bts a.2)]) (.agg #[.string (bts b.1), .string (bts b.2)])).run Tryd.prog w = .ok (decide (a = b)) w := by
  obtain ⟨a0, a1⟩ := a
  obtain ⟨b0, b1⟩ := b
  go_simp
  simp only [bts_eq_iff]
  by_cases h0 : a0 = b0
  · by_cases h1 : a1 = b1
    · subst h0 h1; simp
    · simp [h0, h1]
  · simp [h0]
theorem take_next {α : Type} {l m : List α} {k : Nat} {x : α} (h : l.take k = m.take k) (h1 : l[k]? = some x) (h2 : m[k]? = some x) : l.take (k + 1) = m.take (k + 1) := by rw [List.take_add_one, List.take_add_one, h, h1, h2]
theorem str_bo (a b : Txt) : ((bts a).toList == (bts b).toList) = decide (a = b) := by
  rw [Bool.eq_iff_iff, beq_iff_eq, decide_eq_true_iff]
  exact bts_eq_iff
end Mk
end Go.Proofs.YthmhadgbhakdlaaDoor

/- Right texts, as lists: a character is read from its own bytes alone. -/
namespace Go.Proofs.YthmhadgbhakdlaaDoor
open Go.RowKit

namespace Mk
def nth (l : Txt) (k : Nat) : Nat := (l[k]?.getD 0).toNat
def dL (l : Txt) : Nat × Nat := Lib.decodeN l.length (nth l 0) (nth l 1) (nth l 2) (nth l 3)
theorem get_nth (s : ByteArray) (pos k : Nat) : (s.get! (pos + k)).toNat = nth ((tl s).drop pos) k := by
  unfold nth
  rw [List.getElem?_drop]
  by_cases h : pos + k < s.size
  · rw [Te.get_tl s _ h]; rfl
  · rw [List.getElem?_eq_none (by rw [tl_length]; omega)]
    have : s.get! (pos + k) = default := by
      show s.data[pos + k]! = default
      exact getElem!_neg _ _ h
    rw [this]
    rfl
theorem dec_dL (s : ByteArray) (pos : Nat) : Utf8.decode s pos = dL ((tl s).drop pos) := by
  have h0 := get_nth s pos 0
  rw [Nat.add_zero] at h0
  rw [Lib.decode_at, h0, get_nth, get_nth, get_nth]
  unfold dL
  rw [List.length_drop, tl_length]
set_option maxHeartbeats 2000000 in
theorem decN_local {n b0 b1 b2 b3 x k : Nat} (h : Lib.decodeN n b0 b1 b2 b3 = (x, k)) (hx : x ≠ 65533 ∨ k = 3) {n' c1 c2 c3 : Nat} (hn : k ≤ n') (h1 : 1 < k → c1 = b1) (h2 : 2 < k → c2 = b2) (h3 : 3 < k → c3 = b3) : Lib.decodeN n' b0 c1 c2 c3 = (x, k) := by
  unfold Lib.decodeN at h
  split at h
  · rename_i q; cases h; unfold Lib.decodeN; rw [if_pos q]
  · rename_i q0
    split at h
    · rename_i q1
      split at h
      · rename_i q2
        cases h
        have e1 := h1 (by omega)
        subst e1
        unfold Lib.decodeN
        rw [if_neg q0, if_pos ⟨q1.1, by omega, q1.2.2⟩, if_pos q2]
      · cases h; omega
    · rename_i q1
      split at h
      · rename_i q2
        split at h
        · rename_i q3
          cases h
          have e1 := h1 (by omega)
          have e2 := h2 (by omega)
          subst e1 e2
          unfold Lib.decodeN
          rw [if_neg q0, if_neg (by omega), if_pos ⟨q2.1, ⟨by omega, q2.2.1.2⟩, by omega, q2.2.2.2⟩, if_pos q3]
        · cases h; omega
      · rename_i q2
        split at h
        · rename_i q3
          split at h
          · rename_i q4
            cases h
            have e1 := h1 (by omega)
            have e2 := h2 (by omega)
            have e3 := h3 (by omega)
            subst e1 e2 e3
            unfold Lib.decodeN
            rw [if_neg q0, if_neg (by omega), if_neg (by omega), if_pos ⟨q3.1, ⟨by omega, q3.2.1.2⟩, ⟨by omega, q3.2.2.1.2⟩, by omega, q3.2.2.2.2⟩, if_pos q4]
          · cases h; omega
        · cases h; omega
end Mk
end Go.Proofs.YthmhadgbhakdlaaDoor

/- Right texts, as lists: joined right texts are right, an escaped one too. -/
namespace Go.Proofs.YthmhadgbhakdlaaDoor
open Go.RowKit

namespace Mk
def badL (l : Txt) : Bool := (dL l).1 == 65533 && !(Lib.hasPrefix l Te.wrongL)
theorem bad_eq (s : ByteArray) (pos : Nat) : Te.bad s pos = badL ((tl s).drop pos) := by unfold Te.bad badL; rw [dec_dL]
def rightL : Nat → Txt → Bool
  | 0, _ => true
  | f + 1, l => if l = [] then true else !(badL l) && rightL f (l.drop (dL l).2)
theorem right_eq (s : ByteArray) : ∀ (f pos : Nat), Te.rightFrom s f pos = rightL f ((tl s).drop pos)
  | 0, _ => rfl
  | f + 1, pos => by
    rw [Te.rightFrom, rightL]
    by_cases h : pos < s.size
    · have hne : (tl s).drop pos ≠ [] := fun e => by
        have := congrArg List.length e
        rw [List.length_drop, tl_length] at this
        simp at this
        omega
      rw [if_pos h, if_neg hne, bad_eq, right_eq s f, dec_dL, List.drop_drop]
    · rw [if_neg h, if_pos (List.drop_eq_nil_of_le (by rw [tl_length]; omega))]
theorem right_L (s : ByteArray) : Te.right s = rightL (tl s).length (tl s) := by
  unfold Te.right
  rw [right_eq, tl_length]
  rfl
/-- A right character. -/
def Ch (c : Txt) : Prop := c ≠ [] ∧ ∃ x, ∀ r, dL (c ++ r) = (x, c.length) ∧ badL (c ++ r) = false
inductive Rt : Txt → Prop
  | nil : Rt []
  | cons {c l : Txt} (h : Ch c) (t : Rt l) : Rt (c ++ l)
theorem Rt.app {a b : Txt} (ha : Rt a) (hb : Rt b) : Rt (a ++ b) := by
  induction ha with
  | nil => exact hb
  | cons h _ ih => rw [List.append_assoc]; exact .cons h ih
theorem ch_ascii {b : UInt8} (h : b.toNat < 128) : Ch [b] := by
  refine ⟨by simp, b.toNat, fun r => ?_⟩
  have e : dL ([b] ++ r) = (b.toNat, 1) := by
    unfold dL Lib.decodeN
    exact if_pos h
  refine ⟨e, ?_⟩
  unfold badL
  rw [e]
  have : (b.toNat == 65533) = false := by rw [beq_eq_false_iff_ne]; omega
  simp [this]
theorem rt_ascii : ∀ (l : Txt), (∀ b ∈ l, b.toNat < 128) → Rt l
  | [], _ => .nil
  | b :: l, h => .cons (c := [b]) (ch_ascii (h b (by simp))) (rt_ascii l fun x hx => h x (by simp [hx]))
theorem rt_right {l : Txt} (h : Rt l) : ∀ f, l.length ≤ f → rightL f l = true := by
  induction h with
  | nil => intro f _; cases f <;> rfl
  | @cons c l hc _ ih =>
    intro f hf
    obtain ⟨hne, x, hx⟩ := hc
    have hp := List.length_pos_iff.2 hne
    rw [List.length_append] at hf
    obtain ⟨f, rfl⟩ : ∃ g, f = g + 1 := ⟨f - 1, by omega⟩
    rw [rightL, if_neg (by simp [hne]), (hx l).2, (hx l).1]
    simp only [List.drop_left, Bool.not_false, Bool.true_and]
    exact ih f (by omega)
theorem decN_width {n b0 b1 b2 b3 : Nat} (h : 1 ≤ n) : 1 ≤ (Lib.decodeN n b0 b1 b2 b3).2 ∧ (Lib.decodeN n b0 b1 b2 b3).2 ≤ n := by
  unfold Lib.decodeN
  repeat' split
  all_goals (simp only; omega)
theorem nth_take {l r : Txt} {k j : Nat} (h : j < k) (hk : k ≤ l.length) : nth (l.take k ++ r) j = nth l j := by
  unfold nth
  rw [List.getElem?_append_left (by rw [List.length_take]; omega), List.getElem?_take_of_lt h]
theorem ch_wrong : Ch Te.wrongL := by
  refine ⟨by unfold Te.wrongL; simp, 65533, fun r => ?_⟩
  have e : dL (Te.wrongL ++ r) = (65533, 3) := by
    show Lib.decodeN (r.length + 3) 239 191 189 _ = _
    unfold Lib.decodeN
    rw [if_neg (by decide), if_neg (by omega), if_pos ⟨by decide, ⟨by omega, by decide⟩, by omega, by decide⟩, if_pos (by decide)]
  refine ⟨e, ?_⟩
  unfold badL
  have : Lib.hasPrefix (Te.wrongL ++ r) Te.wrongL = true := by
    show Te.wrongL.isPrefixOf _ = true
    rw [List.isPrefixOf_iff_prefix]
    exact List.prefix_append _ _
  rw [this]
  simp
theorem head_ch {l : Txt} (hne : l ≠ []) (hb : badL l = false) : Ch (l.take (dL l).2) := by
  have hp := List.length_pos_iff.2 hne
  have hw : 1 ≤ (dL l).2 ∧ (dL l).2 ≤ l.length := decN_width hp
  by_cases hx : (dL l).1 = 65533
  · have hpre : Lib.hasPrefix l Te.wrongL = true := by
      unfold badL at hb
      rw [hx] at hb
      simpa using hb
    obtain ⟨r, hr⟩ := List.isPrefixOf_iff_prefix.1 (show Te.wrongL.isPrefixOf l = true from hpre)
    obtain ⟨_, x, hcw⟩ := ch_wrong
    have h2 := (hcw r).1
    rw [hr] at h2
    have h3 : (dL l).2 = 3 := by rw [h2]; rfl
    rw [h3, ← hr]
    exact ch_wrong
  · have hlen : (l.take (dL l).2).length = (dL l).2 := by rw [List.length_take]; omega
    refine ⟨fun e => by rw [e] at hlen; simp at hlen; omega, (dL l).1, fun r => ?_⟩
    have e : dL (l.take (dL l).2 ++ r) = ((dL l).1, (dL l).2) := by
      have h0 : Lib.decodeN l.length (nth l 0) (nth l 1) (nth l 2) (nth l 3) = ((dL l).1, (dL l).2) := rfl
      have h1 := decN_local h0 (.inl hx) (n' := (l.take (dL l).2 ++ r).length) (by rw [List.length_append, hlen]; omega) (fun q => nth_take (r := r) q hw.2) (fun q => nth_take (r := r) q hw.2) (fun q => nth_take (r := r) q hw.2)
      rw [← nth_take (r := r) (show 0 < (dL l).2 from hw.1) hw.2] at h1
      exact h1
    refine ⟨by rw [e, hlen], ?_⟩
    unfold badL
    rw [e]
    have : ((dL l).1 == 65533) = false := by rw [beq_eq_false_iff_ne]; exact hx
    simp [this]
theorem right_rt : ∀ (f : Nat) (l : Txt), l.length ≤ f → rightL f l = true → Rt l
  | 0, l, h, _ => by
    have : l = [] := List.eq_nil_of_length_eq_zero (by omega)
    rw [this]; exact .nil
  | f + 1, l, h, hr => by
    by_cases hne : l = []
    · rw [hne]; exact .nil
    · rw [rightL, if_neg hne, Bool.and_eq_true, Bool.not_eq_true'] at hr
      have hw : 1 ≤ (dL l).2 ∧ (dL l).2 ≤ l.length := decN_width (List.length_pos_iff.2 hne)
      have h1 := head_ch hne hr.1
      have h2 := right_rt f _ (by rw [List.length_drop]; omega) hr.2
      have := Rt.cons h1 h2
      rw [List.take_append_drop] at this
      exact this
theorem rt_iff (s : ByteArray) : Te.right s = true ↔ Rt (tl s) := by
  rw [right_L]
  exact ⟨right_rt _ _ (Nat.le_refl _), fun h => rt_right h _ (Nat.le_refl _)⟩
end Mk
end Go.Proofs.YthmhadgbhakdlaaDoor

/- An escaped text, and one within an element, is right, and has no low byte. -/
namespace Go.Proofs.YthmhadgbhakdlaaDoor
open Go.RowKit

namespace Mk
theorem decN_high {n b0 b1 b2 b3 : Nat} (h : 128 ≤ b0) : (Lib.decodeN n b0 b1 b2 b3).2 ≤ 4 ∧ (1 < (Lib.decodeN n b0 b1 b2 b3).2 → 128 ≤ b1) ∧ (2 < (Lib.decodeN n b0 b1 b2 b3).2 → 128 ≤ b2) ∧ (3 < (Lib.decodeN n b0 b1 b2 b3).2 → 128 ≤ b3) := by
  unfold Lib.decodeN
  repeat' split
  all_goals (simp only; omega)
theorem esc1_high {b : UInt8} (h : 128 ≤ b.toNat) : esc1 b = [b] := by
  unfold esc1
  rw [if_neg (by rintro rfl; exact absurd h (by decide)), if_neg (by rintro rfl; exact absurd h (by decide)), if_neg (by rintro rfl; exact absurd h (by decide)), if_neg (by rintro rfl; exact absurd h (by decide)), if_neg (by rintro rfl; exact absurd h (by decide))]
theorem esc_high : ∀ (l : Txt), (∀ b ∈ l, 128 ≤ b.toNat) → esc l = l
  | [], _ => rfl
  | b :: l, h => by
    have ih := esc_high l fun x hx => h x (by simp [hx])
    unfold esc at ih ⊢
    rw [List.flatMap_cons, ih, esc1_high (h b (by simp))]
    rfl
theorem ch_cases {c : Txt} (h : Ch c) : (∃ b, c = [b] ∧ b.toNat < 128) ∨ ∀ b ∈ c, 128 ≤ b.toNat := by
  obtain ⟨hne, x, hx⟩ := h
  have h0 := (hx []).1
  rw [List.append_nil] at h0
  have h2 : (dL c).2 = c.length := by rw [h0]
  match c, hne with
  | b :: r, _ =>
    by_cases hb : b.toNat < 128
    · have e : dL (b :: r) = (b.toNat, 1) := by
        unfold dL Lib.decodeN
        exact if_pos hb
      rw [e] at h2
      have : r = [] := List.eq_nil_of_length_eq_zero (by have h3 : 1 = r.length + 1 := h2; omega)
      subst this
      exact .inl ⟨b, rfl, hb⟩
    · right
      have hh := decN_high (n := (b :: r).length) (b0 := nth (b :: r) 0) (b1 := nth (b :: r) 1) (b2 := nth (b :: r) 2) (b3 := nth (b :: r) 3) (show 128 ≤ b.toNat by omega)
      have hd : (Lib.decodeN (b :: r).length (nth (b :: r) 0) (nth (b :: r) 1) (nth (b :: r) 2) (nth (b :: r) 3)).2 = (b :: r).length := h2
      rw [hd] at hh
      intro y hy
      obtain ⟨j, hj, rfl⟩ := List.mem_iff_getElem.1 hy
      have hn : nth (b :: r) j = ((b :: r)[j]).toNat := by unfold nth; rw [List.getElem?_eq_getElem hj]; rfl
      rw [← hn]
      rcases (by omega : j = 0 ∨ j = 1 ∨ j = 2 ∨ j = 3) with rfl | rfl | rfl | rfl
      · show 128 ≤ b.toNat; omega
      · exact hh.2.1 hj
      · exact hh.2.2.1 hj
      · exact hh.2.2.2 hj
theorem esc1_ascii {b : UInt8} (h : b.toNat < 128) : ∀ x ∈ esc1 b, x.toNat < 128 := by
  unfold esc1
  repeat' split
  all_goals
    intro x hx
    simp at hx
    first
      | (subst hx; exact h)
      | (rcases hx with rfl | rfl | rfl | rfl <;> decide)
      | (rcases hx with rfl | rfl | rfl | rfl | rfl <;> decide)
      | (rcases hx with rfl | rfl | rfl | rfl | rfl | rfl <;> decide)
theorem esc_ap (a b : Txt) : esc (a ++ b) = esc a ++ esc b := by unfold esc; rw [List.flatMap_append]
theorem rt_esc {l : Txt} (h : Rt l) : Rt (esc l) := by
  induction h with
  | nil => exact .nil
  | @cons c l hc _ ih =>
    rw [esc_ap]
    refine Rt.app ?_ ih
    rcases ch_cases hc with ⟨b, rfl, hb⟩ | hall
    · have : esc [b] = esc1 b := by unfold esc; rw [List.flatMap_cons, List.flatMap_nil, List.append_nil]
      rw [this]
      exact rt_ascii _ (esc1_ascii hb)
    · rw [esc_high c hall]
      have := Rt.cons hc .nil
      rw [List.append_nil] at this
      exact this
theorem rt_wrap {l : Txt} (h : Rt l) : Rt (wrap (esc l)) := by
  unfold wrap
  exact (((rt_ascii _ (by decide)).app (rt_esc h)).app (rt_ascii _ (by decide))).app (rt_esc h) |>.app (rt_ascii _ (by decide))
theorem low_esc {l : Txt} (h : ∀ b ∈ l, low b = false) : ∀ b ∈ esc l, low b = false := by
  intro b hb
  unfold esc at hb
  obtain ⟨x, hx, hm⟩ := List.mem_flatMap.1 hb
  have h2 := h x hx
  revert hm
  unfold esc1
  repeat' split
  all_goals
    intro hm
    simp at hm
    first
      | (subst hm; exact h2)
      | (rcases hm with rfl | rfl | rfl | rfl <;> decide)
      | (rcases hm with rfl | rfl | rfl | rfl | rfl <;> decide)
      | (rcases hm with rfl | rfl | rfl | rfl | rfl | rfl <;> decide)
theorem low_wrap {l : Txt} (h : ∀ b ∈ l, low b = false) : ∀ b ∈ wrap (esc l), low b = false := by
  intro b hb
  unfold wrap at hb
  simp only [List.mem_append] at hb
  have h1 : ∀ b ∈ ([60, 97, 32, 98, 61, 34] : Txt), low b = false := by decide
  have h2 : ∀ b ∈ ([34, 62] : Txt), low b = false := by decide
  have h3 : ∀ b ∈ ([60, 47, 97, 62] : Txt), low b = false := by decide
  rcases hb with (((hb | hb) | hb) | hb) | hb
  · exact h1 b hb
  · exact low_esc h b hb
  · exact h2 b hb
  · exact low_esc h b hb
  · exact h3 b hb
end Mk
end Go.Proofs.YthmhadgbhakdlaaDoor

/- markup: what the laws of layer 31 ask first: answers that the document gives. -/
namespace Go.Proofs.YthmhadgbhakdlaaDoor
open Go.RowKit

namespace Mk
theorem fine_ascii {s : ByteArray} (h : s.size ≤ 1048576) (h1 : ∀ b ∈ tl s, b.toNat < 128) (h2 : ∀ b ∈ tl s, low b = false) : Fine s := ⟨h, (rt_iff s).2 (rt_ascii _ h1), h2⟩
def want : List T := [⟨1, [97], [([98], [49, 60, 50]), ([99], [39])], [], 6⟩, ⟨3, [], [], [120, 65], 38⟩, ⟨1, [100], [], [], 44⟩, ⟨2, [100], [], [], 44⟩, ⟨2, [97], [], [], 48⟩]
/-- Tokens of a text that is right. -/
theorem tok_ok (s : ByteArray) (st : S) (hf : Fine s) (h : tokens (tl s) = .inr st) (w : World) (hW : Wl w) :
    Calls Tryd.prog 10 #[.string s] w fun e w' => (∃ A c avs, e = .returned (.tuple #[.slice A st.toks.length c, .agg #[.int .i64 0, .int .i64 0, .int .i64 0]]) ∧ Parts w' A c st.toks avs) ∧ Below w.heap.size w w' := by
  refine (tokens_any s (Nat.le_trans hf.1 (by unfold maxLen; omega)) w hW).mono ?_
  rintro e w' ⟨hb, h1, _⟩
  have h2 := h1 hf
  rw [h] at h2
  exact ⟨h2, hb⟩
/-- Tokens of a text that is not. -/
theorem tok_bad (s : ByteArray) (c y : Nat) (hf : Fine s) (h : tokens (tl s) = .inl (c, y)) (w : World) (hW : Wl w) :
    Calls Tryd.prog 10 #[.string s] w fun e w' => e = .returned (.tuple #[.slice none 0 0, .agg #[.int .i64 0, .int .i64 (c : Int), .int .i64 (y : Int)]]) ∧ Below w.heap.size w w' := by
  refine (tokens_any s (Nat.le_trans hf.1 (by unfold maxLen; omega)) w hW).mono ?_
  rintro e w' ⟨hb, h1, _⟩
  have h2 := h1 hf
  rw [h] at h2
  exact ⟨h2, hb⟩
theorem esc_ok (s : ByteArray) (hf : Fine s) (w : World) : Calls Tryd.prog 7 #[.string s] w fun e w' => e = .returned (.tuple #[.string (bts (esc (tl s))), .int .i64 0]) ∧ Below w.heap.size w w' := by
  refine (escape_any s (Nat.le_trans hf.1 (by omega)) w).mono ?_
  rintro e w' ⟨⟨E, v, rfl, h⟩, hb⟩
  rcases h with ⟨rfl, rfl, _⟩ | ⟨_, _, h⟩
  · exact ⟨rfl, hb⟩
  · exact absurd ⟨hf.2.1, hf.2.2⟩ h
theorem esc_no (s : ByteArray) (hs : s.size ≤ 100000000) (hf : ¬ (Te.right s = true ∧ ∀ b ∈ tl s, low b = false)) (w : World) : Calls Tryd.prog 7 #[.string s] w fun e w' => e = .returned (.tuple #[.string ⟨#[]⟩, .int .i64 11]) ∧ Below w.heap.size w w' := by
  refine (escape_any s hs w).mono ?_
  rintro e w' ⟨⟨E, v, rfl, h⟩, hb⟩
  rcases h with ⟨_, _, h1, h2⟩ | ⟨rfl, rfl, _⟩
  · exact absurd ⟨h1, h2⟩ hf
  · exact ⟨rfl, hb⟩
theorem parts_want (w : World) : Parts ((w.alloc (.cells #[.string ⟨#[98]⟩, .string ⟨#[49, 60, 50]⟩, .string ⟨#[99]⟩, .string ⟨#[39]⟩] 75)).alloc (.cells #[.int .u8 1, .string ⟨#[97]⟩, .slice (some ⟨w.heap.size, 0, none⟩) 2 2, .string ⟨#[]⟩, .int .i64 6, .int .u8 3, .string ⟨#[]⟩, .slice none 0 0, .string ⟨#[120, 65]⟩, .int .i64 38, .int .u8 1, .string ⟨#[100]⟩, .slice none 0 0, .string ⟨#[]⟩, .int .i64 44, .int .u8 2, .string ⟨#[100]⟩, .slice none 0 0, .string ⟨#[]⟩, .int .i64 44, .int .u8 2, .string ⟨#[97]⟩, .slice none 0 0, .string ⟨#[]⟩, .int .i64 48] 59)) (some ⟨w.heap.size + 1, 0, none⟩) 5 want [.slice (some ⟨w.heap.size, 0, none⟩) 2 2, .slice none 0 0, .slice none 0 0, .slice none 0 0, .slice none 0 0] := by
  have HA := (At.new w #[.string ⟨#[98]⟩, .string ⟨#[49, 60, 50]⟩, .string ⟨#[99]⟩, .string ⟨#[39]⟩] 75).allocO (.cells #[.int .u8 1, .string ⟨#[97]⟩, .slice (some ⟨w.heap.size, 0, none⟩) 2 2, .string ⟨#[]⟩, .int .i64 6, .int .u8 3, .string ⟨#[]⟩, .slice none 0 0, .string ⟨#[120, 65]⟩, .int .i64 38, .int .u8 1, .string ⟨#[100]⟩, .slice none 0 0, .string ⟨#[]⟩, .int .i64 44, .int .u8 2, .string ⟨#[100]⟩, .slice none 0 0, .string ⟨#[]⟩, .int .i64 44, .int .u8 2, .string ⟨#[97]⟩, .slice none 0 0, .string ⟨#[]⟩, .int .i64 48] 59)
  have HT := At.new (w.alloc (.cells #[.string ⟨#[98]⟩, .string ⟨#[49, 60, 50]⟩, .string ⟨#[99]⟩, .string ⟨#[39]⟩] 75)) #[.int .u8 1, .string ⟨#[97]⟩, .slice (some ⟨w.heap.size, 0, none⟩) 2 2, .string ⟨#[]⟩, .int .i64 6, .int .u8 3, .string ⟨#[]⟩, .slice none 0 0, .string ⟨#[120, 65]⟩, .int .i64 38, .int .u8 1, .string ⟨#[100]⟩, .slice none 0 0, .string ⟨#[]⟩, .int .i64 44, .int .u8 2, .string ⟨#[100]⟩, .slice none 0 0, .string ⟨#[]⟩, .int .i64 44, .int .u8 2, .string ⟨#[97]⟩, .slice none 0 0, .string ⟨#[]⟩, .int .i64 48] 59
  rw [World.size_alloc] at HT
  refine ⟨rfl, ⟨by decide, by decide⟩, ⟨rfl, fun _ => ⟨_, rfl, HT.lt, fun j u hu => ?_⟩⟩, fun k t v ht hv => ?_⟩
  · rw [add_off]
    exact HT.cell j u hu
  · match k, ht, hv with
    | 0, ht, hv =>
      cases ht; cases hv
      refine ⟨_, _, rfl, by decide, by decide, rfl, fun _ => ⟨_, rfl, HA.lt, fun j u hu => ?_⟩⟩
      rw [add_off]
      exact HA.cell j u hu
    | 1, ht, hv => cases ht; cases hv; exact ⟨_, _, rfl, by decide, by decide, Reads.none_⟩
    | 2, ht, hv => cases ht; cases hv; exact ⟨_, _, rfl, by decide, by decide, Reads.none_⟩
    | 3, ht, hv => cases ht; cases hv; exact ⟨_, _, rfl, by decide, by decide, Reads.none_⟩
    | 4, ht, hv => cases ht; cases hv; exact ⟨_, _, rfl, by decide, by decide, Reads.none_⟩
    | k + 5, ht, hv => cases ht
theorem lf0 : Fine ⟨#[60, 63, 120, 63, 62, 10, 60, 97, 32, 98, 61, 39, 49, 38, 108, 116, 59, 50, 39, 32, 99, 32, 61, 32, 34, 39, 34, 62, 60, 33, 45, 45, 32, 45, 32, 45, 45, 62, 120, 38, 35, 54, 53, 59, 60, 100, 47, 62, 60, 47, 97, 32, 62, 10]⟩ := fine_ascii (by decide) (by decide +kernel) (by decide +kernel)
theorem lk0 : tokens [60, 63, 120, 63, 62, 10, 60, 97, 32, 98, 61, 39, 49, 38, 108, 116, 59, 50, 39, 32, 99, 32, 61, 32, 34, 39, 34, 62, 60, 33, 45, 45, 32, 45, 32, 45, 45, 62, 120, 38, 35, 54, 53, 59, 60, 100, 47, 62, 60, 47, 97, 32, 62, 10] = .inr ⟨want, [], true⟩ := by kernel_rfl
theorem lf1 : Fine ⟨#[60, 97, 62, 60, 47, 98, 62]⟩ := fine_ascii (by decide) (by decide +kernel) (by decide +kernel)
theorem lk1 : tokens [60, 97, 62, 60, 47, 98, 62] = .inl (3, 12) := by kernel_rfl
theorem lf2 : Fine ⟨#[60, 97, 62, 38, 120, 59, 60, 47, 97, 62]⟩ := fine_ascii (by decide) (by decide +kernel) (by decide +kernel)
theorem lk2 : tokens [60, 97, 62, 38, 120, 59, 60, 47, 97, 62] = .inl (3, 3) := by kernel_rfl
theorem lf3 : Fine ⟨#[60, 97, 32, 98, 61, 39, 49, 39, 32, 98, 61, 39, 50, 39, 47, 62]⟩ := fine_ascii (by decide) (by decide +kernel) (by decide +kernel)
theorem lk3 : tokens [60, 97, 32, 98, 61, 39, 49, 39, 32, 98, 61, 39, 50, 39, 47, 62] = .inl (0, 8) := by kernel_rfl
theorem lf4 : Fine ⟨#[60, 97, 62]⟩ := fine_ascii (by decide) (by decide +kernel) (by decide +kernel)
theorem lk4 : tokens [60, 97, 62] = .inl (3, 5) := by kernel_rfl
theorem lf5 : Fine ⟨#[120, 60, 97, 47, 62]⟩ := fine_ascii (by decide) (by decide +kernel) (by decide +kernel)
theorem lk5 : tokens [120, 60, 97, 47, 62] = .inl (0, 12) := by kernel_rfl
theorem lr1 : resolve [97, 38, 97, 109, 112, 59, 38, 35, 120, 50, 48, 65, 67, 59] = ([97, 38, 226, 130, 172], 0, 0) := by kernel_rfl
theorem lr2 : resolve [97, 98, 38, 35, 48, 59] = ([], 2, 1) := by kernel_rfl
theorem le1 : esc [60, 97, 38, 39, 34, 62] = [38, 108, 116, 59, 97, 38, 97, 109, 112, 59, 38, 97, 112, 111, 115, 59, 38, 113, 117, 111, 116, 59, 38, 103, 116, 59] := by kernel_rfl
theorem lef : Fine ⟨#[60, 97, 38, 39, 34, 62]⟩ := fine_ascii (by decide) (by decide +kernel) (by decide +kernel)
theorem leb : ¬ (Te.right ⟨#[1]⟩ = true ∧ ∀ b ∈ tl ⟨#[1]⟩, low b = false) := fun h => by have := h.2 1 (by decide); revert this; decide
end Mk
end Go.Proofs.YthmhadgbhakdlaaDoor

/- markup: the law MarkupBack, walked. -/
namespace Go.Proofs.YthmhadgbhakdlaaDoor
open Go.RowKit

namespace Mk
theorem add_bts (a b : Txt) (h : a.length + b.length ≤ 9000000000000000000) (W : World) : (Op.stringOp .add (bts a) (bts b)).run Tryd.prog W = .ok (.string (bts (a ++ b))) W := by
  have e : bts (a ++ b) = bts a ++ bts b := by
    apply ByteArray.ext
    unfold bts
    rw [ByteArray.data_append]
    simp
  rw [e]
  exact run_string_add_sum W _ _ (by rw [bts_size, bts_size]; omega)
theorem addr_zero (a : Addr) : a.add 0 = a := by unfold Addr.add; rw [if_pos rfl]
end Mk
end Go.Proofs.YthmhadgbhakdlaaDoor
