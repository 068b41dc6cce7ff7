/- markup: the contract of Tokens. -/
import Derived.Test.YtjbgmbhifnihaaaDoorP15
import Derived.Test.YtjbgmbhifnihaaaDoorP05

namespace Go.Proofs.YtjbgmbhifnihaaaDoor
open Go.RowKit

namespace Mk
/-- Parts that can be read. -/
structure Parts (w : World) (A : Option Addr) (c : Nat) (l : List T) (avs : List Value) : Prop where
  len : avs.length = l.length
  cap : l.length ≤ c ∧ c ≤ maxLen
  tk : Reads w w.heap.size 5 A l.length (tkCells l avs)
  at_ : ∀ (k : Nat) (t : T) (v : Value), l[k]? = some t → avs[k]? = some v → ∃ A' c', v = .slice A' t.attrs.length c' ∧ t.attrs.length ≤ c' ∧ c' ≤ maxLen ∧ Reads w w.heap.size 2 A' t.attrs.length (atCells t.attrs)
theorem own_cap {w : World} {base : Nat} {e : TypeId} {size n : Nat} {v : Value} {xs : List Value} (h : w.ownsRow base e size v n xs) : ∃ A c, v = .slice A n c ∧ n ≤ c ∧ c ≤ maxLen := by
  rcases h.2 with ⟨rfl, rfl⟩ | ⟨g, cap, cur, rfl, _, _, h1, h2, _⟩
  · exact ⟨none, 0, rfl, Nat.le_refl _, Nat.zero_le _⟩
  · exact ⟨_, cap, rfl, h1, h2⟩
theorem atRows_mem : ∀ (l : List T) (vs : List Value) (k : Nat) (t : T) (v : Value), l[k]? = some t → vs[k]? = some v → atRow t v ∈ atRows l vs
  | x :: l, y :: vs, 0, t, v, h1, h2 => by cases h1; cases h2; rw [atRows]; exact List.mem_cons_self
  | x :: l, y :: vs, k + 1, t, v, h1, h2 => by rw [atRows]; exact List.mem_cons_of_mem _ (atRows_mem l vs k t v h1 h2)
  | [], _, _, _, _, h1, _ => by cases h1
  | _ :: _, [], _, _, _, _, h2 => by cases h2
theorem Wk.parts {w : World} {g : Nat} {s : ByteArray} {st : S} {tv ov : Value} {avs : List Value} (h : Wk w g s st tv ov avs []) : ∃ A c, tv = .slice A st.toks.length c ∧ Parts w A c st.toks avs := by
  obtain ⟨A, c, e, h1, h2⟩ := own_cap h.tk
  subst e
  refine ⟨A, c, rfl, h.len, ⟨h1, h2⟩, Reads.of_own h.tk, fun k t v ht hv => ?_⟩
  have hr := h.many.own _ (List.mem_cons_of_mem _ (List.mem_cons_of_mem _ (List.mem_append_right _ (atRows_mem _ _ k t v ht hv))))
  obtain ⟨A', c', e, h3, h4⟩ := own_cap hr
  have e2 : v = .slice A' t.attrs.length c' := e
  subst e2
  exact ⟨A', c', rfl, h3, h4, Reads.of_own hr⟩
theorem Parts.call {w w' : World} {A : Option Addr} {c : Nat} {l : List T} {avs : List Value} (h : Parts w A c l avs) (hb : Below w.heap.size w w') : Parts w' A c l avs :=
  ⟨h.len, h.cap, (h.tk.below hb).more hb.size, fun k t v ht hv => by
    obtain ⟨A', c', e, h1, h2, h3⟩ := h.at_ k t v ht hv
    exact ⟨A', c', e, h1, h2, (h3.below hb).more hb.size⟩⟩
def Fine (s : ByteArray) : Prop := s.size ≤ 1048576 ∧ Te.right s = true ∧ ∀ b ∈ tl s, low b = false
/-- What Tokens answers. -/
def TokRet (w : World) (s : ByteArray) (e : Ending) (w' : World) : Prop :=
  Below w.heap.size w w' ∧
  (Fine s → match tokens (tl s) with
    | .inl x => e = .returned (.tuple #[.slice none 0 0, .agg #[.int .i64 0, .int .i64 (x.1 : Int), .int .i64 (x.2 : Int)]])
    | .inr st => ∃ A c avs, e = .returned (.tuple #[.slice A st.toks.length c, .agg #[.int .i64 0, .int .i64 0, .int .i64 0]]) ∧ Parts w' A c st.toks avs) ∧
  (¬ Fine s → ∃ c y : Nat, e = .returned (.tuple #[.slice none 0 0, .agg #[.int .i64 0, .int .i64 (c : Int), .int .i64 (y : Int)]]) ∧ y ≠ 0 ∧ c ≤ s.size)
theorem TokRet.bad {w w' : World} {s : ByteArray} {e : Ending} (hb : Below w.heap.size w w') (hf : ¬ Fine s) (c y : Nat) (he : e = .returned (.tuple #[.slice none 0 0, .agg #[.int .i64 0, .int .i64 (c : Int), .int .i64 (y : Int)]])) (hy : y ≠ 0) (hc : c ≤ s.size) : TokRet w s e w' :=
  ⟨hb, fun h => absurd h hf, fun _ => ⟨c, y, he, hy, hc⟩⟩
theorem wk_start (w : World) (s : ByteArray) : Wk (w.alloc (.cells #[.string s, .slice none 0 0, .slice none 0 0, .bool false] 69)) w.heap.size s start (.slice none 0 0) (.slice none 0 0) [] [] :=
  ⟨At.new w _ _, rfl, (Many.nil_.add0 9 1).add0 38 5⟩
end Mk
set_option maxHeartbeats 4000000 in
set_option maxRecDepth 100000 in
theorem tokens_any (s : ByteArray) (hs : s.size ≤ maxLen) (w : World) (hW : Wl w) :
    Calls Tryd.prog 11 #[.string s] w (Mk.TokRet w s) := by
  have hs' := hs
  unfold maxLen at hs
  have HFt := Lib.hid (fun (c y : Int) W => fault_any c y W)
  have HB0 := Lib.hid (Mk.below_new w (.cells #[.int .i64 0, .int .i64 0, .int .i64 0] 32))
  have HZ0 : Hid (At (w.alloc (.cells #[.int .i64 0, .int .i64 0, .int .i64 0] 32)) w.heap.size [.int .i64 0, .int .i64 0, .int .i64 0]) := At.new _ _ _
  by_cases hl : 1048576 < s.size
  · have q1 : (1048576 : Int) < (s.size : Int) := by omega
    have hnf : ¬ Mk.Fine s := fun h => by have := h.1; omega
    have HNf := Lib.hid hnf
    clear hnf hl hW hs'
    go_enter Tryd.func11, Tryd.ntmps11
    go_wp2_with fail
    refine (HFt.out _ _ _).mono ?_
    rintro e w1 ⟨rfl, hb⟩
    have HB1 := Lib.hid (below_then HB0.out hb)
    have HZ1 := Lib.hid (HZ0.out.call hb)
    clear hb
    have hz1 := HZ1.out.lt
    obtain ⟨f0, f1, f2, e5, e6, e7⟩ := HZ1.out.three
    go_wp2
    refine bodyPost_ret (v := .tuple #[.slice none 0 0, .agg #[.int .i64 0, .int .i64 0, .int .i64 6]]) (by simp [results, Tryd.results11, go_sem, *]) rfl ?_
    exact Mk.TokRet.bad (((HB1.out.setCell (p := ⟨w.heap.size, _, none⟩) (Nat.le_refl _) _).setCell (p := ⟨w.heap.size, _, none⟩) (Nat.le_refl _) _).setCell (p := ⟨w.heap.size, _, none⟩) (Nat.le_refl _) _) HNf.out 0 6 rfl (by decide) (Nat.zero_le _)
  have q1 : ¬ (1048576 : Int) < (s.size : Int) := by omega
  have HU := Lib.hid (fun W => utfPlace_any s hs' W)
  cases hr : Te.right s with
  | false =>
    rw [hr] at HU
    have hnf : ¬ Mk.Fine s := fun h => by have := h.2.1; rw [hr] at this; cases this
    have HNf := Lib.hid hnf
    have HU2 : Hid (∀ W, Calls Tryd.prog 9 #[.string s] W fun e w' => (∃ i : Nat, i ≤ s.size ∧ e = .returned (.tuple #[.int .i64 (i : Int), .int .i64 11])) ∧ Below W.heap.size W w') := HU
    clear hnf hl hW hs' hr HU
    go_enter Tryd.func11, Tryd.ntmps11
    go_wp2_with fail
    refine (HU2.out _).mono ?_
    rintro e w1 ⟨⟨i, hi, rfl⟩, hb⟩
    have HB1 := Lib.hid (below_then HB0.out hb)
    have HZ1 := Lib.hid (HZ0.out.call hb)
    clear hb
    go_wp2_with fail
    refine (HFt.out _ _ _).mono ?_
    rintro e w2 ⟨rfl, hb⟩
    have HB2 := Lib.hid (below_then HB1.out hb)
    have HZ2 := Lib.hid (HZ1.out.call hb)
    clear hb
    have hz1 := HZ2.out.lt
    obtain ⟨f0, f1, f2, e5, e6, e7⟩ := HZ2.out.three
    go_wp2
    refine bodyPost_ret (v := .tuple #[.slice none 0 0, .agg #[.int .i64 0, .int .i64 (i : Int), .int .i64 11]]) (by simp [results, Tryd.results11, go_sem, *]) rfl ?_
    exact Mk.TokRet.bad (((HB2.out.setCell (p := ⟨w.heap.size, _, none⟩) (Nat.le_refl _) _).setCell (p := ⟨w.heap.size, _, none⟩) (Nat.le_refl _) _).setCell (p := ⟨w.heap.size, _, none⟩) (Nat.le_refl _) _) HNf.out i 11 rfl (by decide) hi
  | true =>
    rw [hr] at HU
    have HU2 : Hid (∀ W, Calls Tryd.prog 9 #[.string s] W fun e w' => (∃ i : Nat, i ≤ s.size ∧ e = .returned (.tuple #[.int .i64 (i : Int), .int .i64 0])) ∧ Below W.heap.size W w') := HU
    have HBy := Lib.hid (fun W => badByte_any s hs' W)
    have HR := Lib.hid hr
    clear HU hr
    have hl' : s.size ≤ 1048576 := by omega
    have HW := Lib.hid hW
    clear hs' hW hl
    go_enter Tryd.func11, Tryd.ntmps11
    go_wp2_with fail
    refine (HU2.out _).mono ?_
    rintro e w1 ⟨⟨i, hi, rfl⟩, hb⟩
    have HB1 := Lib.hid (below_then HB0.out hb)
    have HZ1 := Lib.hid (HZ0.out.call hb)
    have HBt := Lib.hid hb
    clear hb
    go_wp2_with fail
    refine (HBy.out _).mono ?_
    rintro e w2 ⟨⟨n, rfl, hn⟩, rfl⟩
    rcases hn with ⟨rfl, hall⟩ | ⟨k, rfl, hk, b, hb, hlow⟩
    · have hf : Mk.Fine s := ⟨hl', HR.out, hall⟩
      have HF := Lib.hid hf
      have HTh := Lib.hid (through_any (w1.alloc (.cells #[.string s, .slice none 0 0, .slice none 0 0, .bool false] 69)) w1.heap.size s (.slice none 0 0) (.slice none 0 0) (by omega) (Mk.wk_start w1 s) ((HW.out.below HB1.out).below (Mk.below_new _ _)))
      clear hf hall
      have hz1 := HZ1.out.lt
      have HZa := Lib.hid (HZ1.out.allocO (.cells #[.string s, .slice none 0 0, .slice none 0 0, .bool false] 69))
      have HB2 := Lib.hid (HB1.out.alloc HB1.out.size (.cells #[.string s, .slice none 0 0, .slice none 0 0, .bool false] 69))
      go_wp2_with fail
      refine HTh.out.mono ?_
      intro e w3 hret
      have hz3 := hret.1.at_ HZa.out (by
        rintro ((h | h | h) | h)
        · have := HZ1.out.lt; omega
        · cases h
        · cases h
        · exact h)
      have hb3 : Below w.heap.size (w1.alloc (.cells #[.string s, .slice none 0 0, .slice none 0 0, .bool false] 69)) w3 := hret.1.below (fun j h => by
        rcases h with (h | h | h) | h
        · have := HB1.out.size; omega
        · cases h
        · cases h
        · exact h.elim) (by rw [World.size_alloc]; have := HB1.out.size; omega)
      have HZ3 := Lib.hid hz3
      have HB3 := Lib.hid (HB2.out.trans hb3)
      clear hz3 hb3
      have hz3 := HZ3.out.lt
      obtain ⟨f0, f1, f2, e5, e6, e7⟩ := HZ3.out.three
      cases htk : Mk.tokens (tl s) with
      | inl x =>
        obtain ⟨c, y⟩ := x
        rw [htk] at hret
        obtain rfl := hret.2
        have hE := Mk.flt_some (c : Int) (y : Int) (by have := (Mk.tokens_why htk).1; simpa using this)
        have HTk := Lib.hid htk
        clear hret htk
        have HNw := Lib.hid (At.new w3 #[.int .i64 0, .int .i64 (c : Int), .int .i64 (y : Int)] 32)
        obtain ⟨n0, n1, n2, _⟩ := HNw.out.three
        go_wp2
        go_region
        all_goals go_wp2
        all_goals refine bodyPost_ret (v := .tuple #[.slice none 0 0, .agg #[.int .i64 0, .int .i64 (c : Int), .int .i64 (y : Int)]]) (by simp [results, Tryd.results11, go_sem, *]) rfl ⟨?_, fun _ => by rw [HTk.out], fun h => absurd HF.out h⟩
        all_goals exact Below.drew (Below.alloc (((HB3.out.setCell (p := ⟨w.heap.size, _, none⟩) (Nat.le_refl _) _).setCell (p := ⟨w.heap.size, _, none⟩) (Nat.le_refl _) _).setCell (p := ⟨w.heap.size, _, none⟩) (Nat.le_refl _) _) (by simp only [heap_set]; exact HB3.out.size) _)
      | inr st =>
        rw [htk] at hret
        obtain ⟨rfl, tv2, ov2, avs2, hwk, _, _⟩ := hret.2
        have hE := Mk.flt_zero
        obtain ⟨A, c, rfl, hparts⟩ := hwk.parts
        have c1 := hwk.at_.cell 1 _ rfl
        have zg := hwk.at_.lt
        have HTk := Lib.hid htk
        have HWk := Lib.hid hwk
        have HTy := Lib.hid (Mk.Ty.kp (((Mk.Ty.new w #[.int .i64 0, .int .i64 0, .int .i64 0]).call HBt.out).call (Mk.below_new w1 (.cells #[.string s, .slice none 0 0, .slice none 0 0, .bool false] 69))) hret.1 (by
          rintro ((h | h | h) | h)
          · have := HZ1.out.lt; omega
          · cases h
          · cases h
          · exact h))
        have hgw : w.heap.size ≠ w1.heap.size := by have := HZ1.out.lt; omega
        have HP : Hid (∀ (x y z : Value) (o : Obj), Mk.Parts ((((w3.setCell ⟨w.heap.size, 0, none⟩ x).setCell ⟨w.heap.size, 1, none⟩ y).setCell ⟨w.heap.size, 2, none⟩ z).alloc o) A c st.toks avs2) := fun x y z o => by
          obtain ⟨A', c', e', hp'⟩ := ((HWk.out.setF3 HTy.out hgw x y z).alloc o).parts
          injection e' with e1 _ e2
          subst e1 e2
          exact hp'
        clear hret htk hwk hparts
        go_wp2
        refine bodyPost_ret (v := .tuple #[.slice A st.toks.length c, .agg #[.int .i64 0, .int .i64 0, .int .i64 0]]) (by simp [results, Tryd.results11, go_sem, *]) rfl ⟨?_, fun _ => by rw [HTk.out]; exact ⟨A, c, avs2, rfl, HP.out _ _ _ _⟩, fun h => absurd HF.out h⟩
        exact Below.alloc (((HB3.out.setCell (p := ⟨w.heap.size, _, none⟩) (Nat.le_refl _) _).setCell (p := ⟨w.heap.size, _, none⟩) (Nat.le_refl _) _).setCell (p := ⟨w.heap.size, _, none⟩) (Nat.le_refl _) _) (by simp only [heap_set]; exact HB3.out.size) _
    · have hnf : ¬ Mk.Fine s := fun h => by have := h.2.2 b hb; rw [hlow] at this; cases this
      have HNf := Lib.hid hnf
      have q5 : (0 : Int) ≤ (k : Int) := by omega
      have hks : k ≤ s.size := by rw [← tl_length]; omega
      clear hnf hk hb hlow
      go_wp2_with fail
      refine (HFt.out _ _ _).mono ?_
      rintro e w2 ⟨rfl, hb⟩
      have HB2 := Lib.hid (below_then HB1.out hb)
      have HZ2 := Lib.hid (HZ1.out.call hb)
      clear hb
      have hz1 := HZ2.out.lt
      obtain ⟨f0, f1, f2, e5, e6, e7⟩ := HZ2.out.three
      go_wp2
      refine bodyPost_ret (v := .tuple #[.slice none 0 0, .agg #[.int .i64 0, .int .i64 (k : Int), .int .i64 4]]) (by simp [results, Tryd.results11, go_sem, *]) rfl ?_
      exact Mk.TokRet.bad (((HB2.out.setCell (p := ⟨w.heap.size, _, none⟩) (Nat.le_refl _) _).setCell (p := ⟨w.heap.size, _, none⟩) (Nat.le_refl _) _).setCell (p := ⟨w.heap.size, _, none⟩) (Nat.le_refl _) _) HNf.out k 4 rfl (by decide) hks
end Go.Proofs.YtjbgmbhifnihaaaDoor

/- markup: two lists of parts are one: solsticeref31.Same. -/
namespace Go.Proofs.YtjbgmbhifnihaaaDoor
open Go.RowKit

namespace Mk
theorem add_more (ad : Addr) (i j : Nat) (hj : 0 < j) : ad.add (i + j) = ⟨(ad.add i).block, (ad.add i).off + j, none⟩ := by
  unfold Addr.add
  by_cases hi : i = 0
  · subst hi
    rw [if_pos rfl, if_neg (by omega)]
    simp
  · rw [if_neg hi, if_neg (by omega)]
    simp [Nat.add_assoc]
theorem tk_at : ∀ (l : List T) (avs : List Value) (k : Nat) (t : T) (v : Value) (j : Nat), j < 5 → l[k]? = some t → avs[k]? = some v → (tkCells l avs)[k * 5 + j]? = (tkv t v)[j]?
  | x :: l, y :: vs, 0, t, v, j, hj, h1, h2 => by
    cases h1; cases h2
    rw [tkCells, Nat.zero_mul, Nat.zero_add, List.getElem?_append_left (by unfold tkv; simpa using hj)]
  | x :: l, y :: vs, k + 1, t, v, j, hj, h1, h2 => by
    rw [tkCells, List.getElem?_append_right (by unfold tkv; simp; omega)]
    rw [show (k + 1) * 5 + j - (tkv x y).length = k * 5 + j by unfold tkv; simp; omega]
    exact tk_at l vs k t v j hj h1 h2
  | [], _, _, _, _, _, _, h1, _ => by cases h1
  | _ :: _, [], _, _, _, _, _, _, h2 => by cases h2
/-- A part's cells, where they lie. -/
theorem Parts.cells {w : World} {A : Option Addr} {c k : Nat} {l : List T} {avs : List Value} (h : Parts w A c l avs) (hk : k < l.length) : ∃ ad t A' c', A = some ad ∧ ad.block < w.heap.size ∧ l[k]? = some t ∧ t.attrs.length ≤ c' ∧ c' ≤ maxLen ∧ Reads w w.heap.size 2 A' t.attrs.length (atCells t.attrs) ∧
    w.cell? (ad.add (k * 5)) = some (.int .u8 (t.kind : Int)) ∧ w.cell? ⟨(ad.add (k * 5)).block, (ad.add (k * 5)).off + 1, none⟩ = some (.string (bts t.name)) ∧ w.cell? ⟨(ad.add (k * 5)).block, (ad.add (k * 5)).off + 2, none⟩ = some (.slice A' t.attrs.length c') ∧
    w.cell? ⟨(ad.add (k * 5)).block, (ad.add (k * 5)).off + 3, none⟩ = some (.string (bts t.text)) ∧ w.cell? ⟨(ad.add (k * 5)).block, (ad.add (k * 5)).off + 4, none⟩ = some (.int .i64 (t.at_ : Int)) := by
  obtain ⟨ad, e, hb, hc⟩ := h.tk.2 (by omega)
  obtain ⟨t, ht⟩ : ∃ t, l[k]? = some t := ⟨_, List.getElem?_eq_getElem hk⟩
  obtain ⟨v, hv⟩ : ∃ v, avs[k]? = some v := ⟨_, List.getElem?_eq_getElem (by rw [h.len]; exact hk)⟩
  obtain ⟨A', c', rfl, h1, h2, h3⟩ := h.at_ k t v ht hv
  refine ⟨ad, t, A', c', e, hb, ht, h1, h2, h3, ?_, ?_, ?_, ?_, ?_⟩
  · exact hc (k * 5 + 0) _ (tk_at l avs k t _ 0 (by omega) ht hv)
  all_goals rw [← add_more ad (k * 5) _ (by omega)]
  · exact hc _ _ (tk_at l avs k t _ 1 (by omega) ht hv)
  · exact hc _ _ (tk_at l avs k t _ 2 (by omega) ht hv)
  · exact hc _ _ (tk_at l avs k t _ 3 (by omega) ht hv)
  · exact hc _ _ (tk_at l avs k t _ 4 (by omega) ht hv)
theorem attr_cells {w : World} {A : Option Addr} {k n : Nat} {l : List (Txt × Txt)} (h : Reads w w.heap.size 2 A n (atCells l)) (hn : l.length = n) (hk : k < n) : ∃ ad a, A = some ad ∧ ad.block < w.heap.size ∧ l[k]? = some a ∧
    w.cell? (ad.add (k * 2)) = some (.string (bts a.1)) ∧ w.cell? ⟨(ad.add (k * 2)).block, (ad.add (k * 2)).off + 1, none⟩ = some (.string (bts a.2)) := by
  obtain ⟨ad, e, hb, hc⟩ := h.2 (by omega)
  obtain ⟨a, ha⟩ : ∃ a, l[k]? = some a := ⟨_, List.getElem?_eq_getElem (by omega)⟩
  obtain ⟨h1, h2⟩ := atCells_at ha
  refine ⟨ad, a, e, hb, ha, hc _ _ h1, ?_⟩
  rw [← add_more ad (k * 2) 1 (by omega)]
  exact hc _ _ h2
theorem bts_eq_iff {a b : Txt} : ((bts a).toList = (bts b).toList) ↔ a = b := by
  rw [Lib.toList_data, Lib.toList_data]
  exact Iff.rfl
theorem eq_attr (a b : Txt × Txt) (w : World) : (Op.equalIn 10000 40 (.agg #[.string (bts a.1), .string (bts a.2)]) (.agg #[.string (bts b.1), .string (bts b.2)])).run Tryd.prog w = .ok (decide (a = b)) w := by
  obtain ⟨a0, a1⟩ := a
  obtain ⟨b0, b1⟩ := b
  go_simp
  simp only [bts_eq_iff]
  by_cases h0 : a0 = b0
  · by_cases h1 : a1 = b1
    · subst h0 h1; simp
    · simp [h0, h1]
  · simp [h0]
theorem take_next {α : Type} {l m : List α} {k : Nat} {x : α} (h : l.take k = m.take k) (h1 : l[k]? = some x) (h2 : m[k]? = some x) : l.take (k + 1) = m.take (k + 1) := by rw [List.take_add_one, List.take_add_one, h, h1, h2]
theorem str_bo (a b : Txt) : ((bts a).toList == (bts b).toList) = decide (a = b) := by
  rw [Bool.eq_iff_iff, beq_iff_eq, decide_eq_true_iff]
  exact bts_eq_iff
end Mk
set_option maxHeartbeats 4000000 in
set_option maxRecDepth 100000 in
theorem same_any (A A' : Option Addr) (n n' c c' : Nat) (l l' : List Mk.T) (avs avs' : List Value) (w : World) (hn : l.length = n) (hn' : l'.length = n') (hr : Mk.Parts w A c l avs) (hr' : Mk.Parts w A' c' l' avs') :
    Calls Tryd.prog 12 #[.slice A n c, .slice A' n' c'] w fun e w' => (∃ b, e = .returned (.bool b) ∧ (b = true ↔ l = l')) ∧ Below w.heap.size w w' := by
  have hcap := hr.cap
  have hcap' := hr'.cap
  unfold maxLen at hcap hcap'
  rw [hn] at hcap
  rw [hn'] at hcap'
  have HB0 := Lib.hid (Below.refl w.heap.size w)
  by_cases hnn : n = n'
  · subst hnn
    have hw : IntKind.i64.wrap (n : Int) = (n : Int) := by rw [IntKind.wrap_i64]; omega
    have q0 : ((n : Int) == (n : Int)) = true := beq_self_eq_true _
    have HR := Lib.hid hr
    have HR' := Lib.hid hr'
    have HN := Lib.hid hn
    have HN' := Lib.hid hn'
    clear hr hr' hn hn'
    go_enter Tryd.func12, Tryd.ntmps12
    go_wp2
    go_loopw [16] (fun i wr => ∃ k : Nat, k ≤ n ∧ i = .int .i64 (k : Int) ∧ Hid (l.take k = l'.take k) ∧ Hid (Below w.heap.size w wr)) (fun i _ => n - (intOf i).toNat)
    case atStart => exact ⟨0, Nat.zero_le _, rfl, rfl, HB0.out⟩
    case round =>
      obtain ⟨k, hk, rfl, HE, HB⟩ := hrel
      obtain ⟨wq, rfl⟩ : ∃ x, x = wr := ⟨_, rfl⟩
      by_cases hlt : k < n
      · obtain ⟨ad, t, B1, d1, rfl, hab, ht, hd1, hd1', hra, x0, x1, x2, x3, x4⟩ := (HR.out.call HB.out).cells (show k < l.length by rw [HN.out]; exact hlt)
        obtain ⟨ad', t', B2, d2, rfl, hab', ht', hd2, hd2', hra', y0, y1, y2, y3, y4⟩ := (HR'.out.call HB.out).cells (show k < l'.length by rw [HN'.out]; exact hlt)
        have hkb : (ad.add (k * 5)).block < wq.heap.size := by rw [block_of_add]; exact hab
        have hkb' : (ad'.add (k * 5)).block < wq.heap.size := by rw [block_of_add]; exact hab'
        have q1 : (0 : Int) ≤ (k : Int) := by omega
        have q2 : (k : Int) < (n : Int) := by omega
        obtain ⟨kd, nm, ats, tx, p⟩ := t
        obtain ⟨kd', nm', ats', tx', p'⟩ := t'
        have hdiff : Hid ((⟨kd, nm, ats, tx, p⟩ : Mk.T) ≠ ⟨kd', nm', ats', tx', p'⟩ → ¬ l = l') := fun h e => h (Option.some.inj (ht.symm.trans (by rw [e]; exact ht')))
        have hsame : Hid ((⟨kd, nm, ats, tx, p⟩ : Mk.T) = ⟨kd', nm', ats', tx', p'⟩ → l.take (k + 1) = l'.take (k + 1)) := fun h => Mk.take_next HE.out ht (by rw [h]; exact ht')
        simp only at x0 x1 x2 x3 x4 y0 y1 y2 y3 y4 hra hra' hd1 hd2
        obtain ⟨Nm, hNm⟩ : ∃ x, Mk.bts nm = x := ⟨_, rfl⟩
        obtain ⟨Nm', hNm'⟩ : ∃ x, Mk.bts nm' = x := ⟨_, rfl⟩
        obtain ⟨Tx, hTx⟩ : ∃ x, Mk.bts tx = x := ⟨_, rfl⟩
        obtain ⟨Tx', hTx'⟩ : ∃ x, Mk.bts tx' = x := ⟨_, rfl⟩
        obtain ⟨m, hm⟩ : ∃ x, ats.length = x := ⟨_, rfl⟩
        obtain ⟨m', hm'⟩ : ∃ x, ats'.length = x := ⟨_, rfl⟩
        have hbn : (Nm.toList == Nm'.toList) = decide (nm = nm') := by rw [← hNm, ← hNm']; exact Mk.str_bo _ _
        have hbt : (Tx.toList == Tx'.toList) = decide (tx = tx') := by rw [← hTx, ← hTx']; exact Mk.str_bo _ _
        rw [hNm] at x1
        rw [hNm'] at y1
        rw [hTx] at x3
        rw [hTx'] at y3
        rw [hm] at x2 hra hd1
        rw [hm'] at y2 hra' hd2
        have HBa : Hid (Below w.heap.size w ((wq.alloc (.cells #[.int .u8 (kd : Int), .string Nm, .slice B1 m d1, .string Tx, .int .i64 (p : Int)] 38)).alloc (.cells #[.int .u8 (kd' : Int), .string Nm', .slice B2 m' d2, .string Tx', .int .i64 (p' : Int)] 38))) := (HB.out.alloc HB.out.size _).alloc (by rw [World.size_alloc]; have := HB.out.size; omega) _
        have HX : Hid (At ((wq.alloc (.cells #[.int .u8 (kd : Int), .string Nm, .slice B1 m d1, .string Tx, .int .i64 (p : Int)] 38)).alloc (.cells #[.int .u8 (kd' : Int), .string Nm', .slice B2 m' d2, .string Tx', .int .i64 (p' : Int)] 38)) wq.heap.size [.int .u8 (kd : Int), .string Nm, .slice B1 m d1, .string Tx, .int .i64 (p : Int)]) := (At.new _ _ _).allocO _
        have HY : Hid (At ((wq.alloc (.cells #[.int .u8 (kd : Int), .string Nm, .slice B1 m d1, .string Tx, .int .i64 (p : Int)] 38)).alloc (.cells #[.int .u8 (kd' : Int), .string Nm', .slice B2 m' d2, .string Tx', .int .i64 (p' : Int)] 38)) (wq.heap.size + 1) [.int .u8 (kd' : Int), .string Nm', .slice B2 m' d2, .string Tx', .int .i64 (p' : Int)]) := by
          have h := At.new (wq.alloc (.cells #[.int .u8 (kd : Int), .string Nm, .slice B1 m d1, .string Tx, .int .i64 (p : Int)] 38)) #[.int .u8 (kd' : Int), .string Nm', .slice B2 m' d2, .string Tx', .int .i64 (p' : Int)] 38
          rw [World.size_alloc] at h
          exact h
        have HRA := Lib.hid hra
        have HRA' := Lib.hid hra'
        have HM := Lib.hid hm
        have HM' := Lib.hid hm'
        have HNm := Lib.hid hNm
        have HNm' := Lib.hid hNm'
        have HTx := Lib.hid hTx
        have HTx' := Lib.hid hTx'
        clear ht ht' hNm hNm' hTx hTx' hra hra' hm hm'
        by_cases e0 : kd = kd'
        case neg =>
          have HNe := Lib.hid (hdiff.out (fun e => e0 (by injection e)))
          have g0 : ((kd : Int) == (kd' : Int)) = false := by rw [beq_eq_false_iff_ne]; omega
          have g1 : ¬ (kd : Int) = (kd' : Int) := by omega
          have g2 : ((kd : Int) != (kd' : Int)) = true := by rw [bne, g0]; rfl
          clear e0 hbn hbt
          go_wp2
          go_ret
          exact ⟨⟨false, rfl, by simpa using HNe.out⟩, HBa.out⟩
        subst e0
        by_cases e1 : nm = nm'
        case neg =>
          have HNe := Lib.hid (hdiff.out (fun e => e1 (by injection e)))
          have g0 : (Nm.toList == Nm'.toList) = false := by rw [hbn]; simpa using e1
          clear e1 hbn hbt
          go_wp2
          go_ret
          exact ⟨⟨false, rfl, by simpa using HNe.out⟩, HBa.out⟩
        have hNN : Nm = Nm' := by rw [← HNm.out, ← HNm'.out, e1]
        subst hNN e1
        by_cases e2 : tx = tx'
        case neg =>
          have HNe := Lib.hid (hdiff.out (fun e => e2 (by injection e)))
          have g0 : (Tx.toList == Tx'.toList) = false := by rw [hbt]; simpa using e2
          clear e2 hbn hbt
          go_wp2
          go_ret
          exact ⟨⟨false, rfl, by simpa using HNe.out⟩, HBa.out⟩
        have hTT : Tx = Tx' := by rw [← HTx.out, ← HTx'.out, e2]
        subst hTT e2
        by_cases e3 : p = p'
        case neg =>
          have HNe := Lib.hid (hdiff.out (fun e => e3 (by injection e)))
          have g0 : ((p : Int) == (p' : Int)) = false := by rw [beq_eq_false_iff_ne]; omega
          have g1 : ¬ (p : Int) = (p' : Int) := by omega
          have g2 : ((p : Int) != (p' : Int)) = true := by rw [bne, g0]; rfl
          clear e3 hbn hbt
          go_wp2
          go_ret
          exact ⟨⟨false, rfl, by simpa using HNe.out⟩, HBa.out⟩
        subst e3
        by_cases e4 : m = m'
        case neg =>
          have HNe := Lib.hid (hdiff.out (fun e => e4 (by injection e with _ _ h; rw [← HM.out, ← HM'.out, h])))
          have g4 : ((m : Int) == (m' : Int)) = false := by rw [beq_eq_false_iff_ne]; omega
          have g5 : ¬ (m : Int) = (m' : Int) := by omega
          have g6 : ((m : Int) != (m' : Int)) = true := by rw [bne, g4]; rfl
          clear e4 hbn hbt
          go_wp2
          go_ret
          exact ⟨⟨false, rfl, by simpa using HNe.out⟩, HBa.out⟩
        clear hbn hbt
        subst e4
        have hmw : IntKind.i64.wrap (m : Int) = (m : Int) := by rw [IntKind.wrap_i64]; unfold maxLen at hd1'; omega
        have hmb : m ≤ 9223372036854775807 := by unfold maxLen at hd1'; omega
        have HAq : Hid (ats = ats' → l.take (k + 1) = l'.take (k + 1)) := fun h => hsame.out (by rw [h])
        have HAn : Hid (¬ ats = ats' → ¬ l = l') := fun h => hdiff.out (fun e => h (by injection e))
        clear hdiff hsame
        go_wp2_with fail
        go_loopw [63] (fun i wr => ∃ j : Nat, j ≤ m ∧ i = .int .i64 (j : Int) ∧ Hid (ats.take j = ats'.take j) ∧ Hid (Drew ((wq.alloc (.cells #[.int .u8 (kd : Int), .string Nm, .slice B1 m d1, .string Tx, .int .i64 (p : Int)] 38)).alloc (.cells #[.int .u8 (kd : Int), .string Nm, .slice B2 m d2, .string Tx, .int .i64 (p : Int)] 38)) wr)) (fun i _ => m - (intOf i).toNat)
        case atStart => exact ⟨0, Nat.zero_le _, rfl, rfl, Drew.refl _⟩
        case round =>
          obtain ⟨j, hj, rfl, HEj, HD⟩ := hrel
          have HXd := Lib.hid (HX.out.drew HD.out)
          have HYd := Lib.hid (HY.out.drew HD.out)
          have xc := HXd.out.cell 2 _ rfl
          have yc := HYd.out.cell 2 _ rfl
          have zx := HXd.out.lt
          have zy := HYd.out.lt
          by_cases hlt2 : j < m
          · have HBq : Hid (Below wq.heap.size wq wr) := (((Below.refl _ _).alloc (Nat.le_refl _) _).alloc (by rw [World.size_alloc]; omega) _).trans (HD.out.below _)
            obtain ⟨bd, a, rfl, hbb, ha, u0, u1⟩ := Mk.attr_cells ((HRA.out.below HBq.out).more HBq.out.size) HM.out hlt2
            obtain ⟨bd', a', rfl, hbb', ha', v0, v1⟩ := Mk.attr_cells ((HRA'.out.below HBq.out).more HBq.out.size) HM'.out hlt2
            have hE := Mk.eq_attr a a'
            have r1 : (0 : Int) ≤ (j : Int) := by omega
            have r2 : (j : Int) < (m : Int) := by omega
            obtain ⟨s0, hs0⟩ : ∃ x, Mk.bts a.1 = x := ⟨_, rfl⟩
            obtain ⟨s1, hs1⟩ : ∃ x, Mk.bts a.2 = x := ⟨_, rfl⟩
            obtain ⟨s2, hs2⟩ : ∃ x, Mk.bts a'.1 = x := ⟨_, rfl⟩
            obtain ⟨s3, hs3⟩ : ∃ x, Mk.bts a'.2 = x := ⟨_, rfl⟩
            rw [hs0, hs1, hs2, hs3] at hE
            rw [hs0] at u0
            rw [hs1] at u1
            rw [hs2] at v0
            rw [hs3] at v1
            clear hs0 hs1 hs2 hs3
            by_cases haa : a = a'
            · have HEn : Hid (ats.take (j + 1) = ats'.take (j + 1)) := Mk.take_next HEj.out ha (by rw [haa]; exact ha')
              rw [decide_eq_true haa] at hE
              clear ha ha' haa
              go_wp2
              go_quiet (fail)
              go_wp2
              go_roundw
              case rel => exact ⟨j + 1, by omega, by go_num, HEn.out, HD.out.drewN _⟩
              case measure => simp [intOf]; omega
            · have HNe := Lib.hid (HAn.out (fun e => haa (Option.some.inj (ha.symm.trans (by rw [e]; exact ha')))))
              rw [decide_eq_false haa] at hE
              clear ha ha' haa
              go_wp2
              go_quiet (fail)
              go_wp2
              go_ret
              exact ⟨⟨false, rfl, by simpa using HNe.out⟩, HBa.out.trans ((HD.out.drewN _).below _)⟩
          · have r2 : ¬ (j : Int) < (m : Int) := by omega
            have HEn : Hid (l.take (k + 1) = l'.take (k + 1)) := HAq.out (by
              have h := HEj.out
              rw [List.take_of_length_le (by rw [HM.out]; omega), List.take_of_length_le (by rw [HM'.out]; omega)] at h
              exact h)
            go_wp2
            go_roundw
            case rel => exact ⟨k + 1, by omega, by go_num, HEn.out, HBa.out.trans (HD.out.below _)⟩
            case measure => simp [intOf]; omega
      · have q2 : ¬ (k : Int) < (n : Int) := by omega
        have HEq : Hid (l = l') := by
          have h := HE.out
          rw [List.take_of_length_le (by rw [HN.out]; omega), List.take_of_length_le (by rw [HN'.out]; omega)] at h
          exact h
        go_wp2
        go_ret
        first | exact ⟨.inr ⟨rfl, HEq.out⟩, HB.out⟩ | exact ⟨⟨true, rfl, by simpa using HEq.out⟩, HB.out⟩
  · have q0 : ((n : Int) == (n' : Int)) = false := by rw [beq_eq_false_iff_ne]; omega
    have HNe : Hid (¬ l = l') := fun e => hnn (by rw [← hn, ← hn', e])
    clear hr hr' hn hn'
    go_enter Tryd.func12, Tryd.ntmps12
    go_wp2
    go_ret
    exact ⟨⟨false, rfl, by simpa using HNe.out⟩, HB0.out⟩
end Go.Proofs.YtjbgmbhifnihaaaDoor

/- Right texts, as lists: a character is read from its own bytes alone. -/
namespace Go.Proofs.YtjbgmbhifnihaaaDoor
open Go.RowKit

namespace Mk
def nth (l : Txt) (k : Nat) : Nat := (l[k]?.getD 0).toNat
def dL (l : Txt) : Nat × Nat := Lib.decodeN l.length (nth l 0) (nth l 1) (nth l 2) (nth l 3)
theorem get_nth (s : ByteArray) (pos k : Nat) : (s.get! (pos + k)).toNat = nth ((tl s).drop pos) k := by
  unfold nth
  rw [List.getElem?_drop]
  by_cases h : pos + k < s.size
  · rw [Te.get_tl s _ h]; rfl
  · rw [List.getElem?_eq_none (by rw [tl_length]; omega)]
    have : s.get! (pos + k) = default := by
      show s.data[pos + k]! = default
      exact getElem!_neg _ _ h
    rw [this]
    rfl
theorem dec_dL (s : ByteArray) (pos : Nat) : Utf8.decode s pos = dL ((tl s).drop pos) := by
  have h0 := get_nth s pos 0
  rw [Nat.add_zero] at h0
  rw [Lib.decode_at, h0, get_nth, get_nth, get_nth]
  unfold dL
  rw [List.length_drop, tl_length]
set_option maxHeartbeats 2000000 in
theorem decN_local {n b0 b1 b2 b3 x k : Nat} (h : Lib.decodeN n b0 b1 b2 b3 = (x, k)) (hx : x ≠ 65533 ∨ k = 3) {n' c1 c2 c3 : Nat} (hn : k ≤ n') (h1 : 1 < k → c1 = b1) (h2 : 2 < k → c2 = b2) (h3 : 3 < k → c3 = b3) : Lib.decodeN n' b0 c1 c2 c3 = (x, k) := by
  unfold Lib.decodeN at h
  split at h
  · rename_i q; cases h; unfold Lib.decodeN; rw [if_pos q]
  · rename_i q0
    split at h
    · rename_i q1
      split at h
      · rename_i q2
        cases h
        have e1 := h1 (by omega)
        subst e1
        unfold Lib.decodeN
        rw [if_neg q0, if_pos ⟨q1.1, by omega, q1.2.2⟩, if_pos q2]
      · cases h; omega
    · rename_i q1
      split at h
      · rename_i q2
        split at h
        · rename_i q3
          cases h
          have e1 := h1 (by omega)
          have e2 := h2 (by omega)
          subst e1 e2
          unfold Lib.decodeN
          rw [if_neg q0, if_neg (by omega), if_pos ⟨q2.1, ⟨by omega, q2.2.1.2⟩, by omega, q2.2.2.2⟩, if_pos q3]
        · cases h; omega
      · rename_i q2
        split at h
        · rename_i q3
          split at h
          · rename_i q4
            cases h
            have e1 := h1 (by omega)
            have e2 := h2 (by omega)
            have e3 := h3 (by omega)
            subst e1 e2 e3
            unfold Lib.decodeN
            rw [if_neg q0, if_neg (by omega), if_neg (by omega), if_pos ⟨q3.1, ⟨by omega, q3.2.1.2⟩, ⟨by omega, q3.2.2.1.2⟩, by omega, q3.2.2.2.2⟩, if_pos q4]
          · cases h; omega
        · cases h; omega
end Mk
end Go.Proofs.YtjbgmbhifnihaaaDoor

/- Right texts, as lists: joined right texts are right, an escaped one too. -/
namespace Go.Proofs.YtjbgmbhifnihaaaDoor
open Go.RowKit

namespace Mk
def badL (l : Txt) : Bool := (dL l).1 == 65533 && !(Lib.hasPrefix l Te.wrongL)
theorem bad_eq (s : ByteArray) (pos : Nat) : Te.bad s pos = badL ((tl s).drop pos) := by unfold Te.bad badL; rw [dec_dL]
def rightL : Nat → Txt → Bool
  | 0, _ => true
  | f + 1, l => if l = [] then true else !(badL l) && rightL f (l.drop (dL l).2)
theorem right_eq (s : ByteArray) : ∀ (f pos : Nat), Te.rightFrom s f pos = rightL f ((tl s).drop pos)
  | 0, _ => rfl
  | f + 1, pos => by
    rw [Te.rightFrom, rightL]
    by_cases h : pos < s.size
    · have hne : (tl s).drop pos ≠ [] := fun e => by
        have := congrArg List.length e
        rw [List.length_drop, tl_length] at this
        simp at this
        omega
      rw [if_pos h, if_neg hne, bad_eq, right_eq s f, dec_dL, List.drop_drop]
    · rw [if_neg h, if_pos (List.drop_eq_nil_of_le (by rw [tl_length]; omega))]
theorem right_L (s : ByteArray) : Te.right s = rightL (tl s).length (tl s) := by
  unfold Te.right
  rw [right_eq, tl_length]
  rfl
/-- A right character. -/
def Ch (c : Txt) : Prop := c ≠ [] ∧ ∃ x, ∀ r, dL (c ++ r) = (x, c.length) ∧ badL (c ++ r) = false
inductive Rt : Txt → Prop
  | nil : Rt []
  | cons {c l : Txt} (h : Ch c) (t : Rt l) : Rt (c ++ l)
theorem Rt.app {a b : Txt} (ha : Rt a) (hb : Rt b) : Rt (a ++ b) := by
  induction ha with
  | nil => exact hb
  | cons h _ ih => rw [List.append_assoc]; exact .cons h ih
theorem ch_ascii {b : UInt8} (h : b.toNat < 128) : Ch [b] := by
  refine ⟨by simp, b.toNat, fun r => ?_⟩
  have e : dL ([b] ++ r) = (b.toNat, 1) := by
    unfold dL Lib.decodeN
    exact if_pos h
  refine ⟨e, ?_⟩
  unfold badL
  rw [e]
  have : (b.toNat == 65533) = false := by rw [beq_eq_false_iff_ne]; omega
  simp [this]
theorem rt_ascii : ∀ (l : Txt), (∀ b ∈ l, b.toNat < 128) → Rt l
  | [], _ => .nil
  | b :: l, h => .cons (c := [b]) (ch_ascii (h b (by simp))) (rt_ascii l fun x hx => h x (by simp [hx]))
theorem rt_right {l : Txt} (h : Rt l) : ∀ f, l.length ≤ f → rightL f l = true := by
  induction h with
  | nil => intro f _; cases f <;> rfl
  | @cons c l hc _ ih =>
    intro f hf
    obtain ⟨hne, x, hx⟩ := hc
    have hp := List.length_pos_iff.2 hne
    rw [List.length_append] at hf
    obtain ⟨f, rfl⟩ : ∃ g, f = g + 1 := ⟨f - 1, by omega⟩
    rw [rightL, if_neg (by simp [hne]), (hx l).2, (hx l).1]
    simp only [List.drop_left, Bool.not_false, Bool.true_and]
    exact ih f (by omega)
theorem decN_width {n b0 b1 b2 b3 : Nat} (h : 1 ≤ n) : 1 ≤ (Lib.decodeN n b0 b1 b2 b3).2 ∧ (Lib.decodeN n b0 b1 b2 b3).2 ≤ n := by
  unfold Lib.decodeN
  repeat' split
  all_goals (simp only; omega)
theorem nth_take {l r : Txt} {k j : Nat} (h : j < k) (hk : k ≤ l.length) : nth (l.take k ++ r) j = nth l j := by
  unfold nth
  rw [List.getElem?_append_left (by rw [List.length_take]; omega), List.getElem?_take_of_lt h]
theorem ch_wrong : Ch Te.wrongL := by
  refine ⟨by unfold Te.wrongL; simp, 65533, fun r => ?_⟩
  have e : dL (Te.wrongL ++ r) = (65533, 3) := by
    show Lib.decodeN (r.length + 3) 239 191 189 _ = _
    unfold Lib.decodeN
    rw [if_neg (by decide), if_neg (by omega), if_pos ⟨by decide, ⟨by omega, by decide⟩, by omega, by decide⟩, if_pos (by decide)]
  refine ⟨e, ?_⟩
  unfold badL
  have : Lib.hasPrefix (Te.wrongL ++ r) Te.wrongL = true := by
    show Te.wrongL.isPrefixOf _ = true
    rw [List.isPrefixOf_iff_prefix]
    exact List.prefix_append _ _
  rw [this]
  simp
theorem head_ch {l : Txt} (hne : l ≠ []) (hb : badL l = false) : Ch (l.take (dL l).2) := by
  have hp := List.length_pos_iff.2 hne
  have hw : 1 ≤ (dL l).2 ∧ (dL l).2 ≤ l.length := decN_width hp
  by_cases hx : (dL l).1 = 65533
  · have hpre : Lib.hasPrefix l Te.wrongL = true := by
      unfold badL at hb
      rw [hx] at hb
      simpa using hb
    obtain ⟨r, hr⟩ := List.isPrefixOf_iff_prefix.1 (show Te.wrongL.isPrefixOf l = true from hpre)
    obtain ⟨_, x, hcw⟩ := ch_wrong
    have h2 := (hcw r).1
    rw [hr] at h2
    have h3 : (dL l).2 = 3 := by rw [h2]; rfl
    rw [h3, ← hr]
    exact ch_wrong
  · have hlen : (l.take (dL l).2).length = (dL l).2 := by rw [List.length_take]; omega
    refine ⟨fun e => by rw [e] at hlen; simp at hlen; omega, (dL l).1, fun r => ?_⟩
    have e : dL (l.take (dL l).2 ++ r) = ((dL l).1, (dL l).2) := by
      have h0 : Lib.decodeN l.length (nth l 0) (nth l 1) (nth l 2) (nth l 3) = ((dL l).1, (dL l).2) := rfl
      have h1 := decN_local h0 (.inl hx) (n' := (l.take (dL l).2 ++ r).length) (by rw [List.length_append, hlen]; omega) (fun q => nth_take (r := r) q hw.2) (fun q => nth_take (r := r) q hw.2) (fun q => nth_take (r := r) q hw.2)
      rw [← nth_take (r := r) (show 0 < (dL l).2 from hw.1) hw.2] at h1
      exact h1
    refine ⟨by rw [e, hlen], ?_⟩
    unfold badL
    rw [e]
    have : ((dL l).1 == 65533) = false := by rw [beq_eq_false_iff_ne]; exact hx
    simp [this]
theorem right_rt : ∀ (f : Nat) (l : Txt), l.length ≤ f → rightL f l = true → Rt l
  | 0, l, h, _ => by
    have : l = [] := List.eq_nil_of_length_eq_zero (by omega)
    rw [this]; exact .nil
  | f + 1, l, h, hr => by
    by_cases hne : l = []
    · rw [hne]; exact .nil
    · rw [rightL, if_neg hne, Bool.and_eq_true, Bool.not_eq_true'] at hr
      have hw : 1 ≤ (dL l).2 ∧ (dL l).2 ≤ l.length := decN_width (List.length_pos_iff.2 hne)
      have h1 := head_ch hne hr.1
      have h2 := right_rt f _ (by rw [List.length_drop]; omega) hr.2
      have := Rt.cons h1 h2
      rw [List.take_append_drop] at this
      exact this
theorem rt_iff (s : ByteArray) : Te.right s = true ↔ Rt (tl s) := by
  rw [right_L]
  exact ⟨right_rt _ _ (Nat.le_refl _), fun h => rt_right h _ (Nat.le_refl _)⟩
end Mk
end Go.Proofs.YtjbgmbhifnihaaaDoor
