/- markup: the contract of Tokens. -/
import Derived.Test.YtjbgmbhifnihaaaDoorMkTh
import Derived.Test.YtjbgmbhifnihaaaDoorMkPlace
namespace Go.Proofs.YtjbgmbhifnihaaaDoor
open Go.RowKit

namespace Mk
/-- Parts that can be read. -/
structure Parts (w : World) (A : Option Addr) (c : Nat) (l : List T) (avs : List Value) : Prop where
  len : avs.length = l.length
  cap : l.length ≤ c ∧ c ≤ maxLen
  tk : Reads w w.heap.size 5 A l.length (tkCells l avs)
  at_ : ∀ (k : Nat) (t : T) (v : Value), l[k]? = some t → avs[k]? = some v → ∃ A' c', v = .slice A' t.attrs.length c' ∧ t.attrs.length ≤ c' ∧ c' ≤ maxLen ∧ Reads w w.heap.size 2 A' t.attrs.length (atCells t.attrs)
theorem own_cap {w : World} {base : Nat} {e : TypeId} {size n : Nat} {v : Value} {xs : List Value} (h : w.ownsRow base e size v n xs) : ∃ A c, v = .slice A n c ∧ n ≤ c ∧ c ≤ maxLen := by
  rcases h.2 with ⟨rfl, rfl⟩ | ⟨g, cap, cur, rfl, _, _, h1, h2, _⟩
  · exact ⟨none, 0, rfl, Nat.le_refl _, Nat.zero_le _⟩
  · exact ⟨_, cap, rfl, h1, h2⟩
theorem atRows_mem : ∀ (l : List T) (vs : List Value) (k : Nat) (t : T) (v : Value), l[k]? = some t → vs[k]? = some v → atRow t v ∈ atRows l vs
  | x :: l, y :: vs, 0, t, v, h1, h2 => by cases h1; cases h2; rw [atRows]; exact List.mem_cons_self
  | x :: l, y :: vs, k + 1, t, v, h1, h2 => by rw [atRows]; exact List.mem_cons_of_mem _ (atRows_mem l vs k t v h1 h2)
  | [], _, _, _, _, h1, _ => by cases h1
  | _ :: _, [], _, _, _, _, h2 => by cases h2
theorem Wk.parts {w : World} {g : Nat} {s : ByteArray} {st : S} {tv ov : Value} {avs : List Value} (h : Wk w g s st tv ov avs []) : ∃ A c, tv = .slice A st.toks.length c ∧ Parts w A c st.toks avs := by
  obtain ⟨A, c, e, h1, h2⟩ := own_cap h.tk
  subst e
  refine ⟨A, c, rfl, h.len, ⟨h1, h2⟩, Reads.of_own h.tk, fun k t v ht hv => ?_⟩
  have hr := h.many.own _ (List.mem_cons_of_mem _ (List.mem_cons_of_mem _ (List.mem_append_right _ (atRows_mem _ _ k t v ht hv))))
  obtain ⟨A', c', e, h3, h4⟩ := own_cap hr
  have e2 : v = .slice A' t.attrs.length c' := e
  subst e2
  exact ⟨A', c', rfl, h3, h4, Reads.of_own hr⟩
theorem Parts.call {w w' : World} {A : Option Addr} {c : Nat} {l : List T} {avs : List Value} (h : Parts w A c l avs) (hb : Below w.heap.size w w') : Parts w' A c l avs :=
  ⟨h.len, h.cap, (h.tk.below hb).more hb.size, fun k t v ht hv => by
    obtain ⟨A', c', e, h1, h2, h3⟩ := h.at_ k t v ht hv
    exact ⟨A', c', e, h1, h2, (h3.below hb).more hb.size⟩⟩
def Fine (s : ByteArray) : Prop := s.size ≤ 1048576 ∧ Te.right s = true ∧ ∀ b ∈ tl s, low b = false
/-- What Tokens answers. -/
def TokRet (w : World) (s : ByteArray) (e : Ending) (w' : World) : Prop :=
  Below w.heap.size w w' ∧
  (Fine s → match tokens (tl s) with
    | .inl x => e = .returned (.tuple #[.slice none 0 0, .agg #[.int .i64 0, .int .i64 (x.1 : Int), .int .i64 (x.2 : Int)]])
    | .inr st => ∃ A c avs, e = .returned (.tuple #[.slice A st.toks.length c, .agg #[.int .i64 0, .int .i64 0, .int .i64 0]]) ∧ Parts w' A c st.toks avs) ∧
  (¬ Fine s → ∃ c y : Nat, e = .returned (.tuple #[.slice none 0 0, .agg #[.int .i64 0, .int .i64 (c : Int), .int .i64 (y : Int)]]) ∧ y ≠ 0 ∧ c ≤ s.size)
theorem TokRet.bad {w w' : World} {s : ByteArray} {e : Ending} (hb : Below w.heap.size w w') (hf : ¬ Fine s) (c y : Nat) (he : e = .returned (.tuple #[.slice none 0 0, .agg #[.int .i64 0, .int .i64 (c : Int), .int .i64 (y : Int)]])) (hy : y ≠ 0) (hc : c ≤ s.size) : TokRet w s e w' :=
  ⟨hb, fun h => absurd h hf, fun _ => ⟨c, y, he, hy, hc⟩⟩
theorem wk_start (w : World) (s : ByteArray) : Wk (w.alloc (.cells #[.string s, .slice none 0 0, .slice none 0 0, .bool false] 69)) w.heap.size s start (.slice none 0 0) (.slice none 0 0) [] [] :=
  ⟨At.new w _ _, rfl, (Many.nil_.add0 9 1).add0 38 5⟩
end Mk
set_option maxHeartbeats 4000000 in
set_option maxRecDepth 100000 in
theorem tokens_any (s : ByteArray) (hs : s.size ≤ maxLen) (w : World) (hW : Wl w) :
    Calls Tryd.prog 11 #[.string s] w (Mk.TokRet w s) := by
  have hs' := hs
  unfold maxLen at hs
  have HFt := Lib.hid (fun (c y : Int) W => fault_any c y W)
  have HB0 := Lib.hid (Mk.below_new w (.cells #[.int .i64 0, .int .i64 0, .int .i64 0] 32))
  have HZ0 : Hid (At (w.alloc (.cells #[.int .i64 0, .int .i64 0, .int .i64 0] 32)) w.heap.size [.int .i64 0, .int .i64 0, .int .i64 0]) := At.new _ _ _
  by_cases hl : 1048576 < s.size
  · have q1 : (1048576 : Int) < (s.size : Int) := by omega
    have hnf : ¬ Mk.Fine s := fun h => by have := h.1; omega
    have HNf := Lib.hid hnf
    clear hnf hl hW hs'
    go_enter Tryd.func11, Tryd.ntmps11
    go_wp2_with fail
    refine (HFt.out _ _ _).mono ?_
    rintro e w1 ⟨rfl, hb⟩
    have HB1 := Lib.hid (below_then HB0.out hb)
    have HZ1 := Lib.hid (HZ0.out.call hb)
    clear hb
    have hz1 := HZ1.out.lt
    obtain ⟨f0, f1, f2, e5, e6, e7⟩ := HZ1.out.three
    go_wp2
    refine bodyPost_ret (v := .tuple #[.slice none 0 0, .agg #[.int .i64 0, .int .i64 0, .int .i64 6]]) (by simp [results, Tryd.results11, go_sem, *]) rfl ?_
    exact Mk.TokRet.bad (((HB1.out.setCell (p := ⟨w.heap.size, _, none⟩) (Nat.le_refl _) _).setCell (p := ⟨w.heap.size, _, none⟩) (Nat.le_refl _) _).setCell (p := ⟨w.heap.size, _, none⟩) (Nat.le_refl _) _) HNf.out 0 6 rfl (by decide) (Nat.zero_le _)
  have q1 : ¬ (1048576 : Int) < (s.size : Int) := by omega
  have HU := Lib.hid (fun W => utfPlace_any s hs' W)
  cases hr : Te.right s with
  | false =>
    rw [hr] at HU
    have hnf : ¬ Mk.Fine s := fun h => by have := h.2.1; rw [hr] at this; cases this
    have HNf := Lib.hid hnf
    have HU2 : Hid (∀ W, Calls Tryd.prog 9 #[.string s] W fun e w' => (∃ i : Nat, i ≤ s.size ∧ e = .returned (.tuple #[.int .i64 (i : Int), .int .i64 11])) ∧ Below W.heap.size W w') := HU
    clear hnf hl hW hs' hr HU
    go_enter Tryd.func11, Tryd.ntmps11
    go_wp2_with fail
    refine (HU2.out _).mono ?_
    rintro e w1 ⟨⟨i, hi, rfl⟩, hb⟩
    have HB1 := Lib.hid (below_then HB0.out hb)
    have HZ1 := Lib.hid (HZ0.out.call hb)
    clear hb
    go_wp2_with fail
    refine (HFt.out _ _ _).mono ?_
    rintro e w2 ⟨rfl, hb⟩
    have HB2 := Lib.hid (below_then HB1.out hb)
    have HZ2 := Lib.hid (HZ1.out.call hb)
    clear hb
    have hz1 := HZ2.out.lt
    obtain ⟨f0, f1, f2, e5, e6, e7⟩ := HZ2.out.three
    go_wp2
    refine bodyPost_ret (v := .tuple #[.slice none 0 0, .agg #[.int .i64 0, .int .i64 (i : Int), .int .i64 11]]) (by simp [results, Tryd.results11, go_sem, *]) rfl ?_
    exact Mk.TokRet.bad (((HB2.out.setCell (p := ⟨w.heap.size, _, none⟩) (Nat.le_refl _) _).setCell (p := ⟨w.heap.size, _, none⟩) (Nat.le_refl _) _).setCell (p := ⟨w.heap.size, _, none⟩) (Nat.le_refl _) _) HNf.out i 11 rfl (by decide) hi
  | true =>
    rw [hr] at HU
    have HU2 : Hid (∀ W, Calls Tryd.prog 9 #[.string s] W fun e w' => (∃ i : Nat, i ≤ s.size ∧ e = .returned (.tuple #[.int .i64 (i : Int), .int .i64 0])) ∧ Below W.heap.size W w') := HU
    have HBy := Lib.hid (fun W => badByte_any s hs' W)
    have HR := Lib.hid hr
    clear HU hr
    have hl' : s.size ≤ 1048576 := by omega
    have HW := Lib.hid hW
    clear hs' hW hl
    go_enter Tryd.func11, Tryd.ntmps11
    go_wp2_with fail
    refine (HU2.out _).mono ?_
    rintro e w1 ⟨⟨i, hi, rfl⟩, hb⟩
    have HB1 := Lib.hid (below_then HB0.out hb)
    have HZ1 := Lib.hid (HZ0.out.call hb)
    have HBt := Lib.hid hb
    clear hb
    go_wp2_with fail
    refine (HBy.out _).mono ?_
    rintro e w2 ⟨⟨n, rfl, hn⟩, rfl⟩
    rcases hn with ⟨rfl, hall⟩ | ⟨k, rfl, hk, b, hb, hlow⟩
    · have hf : Mk.Fine s := ⟨hl', HR.out, hall⟩
      have HF := Lib.hid hf
      have HTh := Lib.hid (through_any (w1.alloc (.cells #[.string s, .slice none 0 0, .slice none 0 0, .bool false] 69)) w1.heap.size s (.slice none 0 0) (.slice none 0 0) (by omega) (Mk.wk_start w1 s) ((HW.out.below HB1.out).below (Mk.below_new _ _)))
      clear hf hall
      have hz1 := HZ1.out.lt
      have HZa := Lib.hid (HZ1.out.allocO (.cells #[.string s, .slice none 0 0, .slice none 0 0, .bool false] 69))
      have HB2 := Lib.hid (HB1.out.alloc HB1.out.size (.cells #[.string s, .slice none 0 0, .slice none 0 0, .bool false] 69))
      go_wp2_with fail
      refine HTh.out.mono ?_
      intro e w3 hret
      have hz3 := hret.1.at_ HZa.out (by
        rintro ((h | h | h) | h)
        · have := HZ1.out.lt; omega
        · cases h
        · cases h
        · exact h)
      have hb3 : Below w.heap.size (w1.alloc (.cells #[.string s, .slice none 0 0, .slice none 0 0, .bool false] 69)) w3 := hret.1.below (fun j h => by
        rcases h with (h | h | h) | h
        · have := HB1.out.size; omega
        · cases h
        · cases h
        · exact h.elim) (by rw [World.size_alloc]; have := HB1.out.size; omega)
      have HZ3 := Lib.hid hz3
      have HB3 := Lib.hid (HB2.out.trans hb3)
      clear hz3 hb3
      have hz3 := HZ3.out.lt
      obtain ⟨f0, f1, f2, e5, e6, e7⟩ := HZ3.out.three
      cases htk : Mk.tokens (tl s) with
      | inl x =>
        obtain ⟨c, y⟩ := x
        rw [htk] at hret
        obtain rfl := hret.2
        have hE := Mk.flt_some (c : Int) (y : Int) (by have := (Mk.tokens_why htk).1; simpa using this)
        have HTk := Lib.hid htk
        clear hret htk
        have HNw := Lib.hid (At.new w3 #[.int .i64 0, .int .i64 (c : Int), .int .i64 (y : Int)] 32)
        obtain ⟨n0, n1, n2, _⟩ := HNw.out.three
        go_wp2
        go_region
        all_goals go_wp2
        all_goals refine bodyPost_ret (v := .tuple #[.slice none 0 0, .agg #[.int .i64 0, .int .i64 (c : Int), .int .i64 (y : Int)]]) (by simp [results, Tryd.results11, go_sem, *]) rfl ⟨?_, fun _ => by rw [HTk.out], fun h => absurd HF.out h⟩
        all_goals exact Below.drew (Below.alloc (((HB3.out.setCell (p := ⟨w.heap.size, _, none⟩) (Nat.le_refl _) _).setCell (p := ⟨w.heap.size, _, none⟩) (Nat.le_refl _) _).setCell (p := ⟨w.heap.size, _, none⟩) (Nat.le_refl _) _) (by simp only [heap_set]; exact HB3.out.size) _)
      | inr st =>
        rw [htk] at hret
        obtain ⟨rfl, tv2, ov2, avs2, hwk, _, _⟩ := hret.2
        have hE := Mk.flt_zero
        obtain ⟨A, c, rfl, hparts⟩ := hwk.parts
        have c1 := hwk.at_.cell 1 _ rfl
        have zg := hwk.at_.lt
        have HTk := Lib.hid htk
        have HWk := Lib.hid hwk
        have HTy := Lib.hid (Mk.Ty.kp (((Mk.Ty.new w #[.int .i64 0, .int .i64 0, .int .i64 0]).call HBt.out).call (Mk.below_new w1 (.cells #[.string s, .slice none 0 0, .slice none 0 0, .bool false] 69))) hret.1 (by
          rintro ((h | h | h) | h)
          · have := HZ1.out.lt; omega
          · cases h
          · cases h
          · exact h))
        have hgw : w.heap.size ≠ w1.heap.size := by have := HZ1.out.lt; omega
        have HP : Hid (∀ (x y z : Value) (o : Obj), Mk.Parts ((((w3.setCell ⟨w.heap.size, 0, none⟩ x).setCell ⟨w.heap.size, 1, none⟩ y).setCell ⟨w.heap.size, 2, none⟩ z).alloc o) A c st.toks avs2) := fun x y z o => by
          obtain ⟨A', c', e', hp'⟩ := ((HWk.out.setF3 HTy.out hgw x y z).alloc o).parts
          injection e' with e1 _ e2
          subst e1 e2
          exact hp'
        clear hret htk hwk hparts
        go_wp2
        refine bodyPost_ret (v := .tuple #[.slice A st.toks.length c, .agg #[.int .i64 0, .int .i64 0, .int .i64 0]]) (by simp [results, Tryd.results11, go_sem, *]) rfl ⟨?_, fun _ => by rw [HTk.out]; exact ⟨A, c, avs2, rfl, HP.out _ _ _ _⟩, fun h => absurd HF.out h⟩
        exact Below.alloc (((HB3.out.setCell (p := ⟨w.heap.size, _, none⟩) (Nat.le_refl _) _).setCell (p := ⟨w.heap.size, _, none⟩) (Nat.le_refl _) _).setCell (p := ⟨w.heap.size, _, none⟩) (Nat.le_refl _) _) (by simp only [heap_set]; exact HB3.out.size) _
    · have hnf : ¬ Mk.Fine s := fun h => by have := h.2.2 b hb; rw [hlow] at this; cases this
      have HNf := Lib.hid hnf
      have q5 : (0 : Int) ≤ (k : Int) := by omega
      have hks : k ≤ s.size := by rw [← tl_length]; omega
      clear hnf hk hb hlow
      go_wp2_with fail
      refine (HFt.out _ _ _).mono ?_
      rintro e w2 ⟨rfl, hb⟩
      have HB2 := Lib.hid (below_then HB1.out hb)
      have HZ2 := Lib.hid (HZ1.out.call hb)
      clear hb
      have hz1 := HZ2.out.lt
      obtain ⟨f0, f1, f2, e5, e6, e7⟩ := HZ2.out.three
      go_wp2
      refine bodyPost_ret (v := .tuple #[.slice none 0 0, .agg #[.int .i64 0, .int .i64 (k : Int), .int .i64 4]]) (by simp [results, Tryd.results11, go_sem, *]) rfl ?_
      exact Mk.TokRet.bad (((HB2.out.setCell (p := ⟨w.heap.size, _, none⟩) (Nat.le_refl _) _).setCell (p := ⟨w.heap.size, _, none⟩) (Nat.le_refl _) _).setCell (p := ⟨w.heap.size, _, none⟩) (Nat.le_refl _) _) HNf.out k 4 rfl (by decide) hks
end Go.Proofs.YtjbgmbhifnihaaaDoor
