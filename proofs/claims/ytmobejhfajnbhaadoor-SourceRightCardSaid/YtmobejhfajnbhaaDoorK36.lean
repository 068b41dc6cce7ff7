/- slices.IndexFunc and slices.ContainsFunc, at whatever predicate. -/
import Derived.Test.YtmobejhfajnbhaaDoorK29
import Derived.Laws.Cells
namespace Go.Proofs.YtmobejhfajnbhaaDoor
open Go.RowKit

namespace Ix
/-- The first place at which p holds; -1, if there is none. -/
def at_ {α : Type} (p : α → Bool) : List α → Int → Int
  | [], _ => -1
  | x :: l, i => if p x then i else at_ p l (i + 1)
theorem at_bd {α : Type} (p : α → Bool) : ∀ (l : List α) (i : Int), at_ p l i = -1 ∨ (i ≤ at_ p l i ∧ at_ p l i < i + l.length)
  | [], _ => .inl rfl
  | x :: l, i => by
    unfold at_
    split
    · right; simp; omega
    · rcases at_bd p l (i + 1) with h | h
      · exact .inl h
      · right; simp; omega
theorem at_any {α : Type} (p : α → Bool) : ∀ (l : List α) (i : Int), 0 ≤ i → decide (0 ≤ at_ p l i) = l.any p
  | [], _, _ => rfl
  | x :: l, i, h => by
    unfold at_
    cases hx : p x
    · rw [if_neg (by simp), at_any p l (i + 1) (by omega)]
      simp [hx]
    · rw [if_pos rfl]
      simp [hx, h]
theorem at_next {α : Type} {p : α → Bool} {l : List α} {k : Nat} {x : α} {X : Int} (h : X = at_ p (l.drop k) k) (hx : l[k]? = some x) : X = if p x then (k : Int) else at_ p (l.drop (k + 1)) ((k + 1 : Nat) : Int) := by
  rw [List.drop_eq_getElem_cons (List.getElem?_eq_some_iff.1 hx).1] at h
  rw [h, at_, (List.getElem?_eq_some_iff.1 hx).2]
  rfl
theorem at_end {α : Type} {p : α → Bool} {l : List α} {k : Nat} {X : Int} (h : X = at_ p (l.drop k) k) (hk : l.length ≤ k) : X = -1 := by
  rw [h, List.drop_eq_nil_of_le hk]
  rfl
/-- An element's cells, out of all. -/
theorem flat_at {α : Type} (enc : α → List Value) (m : Nat) (hm : ∀ x, (enc x).length = m) : ∀ (xs : List α) (k : Nat) (x : α), xs[k]? = some x → ∀ (j : Nat) (v : Value), (enc x)[j]? = some v → (xs.flatMap enc)[k * m + j]? = some v
  | [], k, x, h, j, v, hj => by simp at h
  | y :: l, 0, x, h, j, v, hj => by
    simp at h
    subst h
    rw [List.flatMap_cons, List.getElem?_append_left (by have := (List.getElem?_eq_some_iff.1 hj).1; omega)]
    simpa using hj
  | y :: l, k + 1, x, h, j, v, hj => by
    rw [List.flatMap_cons, List.getElem?_append_right (by rw [hm, Nat.add_mul]; omega), hm]
    have := flat_at enc m hm l k x (by simpa using h) j v hj
    rw [← this]
    congr 1
    rw [Nat.add_mul]
    omega
theorem flat_len {α : Type} (enc : α → List Value) (m : Nat) (hm : ∀ x, (enc x).length = m) : ∀ xs : List α, (xs.flatMap enc).length = xs.length * m
  | [] => by simp
  | y :: l => by rw [List.flatMap_cons, List.length_append, hm, flat_len enc m hm l, List.length_cons, Nat.add_mul]; omega
theorem reads_cells {α : Type} {enc : α → List Value} {m : Nat} (hm : ∀ x, (enc x).length = m) {w : World} {B n k : Nat} {A : Option Addr} {xs : List α} (hl : xs.length = n) (h : Reads w B m A n (xs.flatMap enc)) (hk : k < n) :
    ∃ ad x, A = some ad ∧ ad.block < B ∧ Hid (xs[k]? = some x) ∧ Hid (∀ j v, (enc x)[j]? = some v → w.cell? ((ad.add (k * m)).add j) = some v) := by
  obtain ⟨ad, e, hb, hc⟩ := h.2 (by omega)
  have hkl : k < xs.length := by omega
  refine ⟨ad, xs[k], e, hb, List.getElem?_eq_getElem hkl, fun j v hj => ?_⟩
  rw [add_of_add]
  exact hc _ _ (flat_at enc m hm xs k _ (List.getElem?_eq_getElem hkl) j v hj)
/-- What is asked of a predicate. -/
def Tells {α : Type} (g : FuncId) (lb : Array Value) (enc : α → Value) (p : α → Bool) (xs : List α) (w : World) : Prop :=
  ∀ W x, x ∈ xs → Below w.heap.size w W → Calls Tryd.prog g (#[enc x] ++ lb) W fun e w' => e = .returned (.bool (p x)) ∧ Below w.heap.size w w'
end Ix
set_option maxHeartbeats 2000000 in
set_option maxRecDepth 100000 in
theorem idx_str (p : ByteArray → Bool) (g : FuncId) (lb : Array Value) (eg : ∀ args w, (callFunc g args).run Tryd.prog w = .ok (.enter g args) w) (A : Option Addr) (n c : Nat) (xs : List ByteArray) (w : World) (hn : n ≤ maxLen) (hl : xs.length = n)
    (hr : Reads w w.heap.size 1 A n (xs.map Value.string)) (hp : Ix.Tells g lb Value.string p xs w) :
    Calls Tryd.prog 129 #[.slice A n c, .func (.func g) #[] lb] w fun e w' => e = .returned (.int .i64 (Ix.at_ p xs 0)) ∧ Below w.heap.size w w' := by
  unfold maxLen at hn
  obtain ⟨X, hX⟩ : ∃ X, Ix.at_ p xs 0 = X := ⟨_, rfl⟩
  rw [hX]
  have HX := Lib.hid hX
  have HR := Lib.hid hr
  have HP := Lib.hid hp
  have HL := Lib.hid hl
  clear hX hr hp hl
  go_enter Tryd.func129, Tryd.ntmps129
  go_wp2
  go_loopw [5, 8] (fun _ i wr => ∃ k : Nat, k ≤ n ∧ i = .int .i64 k ∧ Hid (X = Ix.at_ p (xs.drop k) k) ∧ Hid (Below w.heap.size w wr)) (fun _ i _ => n - (intOf i).toNat)
  case atStart => exact ⟨0, Nat.zero_le _, rfl, HX.out.symm, Below.refl _ _⟩
  case round =>
    obtain ⟨k, hk, rfl, HK, HB⟩ := hrel
    by_cases hlt : k < n
    · have q2 : (k : Int) < (n : Int) := by omega
      have q1 : (0 : Int) ≤ (k : Int) := by omega
      obtain ⟨ad, x, rfl, Hx, hcell⟩ : ∃ ad nm, A = some ad ∧ Hid (xs[k]? = some nm) ∧ wr.cell? (ad.add k) = some (.string nm) := reads_str (HR.out.below HB.out) hlt
      have HC := HP.out wr x (List.mem_of_getElem? Hx.out) HB.out
      have HN := Ix.at_next HK.out Hx.out
      cases hq : p x with
      | true =>
        rw [hq] at HC HN
        replace HN := Lib.hid (HN.trans (if_pos rfl))
        replace HC := Lib.hid HC
        clear hq
        go_wp2_with (go_at_fn g; refine HC.out.mono ?_; rintro e w' ⟨rfl, hb⟩)
        go_ret
        exact ⟨ret_int HN.out.symm, hb⟩
      | false =>
        rw [hq] at HC HN
        replace HN := Lib.hid (HN.trans (if_neg (by decide)))
        replace HC := Lib.hid HC
        clear hq
        go_wp2_with (go_at_fn g; refine HC.out.mono ?_; rintro e w' ⟨rfl, hb⟩)
        go_roundw
        case rel => exact ⟨k + 1, by omega, by go_num, HN.out, hb⟩
        case measure => simp [intOf]; omega
    · have q2 : ¬ (k : Int) < (n : Int) := by omega
      have HE := Lib.hid (Ix.at_end HK.out (by rw [HL.out]; omega))
      go_wp2
      go_ret
      exact ⟨ret_int HE.out.symm, HB.out⟩
set_option maxHeartbeats 2000000 in
set_option maxRecDepth 100000 in
theorem idx_rule (p : Ru.R → Bool) (g : FuncId) (lb : Array Value) (eg : ∀ args w, (callFunc g args).run Tryd.prog w = .ok (.enter g args) w) (A : Option Addr) (n c : Nat) (xs : List Ru.R) (w : World) (hn : n ≤ maxLen) (hl : xs.length = n)
    (hr : Reads w w.heap.size 11 A n (xs.flatMap Ru.R.cells)) (hp : Ix.Tells g lb Ru.R.v p xs w) :
    Calls Tryd.prog 97 #[.slice A n c, .func (.func g) #[] lb] w fun e w' => e = .returned (.int .i64 (Ix.at_ p xs 0)) ∧ Below w.heap.size w w' := by
  unfold maxLen at hn
  obtain ⟨X, hX⟩ : ∃ X, Ix.at_ p xs 0 = X := ⟨_, rfl⟩
  rw [hX]
  have HX := Lib.hid hX
  have HR := Lib.hid hr
  have HP := Lib.hid hp
  have HL := Lib.hid hl
  clear hX hr hp hl
  go_enter Tryd.func97, Tryd.ntmps97
  go_wp2
  go_loopw [5, 8] (fun _ i wr => ∃ k : Nat, k ≤ n ∧ i = .int .i64 k ∧ Hid (X = Ix.at_ p (xs.drop k) k) ∧ Hid (Below w.heap.size w wr)) (fun _ i _ => n - (intOf i).toNat)
  case atStart => exact ⟨0, Nat.zero_le _, rfl, HX.out.symm, Below.refl _ _⟩
  case round =>
    obtain ⟨k, hk, rfl, HK, HB⟩ := hrel
    by_cases hlt : k < n
    · have q2 : (k : Int) < (n : Int) := by omega
      have q1 : (0 : Int) ≤ (k : Int) := by omega
      obtain ⟨ad, x, rfl, hab, Hx, HL0⟩ := Ix.reads_cells (enc := Ru.R.cells) (m := 11) (fun _ => rfl) HL.out (HR.out.below HB.out) hlt
      have hc0 : wr.cell? (ad.add (k * 11)) = some (.string x.nm) := HL0.out 0 _ rfl
      have hc1 : wr.cell? ⟨(ad.add (k * 11)).block, (ad.add (k * 11)).off + 1, none⟩ = some (.int .i64 x.fr) := HL0.out 1 _ rfl
      have hc2 : wr.cell? ⟨(ad.add (k * 11)).block, (ad.add (k * 11)).off + 2, none⟩ = some (.int .i64 x.tt) := HL0.out 2 _ rfl
      have hc3 : wr.cell? ⟨(ad.add (k * 11)).block, (ad.add (k * 11)).off + 3, none⟩ = some (.int .i64 x.mo) := HL0.out 3 _ rfl
      have hc4 : wr.cell? ⟨(ad.add (k * 11)).block, (ad.add (k * 11)).off + 4, none⟩ = some (.int .u8 x.k) := HL0.out 4 _ rfl
      have hc5 : wr.cell? ⟨(ad.add (k * 11)).block, (ad.add (k * 11)).off + 5, none⟩ = some (.int .i64 x.n) := HL0.out 5 _ rfl
      have hc6 : wr.cell? ⟨(ad.add (k * 11)).block, (ad.add (k * 11)).off + 6, none⟩ = some (.int .i64 x.d) := HL0.out 6 _ rfl
      have hc7 : wr.cell? ⟨(ad.add (k * 11)).block, (ad.add (k * 11)).off + 7, none⟩ = some (.int .i64 x.s) := HL0.out 7 _ rfl
      have hc8 : wr.cell? ⟨(ad.add (k * 11)).block, (ad.add (k * 11)).off + 8, none⟩ = some (.int .u8 x.c) := HL0.out 8 _ rfl
      have hc9 : wr.cell? ⟨(ad.add (k * 11)).block, (ad.add (k * 11)).off + 9, none⟩ = some (.int .i64 x.sv) := HL0.out 9 _ rfl
      have hc10 : wr.cell? ⟨(ad.add (k * 11)).block, (ad.add (k * 11)).off + 10, none⟩ = some (.string x.lt) := HL0.out 10 _ rfl
      have HC := HP.out wr x (List.mem_of_getElem? Hx.out) HB.out
      have HN := Ix.at_next HK.out Hx.out
      cases hq : p x with
      | true =>
        rw [hq] at HC HN
        replace HN := Lib.hid (HN.trans (if_pos rfl))
        replace HC := Lib.hid HC
        clear hq
        go_wp2_with (go_at_fn g; refine HC.out.mono ?_; rintro e w' ⟨rfl, hb⟩)
        go_ret
        exact ⟨ret_int HN.out.symm, hb⟩
      | false =>
        rw [hq] at HC HN
        replace HN := Lib.hid (HN.trans (if_neg (by decide)))
        replace HC := Lib.hid HC
        clear hq
        go_wp2_with (go_at_fn g; refine HC.out.mono ?_; rintro e w' ⟨rfl, hb⟩)
        go_roundw
        case rel => exact ⟨k + 1, by omega, by go_num, HN.out, hb⟩
        case measure => simp [intOf]; omega
    · have q2 : ¬ (k : Int) < (n : Int) := by omega
      have HE := Lib.hid (Ix.at_end HK.out (by rw [HL.out]; omega))
      go_wp2
      go_ret
      exact ⟨ret_int HE.out.symm, HB.out⟩
set_option maxHeartbeats 400000 in
theorem has_rule (p : Ru.R → Bool) (g : FuncId) (lb : Array Value) (eg : ∀ args w, (callFunc g args).run Tryd.prog w = .ok (.enter g args) w) (A : Option Addr) (n c : Nat) (xs : List Ru.R) (w : World) (hn : n ≤ maxLen) (hl : xs.length = n)
    (hr : Reads w w.heap.size 11 A n (xs.flatMap Ru.R.cells)) (hp : Ix.Tells g lb Ru.R.v p xs w) :
    Calls Tryd.prog 62 #[.slice A n c, .func (.func g) #[] lb] w fun e w' => e = .returned (.bool (xs.any p)) ∧ Below w.heap.size w w' := by
  have h := idx_rule p g lb eg A n c xs w hn hl hr hp
  have hb := Ix.at_bd p xs 0
  rw [← Ix.at_any p xs 0 (by omega)]
  obtain ⟨X, hX⟩ : ∃ X, Ix.at_ p xs 0 = X := ⟨_, rfl⟩
  rw [hX] at h ⊢
  have H := Lib.hid h
  clear h hX hr hp hb
  go_enter Tryd.func62, Tryd.ntmps62
  go_wp2_with fail
  refine H.out.mono ?_
  rintro e w1 ⟨rfl, hb⟩
  have HB := Lib.hid hb
  clear hb
  go_wp2
  go_ret
  exact ⟨rfl, HB.out⟩
namespace Src
/-- A zone with its eras' slice; its cells. -/
def zc (p : (Txt × List Er.E) × Value) : List Value := [.string (bts p.1.1), p.2]
def zv (p : (Txt × List Er.E) × Value) : Value := .agg #[.string (bts p.1.1), p.2]
def lc (p : Txt × Txt) : List Value := [.string (bts p.1), .string (bts p.2)]
def lv (p : Txt × Txt) : Value := .agg #[.string (bts p.1), .string (bts p.2)]
end Src
set_option maxHeartbeats 2000000 in
set_option maxRecDepth 100000 in
theorem idx_zone (p : ((Src.Txt × List Er.E) × Value) → Bool) (g : FuncId) (lb : Array Value) (eg : ∀ args w, (callFunc g args).run Tryd.prog w = .ok (.enter g args) w) (A : Option Addr) (n c : Nat) (xs : List ((Src.Txt × List Er.E) × Value)) (w : World) (hn : n ≤ maxLen) (hl : xs.length = n)
    (hr : Reads w w.heap.size 2 A n (xs.flatMap Src.zc)) (hp : Ix.Tells g lb Src.zv p xs w) :
    Calls Tryd.prog 98 #[.slice A n c, .func (.func g) #[] lb] w fun e w' => e = .returned (.int .i64 (Ix.at_ p xs 0)) ∧ Below w.heap.size w w' := by
  unfold maxLen at hn
  obtain ⟨X, hX⟩ : ∃ X, Ix.at_ p xs 0 = X := ⟨_, rfl⟩
  rw [hX]
  have HX := Lib.hid hX
  have HR := Lib.hid hr
  have HP := Lib.hid hp
  have HL := Lib.hid hl
  clear hX hr hp hl
  go_enter Tryd.func98, Tryd.ntmps98
  go_wp2
  go_loopw [5, 8] (fun _ i wr => ∃ k : Nat, k ≤ n ∧ i = .int .i64 k ∧ Hid (X = Ix.at_ p (xs.drop k) k) ∧ Hid (Below w.heap.size w wr)) (fun _ i _ => n - (intOf i).toNat)
  case atStart => exact ⟨0, Nat.zero_le _, rfl, HX.out.symm, Below.refl _ _⟩
  case round =>
    obtain ⟨k, hk, rfl, HK, HB⟩ := hrel
    by_cases hlt : k < n
    · have q2 : (k : Int) < (n : Int) := by omega
      have q1 : (0 : Int) ≤ (k : Int) := by omega
      obtain ⟨ad, x, rfl, hab, Hx, HL0⟩ := Ix.reads_cells (enc := Src.zc) (m := 2) (fun _ => rfl) HL.out (HR.out.below HB.out) hlt
      have hc0 : wr.cell? (ad.add (k * 2)) = some (.string (Src.bts x.1.1)) := HL0.out 0 _ rfl
      have hc1 : wr.cell? ⟨(ad.add (k * 2)).block, (ad.add (k * 2)).off + 1, none⟩ = some (x.2) := HL0.out 1 _ rfl
      have HC := HP.out wr x (List.mem_of_getElem? Hx.out) HB.out
      have HN := Ix.at_next HK.out Hx.out
      cases hq : p x with
      | true =>
        rw [hq] at HC HN
        replace HN := Lib.hid (HN.trans (if_pos rfl))
        replace HC := Lib.hid HC
        clear hq
        go_wp2_with (go_at_fn g; refine HC.out.mono ?_; rintro e w' ⟨rfl, hb⟩)
        go_ret
        exact ⟨ret_int HN.out.symm, hb⟩
      | false =>
        rw [hq] at HC HN
        replace HN := Lib.hid (HN.trans (if_neg (by decide)))
        replace HC := Lib.hid HC
        clear hq
        go_wp2_with (go_at_fn g; refine HC.out.mono ?_; rintro e w' ⟨rfl, hb⟩)
        go_roundw
        case rel => exact ⟨k + 1, by omega, by go_num, HN.out, hb⟩
        case measure => simp [intOf]; omega
    · have q2 : ¬ (k : Int) < (n : Int) := by omega
      have HE := Lib.hid (Ix.at_end HK.out (by rw [HL.out]; omega))
      go_wp2
      go_ret
      exact ⟨ret_int HE.out.symm, HB.out⟩
set_option maxHeartbeats 400000 in
theorem has_zone (p : ((Src.Txt × List Er.E) × Value) → Bool) (g : FuncId) (lb : Array Value) (eg : ∀ args w, (callFunc g args).run Tryd.prog w = .ok (.enter g args) w) (A : Option Addr) (n c : Nat) (xs : List ((Src.Txt × List Er.E) × Value)) (w : World) (hn : n ≤ maxLen) (hl : xs.length = n)
    (hr : Reads w w.heap.size 2 A n (xs.flatMap Src.zc)) (hp : Ix.Tells g lb Src.zv p xs w) :
    Calls Tryd.prog 63 #[.slice A n c, .func (.func g) #[] lb] w fun e w' => e = .returned (.bool (xs.any p)) ∧ Below w.heap.size w w' := by
  have h := idx_zone p g lb eg A n c xs w hn hl hr hp
  have hb := Ix.at_bd p xs 0
  rw [← Ix.at_any p xs 0 (by omega)]
  obtain ⟨X, hX⟩ : ∃ X, Ix.at_ p xs 0 = X := ⟨_, rfl⟩
  rw [hX] at h ⊢
  have H := Lib.hid h
  clear h hX hr hp hb
  go_enter Tryd.func63, Tryd.ntmps63
  go_wp2_with fail
  refine H.out.mono ?_
  rintro e w1 ⟨rfl, hb⟩
  have HB := Lib.hid hb
  clear hb
  go_wp2
  go_ret
  exact ⟨rfl, HB.out⟩
set_option maxHeartbeats 2000000 in
set_option maxRecDepth 100000 in
theorem idx_link (p : (Src.Txt × Src.Txt) → Bool) (g : FuncId) (lb : Array Value) (eg : ∀ args w, (callFunc g args).run Tryd.prog w = .ok (.enter g args) w) (A : Option Addr) (n c : Nat) (xs : List (Src.Txt × Src.Txt)) (w : World) (hn : n ≤ maxLen) (hl : xs.length = n)
    (hr : Reads w w.heap.size 2 A n (xs.flatMap Src.lc)) (hp : Ix.Tells g lb Src.lv p xs w) :
    Calls Tryd.prog 99 #[.slice A n c, .func (.func g) #[] lb] w fun e w' => e = .returned (.int .i64 (Ix.at_ p xs 0)) ∧ Below w.heap.size w w' := by
  unfold maxLen at hn
  obtain ⟨X, hX⟩ : ∃ X, Ix.at_ p xs 0 = X := ⟨_, rfl⟩
  rw [hX]
  have HX := Lib.hid hX
  have HR := Lib.hid hr
  have HP := Lib.hid hp
  have HL := Lib.hid hl
  clear hX hr hp hl
  go_enter Tryd.func99, Tryd.ntmps99
  go_wp2
  go_loopw [5, 8] (fun _ i wr => ∃ k : Nat, k ≤ n ∧ i = .int .i64 k ∧ Hid (X = Ix.at_ p (xs.drop k) k) ∧ Hid (Below w.heap.size w wr)) (fun _ i _ => n - (intOf i).toNat)
  case atStart => exact ⟨0, Nat.zero_le _, rfl, HX.out.symm, Below.refl _ _⟩
  case round =>
    obtain ⟨k, hk, rfl, HK, HB⟩ := hrel
    by_cases hlt : k < n
    · have q2 : (k : Int) < (n : Int) := by omega
      have q1 : (0 : Int) ≤ (k : Int) := by omega
      obtain ⟨ad, x, rfl, hab, Hx, HL0⟩ := Ix.reads_cells (enc := Src.lc) (m := 2) (fun _ => rfl) HL.out (HR.out.below HB.out) hlt
      have hc0 : wr.cell? (ad.add (k * 2)) = some (.string (Src.bts x.1)) := HL0.out 0 _ rfl
      have hc1 : wr.cell? ⟨(ad.add (k * 2)).block, (ad.add (k * 2)).off + 1, none⟩ = some (.string (Src.bts x.2)) := HL0.out 1 _ rfl
      have HC := HP.out wr x (List.mem_of_getElem? Hx.out) HB.out
      have HN := Ix.at_next HK.out Hx.out
      cases hq : p x with
      | true =>
        rw [hq] at HC HN
        replace HN := Lib.hid (HN.trans (if_pos rfl))
        replace HC := Lib.hid HC
        clear hq
        go_wp2_with (go_at_fn g; refine HC.out.mono ?_; rintro e w' ⟨rfl, hb⟩)
        go_ret
        exact ⟨ret_int HN.out.symm, hb⟩
      | false =>
        rw [hq] at HC HN
        replace HN := Lib.hid (HN.trans (if_neg (by decide)))
        replace HC := Lib.hid HC
        clear hq
        go_wp2_with (go_at_fn g; refine HC.out.mono ?_; rintro e w' ⟨rfl, hb⟩)
        go_roundw
        case rel => exact ⟨k + 1, by omega, by go_num, HN.out, hb⟩
        case measure => simp [intOf]; omega
    · have q2 : ¬ (k : Int) < (n : Int) := by omega
      have HE := Lib.hid (Ix.at_end HK.out (by rw [HL.out]; omega))
      go_wp2
      go_ret
      exact ⟨ret_int HE.out.symm, HB.out⟩
set_option maxHeartbeats 400000 in
theorem has_link (p : (Src.Txt × Src.Txt) → Bool) (g : FuncId) (lb : Array Value) (eg : ∀ args w, (callFunc g args).run Tryd.prog w = .ok (.enter g args) w) (A : Option Addr) (n c : Nat) (xs : List (Src.Txt × Src.Txt)) (w : World) (hn : n ≤ maxLen) (hl : xs.length = n)
    (hr : Reads w w.heap.size 2 A n (xs.flatMap Src.lc)) (hp : Ix.Tells g lb Src.lv p xs w) :
    Calls Tryd.prog 64 #[.slice A n c, .func (.func g) #[] lb] w fun e w' => e = .returned (.bool (xs.any p)) ∧ Below w.heap.size w w' := by
  have h := idx_link p g lb eg A n c xs w hn hl hr hp
  have hb := Ix.at_bd p xs 0
  rw [← Ix.at_any p xs 0 (by omega)]
  obtain ⟨X, hX⟩ : ∃ X, Ix.at_ p xs 0 = X := ⟨_, rfl⟩
  rw [hX] at h ⊢
  have H := Lib.hid h
  clear h hX hr hp hb
  go_enter Tryd.func64, Tryd.ntmps64
  go_wp2_with fail
  refine H.out.mono ?_
  rintro e w1 ⟨rfl, hb⟩
  have HB := Lib.hid hb
  clear hb
  go_wp2
  go_ret
  exact ⟨rfl, HB.out⟩
end Go.Proofs.YtmobejhfajnbhaaDoor
