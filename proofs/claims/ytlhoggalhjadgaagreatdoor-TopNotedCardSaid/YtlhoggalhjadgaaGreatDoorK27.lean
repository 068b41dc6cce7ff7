/- slices.IndexFunc and slices.ContainsFunc, at whatever predicate. -/
import Derived.Test.YtlhoggalhjadgaaGreatDoorK23
import Derived.Laws.Cells
import Derived.Test.YtlhoggalhjadgaaGreatDoorK26

namespace Go.Proofs.YtlhoggalhjadgaaGreatDoor
open Go.RowKit

namespace Ix
/-- The first place at which p holds; -1, if there is none. -/
def at_ {α : Type} (p : α → Bool) : List α → Int → Int
  | [], _ => -1
  | x :: l, i => if p x then i else at_ p l (i + 1)
theorem at_bd {α : Type} (p : α → Bool) : ∀ (l : List α) (i : Int), at_ p l i = -1 ∨ (i ≤ at_ p l i ∧ at_ p l i < i + l.length)
  | [], _ => .inl rfl
  | x :: l, i => by
    unfold at_
    split
    · right; simp; omega
    · rcases at_bd p l (i + 1) with h | h
      · exact .inl h
      · right; simp; omega
theorem at_any {α : Type} (p : α → Bool) : ∀ (l : List α) (i : Int), 0 ≤ i → decide (0 ≤ at_ p l i) = l.any p
  | [], _, _ => rfl
  | x :: l, i, h => by
    unfold at_
    cases hx : p x
    · rw [if_neg (by simp), at_any p l (i + 1) (by omega)]
      simp [hx]
    · rw [if_pos rfl]
      simp [hx, h]
theorem at_next {α : Type} {p : α → Bool} {l : List α} {k : Nat} {x : α} {X : Int} (h : X = at_ p (l.drop k) k) (hx : l[k]? = some x) : X = if p x then (k : Int) else at_ p (l.drop (k + 1)) ((k + 1 : Nat) : Int) := by
  rw [List.drop_eq_getElem_cons (List.getElem?_eq_some_iff.1 hx).1] at h
  rw [h, at_, (List.getElem?_eq_some_iff.1 hx).2]
  rfl
theorem at_end {α : Type} {p : α → Bool} {l : List α} {k : Nat} {X : Int} (h : X = at_ p (l.drop k) k) (hk : l.length ≤ k) : X = -1 := by
  rw [h, List.drop_eq_nil_of_le hk]
  rfl
/-- An element's cells, out of all. -/
theorem flat_at {α : Type} (enc : α → List Value) (m : Nat) (hm : ∀ x, (enc x).length = m) : ∀ (xs : List α) (k : Nat) (x : α), xs[k]? = some x → ∀ (j : Nat) (v : Value), (enc x)[j]? = some v → (xs.flatMap enc)[k * m + j]? = some v
  | [], k, x, h, j, v, hj => by simp at h
  | y :: l, 0, x, h, j, v, hj => by
    simp at h
    subst h
    rw [List.flatMap_cons, List.getElem?_append_left (by have := (List.getElem?_eq_some_iff.1 hj).1; omega)]
    simpa using hj
  | y :: l, k + 1, x, h, j, v, hj => by
    rw [List.flatMap_cons, List.getElem?_append_right (by rw [hm, Nat.add_mul]; omega), hm]
    have := flat_at enc m hm l k x (by simpa using h) j v hj
    rw [← this]
    congr 1
    rw [Nat.add_mul]
    omega
theorem flat_len {α : Type} (enc : α → List Value) (m : Nat) (hm : ∀ x, (enc x).length = m) : ∀ xs : List α, (xs.flatMap enc).length = xs.length * m
  | [] => by simp
  | y :: l => by rw [List.flatMap_cons, List.length_append, hm, flat_len enc m hm l, List.length_cons, Nat.add_mul]; omega
theorem reads_cells {α : Type} {enc : α → List Value} {m : Nat} (hm : ∀ x, (enc x).length = m) {w : World} {B n k : Nat} {A : Option Addr} {xs : List α} (hl : xs.length = n) (h : Reads w B m A n (xs.flatMap enc)) (hk : k < n) :
    ∃ ad x, A = some ad ∧ ad.block < B ∧ Hid (xs[k]? = some x) ∧ Hid (∀ j v, (enc x)[j]? = some v → w.cell? ((ad.add (k * m)).add j) = some v) := by
  obtain ⟨ad, e, hb, hc⟩ := h.2 (by omega)
  have hkl : k < xs.length := by omega
  refine ⟨ad, xs[k], e, hb, List.getElem?_eq_getElem hkl, fun j v hj => ?_⟩
  rw [add_of_add]
  exact hc _ _ (flat_at enc m hm xs k _ (List.getElem?_eq_getElem hkl) j v hj)
/-- What is asked of a predicate. -/
def Tells {α : Type} (g : FuncId) (lb : Array Value) (enc : α → Value) (p : α → Bool) (xs : List α) (w : World) : Prop :=
  ∀ W x, x ∈ xs → Below w.heap.size w W → Calls Tryz.prog g (#[enc x] ++ lb) W fun e w' => e = .returned (.bool (p x)) ∧ Below w.heap.size w w'
end Ix
set_option maxHeartbeats 2000000 in
set_option maxRecDepth 100000 in
theorem idx_str (p : ByteArray → Bool) (g : FuncId) (lb : Array Value) (eg : ∀ args w, (callFunc g args).run Tryz.prog w = .ok (.enter g args) w) (A : Option Addr) (n c : Nat) (xs : List ByteArray) (w : World) (hn : n ≤ maxLen) (hl : xs.length = n)
    (hr : Reads w w.heap.size 1 A n (xs.map Value.string)) (hp : Ix.Tells g lb Value.string p xs w) :
    Calls Tryz.prog 75 #[.slice A n c, .func (.func g) #[] lb] w fun e w' => e = .returned (.int .i64 (Ix.at_ p xs 0)) ∧ Below w.heap.size w w' := by
  unfold maxLen at hn
  obtain ⟨X, hX⟩ : ∃ X, Ix.at_ p xs 0 = X := ⟨_, rfl⟩
  rw [hX]
  have HX := Lib.hid hX
  have HR := Lib.hid hr
  have HP := Lib.hid hp
  have HL := Lib.hid hl
  clear hX hr hp hl
  go_enter Tryz.func75, Tryz.ntmps75
  go_wp2
  go_loopw [5, 8] (fun _ i wr => ∃ k : Nat, k ≤ n ∧ i = .int .i64 k ∧ Hid (X = Ix.at_ p (xs.drop k) k) ∧ Hid (Below w.heap.size w wr)) (fun _ i _ => n - (intOf i).toNat)
  case atStart => exact ⟨0, Nat.zero_le _, rfl, HX.out.symm, Below.refl _ _⟩
  case round =>
    obtain ⟨k, hk, rfl, HK, HB⟩ := hrel
    by_cases hlt : k < n
    · have q2 : (k : Int) < (n : Int) := by omega
      have q1 : (0 : Int) ≤ (k : Int) := by omega
      obtain ⟨ad, x, rfl, Hx, hcell⟩ : ∃ ad nm, A = some ad ∧ Hid (xs[k]? = some nm) ∧ wr.cell? (ad.add k) = some (.string nm) := reads_str (HR.out.below HB.out) hlt
      have HC := HP.out wr x (List.mem_of_getElem? Hx.out) HB.out
      have HN := Ix.at_next HK.out Hx.out
      cases hq : p x with
      | true =>
        rw [hq] at HC HN
        replace HN := Lib.hid (HN.trans (if_pos rfl))
        replace HC := Lib.hid HC
        clear hq
        go_wp2_with (go_at_fn g; refine HC.out.mono ?_; rintro e w' ⟨rfl, hb⟩)
        go_ret
        exact ⟨ret_int HN.out.symm, hb⟩
      | false =>
        rw [hq] at HC HN
        replace HN := Lib.hid (HN.trans (if_neg (by decide)))
        replace HC := Lib.hid HC
        clear hq
        go_wp2_with (go_at_fn g; refine HC.out.mono ?_; rintro e w' ⟨rfl, hb⟩)
        go_roundw
        case rel => exact ⟨k + 1, by omega, by go_num, HN.out, hb⟩
        case measure => simp [intOf]; omega
    · have q2 : ¬ (k : Int) < (n : Int) := by omega
      have HE := Lib.hid (Ix.at_end HK.out (by rw [HL.out]; omega))
      go_wp2
      go_ret
      exact ⟨ret_int HE.out.symm, HB.out⟩
set_option maxHeartbeats 2000000 in
set_option maxRecDepth 100000 in
theorem idx_rule (p : Ru.R → Bool) (g : FuncId) (lb : Array Value) (eg : ∀ args w, (callFunc g args).run Tryz.prog w = .ok (.enter g args) w) (A : Option Addr) (n c : Nat) (xs : List Ru.R) (w : World) (hn : n ≤ maxLen) (hl : xs.length = n)
    (hr : Reads w w.heap.size 11 A n (xs.flatMap Ru.R.cells)) (hp : Ix.Tells g lb Ru.R.v p xs w) :
    Calls Tryz.prog 46 #[.slice A n c, .func (.func g) #[] lb] w fun e w' => e = .returned (.int .i64 (Ix.at_ p xs 0)) ∧ Below w.heap.size w w' := by
  unfold maxLen at hn
  obtain ⟨X, hX⟩ : ∃ X, Ix.at_ p xs 0 = X := ⟨_, rfl⟩
  rw [hX]
  have HX := Lib.hid hX
  have HR := Lib.hid hr
  have HP := Lib.hid hp
  have HL := Lib.hid hl
  clear hX hr hp hl
  go_enter Tryz.func46, Tryz.ntmps46
  go_wp2
  go_loopw [5, 8] (fun _ i wr => ∃ k : Nat, k ≤ n ∧ i = .int .i64 k ∧ Hid (X = Ix.at_ p (xs.drop k) k) ∧ Hid (Below w.heap.size w wr)) (fun _ i _ => n - (intOf i).toNat)
  case atStart => exact ⟨0, Nat.zero_le _, rfl, HX.out.symm, Below.refl _ _⟩
  case round =>
    obtain ⟨k, hk, rfl, HK, HB⟩ := hrel
    by_cases hlt : k < n
    · have q2 : (k : Int) < (n : Int) := by omega
      have q1 : (0 : Int) ≤ (k : Int) := by omega
      obtain ⟨ad, x, rfl, hab, Hx, HL0⟩ := Ix.reads_cells (enc := Ru.R.cells) (m := 11) (fun _ => rfl) HL.out (HR.out.below HB.out) hlt
      have hc0 : wr.cell? (ad.add (k * 11)) = some (.string x.nm) := HL0.out 0 _ rfl
      have hc1 : wr.cell? ⟨(ad.add (k * 11)).block, (ad.add (k * 11)).off + 1, none⟩ = some (.int .i64 x.fr) := HL0.out 1 _ rfl
      have hc2 : wr.cell? ⟨(ad.add (k * 11)).block, (ad.add (k * 11)).off + 2, none⟩ = some (.int .i64 x.tt) := HL0.out 2 _ rfl
      have hc3 : wr.cell? ⟨(ad.add (k * 11)).block, (ad.add (k * 11)).off + 3, none⟩ = some (.int .i64 x.mo) := HL0.out 3 _ rfl
      have hc4 : wr.cell? ⟨(ad.add (k * 11)).block, (ad.add (k * 11)).off + 4, none⟩ = some (.int .u8 x.k) := HL0.out 4 _ rfl
      have hc5 : wr.cell? ⟨(ad.add (k * 11)).block, (ad.add (k * 11)).off + 5, none⟩ = some (.int .i64 x.n) := HL0.out 5 _ rfl
      have hc6 : wr.cell? ⟨(ad.add (k * 11)).block, (ad.add (k * 11)).off + 6, none⟩ = some (.int .i64 x.d) := HL0.out 6 _ rfl
      have hc7 : wr.cell? ⟨(ad.add (k * 11)).block, (ad.add (k * 11)).off + 7, none⟩ = some (.int .i64 x.s) := HL0.out 7 _ rfl
      have hc8 : wr.cell? ⟨(ad.add (k * 11)).block, (ad.add (k * 11)).off + 8, none⟩ = some (.int .u8 x.c) := HL0.out 8 _ rfl
      have hc9 : wr.cell? ⟨(ad.add (k * 11)).block, (ad.add (k * 11)).off + 9, none⟩ = some (.int .i64 x.sv) := HL0.out 9 _ rfl
      have hc10 : wr.cell? ⟨(ad.add (k * 11)).block, (ad.add (k * 11)).off + 10, none⟩ = some (.string x.lt) := HL0.out 10 _ rfl
      have HC := HP.out wr x (List.mem_of_getElem? Hx.out) HB.out
      have HN := Ix.at_next HK.out Hx.out
      cases hq : p x with
      | true =>
        rw [hq] at HC HN
        replace HN := Lib.hid (HN.trans (if_pos rfl))
        replace HC := Lib.hid HC
        clear hq
        go_wp2_with (go_at_fn g; refine HC.out.mono ?_; rintro e w' ⟨rfl, hb⟩)
        go_ret
        exact ⟨ret_int HN.out.symm, hb⟩
      | false =>
        rw [hq] at HC HN
        replace HN := Lib.hid (HN.trans (if_neg (by decide)))
        replace HC := Lib.hid HC
        clear hq
        go_wp2_with (go_at_fn g; refine HC.out.mono ?_; rintro e w' ⟨rfl, hb⟩)
        go_roundw
        case rel => exact ⟨k + 1, by omega, by go_num, HN.out, hb⟩
        case measure => simp [intOf]; omega
    · have q2 : ¬ (k : Int) < (n : Int) := by omega
      have HE := Lib.hid (Ix.at_end HK.out (by rw [HL.out]; omega))
      go_wp2
      go_ret
      exact ⟨ret_int HE.out.symm, HB.out⟩
set_option maxHeartbeats 400000 in
theorem has_rule (p : Ru.R → Bool) (g : FuncId) (lb : Array Value) (eg : ∀ args w, (callFunc g args).run Tryz.prog w = .ok (.enter g args) w) (A : Option Addr) (n c : Nat) (xs : List Ru.R) (w : World) (hn : n ≤ maxLen) (hl : xs.length = n)
    (hr : Reads w w.heap.size 11 A n (xs.flatMap Ru.R.cells)) (hp : Ix.Tells g lb Ru.R.v p xs w) :
    Calls Tryz.prog 26 #[.slice A n c, .func (.func g) #[] lb] w fun e w' => e = .returned (.bool (xs.any p)) ∧ Below w.heap.size w w' := by
  have h := idx_rule p g lb eg A n c xs w hn hl hr hp
  have hb := Ix.at_bd p xs 0
  rw [← Ix.at_any p xs 0 (by omega)]
  obtain ⟨X, hX⟩ : ∃ X, Ix.at_ p xs 0 = X := ⟨_, rfl⟩
  rw [hX] at h ⊢
  have H := Lib.hid h
  clear h hX hr hp hb
  go_enter Tryz.func26, Tryz.ntmps26
  go_wp2_with fail
  refine H.out.mono ?_
  rintro e w1 ⟨rfl, hb⟩
  have HB := Lib.hid hb
  clear hb
  go_wp2
  go_ret
  exact ⟨rfl, HB.out⟩
namespace Src
/-- A zone with its eras' slice; its cells. -/
def zc (p : (Txt × List Er.E) × Value) : List Value := [.string (bts p.1.1), p.2]
def zv (p : (Txt × List Er.E) × Value) : Value := .agg #[.string (bts p.1.1), p.2]
def lc (p : Txt × Txt) : List Value := [.string (bts p.1), .string (bts p.2)]
def lv (p : Txt × Txt) : Value := .agg #[.string (bts p.1), .string (bts p.2)]
end Src
set_option maxHeartbeats 2000000 in
set_option maxRecDepth 100000 in
theorem idx_zone (p : ((Src.Txt × List Er.E) × Value) → Bool) (g : FuncId) (lb : Array Value) (eg : ∀ args w, (callFunc g args).run Tryz.prog w = .ok (.enter g args) w) (A : Option Addr) (n c : Nat) (xs : List ((Src.Txt × List Er.E) × Value)) (w : World) (hn : n ≤ maxLen) (hl : xs.length = n)
    (hr : Reads w w.heap.size 2 A n (xs.flatMap Src.zc)) (hp : Ix.Tells g lb Src.zv p xs w) :
    Calls Tryz.prog 47 #[.slice A n c, .func (.func g) #[] lb] w fun e w' => e = .returned (.int .i64 (Ix.at_ p xs 0)) ∧ Below w.heap.size w w' := by
  unfold maxLen at hn
  obtain ⟨X, hX⟩ : ∃ X, Ix.at_ p xs 0 = X := ⟨_, rfl⟩
  rw [hX]
  have HX := Lib.hid hX
  have HR := Lib.hid hr
  have HP := Lib.hid hp
  have HL := Lib.hid hl
  clear hX hr hp hl
  go_enter Tryz.func47, Tryz.ntmps47
  go_wp2
  go_loopw [5, 8] (fun _ i wr => ∃ k : Nat, k ≤ n ∧ i = .int .i64 k ∧ Hid (X = Ix.at_ p (xs.drop k) k) ∧ Hid (Below w.heap.size w wr)) (fun _ i _ => n - (intOf i).toNat)
  case atStart => exact ⟨0, Nat.zero_le _, rfl, HX.out.symm, Below.refl _ _⟩
  case round =>
    obtain ⟨k, hk, rfl, HK, HB⟩ := hrel
    by_cases hlt : k < n
    · have q2 : (k : Int) < (n : Int) := by omega
      have q1 : (0 : Int) ≤ (k : Int) := by omega
      obtain ⟨ad, x, rfl, hab, Hx, HL0⟩ := Ix.reads_cells (enc := Src.zc) (m := 2) (fun _ => rfl) HL.out (HR.out.below HB.out) hlt
      have hc0 : wr.cell? (ad.add (k * 2)) = some (.string (Src.bts x.1.1)) := HL0.out 0 _ rfl
      have hc1 : wr.cell? ⟨(ad.add (k * 2)).block, (ad.add (k * 2)).off + 1, none⟩ = some (x.2) := HL0.out 1 _ rfl
      have HC := HP.out wr x (List.mem_of_getElem? Hx.out) HB.out
      have HN := Ix.at_next HK.out Hx.out
      cases hq : p x with
      | true =>
        rw [hq] at HC HN
        replace HN := Lib.hid (HN.trans (if_pos rfl))
        replace HC := Lib.hid HC
        clear hq
        go_wp2_with (go_at_fn g; refine HC.out.mono ?_; rintro e w' ⟨rfl, hb⟩)
        go_ret
        exact ⟨ret_int HN.out.symm, hb⟩
      | false =>
        rw [hq] at HC HN
        replace HN := Lib.hid (HN.trans (if_neg (by decide)))
        replace HC := Lib.hid HC
        clear hq
        go_wp2_with (go_at_fn g; refine HC.out.mono ?_; rintro e w' ⟨rfl, hb⟩)
        go_roundw
        case rel => exact ⟨k + 1, by omega, by go_num, HN.out, hb⟩
        case measure => simp [intOf]; omega
    · have q2 : ¬ (k : Int) < (n : Int) := by omega
      have HE := Lib.hid (Ix.at_end HK.out (by rw [HL.out]; omega))
      go_wp2
      go_ret
      exact ⟨ret_int HE.out.symm, HB.out⟩
set_option maxHeartbeats 400000 in
theorem has_zone (p : ((Src.Txt × List Er.E) × Value) → Bool) (g : FuncId) (lb : Array Value) (eg : ∀ args w, (callFunc g args).run Tryz.prog w = .ok (.enter g args) w) (A : Option Addr) (n c : Nat) (xs : List ((Src.Txt × List Er.E) × Value)) (w : World) (hn : n ≤ maxLen) (hl : xs.length = n)
    (hr : Reads w w.heap.size 2 A n (xs.flatMap Src.zc)) (hp : Ix.Tells g lb Src.zv p xs w) :
    Calls Tryz.prog 27 #[.slice A n c, .func (.func g) #[] lb] w fun e w' => e = .returned (.bool (xs.any p)) ∧ Below w.heap.size w w' := by
  have h := idx_zone p g lb eg A n c xs w hn hl hr hp
  have hb := Ix.at_bd p xs 0
  rw [← Ix.at_any p xs 0 (by omega)]
  obtain ⟨X, hX⟩ : ∃ X, Ix.at_ p xs 0 = X := ⟨_, rfl⟩
  rw [hX] at h ⊢
  have H := Lib.hid h
  clear h hX hr hp hb
  go_enter Tryz.func27, Tryz.ntmps27
  go_wp2_with fail
  refine H.out.mono ?_
  rintro e w1 ⟨rfl, hb⟩
  have HB := Lib.hid hb
  clear hb
  go_wp2
  go_ret
  exact ⟨rfl, HB.out⟩
set_option maxHeartbeats 2000000 in
set_option maxRecDepth 100000 in
theorem idx_link (p : (Src.Txt × Src.Txt) → Bool) (g : FuncId) (lb : Array Value) (eg : ∀ args w, (callFunc g args).run Tryz.prog w = .ok (.enter g args) w) (A : Option Addr) (n c : Nat) (xs : List (Src.Txt × Src.Txt)) (w : World) (hn : n ≤ maxLen) (hl : xs.length = n)
    (hr : Reads w w.heap.size 2 A n (xs.flatMap Src.lc)) (hp : Ix.Tells g lb Src.lv p xs w) :
    Calls Tryz.prog 48 #[.slice A n c, .func (.func g) #[] lb] w fun e w' => e = .returned (.int .i64 (Ix.at_ p xs 0)) ∧ Below w.heap.size w w' := by
  unfold maxLen at hn
  obtain ⟨X, hX⟩ : ∃ X, Ix.at_ p xs 0 = X := ⟨_, rfl⟩
  rw [hX]
  have HX := Lib.hid hX
  have HR := Lib.hid hr
  have HP := Lib.hid hp
  have HL := Lib.hid hl
  clear hX hr hp hl
  go_enter Tryz.func48, Tryz.ntmps48
  go_wp2
  go_loopw [5, 8] (fun _ i wr => ∃ k : Nat, k ≤ n ∧ i = .int .i64 k ∧ Hid (X = Ix.at_ p (xs.drop k) k) ∧ Hid (Below w.heap.size w wr)) (fun _ i _ => n - (intOf i).toNat)
  case atStart => exact ⟨0, Nat.zero_le _, rfl, HX.out.symm, Below.refl _ _⟩
  case round =>
    obtain ⟨k, hk, rfl, HK, HB⟩ := hrel
    by_cases hlt : k < n
    · have q2 : (k : Int) < (n : Int) := by omega
      have q1 : (0 : Int) ≤ (k : Int) := by omega
      obtain ⟨ad, x, rfl, hab, Hx, HL0⟩ := Ix.reads_cells (enc := Src.lc) (m := 2) (fun _ => rfl) HL.out (HR.out.below HB.out) hlt
      have hc0 : wr.cell? (ad.add (k * 2)) = some (.string (Src.bts x.1)) := HL0.out 0 _ rfl
      have hc1 : wr.cell? ⟨(ad.add (k * 2)).block, (ad.add (k * 2)).off + 1, none⟩ = some (.string (Src.bts x.2)) := HL0.out 1 _ rfl
      have HC := HP.out wr x (List.mem_of_getElem? Hx.out) HB.out
      have HN := Ix.at_next HK.out Hx.out
      cases hq : p x with
      | true =>
        rw [hq] at HC HN
        replace HN := Lib.hid (HN.trans (if_pos rfl))
        replace HC := Lib.hid HC
        clear hq
        go_wp2_with (go_at_fn g; refine HC.out.mono ?_; rintro e w' ⟨rfl, hb⟩)
        go_ret
        exact ⟨ret_int HN.out.symm, hb⟩
      | false =>
        rw [hq] at HC HN
        replace HN := Lib.hid (HN.trans (if_neg (by decide)))
        replace HC := Lib.hid HC
        clear hq
        go_wp2_with (go_at_fn g; refine HC.out.mono ?_; rintro e w' ⟨rfl, hb⟩)
        go_roundw
        case rel => exact ⟨k + 1, by omega, by go_num, HN.out, hb⟩
        case measure => simp [intOf]; omega
    · have q2 : ¬ (k : Int) < (n : Int) := by omega
      have HE := Lib.hid (Ix.at_end HK.out (by rw [HL.out]; omega))
      go_wp2
      go_ret
      exact ⟨ret_int HE.out.symm, HB.out⟩
set_option maxHeartbeats 400000 in
theorem has_link (p : (Src.Txt × Src.Txt) → Bool) (g : FuncId) (lb : Array Value) (eg : ∀ args w, (callFunc g args).run Tryz.prog w = .ok (.enter g args) w) (A : Option Addr) (n c : Nat) (xs : List (Src.Txt × Src.Txt)) (w : World) (hn : n ≤ maxLen) (hl : xs.length = n)
    (hr : Reads w w.heap.size 2 A n (xs.flatMap Src.lc)) (hp : Ix.Tells g lb Src.lv p xs w) :
    Calls Tryz.prog 28 #[.slice A n c, .func (.func g) #[] lb] w fun e w' => e = .returned (.bool (xs.any p)) ∧ Below w.heap.size w w' := by
  have h := idx_link p g lb eg A n c xs w hn hl hr hp
  have hb := Ix.at_bd p xs 0
  rw [← Ix.at_any p xs 0 (by omega)]
  obtain ⟨X, hX⟩ : ∃ X, Ix.at_ p xs 0 = X := ⟨_, rfl⟩
  rw [hX] at h ⊢
  have H := Lib.hid h
  clear h hX hr hp hb
  go_enter Tryz.func28, Tryz.ntmps28
  go_wp2_with fail
  refine H.out.mono ?_
  rintro e w1 ⟨rfl, hb⟩
  have HB := Lib.hid hb
  clear hb
  go_wp2
  go_ret
  exact ⟨rfl, HB.out⟩
end Go.Proofs.YtlhoggalhjadgaaGreatDoor

/- (*reader).zone in one law; (*reader).link. -/
namespace Go.Proofs.YtlhoggalhjadgaaGreatDoor
open Go.RowKit

/-- (*reader).zone. -/
theorem rdZone_any (B g : Nat) (s : Src.S) (ad : Addr) (n c : Nat) (ts : List Src.Txt) (rv zv lv : Value) (evs : List Value) (w : World) (hW : Wq w) (hn : n ≤ c) (hc : c ≤ maxLen) (hn6 : n ≤ 1048576) (h1 : 1 ≤ n)
    (hr : Reads w w.heap.size 1 (some ad) n ((ts.map Src.bts).map Value.string)) (hs : ∀ t ∈ ts, t.length ≤ 1000000) (hBw : B ≤ w.heap.size) (hLo : Low g) (hBa : B ≤ ad.block) (hap : zv.ownBlock ≠ some ad.block)
    (H : Src.Held B w g s rv zv lv evs) (hl : s.zones.length ≤ 1024) :
    Calls Tryz.prog 54 #[.pointer (some ⟨g, 0, none⟩), .slice (some ad) n c] w (Src.Post B g zv w (Src.zoneStep Src.own s ts)) := by
  have hlen : ts.length = n := by have := hr.1; simpa using this
  obtain ⟨zA, zc, e, _, _⟩ := own_slice_cap (show w.ownsRow B 53 2 zv s.zones.length (Src.zoneCells s.zones evs) from H.many.own (Src.zoneRow zv evs s) (by simp))
  subst e
  unfold Src.zoneStep
  by_cases h4 : s.zones.length = 1024
  · rw [if_pos h4]
    exact rdZone_full B g s (some ad) n c _ zc zA rv lv evs w H h4
  rw [if_neg h4]
  by_cases h2 : ts.length < 2
  · rw [if_pos h2]
    exact rdZone_short B g s (some ad) n c _ zc zA rv lv evs w H h4 (by omega)
  rw [if_neg h2]
  obtain ⟨t, ht⟩ : ∃ t, ts[1]? = some t := ⟨_, List.getElem?_eq_getElem (by omega)⟩
  have e1 : ts.getD 1 [] = t := by simp [List.getD, ht]
  rw [e1]
  have hown : Src.own.name t = Ru.name t := rfl
  rw [hown]
  cases hN : Ru.name t
  · rw [if_pos rfl]
    obtain ⟨ad', e, _, hcells⟩ := hr.2 (by omega)
    injection e with e
    subst e
    exact rdZone_name B g s ad n c (Src.bts t) _ zc zA rv lv evs w H h4 (by omega) (hcells 1 _ (by simp [ht])) (hs t (List.mem_of_getElem? ht)) (by rw [show tl (Src.bts t) = t from tl_mk t]; exact hN)
  · rw [if_neg (by decide)]
    exact rdZone_ok B g s ad n c ts t _ zc zA rv lv evs w hW hn hc (by omega) hn6 hr hs hBw hLo hBa hap rfl H (by omega) ht hN
theorem link_info : (Tryz.prog.info? 56).map (fun i => (i.zero, i.size, i.bytes)) = some (some (.agg #[.string ⟨#[]⟩, .string ⟨#[]⟩]), 2, 32) := by kernel_rfl
/-- A name is wrong. -/
def wrongN (s : ByteArray) : Bool := !Ru.name (tl s)
theorem linkFn_any (s : ByteArray) (w : World) (hs : s.size ≤ 1000000) : Calls Tryz.prog 74 #[.string s] w fun e w' => e = .returned (.bool (wrongN s)) ∧ Below w.heap.size w w' := by
  have HN := Lib.hid (name_any s w hs)
  unfold wrongN
  obtain ⟨b, hb⟩ : ∃ b, Ru.name (tl s) = b := ⟨_, rfl⟩
  rw [hb] at HN ⊢
  clear hb
  go_enter Tryz.func74, Tryz.ntmps74
  go_wp2_with fail
  refine HN.out.mono ?_
  rintro e w1 ⟨rfl, HD⟩
  replace HD := Lib.hid HD
  go_wp2
  go_ret
  exact ⟨rfl, HD.out⟩
theorem wrong_ge (f : Src.Txt → Bool) : ∀ (l : List Src.Txt) (i j : Int), Src.wrong f l i = some j → i ≤ j
  | [], i, j, h => by cases h
  | t :: l, i, j, h => by
    unfold Src.wrong at h
    split at h
    · have := wrong_ge f l (i + 1) j h
      omega
    · injection h with h
      omega
theorem at_wrong : ∀ (l : List Src.Txt) (i : Int), Ix.at_ wrongN (l.map Src.bts) i = (Src.wrong Src.own.name l i).getD (-1)
  | [], i => rfl
  | t :: l, i => by
    have hown : Src.own.name t = Ru.name t := rfl
    have hb : wrongN (Src.bts t) = !Ru.name t := by unfold wrongN; rw [show tl (Src.bts t) = t from tl_mk t]
    rw [List.map_cons, Ix.at_, Src.wrong, hb, hown, at_wrong l (i + 1)]
    cases Ru.name t <;> simp
set_option maxHeartbeats 400000 in
set_option maxRecDepth 100000 in
theorem rdLink_full (B g : Nat) (s : Src.S) (A : Option Addr) (n c : Nat) (L lc : Nat) (lA : Option Addr) (rv zv : Value) (evs : List Value) (w : World)
    (H : Src.Held B w g s rv zv (.slice lA L lc) evs) (hl : L = 4096) :
    Calls Tryz.prog 55 #[.pointer (some ⟨g, 0, none⟩), .slice A n c] w (Src.Post B g zv w (.bad 0 6)) := by
  have h0 := Lib.hid (H.at_.cell 2 _ rfl)
  have hc0 : w.cell? ⟨g, 2, none⟩ = some (.slice lA L lc) := h0.out
  have hlt := H.at_.lt
  subst hl
  go_enter Tryz.func55, Tryz.ntmps55
  go_wp2
  go_ret2
  exact ⟨rfl, Src.kept_of (Below.refl _ _) (Nat.le_of_lt hlt)⟩
/-- The names of a link, out of its texts: where they lie. -/
theorem link_names {w : World} {B n : Nat} {ad : Addr} {ts : List Src.Txt} (h : Reads w B 1 (some ad) n ((ts.map Src.bts).map Value.string)) (h1 : 2 ≤ n) : Reads w B 1 (some (ad.add 1)) (min n 3 - 1) ((((ts.drop 1).take 2).map Src.bts).map Value.string) := by
  have h2 := reads_from h 1 (by omega)
  have hlen : ts.length = n := by have := h.1; simpa using this
  refine ⟨by simp [hlen]; omega, fun hn => ?_⟩
  obtain ⟨ad', e, hb, hc⟩ := h2.2 (by omega)
  refine ⟨ad', e, hb, fun j u hj => hc j u ?_⟩
  rw [← List.map_drop]
  rw [List.map_take, List.map_take] at hj
  have hj2 : j < 2 := by
    have := (List.getElem?_eq_some_iff.1 hj).1
    simp at this
    omega
  rw [List.getElem?_take_of_lt hj2] at hj
  exact hj
set_option maxHeartbeats 2000000 in
set_option maxRecDepth 100000 in
theorem rdLink_any (B g : Nat) (s : Src.S) (ad : Addr) (n c : Nat) (ts : List Src.Txt) (L lc : Nat) (lA : Option Addr) (rv zv : Value) (evs : List Value) (w : World) (hn : n ≤ c) (hc : c ≤ maxLen) (hn1 : 2 ≤ n)
    (hr : Reads w w.heap.size 1 (some ad) n ((ts.map Src.bts).map Value.string)) (hs : ∀ t ∈ ts, t.length ≤ 1000000) (hBw : B ≤ w.heap.size)
    (hL : s.links.length = L) (H : Src.Held B w g s rv zv (.slice lA L lc) evs) (hl : L < 4096) :
    Calls Tryz.prog 55 #[.pointer (some ⟨g, 0, none⟩), .slice (some ad) n c] w (Src.Post B g zv w (Src.linkStep Src.own s ts)) := by
  obtain ⟨o, ho⟩ : ∃ o, Src.linkStep Src.own s ts = o := ⟨_, rfl⟩
  rw [ho]
  unfold Src.linkStep at ho
  rw [if_neg (by omega)] at ho
  have HOo := Lib.hid ho
  unfold maxLen at hc
  have hlen : ts.length = n := by have := hr.1; simpa using this
  have h0 := Lib.hid (H.at_.cell 2 _ rfl)
  have hc0 : w.cell? ⟨g, 2, none⟩ = some (.slice lA L lc) := h0.out
  have hlt := H.at_.lt
  have e1 : ((L : Int) == 4096) = false := by rw [beq_eq_false_iff_ne]; omega
  have hsz : ∀ x ∈ (((ts.drop 1).take 2).map Src.bts), x.size ≤ 1000000 := by
    intro x hx
    refine Src.small_bts hs x ?_
    rw [List.mem_map] at hx ⊢
    obtain ⟨y, hy, rfl⟩ := hx
    exact ⟨y, List.mem_of_mem_drop (List.mem_of_mem_take hy), rfl⟩
  have hT : Ix.Tells 74 #[] Value.string wrongN (((ts.drop 1).take 2).map Src.bts) w := by
    intro W x hx hbW
    have e : (#[Value.string x] ++ (#[] : Array Value)) = #[Value.string x] := by simp
    rw [e]
    exact (linkFn_any x W (hsz x hx)).mono fun e w' ⟨h, hb⟩ => ⟨h, hbW.trans (hb.mono hbW.size)⟩
  obtain ⟨m, hm⟩ : ∃ m, min n 3 = m := ⟨_, rfl⟩
  have hmi : min (n : Int) 3 = (m : Int) := by omega
  have hRN := link_names hr hn1
  rw [hm] at hRN
  have hmb : 2 ≤ m ∧ m ≤ 3 ∧ m ≤ n := by omega
  obtain ⟨m2, m3, m4⟩ := hmb
  have HC := Lib.hid (idx_str wrongN 74 #[] (enters_of Tryz.func74 (by kernel_rfl) rfl) (some ⟨ad.block, ad.off + 1, none⟩) (m - 1) (c - 1) (((ts.drop 1).take 2).map Src.bts) w (by unfold maxLen; omega) (by simp [hlen]; omega) hRN hT)
  have hX := at_wrong ((ts.drop 1).take 2) 0
  have hXb := Ix.at_bd wrongN (((ts.drop 1).take 2).map Src.bts) 0
  obtain ⟨X, hXX⟩ : ∃ X, Ix.at_ wrongN (((ts.drop 1).take 2).map Src.bts) 0 = X := ⟨_, rfl⟩
  rw [hXX] at HC hX hXb
  have hXl : ((((ts.drop 1).take 2).map Src.bts).length : Int) ≤ 2 := by simp; omega
  have HX := Lib.hid hX
  have q1 : (1 : Int) ≤ (m : Int) := by omega
  have q2 : (m : Int) ≤ (c : Int) := by omega
  have q3 : (1 : Int) < (c : Int) := by omega
  have HH := Lib.hid H
  have HLL := Lib.hid hL
  have HT := Lib.hid hlen
  have HM := Lib.hid hm
  have HR := Lib.hid hr
  obtain ⟨i0, i1, i2, i3, i4⟩ := info_parts link_info
  have HI := Lib.hid (And.intro i1 (And.intro i2 (And.intro i3 i4)))
  have hlt' := Nat.le_of_lt hlt
  clear ho hXX hX hRN hT hsz h0 hs hm hlen hr i1 i2 i3 i4 H hL
  go_enter Tryz.func55, Tryz.ntmps55
  go_wp2_with fail
  refine HC.out.mono ?_
  rintro e W ⟨rfl, hD⟩
  have HD := Lib.hid (hD.mono hlt' : Below g w W)
  have HDD := Lib.hid hD
  have HH2 := Lib.hid (HH.out.call hD)
  have hWs := hD.size
  have HR2 := Lib.hid (HR.out.below hD)
  clear hD hc0
  cases hw : Src.wrong Src.own.name ((ts.drop 1).take 2) 0 with
  | some i =>
    have hXi : X = i := by have := HX.out; rw [hw] at this; exact this
    have HW2 := Lib.hid hw
    clear hw
    subst hXi
    have HN0 : Hid (X ≠ -1) := by
      show X ≠ -1
      have := wrong_ge Src.own.name _ 0 X HW2.out
      omega
    have qx : (0 : Int) ≤ X := by
      rcases hXb with h | h
      · exact absurd h HN0.out
      · exact h.1
    have qy : X ≤ 2 := by omega
    clear hXb hXl
    have wx : IntKind.i64.wrap (1 + X) = 1 + X := IntWalk.i64_in _ (by omega)
    go_wp2
    go_ret2
    rw [← HOo.out, HW2.out]
    exact ⟨rfl, Src.kept_of HDD.out hlt'⟩
  | none =>
    have hXi : X = -1 := by have := HX.out; rw [hw] at this; exact this
    have HW2 := Lib.hid hw
    clear hw hXb
    subst hXi
    by_cases hm2 : m = 2
    · subst hm2
      have hl2 : ((ts.drop 1).take 2).length = 1 := by simp; have := HT.out; have := HM.out; omega
      have HL2 := Lib.hid hl2
      clear hl2
      go_wp2
      go_ret2
      rw [← HOo.out, HW2.out]
      simp only [HL2.out]
      exact ⟨rfl, Src.kept_of HDD.out hlt'⟩
    have hm3 : m = 3 := by omega
    subst hm3
    have hl2 : ((ts.drop 1).take 2).length = 2 := by simp; have := HT.out; have := HM.out; omega
    have HL2 := Lib.hid hl2
    clear hl2
    by_cases hn3 : 3 < n
    · have qn : (3 : Int) < (n : Int) := by omega
      go_wp2
      go_ret2
      rw [← HOo.out, HW2.out]
      simp only [HL2.out, HT.out]
      rw [if_neg (by decide), if_pos hn3]
      exact ⟨rfl, Src.kept_of HDD.out hlt'⟩
    have qn : ¬ (3 : Int) < (n : Int) := by omega
    obtain ⟨ad', e, hadb, hcells⟩ := HR2.out.2 (by omega)
    injection e with e
    subst e
    obtain ⟨a, ha⟩ : ∃ t, ts[1]? = some t := ⟨_, List.getElem?_eq_getElem (by have := HT.out; omega)⟩
    obtain ⟨b, hb⟩ : ∃ t, ts[2]? = some t := ⟨_, List.getElem?_eq_getElem (by have := HT.out; omega)⟩
    obtain ⟨na, hna⟩ : ∃ nm, Src.bts a = nm := ⟨_, rfl⟩
    obtain ⟨nb, hnb⟩ : ∃ nm, Src.bts b = nm := ⟨_, rfl⟩
    have c1 : W.cell? ⟨ad.block, ad.off + 1, none⟩ = some (.string na) := by
      rw [← hna]
      exact hcells 1 _ (by simp [ha])
    have c2 : W.cell? ⟨ad.block, ad.off + 1 + 1, none⟩ = some (.string nb) := by
      rw [← hnb]
      exact hcells 2 _ (by simp [hb])
    have HAB := Lib.hid (And.intro ha (And.intro hb (And.intro hna hnb)))
    have c0 : W.cell? ⟨g, 2, none⟩ = some (.slice lA L lc) := HH2.out.at_.cell 2 _ rfl
    have hgW : g < W.heap.size := by omega
    have hBW : B ≤ W.heap.size := by omega
    clear ha hb hna hnb hcells
    have HH4 := Lib.hid ((HH2.out.allocO (.cells #[.string na, .string nb] 56)).drewN 1)
    have HO : Hid (((W.alloc (.cells #[.string na, .string nb] 56)).drewN 1).ownsRow B 56 2 (.slice lA L lc) L (s.links.flatMap fun k => [.string (Src.bts k.1), .string (Src.bts k.2)])) := by
      have := HH4.out.many.own (Src.linkRow (.slice lA L lc) s) (by simp)
      show World.ownsRow _ _ _ _ _ _ _
      have e : (Src.linkRow (.slice lA L lc) s).n = L := HLL.out
      rw [e] at this
      exact this
    have HN := Lib.hid (cells_new W #[.string na, .string nb] 56)
    have HGE := Lib.hid (HH4.out.apart_g (r := Src.linkRow (.slice lA L lc) s) (by simp))
    go_wp2_with fail
    go_region_law ((refine step_append_lies _ (by rfl) (.tmp 42) (.tmp 50) 24 (by rfl) B 56 i0 _ 2 32 Tryz.underlying24 HI.out.1 HI.out.2.1 HI.out.2.2.1 HI.out.2.2.2 (by rfl) (by decide) _ L _ (by rfl) HO.out _ 1 1 _ (by rfl) (by rfl) HN.out (by simp [Value.oneCell']) (by decide) (by unfold maxLen; omega) (by omega) (by simp; omega) _ rfl ?_; intro g9 cp9 w9 hown9 hg9 hat9 hlt9; have c9 : w9.cell? ⟨g, 2, none⟩ = some (.slice lA L lc) := (Sc.At.grownO HH4.out.at_ hg9 HGE.out).cell 2 _ rfl; have f9 : w9.frozen? ⟨g, 2, none⟩ = false := (Sc.At.grownO HH4.out.at_ hg9 HGE.out).free 2 _ rfl))
    all_goals (have HF := Lib.hid hown9; have HG := Lib.hid hg9; have HT9 := Lib.hid hat9; clear hown9 hg9 hat9)
    all_goals go_wp2
    all_goals go_ret2
    all_goals
      obtain ⟨ha, hb, hna, hnb⟩ := HAB.out
      have HH5 := HH4.out.link1 (lv' := .slice (some ⟨g9, 0, none⟩) (L + 1) cp9) a b (by rw [HLL.out, hna, hnb]; exact HF.out) HG.out (by
        rcases HT9.out with h | h
        · exact .inl h.symm
        · exact .inr (congrArg some h))
      rw [← HOo.out, HW2.out]
      simp only [HL2.out, HT.out]
      rw [if_neg (by decide), if_neg hn3, show ts.getD 1 [] = a by simp [List.getD, ha], show ts.getD 2 [] = b by simp [List.getD, hb]]
      refine ⟨rfl, ?_, _, _, _, _, HH5⟩
      refine Below.setCell (Below.grown (below_drewN (HD.out.alloc (Nat.le_of_lt hgW) _) 1) HG.out (Nat.le_trans (Nat.le_of_lt hgW) (le_alloc_drew _ _ _)) (fun kk hk => ?_)) (Nat.le_refl _) _
      have h1 := (HO.out.lt kk hk).1
      have h2 := HH2.out.below
      omega
end Go.Proofs.YtlhoggalhjadgaaGreatDoor
