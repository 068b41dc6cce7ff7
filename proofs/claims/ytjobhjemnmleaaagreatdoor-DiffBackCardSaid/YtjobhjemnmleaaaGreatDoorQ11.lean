/- slices.IndexFunc and slices.ContainsFunc, at whatever predicate. -/
import Derived.Test.YtjobhjemnmleaaaGreatDoorQ10
import Derived.Laws.Cells
import Derived.Laws.MakeOwn
set_option maxRecDepth 100000
set_option maxHeartbeats 2000000
namespace Go.Proofs.YtjobhjemnmleaaaGreatDoor
open Go.RowKit
namespace Ix
def at_ {α : Type} (p : α → Bool) : List α → Int → Int
 | [], _ => -1
 | x :: l, i => if p x then i else at_ p l (i + 1)
theorem at_bd {α : Type} (p : α → Bool) : ∀ (l : List α) (i : Int), at_ p l i = -1 ∨ (i ≤ at_ p l i ∧ at_ p l i < i + l.length)
 | [], _ => .inl rfl
 | x :: l, i => by
  unfold at_;split
  ·right; simp; omega
  ·rcases at_bd p l (i + 1) with h | h
   ·exact .inl h
   ·right; simp; omega
theorem at_any {α : Type} (p : α → Bool) : ∀ (l : List α) (i : Int), 0 ≤ i → decide (0 ≤ at_ p l i) = l.any p
 | [], _, _ => rfl
 | x :: l, i, h => by
  unfold at_;cases hx : p x
  ·rw [if_neg (by simp), at_any p l (i + 1) (by omega)];simp [hx]
  ·rw [if_pos rfl];simp [hx, h]
theorem at_next {α : Type} {p : α → Bool} {l : List α} {k : Nat} {x : α} {X : Int} (h : X = at_ p (l.drop k) k) (hx : l[k]? = some x) : X = if p x then (k : Int) else at_ p (l.drop (k + 1)) ((k + 1 : Nat) : Int) := by
 rw [List.drop_eq_getElem_cons (List.getElem?_eq_some_iff.1 hx).1] at h;rw [h, at_, (List.getElem?_eq_some_iff.1 hx).2];rfl
theorem at_end {α : Type} {p : α → Bool} {l : List α} {k : Nat} {X : Int} (h : X = at_ p (l.drop k) k) (hk : l.length ≤ k) : X = -1 := by
 rw [h, List.drop_eq_nil_of_le hk];rfl
theorem flat_at {α : Type} (enc : α → List Value) (m : Nat) (hm : ∀ x, (enc x).length = m) : ∀ (xs : List α) (k : Nat) (x : α), xs[k]? = some x → ∀ (j : Nat) (v : Value), (enc x)[j]? = some v → (xs.flatMap enc)[k * m + j]? = some v
 | [], k, x, h, j, v, hj => by simp at h
 | y :: l, 0, x, h, j, v, hj => by
  simp at h
  subst h;rw [List.flatMap_cons, List.getElem?_append_left (by have := (List.getElem?_eq_some_iff.1 hj).1; omega)];simpa using hj
 | y :: l, k + 1, x, h, j, v, hj => by
  rw [List.flatMap_cons, List.getElem?_append_right (by rw [hm, Nat.add_mul]; omega), hm];have := flat_at enc m hm l k x (by simpa using h) j v hj;rw [← this]
  congr 1
  rw [Nat.add_mul];omega
theorem reads_cells {α : Type} {enc : α → List Value} {m : Nat} (hm : ∀ x, (enc x).length = m) {w : World} {B n k : Nat} {A : Option Addr} {xs : List α} (hl : xs.length = n) (h : Reads w B m A n (xs.flatMap enc)) (hk : k < n) :
  ∃ ad x, A = some ad ∧ ad.block < B ∧ Hid (xs[k]? = some x) ∧ Hid (∀ j v, (enc x)[j]? = some v → w.cell? ((ad.add (k * m)).add j) = some v) := by
 obtain ⟨ad, e, hb, hc⟩ := h.2 (by omega);have hkl : k < xs.length := by omega
 refine ⟨ad, xs[k], e, hb, List.getElem?_eq_getElem hkl, fun j v hj => ?_⟩;rw [add_of_add];exact hc _ _ (flat_at enc m hm xs k _ (List.getElem?_eq_getElem hkl) j v hj)
def Tells {α : Type} (g : FuncId) (lb : Array Value) (enc : α → Value) (p : α → Bool) (xs : List α) (w : World) : Prop :=
 ∀ W x, x ∈ xs → Below w.heap.size w W → Calls Tryz.prog g (#[enc x] ++ lb) W fun e w' => e = .returned (.bool (p x)) ∧ Below w.heap.size w w'
end Ix
theorem idx_rule (p : Ru.R → Bool) (g : FuncId) (lb : Array Value) (eg : ∀ args w, (callFunc g args).run Tryz.prog w = .ok (.enter g args) w) (A : Option Addr) (n c : Nat) (xs : List Ru.R) (w : World) (hn : n ≤ maxLen) (hl : xs.length = n)
  (hr : Reads w w.heap.size 11 A n (xs.flatMap Ru.R.cells)) (hp : Ix.Tells g lb Ru.R.v p xs w) :
  Calls Tryz.prog 131 #[.slice A n c, .func (.func g) #[] lb] w fun e w' => e = .returned (.int .i64 (Ix.at_ p xs 0)) ∧ Below w.heap.size w w' := by
 unfold maxLen at hn;obtain ⟨X, hX⟩ : ∃ X, Ix.at_ p xs 0 = X := ⟨_, rfl⟩
 rw [hX];have HX := Lib.hid hX;have HR := Lib.hid hr;have HP := Lib.hid hp;have HL := Lib.hid hl;clear hX hr hp hl;go_enter Tryz.func131, Tryz.ntmps131
 go_wp2;go_loopw [5, 8] (fun _ i wr => ∃ k : Nat, k ≤ n ∧ i = .int .i64 k ∧ Hid (X = Ix.at_ p (xs.drop k) k) ∧ Hid (Below w.heap.size w wr)) (fun _ i _ => n - (intOf i).toNat)
 case atStart => exact ⟨0, Nat.zero_le _, rfl, HX.out.symm, Below.refl _ _⟩
 case round =>
  obtain ⟨k, hk, rfl, HK, HB⟩ := hrel
  by_cases hlt : k < n
  ·have q2 : (k : Int) < (n : Int) := by omega
   have q1 : (0 : Int) ≤ (k : Int) := by omega
   obtain ⟨ad, x, rfl, hab, Hx, HL0⟩ := Ix.reads_cells (enc := Ru.R.cells) (m := 11) (fun _ => rfl) HL.out (HR.out.below HB.out) hlt;have hc0 : wr.cell? (ad.add (k * 11)) = some (.string x.nm) := HL0.out 0 _ rfl;have hc1 : wr.cell? ⟨(ad.add (k * 11)).block, (ad.add (k * 11)).off + 1, none⟩ = some (.int .i64 x.fr) := HL0.out 1 _ rfl;have hc2 : wr.cell? ⟨(ad.add (k * 11)).block, (ad.add (k * 11)).off + 2, none⟩ = some (.int .i64 x.tt) := HL0.out 2 _ rfl;have hc3 : wr.cell? ⟨(ad.add (k * 11)).block, (ad.add (k * 11)).off + 3, none⟩ = some (.int .i64 x.mo) := HL0.out 3 _ rfl;have hc4 : wr.cell? ⟨(ad.add (k * 11)).block, (ad.add (k * 11)).off + 4, none⟩ = some (.int .u8 x.k) := HL0.out 4 _ rfl;have hc5 : wr.cell? ⟨(ad.add (k * 11)).block, (ad.add (k * 11)).off + 5, none⟩ = some (.int .i64 x.n) := HL0.out 5 _ rfl;have hc6 : wr.cell? ⟨(ad.add (k * 11)).block, (ad.add (k * 11)).off + 6, none⟩ = some (.int .i64 x.d) := HL0.out 6 _ rfl;have hc7 : wr.cell? ⟨(ad.add (k * 11)).block, (ad.add (k * 11)).off + 7, none⟩ = some (.int .i64 x.s) := HL0.out 7 _ rfl;have hc8 : wr.cell? ⟨(ad.add (k * 11)).block, (ad.add (k * 11)).off + 8, none⟩ = some (.int .u8 x.c) := HL0.out 8 _ rfl;have hc9 : wr.cell? ⟨(ad.add (k * 11)).block, (ad.add (k * 11)).off + 9, none⟩ = some (.int .i64 x.sv) := HL0.out 9 _ rfl;have hc10 : wr.cell? ⟨(ad.add (k * 11)).block, (ad.add (k * 11)).off + 10, none⟩ = some (.string x.lt) := HL0.out 10 _ rfl;have HC := HP.out wr x (List.mem_of_getElem? Hx.out) HB.out;have HN := Ix.at_next HK.out Hx.out
   cases hq : p x with
   | true =>
    rw [hq] at HC HN;replace HN := Lib.hid (HN.trans (if_pos rfl));replace HC := Lib.hid HC;clear hq;go_wp2_with (go_at_fn g; refine HC.out.mono ?_; rintro e w' ⟨rfl, hb⟩)
    go_ret
    exact ⟨ret_int HN.out.symm, hb⟩
   | false =>
    rw [hq] at HC HN;replace HN := Lib.hid (HN.trans (if_neg (by decide)));replace HC := Lib.hid HC;clear hq;go_wp2_with (go_at_fn g; refine HC.out.mono ?_; rintro e w' ⟨rfl, hb⟩)
    go_roundw
    case rel => exact ⟨k + 1, by omega, by go_num, HN.out, hb⟩
    case measure => simp [intOf]; omega
  ·have q2 : ¬ (k : Int) < (n : Int) := by omega
   have HE := Lib.hid (Ix.at_end HK.out (by rw [HL.out]; omega));go_wp2;go_ret
   exact ⟨ret_int HE.out.symm, HB.out⟩
theorem has_rule (p : Ru.R → Bool) (g : FuncId) (lb : Array Value) (eg : ∀ args w, (callFunc g args).run Tryz.prog w = .ok (.enter g args) w) (A : Option Addr) (n c : Nat) (xs : List Ru.R) (w : World) (hn : n ≤ maxLen) (hl : xs.length = n)
  (hr : Reads w w.heap.size 11 A n (xs.flatMap Ru.R.cells)) (hp : Ix.Tells g lb Ru.R.v p xs w) :
  Calls Tryz.prog 93 #[.slice A n c, .func (.func g) #[] lb] w fun e w' => e = .returned (.bool (xs.any p)) ∧ Below w.heap.size w w' := by
 have h := idx_rule p g lb eg A n c xs w hn hl hr hp;have hb := Ix.at_bd p xs 0
 rw [← Ix.at_any p xs 0 (by omega)];obtain ⟨X, hX⟩ : ∃ X, Ix.at_ p xs 0 = X := ⟨_, rfl⟩
 rw [hX] at h ⊢;have H := Lib.hid h;clear h hX hr hp hb;go_enter Tryz.func93, Tryz.ntmps93
 go_wp2_with fail
 refine H.out.mono ?_;rintro e w1 ⟨rfl, hb⟩;have HB := Lib.hid hb;clear hb;go_wp2;go_ret
 exact ⟨rfl, HB.out⟩
namespace Src
def zc (p : (Txt × List Er.E) × Value) : List Value := [.string (bts p.1.1), p.2]
def zv (p : (Txt × List Er.E) × Value) : Value := .agg #[.string (bts p.1.1), p.2]
def lc (p : Txt × Txt) : List Value := [.string (bts p.1), .string (bts p.2)]
def lv (p : Txt × Txt) : Value := .agg #[.string (bts p.1), .string (bts p.2)]
end Src
theorem idx_zone (p : ((Src.Txt × List Er.E) × Value) → Bool) (g : FuncId) (lb : Array Value) (eg : ∀ args w, (callFunc g args).run Tryz.prog w = .ok (.enter g args) w) (A : Option Addr) (n c : Nat) (xs : List ((Src.Txt × List Er.E) × Value)) (w : World) (hn : n ≤ maxLen) (hl : xs.length = n)
  (hr : Reads w w.heap.size 2 A n (xs.flatMap Src.zc)) (hp : Ix.Tells g lb Src.zv p xs w) :
  Calls Tryz.prog 132 #[.slice A n c, .func (.func g) #[] lb] w fun e w' => e = .returned (.int .i64 (Ix.at_ p xs 0)) ∧ Below w.heap.size w w' := by
 unfold maxLen at hn;obtain ⟨X, hX⟩ : ∃ X, Ix.at_ p xs 0 = X := ⟨_, rfl⟩
 rw [hX];have HX := Lib.hid hX;have HR := Lib.hid hr;have HP := Lib.hid hp;have HL := Lib.hid hl;clear hX hr hp hl;go_enter Tryz.func132, Tryz.ntmps132
 go_wp2;go_loopw [5, 8] (fun _ i wr => ∃ k : Nat, k ≤ n ∧ i = .int .i64 k ∧ Hid (X = Ix.at_ p (xs.drop k) k) ∧ Hid (Below w.heap.size w wr)) (fun _ i _ => n - (intOf i).toNat)
 case atStart => exact ⟨0, Nat.zero_le _, rfl, HX.out.symm, Below.refl _ _⟩
 case round =>
  obtain ⟨k, hk, rfl, HK, HB⟩ := hrel
  by_cases hlt : k < n
  ·have q2 : (k : Int) < (n : Int) := by omega
   have q1 : (0 : Int) ≤ (k : Int) := by omega
   obtain ⟨ad, x, rfl, hab, Hx, HL0⟩ := Ix.reads_cells (enc := Src.zc) (m := 2) (fun _ => rfl) HL.out (HR.out.below HB.out) hlt;have hc0 : wr.cell? (ad.add (k * 2)) = some (.string (Src.bts x.1.1)) := HL0.out 0 _ rfl;have hc1 : wr.cell? ⟨(ad.add (k * 2)).block, (ad.add (k * 2)).off + 1, none⟩ = some (x.2) := HL0.out 1 _ rfl;have HC := HP.out wr x (List.mem_of_getElem? Hx.out) HB.out;have HN := Ix.at_next HK.out Hx.out
   cases hq : p x with
   | true =>
    rw [hq] at HC HN;replace HN := Lib.hid (HN.trans (if_pos rfl));replace HC := Lib.hid HC;clear hq;go_wp2_with (go_at_fn g; refine HC.out.mono ?_; rintro e w' ⟨rfl, hb⟩)
    go_ret
    exact ⟨ret_int HN.out.symm, hb⟩
   | false =>
    rw [hq] at HC HN;replace HN := Lib.hid (HN.trans (if_neg (by decide)));replace HC := Lib.hid HC;clear hq;go_wp2_with (go_at_fn g; refine HC.out.mono ?_; rintro e w' ⟨rfl, hb⟩)
    go_roundw
    case rel => exact ⟨k + 1, by omega, by go_num, HN.out, hb⟩
    case measure => simp [intOf]; omega
  ·have q2 : ¬ (k : Int) < (n : Int) := by omega
   have HE := Lib.hid (Ix.at_end HK.out (by rw [HL.out]; omega));go_wp2;go_ret
   exact ⟨ret_int HE.out.symm, HB.out⟩
theorem has_zone (p : ((Src.Txt × List Er.E) × Value) → Bool) (g : FuncId) (lb : Array Value) (eg : ∀ args w, (callFunc g args).run Tryz.prog w = .ok (.enter g args) w) (A : Option Addr) (n c : Nat) (xs : List ((Src.Txt × List Er.E) × Value)) (w : World) (hn : n ≤ maxLen) (hl : xs.length = n)
  (hr : Reads w w.heap.size 2 A n (xs.flatMap Src.zc)) (hp : Ix.Tells g lb Src.zv p xs w) :
  Calls Tryz.prog 94 #[.slice A n c, .func (.func g) #[] lb] w fun e w' => e = .returned (.bool (xs.any p)) ∧ Below w.heap.size w w' := by
 have h := idx_zone p g lb eg A n c xs w hn hl hr hp;have hb := Ix.at_bd p xs 0
 rw [← Ix.at_any p xs 0 (by omega)];obtain ⟨X, hX⟩ : ∃ X, Ix.at_ p xs 0 = X := ⟨_, rfl⟩
 rw [hX] at h ⊢;have H := Lib.hid h;clear h hX hr hp hb;go_enter Tryz.func94, Tryz.ntmps94
 go_wp2_with fail
 refine H.out.mono ?_;rintro e w1 ⟨rfl, hb⟩;have HB := Lib.hid hb;clear hb;go_wp2;go_ret
 exact ⟨rfl, HB.out⟩
theorem idx_link (p : (Src.Txt × Src.Txt) → Bool) (g : FuncId) (lb : Array Value) (eg : ∀ args w, (callFunc g args).run Tryz.prog w = .ok (.enter g args) w) (A : Option Addr) (n c : Nat) (xs : List (Src.Txt × Src.Txt)) (w : World) (hn : n ≤ maxLen) (hl : xs.length = n)
  (hr : Reads w w.heap.size 2 A n (xs.flatMap Src.lc)) (hp : Ix.Tells g lb Src.lv p xs w) :
  Calls Tryz.prog 133 #[.slice A n c, .func (.func g) #[] lb] w fun e w' => e = .returned (.int .i64 (Ix.at_ p xs 0)) ∧ Below w.heap.size w w' := by
 unfold maxLen at hn;obtain ⟨X, hX⟩ : ∃ X, Ix.at_ p xs 0 = X := ⟨_, rfl⟩
 rw [hX];have HX := Lib.hid hX;have HR := Lib.hid hr;have HP := Lib.hid hp;have HL := Lib.hid hl;clear hX hr hp hl;go_enter Tryz.func133, Tryz.ntmps133
 go_wp2;go_loopw [5, 8] (fun _ i wr => ∃ k : Nat, k ≤ n ∧ i = .int .i64 k ∧ Hid (X = Ix.at_ p (xs.drop k) k) ∧ Hid (Below w.heap.size w wr)) (fun _ i _ => n - (intOf i).toNat)
 case atStart => exact ⟨0, Nat.zero_le _, rfl, HX.out.symm, Below.refl _ _⟩
 case round =>
  obtain ⟨k, hk, rfl, HK, HB⟩ := hrel
  by_cases hlt : k < n
  ·have q2 : (k : Int) < (n : Int) := by omega
   have q1 : (0 : Int) ≤ (k : Int) := by omega
   obtain ⟨ad, x, rfl, hab, Hx, HL0⟩ := Ix.reads_cells (enc := Src.lc) (m := 2) (fun _ => rfl) HL.out (HR.out.below HB.out) hlt;have hc0 : wr.cell? (ad.add (k * 2)) = some (.string (Src.bts x.1)) := HL0.out 0 _ rfl;have hc1 : wr.cell? ⟨(ad.add (k * 2)).block, (ad.add (k * 2)).off + 1, none⟩ = some (.string (Src.bts x.2)) := HL0.out 1 _ rfl;have HC := HP.out wr x (List.mem_of_getElem? Hx.out) HB.out;have HN := Ix.at_next HK.out Hx.out
   cases hq : p x with
   | true =>
    rw [hq] at HC HN;replace HN := Lib.hid (HN.trans (if_pos rfl));replace HC := Lib.hid HC;clear hq;go_wp2_with (go_at_fn g; refine HC.out.mono ?_; rintro e w' ⟨rfl, hb⟩)
    go_ret
    exact ⟨ret_int HN.out.symm, hb⟩
   | false =>
    rw [hq] at HC HN;replace HN := Lib.hid (HN.trans (if_neg (by decide)));replace HC := Lib.hid HC;clear hq;go_wp2_with (go_at_fn g; refine HC.out.mono ?_; rintro e w' ⟨rfl, hb⟩)
    go_roundw
    case rel => exact ⟨k + 1, by omega, by go_num, HN.out, hb⟩
    case measure => simp [intOf]; omega
  ·have q2 : ¬ (k : Int) < (n : Int) := by omega
   have HE := Lib.hid (Ix.at_end HK.out (by rw [HL.out]; omega));go_wp2;go_ret
   exact ⟨ret_int HE.out.symm, HB.out⟩
theorem has_link (p : (Src.Txt × Src.Txt) → Bool) (g : FuncId) (lb : Array Value) (eg : ∀ args w, (callFunc g args).run Tryz.prog w = .ok (.enter g args) w) (A : Option Addr) (n c : Nat) (xs : List (Src.Txt × Src.Txt)) (w : World) (hn : n ≤ maxLen) (hl : xs.length = n)
  (hr : Reads w w.heap.size 2 A n (xs.flatMap Src.lc)) (hp : Ix.Tells g lb Src.lv p xs w) :
  Calls Tryz.prog 95 #[.slice A n c, .func (.func g) #[] lb] w fun e w' => e = .returned (.bool (xs.any p)) ∧ Below w.heap.size w w' := by
 have h := idx_link p g lb eg A n c xs w hn hl hr hp;have hb := Ix.at_bd p xs 0
 rw [← Ix.at_any p xs 0 (by omega)];obtain ⟨X, hX⟩ : ∃ X, Ix.at_ p xs 0 = X := ⟨_, rfl⟩
 rw [hX] at h ⊢;have H := Lib.hid h;clear h hX hr hp hb;go_enter Tryz.func95, Tryz.ntmps95
 go_wp2_with fail
 refine H.out.mono ?_;rintro e w1 ⟨rfl, hb⟩;have HB := Lib.hid hb;clear hb;go_wp2;go_ret
 exact ⟨rfl, HB.out⟩
end Go.Proofs.YtjobhjemnmleaaaGreatDoor
namespace Go.Proofs.YtjobhjemnmleaaaGreatDoor
open Go.RowKit
namespace Src
def RowR (w : World) (B size n : Nat) (v : Value) (xs : List Value) : Prop := ∃ A c, v = .slice A n c ∧ n ≤ c ∧ c ≤ maxLen ∧ Reads w B size A n xs
theorem RowR.below {w w' : World} {B size n : Nat} {v : Value} {xs : List Value} (h : RowR w B size n v xs) (hb : Below B w w') : RowR w' B size n v xs := by
 obtain ⟨A, c, e, h1, h2, h3⟩ := h;exact ⟨A, c, e, h1, h2, h3.below hb⟩
theorem RowR.more {w : World} {B B' size n : Nat} {v : Value} {xs : List Value} (h : RowR w B size n v xs) (hb : B ≤ B') : RowR w B' size n v xs := by
 obtain ⟨A, c, e, h1, h2, h3⟩ := h;exact ⟨A, c, e, h1, h2, h3.more hb⟩
structure SrcR (w : World) (B : Nat) (s : S) (rv zv lv : Value) (evs : List Value) : Prop where
 rules : RowR w B 11 s.rules.length rv (s.rules.flatMap Ru.R.cells)
 zones : RowR w B 2 s.zones.length zv ((s.zones.zip evs).flatMap zc)
 links : RowR w B 2 s.links.length lv (s.links.flatMap lc)
 len : evs.length = s.zones.length
 eras : ∀ p ∈ s.zones.zip evs, RowR w B 13 p.1.2.length p.2 (p.1.2.flatMap Er.E.cells)
theorem SrcR.below {w w' : World} {B : Nat} {s : S} {rv zv lv : Value} {evs : List Value} (h : SrcR w B s rv zv lv evs) (hb : Below B w w') : SrcR w' B s rv zv lv evs :=
 ⟨h.rules.below hb, h.zones.below hb, h.links.below hb, h.len, fun p hp => (h.eras p hp).below hb⟩
theorem SrcR.more {w : World} {B B' : Nat} {s : S} {rv zv lv : Value} {evs : List Value} (h : SrcR w B s rv zv lv evs) (hb : B ≤ B') : SrcR w B' s rv zv lv evs :=
 ⟨h.rules.more hb, h.zones.more hb, h.links.more hb, h.len, fun p hp => (h.eras p hp).more hb⟩
theorem SrcR.call {w w' : World} {s : S} {rv zv lv : Value} {evs : List Value} (h : SrcR w w.heap.size s rv zv lv evs) (hb : Below w.heap.size w w') : SrcR w' w'.heap.size s rv zv lv evs := (h.below hb).more hb.size
end Src
end Go.Proofs.YtjobhjemnmleaaaGreatDoor
namespace Go.Proofs.YtjobhjemnmleaaaGreatDoor
open Go.RowKit
theorem toList_eq_iff (a b : ByteArray) : a.toList = b.toList ↔ a = b := by
 rw [ByteArray.toList_eq, ByteArray.toList_eq];constructor
 ·intro h;exact ByteArray.ext (Array.ext' h)
 ·intro h;rw [h]
namespace Ix
end Ix
end Go.Proofs.YtjobhjemnmleaaaGreatDoor
namespace Go.Proofs.YtjobhjemnmleaaaGreatDoor
open Go.RowKit
noncomputable def Ru.R.good (r : Ru.R) : Bool := @decide r.Ok (Classical.propDecidable _)
theorem Ru.R.good_iff (r : Ru.R) : r.good = true ↔ r.Ok := by
 unfold Ru.R.good;exact @decide_eq_true_iff _ (Classical.propDecidable _)
noncomputable def Er.E.good (e : Er.E) : Bool := decide (Er.chk e = 0)
namespace Src
noncomputable def erasB : List Er.E → Bool
 | [] => true
 | e :: l => e.good && ((e.en == !l.isEmpty) && erasB l)
noncomputable def zoneB (z : Txt × List Er.E) : Bool := Ru.name z.1 && (decide (1 ≤ z.2.length) && (decide (z.2.length ≤ 64) && erasB z.2))
def linkB (k : Txt × Txt) : Bool := Ru.name k.1 && Ru.name k.2
noncomputable def srcB (s : S) : Bool := s.rules.all Ru.R.good && (s.zones.all zoneB && s.links.all linkB)
structure Lims (s : S) : Prop where
 rules : s.rules.length ≤ 4096
 zones : s.zones.length ≤ 1024
 links : s.links.length ≤ 4096
end Src
theorem any_not {α : Type} (f : α → Bool) : ∀ l : List α, l.any (fun x => !f x) = !l.all f
 | [] => rfl
 | x :: l => by
  rw [List.any_cons, List.all_cons, any_not f l];cases f x <;> rfl
theorem erasB_next {es : List Er.E} {i n : Nat} {e : Er.E} {X : Bool} (h : X = Src.erasB (es.drop i)) (hx : es[i]? = some e) (hn : es.length = n) : X = (e.good && ((e.en == decide (((i : Int)) < (n : Int) - 1)) && Src.erasB (es.drop (i + 1)))) := by
 have hi := (List.getElem?_eq_some_iff.1 hx).1;rw [h, List.drop_eq_getElem_cons hi, (List.getElem?_eq_some_iff.1 hx).2, Src.erasB];have : (!(es.drop (i + 1)).isEmpty) = decide ((i : Int) < (n : Int) - 1) := by
  by_cases hl : i + 1 < es.length
  ·have e1 : (es.drop (i + 1)).isEmpty = false := by
    rw [List.isEmpty_eq_false_iff];intro e;have := congrArg List.length e;simp at this
    omega
   rw [e1, decide_eq_true (by omega)];rfl
  ·rw [List.drop_eq_nil_of_le (by omega), decide_eq_false (by omega)];rfl
 rw [this]
theorem erasB_end {es : List Er.E} {i : Nat} {X : Bool} (h : X = Src.erasB (es.drop i)) (hi : es.length ≤ i) : X = true := by
 rw [h, List.drop_eq_nil_of_le hi];rfl
end Go.Proofs.YtjobhjemnmleaaaGreatDoor
namespace Go.Proofs.YtjobhjemnmleaaaGreatDoor
open Go.RowKit
theorem any_zip {α β : Type} (f : α → Bool) : ∀ (a : List α) (b : List β), b.length = a.length → ((a.zip b).any fun p => f p.1) = a.any f
 | [], [], _ => rfl
 | x :: a, y :: b, h => by
  rw [List.zip_cons_cons, List.any_cons, List.any_cons, any_zip f a b (by simpa using h)]
theorem mem_zip {α β : Type} {a : List α} {b : List β} {p : α × β} (h : p ∈ a.zip b) : p.1 ∈ a := (List.of_mem_zip h).1
namespace Src
end Src
end Go.Proofs.YtjobhjemnmleaaaGreatDoor
namespace Go.Proofs.YtjobhjemnmleaaaGreatDoor
open Go.RowKit
namespace Src
end Src
end Go.Proofs.YtjobhjemnmleaaaGreatDoor
namespace Go.Proofs.YtjobhjemnmleaaaGreatDoor
open Go.RowKit
namespace Src
def zoneNames (s : S) : List ByteArray := s.zones.map fun z => bts z.1
def linkNames (s : S) : List ByteArray := s.links.map fun k => bts k.2
def names (s : S) : List ByteArray := zoneNames s ++ linkNames s
theorem more_one {l : List ByteArray} {k : Nat} {x : ByteArray} (h : l[k]? = some x) : (l.take (k + 1)).map Value.string = (l.take k).map Value.string ++ [Value.string x] := by
 rw [List.take_add_one, h];simp
def NRel (W0 : World) (h : Nat) (cs : List Value) (pre l : List ByteArray) (n : Nat) (v i : Value) (wr : World) : Prop :=
 ∃ k : Nat, k ≤ n ∧ i = .int .i64 k ∧ Hid (wr.ownsRow W0.heap.size 9 1 v (pre.length + k) (pre.map Value.string ++ (l.take k).map Value.string)) ∧ Hid (At wr h cs) ∧ Hid (Below W0.heap.size W0 wr)
end Src
theorem srcNames_own (s : Src.S) (rv zv lv : Value) (evs : List Value) (w : World) (hR : Src.SrcR w w.heap.size s rv zv lv evs) (hL : Src.Lims s) :
  Calls Tryz.prog 59 #[.agg #[rv, zv, lv]] w fun e w' => ∃ A c, e = .returned (.slice A (s.zones.length + s.links.length) c) ∧ Below w.heap.size w w' ∧ s.zones.length + s.links.length ≤ c ∧ c ≤ maxLen ∧ w'.ownsRow w.heap.size 9 1 (.slice A (s.zones.length + s.links.length) c) (s.zones.length + s.links.length) ((Src.names s).map Value.string) := by
 obtain ⟨rules, zones, links, op⟩ := s;obtain ⟨⟨rA, rc, rfl, hr1, hr2, hr3⟩, ⟨zA, zc, rfl, hz1, hz2, hz3⟩, ⟨lA, lc, rfl, hl1, hl2, hl3⟩, hlen, hers⟩ := hR;obtain ⟨L1, L2, L3⟩ := hL;unfold Src.names Src.zoneNames Src.linkNames;simp only at hr1 hr3 hz1 hz3 hl1 hl3 hlen hers L1 L2 L3 ⊢;obtain ⟨n1, hn1⟩ : ∃ n, rules.length = n := ⟨_, rfl⟩
 obtain ⟨n2, hn2⟩ : ∃ n, zones.length = n := ⟨_, rfl⟩
 obtain ⟨n3, hn3⟩ : ∃ n, links.length = n := ⟨_, rfl⟩
 rw [hn1] at L1 ⊢;rw [hn2] at hz3 L2 hz1 ⊢;rw [hn3] at hl3 L3 hl1 ⊢;obtain ⟨ZN, hZN⟩ : ∃ l, (zones.map fun z => Src.bts z.1) = l := ⟨_, rfl⟩
 obtain ⟨LN, hLN⟩ : ∃ l, (links.map fun k => Src.bts k.2) = l := ⟨_, rfl⟩
 have hzl : ZN.length = n2 := by rw [← hZN]; simp [hn2]
 have hll : LN.length = n3 := by rw [← hLN]; simp [hn3]
 rw [hZN, hLN];have HZN := Lib.hid hZN;have HLN := Lib.hid hLN;have HZL := Lib.hid hzl;have HLL := Lib.hid hll;have HRZ := Lib.hid hz3;have HRL := Lib.hid hl3;have HLen := Lib.hid (show (zones.zip evs).length = n2 by simp [hlen, hn2]);have HLe2 := Lib.hid hn3;have HSl := Lib.hid (show ∀ p ∈ zones.zip evs, ∃ A n c, p.2 = Value.slice A n c from fun p hp => by obtain ⟨A, c, e, _⟩ := hers p hp; exact ⟨A, _, c, e⟩);clear hZN hLN hn1 hn2 hn3 hz3 hl3 hr3 hers hlen hzl hll hr1 hr2;unfold maxLen at hz2 hl2;obtain ⟨i0, i1, i2, i3, i4⟩ := info_parts str_info;have HI := Lib.hid (And.intro i1 (And.intro i2 (And.intro i3 i4)));clear i1 i2 i3 i4;obtain ⟨m, hm⟩ : ∃ m : Nat, n2 + n3 = m := ⟨_, rfl⟩
 have hmk := fun W : World => run_make (P := Tryz.prog) W 38 9 i0 _ Tryz.underlying38 HI.out.1 HI.out.2.1 .i64 .i64 0 (m : Int) (by omega) (by omega) (by rw [HI.out.2.2.2]; omega) (by omega)
 rw [HI.out.2.2.1] at hmk;obtain ⟨MC, hMC⟩ : ∃ x, madeCells (Value.string ⟨#[]⟩).cells ((m : Int).toNat * 1) = x := ⟨_, rfl⟩
 rw [hMC] at hmk;have hMs : MC.size = m := by rw [← hMC, size_madeCells]; simp
 have hwm : IntKind.i64.wrap ((n2 : Int) + (n3 : Int)) = (m : Int) := by
  rw [show (n2 : Int) + (n3 : Int) = (m : Int) by omega];exact IntWalk.i64_in _ (by omega)
 clear hMC;obtain ⟨W0, hW0⟩ : ∃ x, w.alloc (.cells #[.slice rA n1 rc, .slice zA n2 zc, .slice lA n3 lc] 26) = x := ⟨_, rfl⟩
 have HB0 := Lib.hid (show Below w.heap.size w W0 by rw [← hW0]; exact (Below.refl _ _).alloc (Nat.le_refl _) _);have HA0 := Lib.hid (show At W0 w.heap.size [.slice rA n1 rc, .slice zA n2 zc, .slice lA n3 lc] by rw [← hW0]; exact At.new w #[.slice rA n1 rc, .slice zA n2 zc, .slice lA n3 lc] 26);have hs0 : W0.heap.size = w.heap.size + 1 := by rw [← hW0]; simp
 obtain ⟨h, hh⟩ : ∃ h, w.heap.size = h := ⟨_, rfl⟩
 rw [hh] at HA0 hs0;have HS0 := Lib.hid hs0;have HH := Lib.hid hh;obtain ⟨a0, a1, a2, _⟩ := HA0.out.three;have HO0 := Lib.hid (show (W0.alloc (.cells MC 9)).ownsRow W0.heap.size 9 1 (.slice (some ⟨W0.heap.size, 0, none⟩) 0 m) 0 [] from World.ownsRow_made W0 MC m (Nat.le_refl _) (by unfold maxLen; omega) (by omega));have b1 : (W0.alloc (.cells MC 9)).cell? ⟨h, 1, none⟩ = some (.slice zA n2 zc) := (HA0.out.allocO _).cell 1 _ rfl;clear hs0;go_enter Tryz.func59, Tryz.ntmps59
 go_wp2_with fail
 clear hW0 hh a0 a1 a2 b1;go_loopw [3, 19] (fun v i wr => Src.NRel W0 h [.slice rA n1 rc, .slice zA n2 zc, .slice lA n3 lc] [] ZN n2 v i wr) (fun _ i _ => n2 - (intOf i).toNat)
 case atStart => exact ⟨0, Nat.zero_le _, rfl, HO0.out, HA0.out.allocO _, (Below.refl _ _).alloc (Nat.le_refl _) _⟩
 case round =>
  obtain ⟨k, hk, rfl, HO, HA, HB⟩ := hrel;replace HO := Lib.hid (show wr.ownsRow W0.heap.size 9 1 _ k ((ZN.take k).map Value.string) by simpa using HO.out);obtain ⟨vA, vc, hv, hv1, hv2⟩ := own_slice_cap HO.out;subst hv;have hwr := HB.out.size;have hs0 : h < W0.heap.size := by have := HS0.out; omega
  by_cases hlt : k < n2
  ·have q1 : (0 : Int) ≤ (k : Int) := by omega
   have q2 : (k : Int) < (n2 : Int) := by omega
   have HBw := Lib.hid (below_then HB0.out HB.out);obtain ⟨ad, x, rfl, hab, Hx, HLc⟩ := Ix.reads_cells (enc := Src.zc) (m := 2) (fun _ => rfl) HLen.out (HRZ.out.below HBw.out) hlt;obtain ⟨xA, xn, xc, hx2⟩ := HSl.out x (List.mem_of_getElem? Hx.out);obtain ⟨xb, hxb⟩ : ∃ t, Src.bts x.1.1 = t := ⟨_, rfl⟩
   have c0 : wr.cell? (ad.add (k * 2)) = some (.string xb) := by rw [← hxb]; exact HLc.out 0 _ rfl
   have c1 : wr.cell? ⟨(ad.add (k * 2)).block, (ad.add (k * 2)).off + 1, none⟩ = some (.slice xA xn xc) := by rw [← hx2]; exact HLc.out 1 _ rfl
   have hzk : ZN[k]? = some xb := by
    rw [← HZN.out, List.getElem?_map, (List.getElem?_zip_eq_some.1 Hx.out).1, ← hxb];rfl
   have HTK := Lib.hid (Src.more_one hzk);have HAp := fun {ops : Array Oper} {rest : List Oper} {o : Oper} {a : Act} {Q : Exit → Act → World → Prop} (hgd : o.guard = none) (ho : o.op = .call { callee := .builtin .append, args := #[.tmp 23, .tmp 26], argTypes := #[38, 38] }) (hs : a.eval (.tmp 23) = .slice vA k vc) (hx : a.eval (.tmp 26) = .slice (some ⟨wr.heap.size + 1, 0, none⟩) 1 1) h => wpList_append_any (P := Tryz.prog) (ops := ops) (rest := rest) (o := o) (a := a) (Q := Q) ((wr.alloc (.cells #[.string xb, .slice xA xn xc] 117)).alloc (.cells #[.string xb] 9)) hgd (.tmp 23) (.tmp 26) 38 ho W0.heap.size 9 i0 _ 1 16 Tryz.underlying38 HI.out.1 HI.out.2.1 HI.out.2.2.1 HI.out.2.2.2 rfl (by decide) _ k _ hs ((HO.out.alloc _).alloc _) ((wr.alloc (.cells #[.string xb, .slice xA xn xc] 117)).alloc (.cells #[.string xb] 9)).heap.size _ 1 1 _ hx (er_reads (wr.alloc (.cells #[.string xb, .slice xA xn xc] 117)) (wr.heap.size + 1) [xb] 9 (by simp)) (by simp [Value.oneCell']) (by unfold maxLen; omega) (by omega) (by simp; omega) h
   clear hx2 hxb hzk;go_wp2_with (at_builtin; refine HAp rfl rfl rfl rfl ?_; intro v9' w9 hown9 hg9 hat9)
   have HA9 := Lib.hid (Sc.At.grownO ((HA.out.allocO (.cells #[.string xb, .slice xA xn xc] 117)).allocO (.cells #[.string xb] 9)) hg9 (fun kk hkk => by have := (HO.out.lt kk hkk).1; omega));have HO9 := Lib.hid (show w9.ownsRow W0.heap.size 9 1 v9' (([] : List ByteArray).length + (k + 1)) (([] : List ByteArray).map Value.string ++ (ZN.take (k + 1)).map Value.string) by rw [HTK.out]; simpa using hown9);have HB9 := Lib.hid (show Below W0.heap.size W0 w9 from ((HB.out.alloc HB.out.size _).alloc (by simp; omega) _).grown hg9 (by simp; omega) (fun kk hkk => (HO.out.lt kk hkk).1));clear hown9 hg9 hat9 HAp c0 c1 hs0;go_wp2;go_roundw
   case rel => exact ⟨k + 1, by omega, by go_num, HO9.out, HA9.out, HB9.out⟩
   case measure => simp [intOf]; omega
  ·have q2 : ¬ (k : Int) < (n2 : Int) := by omega
   have hkn : k = n2 := by omega
   subst hkn;obtain ⟨a0, a1, a2, _⟩ := HA.out.three;have HO2 := Lib.hid (show wr.ownsRow W0.heap.size 9 1 (.slice vA k vc) (ZN.length + 0) (ZN.map Value.string ++ (LN.take 0).map Value.string) by
    have := HO.out;rw [List.take_of_length_le (by rw [HZL.out]; exact Nat.le_refl _)] at this;simpa [HZL.out] using this)
   clear hs0;go_wp2_with fail
   clear a0 a1 a2;go_loopw [3, 32] (fun v i wr => Src.NRel W0 h [.slice rA n1 rc, .slice zA k zc, .slice lA n3 lc] ZN LN n3 v i wr) (fun _ i _ => n3 - (intOf i).toNat)
   case atStart => exact ⟨0, Nat.zero_le _, rfl, HO2.out, HA.out, HB.out⟩
   case round =>
    clear HO HA HB HO2 hwr hv1 hv2;obtain ⟨j, hj, rfl, HO, HA, HB⟩ := hrel;obtain ⟨vA, vc, hv, hv1, hv2⟩ := own_slice_cap HO.out;subst hv;have hwr := HB.out.size;have hs0 : h < W0.heap.size := by have := HS0.out; omega
    have hzl2 := HZL.out
    by_cases hlt2 : j < n3
    ·have q1 : (0 : Int) ≤ (j : Int) := by omega
     have q3 : (j : Int) < (n3 : Int) := by omega
     have HBw := Lib.hid (below_then HB0.out HB.out);obtain ⟨ad, x, rfl, hab, Hx, HLc⟩ := Ix.reads_cells (enc := Src.lc) (m := 2) (fun _ => rfl) HLe2.out (HRL.out.below HBw.out) hlt2;obtain ⟨xa, hxa⟩ : ∃ t, Src.bts x.1 = t := ⟨_, rfl⟩
     obtain ⟨xb, hxb⟩ : ∃ t, Src.bts x.2 = t := ⟨_, rfl⟩
     have c0 : wr.cell? (ad.add (j * 2)) = some (.string xa) := by rw [← hxa]; exact HLc.out 0 _ rfl
     have c1 : wr.cell? ⟨(ad.add (j * 2)).block, (ad.add (j * 2)).off + 1, none⟩ = some (.string xb) := by rw [← hxb]; exact HLc.out 1 _ rfl
     have hzk : LN[j]? = some xb := by
      rw [← HLN.out, List.getElem?_map, Hx.out, ← hxb];rfl
     have HTK := Lib.hid (Src.more_one hzk);obtain ⟨kj, hkj⟩ : ∃ q, ZN.length + j = q := ⟨_, rfl⟩
     have HKJ := Lib.hid hkj;rw [hkj] at HO ⊢;have HAp := fun {ops : Array Oper} {rest : List Oper} {o : Oper} {a : Act} {Q : Exit → Act → World → Prop} (hgd : o.guard = none) (ho : o.op = .call { callee := .builtin .append, args := #[.tmp 36, .tmp 39], argTypes := #[38, 38] }) (hs : a.eval (.tmp 36) = .slice vA kj vc) (hx : a.eval (.tmp 39) = .slice (some ⟨wr.heap.size + 1, 0, none⟩) 1 1) h => wpList_append_any (P := Tryz.prog) (ops := ops) (rest := rest) (o := o) (a := a) (Q := Q) ((wr.alloc (.cells #[.string xa, .string xb] 114)).alloc (.cells #[.string xb] 9)) hgd (.tmp 36) (.tmp 39) 38 ho W0.heap.size 9 i0 _ 1 16 Tryz.underlying38 HI.out.1 HI.out.2.1 HI.out.2.2.1 HI.out.2.2.2 rfl (by decide) _ kj _ hs ((HO.out.alloc _).alloc _) ((wr.alloc (.cells #[.string xa, .string xb] 114)).alloc (.cells #[.string xb] 9)).heap.size _ 1 1 _ hx (er_reads (wr.alloc (.cells #[.string xa, .string xb] 114)) (wr.heap.size + 1) [xb] 9 (by simp)) (by simp [Value.oneCell']) (by unfold maxLen; omega) (by omega) (by simp; omega) h
     clear hxa hxb hzk;go_wp2_with (at_builtin; refine HAp rfl rfl rfl rfl ?_; intro v9' w9 hown9 hg9 hat9)
     have HA9 := Lib.hid (Sc.At.grownO ((HA.out.allocO (.cells #[.string xa, .string xb] 114)).allocO (.cells #[.string xb] 9)) hg9 (fun kk hkk => by have := (HO.out.lt kk hkk).1; omega));have HO9 := Lib.hid (show w9.ownsRow W0.heap.size 9 1 v9' (ZN.length + (j + 1)) (ZN.map Value.string ++ (LN.take (j + 1)).map Value.string) by rw [HTK.out, ← List.append_assoc, ← Nat.add_assoc, HKJ.out]; exact hown9);have HB9 := Lib.hid (show Below W0.heap.size W0 w9 from ((HB.out.alloc HB.out.size _).alloc (by simp; omega) _).grown hg9 (by simp; omega) (fun kk hkk => (HO.out.lt kk hkk).1));clear hown9 hg9 hat9 HAp c0 c1 hs0 hzl2 hkj;go_wp2;go_roundw
     case rel => exact ⟨j + 1, by omega, by go_num, HO9.out, HA9.out, HB9.out⟩
     case measure => simp [intOf]; omega
    ·have q3 : ¬ (j : Int) < (n3 : Int) := by omega
     have hjn : j = n3 := by omega
     subst hjn;have he : ZN.length + j = m := by omega
     clear hs0;go_wp2;go_ret
     refine ⟨vA, vc, rfl, below_then HB0.out HB.out, by omega, hv2, ?_⟩;have := HO.out;rw [List.take_of_length_le (by rw [HLL.out]; exact Nat.le_refl _), he] at this;exact ⟨this.1, this.2.imp id fun ⟨g, cap, cur, q1, q2, q3⟩ => ⟨g, cap, cur, q1, by have := HS0.out; have := HH.out; omega, q3⟩⟩
end Go.Proofs.YtjobhjemnmleaaaGreatDoor
