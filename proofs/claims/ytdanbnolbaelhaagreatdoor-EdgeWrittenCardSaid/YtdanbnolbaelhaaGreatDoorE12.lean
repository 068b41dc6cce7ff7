/- How a reader lies in memory: its own block, and its rows. -/
import Derived.Test.YtdanbnolbaelhaaGreatDoorE11
import Derived.Test.YtdanbnolbaelhaaGreatDoorE09
import Derived.RegionTactic
import Derived.Deep.DeepCutAuto
import Derived.Deep.AppendLies
import Derived.Deep.RegionHeldLaw
import Derived.Deep.QuietTactic
import Derived.BigQuiet
import Derived.Laws.Cells
import Derived.Laws.MakeOwn

namespace Go.Proofs.YtdanbnolbaelhaaGreatDoor
open Go.RowKit

namespace Src
abbrev S := St Ru.R Er.E
def ruleRow (v : Value) (s : S) : Row := ⟨80, 11, v, s.rules.length, s.rules.flatMap Ru.R.cells⟩
def zoneCells : List (Txt × List Er.E) → List Value → List Value
  | z :: l, v :: vs => .string (bts z.1) :: v :: zoneCells l vs
  | _, _ => []
def zoneRow (v : Value) (evs : List Value) (s : S) : Row := ⟨36, 2, v, s.zones.length, zoneCells s.zones evs⟩
def linkRow (v : Value) (s : S) : Row := ⟨108, 2, v, s.links.length, s.links.flatMap fun k => [.string (bts k.1), .string (bts k.2)]⟩
def eraRow (v : Value) (es : List Er.E) : Row := ⟨48, 13, v, es.length, es.flatMap Er.E.cells⟩
def eraRows : List (Txt × List Er.E) → List Value → List Row
  | z :: l, v :: vs => eraRow v z.2 :: eraRows l vs
  | _, _ => []
/-- The reader at block g, its rows made from B on. -/
structure Held (B : Nat) (w : World) (g : Nat) (s : S) (rv zv lv : Value) (evs : List Value) : Prop where
  at_ : At w g [rv, zv, lv, .bool s.op]
  many : Many B w (ruleRow rv s :: zoneRow zv evs s :: linkRow lv s :: eraRows s.zones evs)
  below : g < B
  evs_len : evs.length = s.zones.length
theorem Held.call {B : Nat} {w w' : World} {g : Nat} {s : S} {rv zv lv : Value} {evs : List Value} (h : Held B w g s rv zv lv evs) (hb : Below w.heap.size w w') : Held B w' g s rv zv lv evs :=
  ⟨h.at_.call hb, h.many.call hb, h.below, h.evs_len⟩
theorem Held.allocO {B : Nat} {w : World} {g : Nat} {s : S} {rv zv lv : Value} {evs : List Value} (h : Held B w g s rv zv lv evs) (o : Obj) : Held B (w.alloc o) g s rv zv lv evs :=
  ⟨h.at_.allocO o, h.many.alloc o, h.below, h.evs_len⟩
/-- A rule more. -/
theorem Held.rule {B : Nat} {w w' w2 : World} {g : Nat} {s : S} {rv rv' zv lv : Value} {evs : List Value} (h : Held B w g s rv zv lv evs) (r : Ru.R) (o : Obj)
    (hown : w'.ownsRow B 80 11 rv' (s.rules.length + 1) (s.rules.flatMap Ru.R.cells ++ r.cells)) (hg : (w.alloc o).grownBy w' rv.ownBlock) (hat : rv'.ownBlock = rv.ownBlock ∨ rv'.ownBlock = some (w.alloc o).heap.size)
    (hw : w2 = w'.setCell ⟨g, 0, none⟩ rv') : Held B w2 g { s with rules := s.rules ++ [r] } rv' zv lv evs := by
  have hne : ∀ k, rv.ownBlock = some k → g ≠ k := fun k hk e => by
    have := ((h.many.own _ List.mem_cons_self).lt k hk).1
    have := h.below
    omega
  have a1 := (Sc.At.grownO (h.at_.allocO o) hg hne).set 0 rv'
  have m1 := (h.many.grow o hown hg hat).setBelow (p := ⟨g, 0, none⟩) h.below rv'
  subst hw
  refine ⟨a1, ?_, h.below, h.evs_len⟩
  have e : ruleRow rv' { s with rules := s.rules ++ [r] } = ⟨80, 11, rv', s.rules.length + 1, s.rules.flatMap Ru.R.cells ++ r.cells⟩ := by
    simp [ruleRow]
  rw [e]
  exact m1
end Src
end Go.Proofs.YtdanbnolbaelhaaGreatDoor

/- The contracts of era.saved and era.read: one text of an era. -/
namespace Go.Proofs.YtdanbnolbaelhaaGreatDoor
open Go.RowKit

namespace Er
end Er
end Go.Proofs.YtdanbnolbaelhaaGreatDoor

/- The contract of era.Parse. -/
namespace Go.Proofs.YtdanbnolbaelhaaGreatDoor
open Go.RowKit

end Go.Proofs.YtdanbnolbaelhaaGreatDoor

/- (*reader).rule. -/
namespace Go.Proofs.YtdanbnolbaelhaaGreatDoor
open Go.RowKit

namespace Src
/-- All blocks that lay there stay as they are, but for the reader's own and the zones' row. -/
def Kept (g : Nat) (zv : Value) (w w' : World) : Prop := ∀ h : Nat, h < w.heap.size → h ≠ g → zv.ownBlock ≠ some h → w'.heap[h]? = w.heap[h]?
/-- What a reading method leaves. -/
def Post (B g : Nat) (zv : Value) (w : World) : Out S → Ending → World → Prop
  | .ok s', e, w' => e = .returned (.tuple #[.int .i64 0, .int .i64 0]) ∧ Below g w w' ∧ ∃ rv zv lv evs, Held B w' g s' rv zv lv evs
  | .bad p y, e, w' => e = .returned (.tuple #[.int .i64 p, .int .i64 y]) ∧ Below g w w' ∧ Kept g zv w w'
end Src
end Go.Proofs.YtdanbnolbaelhaaGreatDoor

/- How a reader lies in memory, what more is read: a rule, a zone, a link, an era. -/
namespace Go.Proofs.YtdanbnolbaelhaaGreatDoor
open Go.RowKit

section
variable {B : Nat} {w w' : World} {rs : List Row} {r : Row}
theorem Many.drewN (h : Many B w rs) (k : Nat) : Many B (w.drewN k) rs := ⟨fun r hr => h.own r hr, h.apart⟩
/-- What is read lies elsewhere than a row that grows. -/
theorem Reads.far {B0 size n : Nat} {ad : Addr} {xs : List Value} {row : Option Nat} (h : Reads w B0 size (some ad) n xs) (hg : w.grownBy w' row) (hl : ad.block < w.heap.size) (hne : row ≠ some ad.block) : Reads w' w'.heap.size size (some ad) n xs := by
  refine ⟨h.1, fun hn => ?_⟩
  obtain ⟨ad', e, hb, hc⟩ := h.2 hn
  injection e with e
  subst e
  exact ⟨ad, rfl, Nat.lt_of_lt_of_le hl hg.size, fun j u hu => (hg.cell_far _ (by rw [block_of_add]; exact hl) (by rw [block_of_add]; exact fun x => hne x.symm)).trans (hc j u hu)⟩
end
namespace Src
section
variable {B : Nat} {w w' w2 : World} {g : Nat} {s : S} {rv rv' zv zv' lv lv' : Value} {evs : List Value}
theorem Held.drewN (h : Held B w g s rv zv lv evs) (k : Nat) : Held B (w.drewN k) g s rv zv lv evs := ⟨h.at_.drew ⟨k, rfl⟩, h.many.drewN k, h.below, h.evs_len⟩
end
end Src
end Go.Proofs.YtdanbnolbaelhaaGreatDoor

/- (*reader).rule: the way that reads. -/
namespace Go.Proofs.YtdanbnolbaelhaaGreatDoor
open Go.RowKit

theorem rule_info : (Tryz.prog.info? 80).map (fun i => (i.zero, i.size, i.bytes)) = some (some (.agg #[.string ⟨#[]⟩, .int .i64 0, .int .i64 0, .int .i64 0, .int .u8 0, .int .i64 0, .int .i64 0, .int .i64 0, .int .u8 0, .int .i64 0, .string ⟨#[]⟩]), 11, 104) := by kernel_rfl
theorem cells_new (w : World) (cs : Array Value) (t : TypeId) : ∀ j u, cs.toList[j]? = some u → (w.alloc (.cells cs t)).cell? ((⟨w.heap.size, 0, none⟩ : Addr).add j) = some u := fun j u hu => by
  have hadd : (⟨w.heap.size, 0, none⟩ : Addr).add j = ⟨w.heap.size, j, none⟩ := by unfold Addr.add; split <;> simp_all
  rw [hadd]
  exact (At.new w cs t).cell j u hu
end Go.Proofs.YtdanbnolbaelhaaGreatDoor

/- (*reader).rule: all its ways. -/
namespace Go.Proofs.YtdanbnolbaelhaaGreatDoor
open Go.RowKit

end Go.Proofs.YtdanbnolbaelhaaGreatDoor

/- (*reader).era. -/
namespace Go.Proofs.YtdanbnolbaelhaaGreatDoor
open Go.RowKit

end Go.Proofs.YtdanbnolbaelhaaGreatDoor

/- (*reader).era in one law; (*reader).zone. -/
namespace Go.Proofs.YtdanbnolbaelhaaGreatDoor
open Go.RowKit

namespace Src
theorem Post.after {B g : Nat} {zv zv1 : Value} {w w1 w' : World} {o : Out S} {e : Ending} (h : Post B g zv1 w1 o e w') (hb : Below g w w1) (hk : Kept g zv w w1) (hs : w.heap.size ≤ w1.heap.size) (hz : ∀ k, k < w.heap.size → zv1.ownBlock = some k → zv.ownBlock = some k) : Post B g zv w o e w' := by
  cases o with
  | ok s => exact ⟨h.1, hb.trans h.2.1, h.2.2⟩
  | bad p y => exact ⟨h.1, hb.trans h.2.1, fun k hl hn hv => (h.2.2 k (Nat.lt_of_lt_of_le hl hs) hn (fun e => hv (hz k hl e))).trans (hk k hl hn hv)⟩
end Src
end Go.Proofs.YtdanbnolbaelhaaGreatDoor

/- slices.IndexFunc and slices.ContainsFunc, at whatever predicate. -/
namespace Go.Proofs.YtdanbnolbaelhaaGreatDoor
open Go.RowKit

namespace Ix
/-- The first place at which p holds; -1, if there is none. -/
def at_ {α : Type} (p : α → Bool) : List α → Int → Int
  | [], _ => -1
  | x :: l, i => if p x then i else at_ p l (i + 1)
theorem at_bd {α : Type} (p : α → Bool) : ∀ (l : List α) (i : Int), at_ p l i = -1 ∨ (i ≤ at_ p l i ∧ at_ p l i < i + l.length)
  | [], _ => .inl rfl
  | x :: l, i => by
    unfold at_
    split
    · right; simp; omega
    · rcases at_bd p l (i + 1) with h | h
      · exact .inl h
      · right; simp; omega
theorem at_any {α : Type} (p : α → Bool) : ∀ (l : List α) (i : Int), 0 ≤ i → decide (0 ≤ at_ p l i) = l.any p
  | [], _, _ => rfl
  | x :: l, i, h => by
    unfold at_
    cases hx : p x
    · rw [if_neg (by simp), at_any p l (i + 1) (by omega)]
      simp [hx]
    · rw [if_pos rfl]
      simp [hx, h]
theorem at_next {α : Type} {p : α → Bool} {l : List α} {k : Nat} {x : α} {X : Int} (h : X = at_ p (l.drop k) k) (hx : l[k]? = some x) : X = if p x then (k : Int) else at_ p (l.drop (k + 1)) ((k + 1 : Nat) : Int) := by
  rw [List.drop_eq_getElem_cons (List.getElem?_eq_some_iff.1 hx).1] at h
  rw [h, at_, (List.getElem?_eq_some_iff.1 hx).2]
  rfl
theorem at_end {α : Type} {p : α → Bool} {l : List α} {k : Nat} {X : Int} (h : X = at_ p (l.drop k) k) (hk : l.length ≤ k) : X = -1 := by
  rw [h, List.drop_eq_nil_of_le hk]
  rfl
/-- An element's cells, out of all. -/
theorem flat_at {α : Type} (enc : α → List Value) (m : Nat) (hm : ∀ x, (enc x).length = m) : ∀ (xs : List α) (k : Nat) (x : α), xs[k]? = some x → ∀ (j : Nat) (v : Value), (enc x)[j]? = some v → (xs.flatMap enc)[k * m + j]? = some v
  | [], k, x, h, j, v, hj => by simp at h
  | y :: l, 0, x, h, j, v, hj => by
    simp at h
    subst h
    rw [List.flatMap_cons, List.getElem?_append_left (by have := (List.getElem?_eq_some_iff.1 hj).1; omega)]
    simpa using hj
  | y :: l, k + 1, x, h, j, v, hj => by
    rw [List.flatMap_cons, List.getElem?_append_right (by rw [hm, Nat.add_mul]; omega), hm]
    have := flat_at enc m hm l k x (by simpa using h) j v hj
    rw [← this]
    congr 1
    rw [Nat.add_mul]
    omega
theorem flat_len {α : Type} (enc : α → List Value) (m : Nat) (hm : ∀ x, (enc x).length = m) : ∀ xs : List α, (xs.flatMap enc).length = xs.length * m
  | [] => by simp
  | y :: l => by rw [List.flatMap_cons, List.length_append, hm, flat_len enc m hm l, List.length_cons, Nat.add_mul]; omega
theorem reads_cells {α : Type} {enc : α → List Value} {m : Nat} (hm : ∀ x, (enc x).length = m) {w : World} {B n k : Nat} {A : Option Addr} {xs : List α} (hl : xs.length = n) (h : Reads w B m A n (xs.flatMap enc)) (hk : k < n) :
    ∃ ad x, A = some ad ∧ ad.block < B ∧ Hid (xs[k]? = some x) ∧ Hid (∀ j v, (enc x)[j]? = some v → w.cell? ((ad.add (k * m)).add j) = some v) := by
  obtain ⟨ad, e, hb, hc⟩ := h.2 (by omega)
  have hkl : k < xs.length := by omega
  refine ⟨ad, xs[k], e, hb, List.getElem?_eq_getElem hkl, fun j v hj => ?_⟩
  rw [add_of_add]
  exact hc _ _ (flat_at enc m hm xs k _ (List.getElem?_eq_getElem hkl) j v hj)
/-- What is asked of a predicate. -/
def Tells {α : Type} (g : FuncId) (lb : Array Value) (enc : α → Value) (p : α → Bool) (xs : List α) (w : World) : Prop :=
  ∀ W x, x ∈ xs → Below w.heap.size w W → Calls Tryz.prog g (#[enc x] ++ lb) W fun e w' => e = .returned (.bool (p x)) ∧ Below w.heap.size w w'
end Ix
set_option maxHeartbeats 2000000 in
set_option maxRecDepth 100000 in
theorem idx_rule (p : Ru.R → Bool) (g : FuncId) (lb : Array Value) (eg : ∀ args w, (callFunc g args).run Tryz.prog w = .ok (.enter g args) w) (A : Option Addr) (n c : Nat) (xs : List Ru.R) (w : World) (hn : n ≤ maxLen) (hl : xs.length = n)
    (hr : Reads w w.heap.size 11 A n (xs.flatMap Ru.R.cells)) (hp : Ix.Tells g lb Ru.R.v p xs w) :
    Calls Tryz.prog 90 #[.slice A n c, .func (.func g) #[] lb] w fun e w' => e = .returned (.int .i64 (Ix.at_ p xs 0)) ∧ Below w.heap.size w w' := by
  unfold maxLen at hn
  obtain ⟨X, hX⟩ : ∃ X, Ix.at_ p xs 0 = X := ⟨_, rfl⟩
  rw [hX]
  have HX := Lib.hid hX
  have HR := Lib.hid hr
  have HP := Lib.hid hp
  have HL := Lib.hid hl
  clear hX hr hp hl
  go_enter Tryz.func90, Tryz.ntmps90
  go_wp2
  go_loopw [5, 8] (fun _ i wr => ∃ k : Nat, k ≤ n ∧ i = .int .i64 k ∧ Hid (X = Ix.at_ p (xs.drop k) k) ∧ Hid (Below w.heap.size w wr)) (fun _ i _ => n - (intOf i).toNat)
  case atStart => exact ⟨0, Nat.zero_le _, rfl, HX.out.symm, Below.refl _ _⟩
  case round =>
    obtain ⟨k, hk, rfl, HK, HB⟩ := hrel
    by_cases hlt : k < n
    · have q2 : (k : Int) < (n : Int) := by omega
      have q1 : (0 : Int) ≤ (k : Int) := by omega
      obtain ⟨ad, x, rfl, hab, Hx, HL0⟩ := Ix.reads_cells (enc := Ru.R.cells) (m := 11) (fun _ => rfl) HL.out (HR.out.below HB.out) hlt
      have hc0 : wr.cell? (ad.add (k * 11)) = some (.string x.nm) := HL0.out 0 _ rfl
      have hc1 : wr.cell? ⟨(ad.add (k * 11)).block, (ad.add (k * 11)).off + 1, none⟩ = some (.int .i64 x.fr) := HL0.out 1 _ rfl
      have hc2 : wr.cell? ⟨(ad.add (k * 11)).block, (ad.add (k * 11)).off + 2, none⟩ = some (.int .i64 x.tt) := HL0.out 2 _ rfl
      have hc3 : wr.cell? ⟨(ad.add (k * 11)).block, (ad.add (k * 11)).off + 3, none⟩ = some (.int .i64 x.mo) := HL0.out 3 _ rfl
      have hc4 : wr.cell? ⟨(ad.add (k * 11)).block, (ad.add (k * 11)).off + 4, none⟩ = some (.int .u8 x.k) := HL0.out 4 _ rfl
      have hc5 : wr.cell? ⟨(ad.add (k * 11)).block, (ad.add (k * 11)).off + 5, none⟩ = some (.int .i64 x.n) := HL0.out 5 _ rfl
      have hc6 : wr.cell? ⟨(ad.add (k * 11)).block, (ad.add (k * 11)).off + 6, none⟩ = some (.int .i64 x.d) := HL0.out 6 _ rfl
      have hc7 : wr.cell? ⟨(ad.add (k * 11)).block, (ad.add (k * 11)).off + 7, none⟩ = some (.int .i64 x.s) := HL0.out 7 _ rfl
      have hc8 : wr.cell? ⟨(ad.add (k * 11)).block, (ad.add (k * 11)).off + 8, none⟩ = some (.int .u8 x.c) := HL0.out 8 _ rfl
      have hc9 : wr.cell? ⟨(ad.add (k * 11)).block, (ad.add (k * 11)).off + 9, none⟩ = some (.int .i64 x.sv) := HL0.out 9 _ rfl
      have hc10 : wr.cell? ⟨(ad.add (k * 11)).block, (ad.add (k * 11)).off + 10, none⟩ = some (.string x.lt) := HL0.out 10 _ rfl
      have HC := HP.out wr x (List.mem_of_getElem? Hx.out) HB.out
      have HN := Ix.at_next HK.out Hx.out
      cases hq : p x with
      | true =>
        rw [hq] at HC HN
        replace HN := Lib.hid (HN.trans (if_pos rfl))
        replace HC := Lib.hid HC
        clear hq
        go_wp2_with (go_at_fn g; refine HC.out.mono ?_; rintro e w' ⟨rfl, hb⟩)
        go_ret
        exact ⟨ret_int HN.out.symm, hb⟩
      | false =>
        rw [hq] at HC HN
        replace HN := Lib.hid (HN.trans (if_neg (by decide)))
        replace HC := Lib.hid HC
        clear hq
        go_wp2_with (go_at_fn g; refine HC.out.mono ?_; rintro e w' ⟨rfl, hb⟩)
        go_roundw
        case rel => exact ⟨k + 1, by omega, by go_num, HN.out, hb⟩
        case measure => simp [intOf]; omega
    · have q2 : ¬ (k : Int) < (n : Int) := by omega
      have HE := Lib.hid (Ix.at_end HK.out (by rw [HL.out]; omega))
      go_wp2
      go_ret
      exact ⟨ret_int HE.out.symm, HB.out⟩
set_option maxHeartbeats 400000 in
theorem has_rule (p : Ru.R → Bool) (g : FuncId) (lb : Array Value) (eg : ∀ args w, (callFunc g args).run Tryz.prog w = .ok (.enter g args) w) (A : Option Addr) (n c : Nat) (xs : List Ru.R) (w : World) (hn : n ≤ maxLen) (hl : xs.length = n)
    (hr : Reads w w.heap.size 11 A n (xs.flatMap Ru.R.cells)) (hp : Ix.Tells g lb Ru.R.v p xs w) :
    Calls Tryz.prog 50 #[.slice A n c, .func (.func g) #[] lb] w fun e w' => e = .returned (.bool (xs.any p)) ∧ Below w.heap.size w w' := by
  have h := idx_rule p g lb eg A n c xs w hn hl hr hp
  have hb := Ix.at_bd p xs 0
  rw [← Ix.at_any p xs 0 (by omega)]
  obtain ⟨X, hX⟩ : ∃ X, Ix.at_ p xs 0 = X := ⟨_, rfl⟩
  rw [hX] at h ⊢
  have H := Lib.hid h
  clear h hX hr hp hb
  go_enter Tryz.func50, Tryz.ntmps50
  go_wp2_with fail
  refine H.out.mono ?_
  rintro e w1 ⟨rfl, hb⟩
  have HB := Lib.hid hb
  clear hb
  go_wp2
  go_ret
  exact ⟨rfl, HB.out⟩
namespace Src
/-- A zone with its eras' slice; its cells. -/
def zc (p : (Txt × List Er.E) × Value) : List Value := [.string (bts p.1.1), p.2]
def zv (p : (Txt × List Er.E) × Value) : Value := .agg #[.string (bts p.1.1), p.2]
def lc (p : Txt × Txt) : List Value := [.string (bts p.1), .string (bts p.2)]
def lv (p : Txt × Txt) : Value := .agg #[.string (bts p.1), .string (bts p.2)]
end Src
set_option maxHeartbeats 2000000 in
set_option maxRecDepth 100000 in
theorem idx_zone (p : ((Src.Txt × List Er.E) × Value) → Bool) (g : FuncId) (lb : Array Value) (eg : ∀ args w, (callFunc g args).run Tryz.prog w = .ok (.enter g args) w) (A : Option Addr) (n c : Nat) (xs : List ((Src.Txt × List Er.E) × Value)) (w : World) (hn : n ≤ maxLen) (hl : xs.length = n)
    (hr : Reads w w.heap.size 2 A n (xs.flatMap Src.zc)) (hp : Ix.Tells g lb Src.zv p xs w) :
    Calls Tryz.prog 91 #[.slice A n c, .func (.func g) #[] lb] w fun e w' => e = .returned (.int .i64 (Ix.at_ p xs 0)) ∧ Below w.heap.size w w' := by
  unfold maxLen at hn
  obtain ⟨X, hX⟩ : ∃ X, Ix.at_ p xs 0 = X := ⟨_, rfl⟩
  rw [hX]
  have HX := Lib.hid hX
  have HR := Lib.hid hr
  have HP := Lib.hid hp
  have HL := Lib.hid hl
  clear hX hr hp hl
  go_enter Tryz.func91, Tryz.ntmps91
  go_wp2
  go_loopw [5, 8] (fun _ i wr => ∃ k : Nat, k ≤ n ∧ i = .int .i64 k ∧ Hid (X = Ix.at_ p (xs.drop k) k) ∧ Hid (Below w.heap.size w wr)) (fun _ i _ => n - (intOf i).toNat)
  case atStart => exact ⟨0, Nat.zero_le _, rfl, HX.out.symm, Below.refl _ _⟩
  case round =>
    obtain ⟨k, hk, rfl, HK, HB⟩ := hrel
    by_cases hlt : k < n
    · have q2 : (k : Int) < (n : Int) := by omega
      have q1 : (0 : Int) ≤ (k : Int) := by omega
      obtain ⟨ad, x, rfl, hab, Hx, HL0⟩ := Ix.reads_cells (enc := Src.zc) (m := 2) (fun _ => rfl) HL.out (HR.out.below HB.out) hlt
      have hc0 : wr.cell? (ad.add (k * 2)) = some (.string (Src.bts x.1.1)) := HL0.out 0 _ rfl
      have hc1 : wr.cell? ⟨(ad.add (k * 2)).block, (ad.add (k * 2)).off + 1, none⟩ = some (x.2) := HL0.out 1 _ rfl
      have HC := HP.out wr x (List.mem_of_getElem? Hx.out) HB.out
      have HN := Ix.at_next HK.out Hx.out
      cases hq : p x with
      | true =>
        rw [hq] at HC HN
        replace HN := Lib.hid (HN.trans (if_pos rfl))
        replace HC := Lib.hid HC
        clear hq
        go_wp2_with (go_at_fn g; refine HC.out.mono ?_; rintro e w' ⟨rfl, hb⟩)
        go_ret
        exact ⟨ret_int HN.out.symm, hb⟩
      | false =>
        rw [hq] at HC HN
        replace HN := Lib.hid (HN.trans (if_neg (by decide)))
        replace HC := Lib.hid HC
        clear hq
        go_wp2_with (go_at_fn g; refine HC.out.mono ?_; rintro e w' ⟨rfl, hb⟩)
        go_roundw
        case rel => exact ⟨k + 1, by omega, by go_num, HN.out, hb⟩
        case measure => simp [intOf]; omega
    · have q2 : ¬ (k : Int) < (n : Int) := by omega
      have HE := Lib.hid (Ix.at_end HK.out (by rw [HL.out]; omega))
      go_wp2
      go_ret
      exact ⟨ret_int HE.out.symm, HB.out⟩
set_option maxHeartbeats 400000 in
theorem has_zone (p : ((Src.Txt × List Er.E) × Value) → Bool) (g : FuncId) (lb : Array Value) (eg : ∀ args w, (callFunc g args).run Tryz.prog w = .ok (.enter g args) w) (A : Option Addr) (n c : Nat) (xs : List ((Src.Txt × List Er.E) × Value)) (w : World) (hn : n ≤ maxLen) (hl : xs.length = n)
    (hr : Reads w w.heap.size 2 A n (xs.flatMap Src.zc)) (hp : Ix.Tells g lb Src.zv p xs w) :
    Calls Tryz.prog 51 #[.slice A n c, .func (.func g) #[] lb] w fun e w' => e = .returned (.bool (xs.any p)) ∧ Below w.heap.size w w' := by
  have h := idx_zone p g lb eg A n c xs w hn hl hr hp
  have hb := Ix.at_bd p xs 0
  rw [← Ix.at_any p xs 0 (by omega)]
  obtain ⟨X, hX⟩ : ∃ X, Ix.at_ p xs 0 = X := ⟨_, rfl⟩
  rw [hX] at h ⊢
  have H := Lib.hid h
  clear h hX hr hp hb
  go_enter Tryz.func51, Tryz.ntmps51
  go_wp2_with fail
  refine H.out.mono ?_
  rintro e w1 ⟨rfl, hb⟩
  have HB := Lib.hid hb
  clear hb
  go_wp2
  go_ret
  exact ⟨rfl, HB.out⟩
set_option maxHeartbeats 2000000 in
set_option maxRecDepth 100000 in
theorem idx_link (p : (Src.Txt × Src.Txt) → Bool) (g : FuncId) (lb : Array Value) (eg : ∀ args w, (callFunc g args).run Tryz.prog w = .ok (.enter g args) w) (A : Option Addr) (n c : Nat) (xs : List (Src.Txt × Src.Txt)) (w : World) (hn : n ≤ maxLen) (hl : xs.length = n)
    (hr : Reads w w.heap.size 2 A n (xs.flatMap Src.lc)) (hp : Ix.Tells g lb Src.lv p xs w) :
    Calls Tryz.prog 92 #[.slice A n c, .func (.func g) #[] lb] w fun e w' => e = .returned (.int .i64 (Ix.at_ p xs 0)) ∧ Below w.heap.size w w' := by
  unfold maxLen at hn
  obtain ⟨X, hX⟩ : ∃ X, Ix.at_ p xs 0 = X := ⟨_, rfl⟩
  rw [hX]
  have HX := Lib.hid hX
  have HR := Lib.hid hr
  have HP := Lib.hid hp
  have HL := Lib.hid hl
  clear hX hr hp hl
  go_enter Tryz.func92, Tryz.ntmps92
  go_wp2
  go_loopw [5, 8] (fun _ i wr => ∃ k : Nat, k ≤ n ∧ i = .int .i64 k ∧ Hid (X = Ix.at_ p (xs.drop k) k) ∧ Hid (Below w.heap.size w wr)) (fun _ i _ => n - (intOf i).toNat)
  case atStart => exact ⟨0, Nat.zero_le _, rfl, HX.out.symm, Below.refl _ _⟩
  case round =>
    obtain ⟨k, hk, rfl, HK, HB⟩ := hrel
    by_cases hlt : k < n
    · have q2 : (k : Int) < (n : Int) := by omega
      have q1 : (0 : Int) ≤ (k : Int) := by omega
      obtain ⟨ad, x, rfl, hab, Hx, HL0⟩ := Ix.reads_cells (enc := Src.lc) (m := 2) (fun _ => rfl) HL.out (HR.out.below HB.out) hlt
      have hc0 : wr.cell? (ad.add (k * 2)) = some (.string (Src.bts x.1)) := HL0.out 0 _ rfl
      have hc1 : wr.cell? ⟨(ad.add (k * 2)).block, (ad.add (k * 2)).off + 1, none⟩ = some (.string (Src.bts x.2)) := HL0.out 1 _ rfl
      have HC := HP.out wr x (List.mem_of_getElem? Hx.out) HB.out
      have HN := Ix.at_next HK.out Hx.out
      cases hq : p x with
      | true =>
        rw [hq] at HC HN
        replace HN := Lib.hid (HN.trans (if_pos rfl))
        replace HC := Lib.hid HC
        clear hq
        go_wp2_with (go_at_fn g; refine HC.out.mono ?_; rintro e w' ⟨rfl, hb⟩)
        go_ret
        exact ⟨ret_int HN.out.symm, hb⟩
      | false =>
        rw [hq] at HC HN
        replace HN := Lib.hid (HN.trans (if_neg (by decide)))
        replace HC := Lib.hid HC
        clear hq
        go_wp2_with (go_at_fn g; refine HC.out.mono ?_; rintro e w' ⟨rfl, hb⟩)
        go_roundw
        case rel => exact ⟨k + 1, by omega, by go_num, HN.out, hb⟩
        case measure => simp [intOf]; omega
    · have q2 : ¬ (k : Int) < (n : Int) := by omega
      have HE := Lib.hid (Ix.at_end HK.out (by rw [HL.out]; omega))
      go_wp2
      go_ret
      exact ⟨ret_int HE.out.symm, HB.out⟩
set_option maxHeartbeats 400000 in
theorem has_link (p : (Src.Txt × Src.Txt) → Bool) (g : FuncId) (lb : Array Value) (eg : ∀ args w, (callFunc g args).run Tryz.prog w = .ok (.enter g args) w) (A : Option Addr) (n c : Nat) (xs : List (Src.Txt × Src.Txt)) (w : World) (hn : n ≤ maxLen) (hl : xs.length = n)
    (hr : Reads w w.heap.size 2 A n (xs.flatMap Src.lc)) (hp : Ix.Tells g lb Src.lv p xs w) :
    Calls Tryz.prog 52 #[.slice A n c, .func (.func g) #[] lb] w fun e w' => e = .returned (.bool (xs.any p)) ∧ Below w.heap.size w w' := by
  have h := idx_link p g lb eg A n c xs w hn hl hr hp
  have hb := Ix.at_bd p xs 0
  rw [← Ix.at_any p xs 0 (by omega)]
  obtain ⟨X, hX⟩ : ∃ X, Ix.at_ p xs 0 = X := ⟨_, rfl⟩
  rw [hX] at h ⊢
  have H := Lib.hid h
  clear h hX hr hp hb
  go_enter Tryz.func52, Tryz.ntmps52
  go_wp2_with fail
  refine H.out.mono ?_
  rintro e w1 ⟨rfl, hb⟩
  have HB := Lib.hid hb
  clear hb
  go_wp2
  go_ret
  exact ⟨rfl, HB.out⟩
end Go.Proofs.YtdanbnolbaelhaaGreatDoor

/- (*reader).zone in one law; (*reader).link. -/
namespace Go.Proofs.YtdanbnolbaelhaaGreatDoor
open Go.RowKit

end Go.Proofs.YtdanbnolbaelhaaGreatDoor

/- (*reader).link in one law; (*reader).line. -/
namespace Go.Proofs.YtdanbnolbaelhaaGreatDoor
open Go.RowKit

end Go.Proofs.YtdanbnolbaelhaaGreatDoor

/- What the lines of a text are bounded by; places are not negative; a source in memory as it is read. -/
namespace Go.Proofs.YtdanbnolbaelhaaGreatDoor
open Go.RowKit

namespace Src
def cur : Sc.Mode → Nat
  | .b => 0
  | .f _ t => t.length
  | .q _ _ t => t.length
/-- A slice that reads as a list of cells. -/
def RowR (w : World) (B size n : Nat) (v : Value) (xs : List Value) : Prop := ∃ A c, v = .slice A n c ∧ n ≤ c ∧ c ≤ maxLen ∧ Reads w B size A n xs
theorem RowR.below {w w' : World} {B size n : Nat} {v : Value} {xs : List Value} (h : RowR w B size n v xs) (hb : Below B w w') : RowR w' B size n v xs := by
  obtain ⟨A, c, e, h1, h2, h3⟩ := h
  exact ⟨A, c, e, h1, h2, h3.below hb⟩
theorem RowR.more {w : World} {B B' size n : Nat} {v : Value} {xs : List Value} (h : RowR w B size n v xs) (hb : B ≤ B') : RowR w B' size n v xs := by
  obtain ⟨A, c, e, h1, h2, h3⟩ := h
  exact ⟨A, c, e, h1, h2, h3.more hb⟩
theorem RowR.of_own {w : World} {base size n : Nat} {e : TypeId} {v : Value} {xs : List Value} (h : w.ownsRow base e size v n xs) : RowR w w.heap.size size n v xs := by
  obtain ⟨A, c, rfl, h1, h2⟩ := own_slice_cap h
  exact ⟨A, c, rfl, h1, h2, Reads.of_own h⟩
/-- A source as it is read: three slices, and one for each zone's eras. -/
structure SrcR (w : World) (B : Nat) (s : S) (rv zv lv : Value) (evs : List Value) : Prop where
  rules : RowR w B 11 s.rules.length rv (s.rules.flatMap Ru.R.cells)
  zones : RowR w B 2 s.zones.length zv ((s.zones.zip evs).flatMap zc)
  links : RowR w B 2 s.links.length lv (s.links.flatMap lc)
  len : evs.length = s.zones.length
  eras : ∀ p ∈ s.zones.zip evs, RowR w B 13 p.1.2.length p.2 (p.1.2.flatMap Er.E.cells)
theorem SrcR.below {w w' : World} {B : Nat} {s : S} {rv zv lv : Value} {evs : List Value} (h : SrcR w B s rv zv lv evs) (hb : Below B w w') : SrcR w' B s rv zv lv evs :=
  ⟨h.rules.below hb, h.zones.below hb, h.links.below hb, h.len, fun p hp => (h.eras p hp).below hb⟩
theorem SrcR.more {w : World} {B B' : Nat} {s : S} {rv zv lv : Value} {evs : List Value} (h : SrcR w B s rv zv lv evs) (hb : B ≤ B') : SrcR w B' s rv zv lv evs :=
  ⟨h.rules.more hb, h.zones.more hb, h.links.more hb, h.len, fun p hp => (h.eras p hp).more hb⟩
theorem SrcR.call {w w' : World} {s : S} {rv zv lv : Value} {evs : List Value} (h : SrcR w w.heap.size s rv zv lv evs) (hb : Below w.heap.size w w') : SrcR w' w'.heap.size s rv zv lv evs := (h.below hb).more hb.size
end Src
end Go.Proofs.YtdanbnolbaelhaaGreatDoor

/- Comparing records cell by cell; slices.Equal at them. -/
namespace Go.Proofs.YtdanbnolbaelhaaGreatDoor
open Go.RowKit

theorem toList_eq_iff (a b : ByteArray) : a.toList = b.toList ↔ a = b := by
  rw [ByteArray.toList_eq, ByteArray.toList_eq]
  constructor
  · intro h
    exact ByteArray.ext (Array.ext' h)
  · intro h
    rw [h]
namespace Ix
/-- Two lists agree, one by one. -/
def same {α : Type} (f : α → α → Bool) : List α → List α → Bool
  | [], [] => true
  | x :: l, y :: k => f x y && same f l k
  | _, _ => false
end Ix
def Ru.R.same (r s : Ru.R) : Bool := decide (r.nm = s.nm) && (decide (r.fr = s.fr) && (decide (r.tt = s.tt) && (decide (r.mo = s.mo) && (decide (r.k = s.k) && (decide (r.n = s.n) && (decide (r.d = s.d) && (decide (r.s = s.s) && (decide (r.c = s.c) && (decide (r.sv = s.sv) && (decide (r.lt = s.lt)))))))))))
def Er.E.same (r s : Er.E) : Bool := decide (r.std = s.std) && (decide (r.k = s.k) && (decide (r.sv = s.sv) && (decide (r.ru = s.ru) && (decide (r.fm = s.fm) && (decide (r.en = s.en) && (decide (r.u.y = s.u.y) && (decide (r.u.m = s.u.m) && (decide (r.u.k = s.u.k) && (decide (r.u.n = s.u.n) && (decide (r.u.d = s.u.d) && (decide (r.u.s = s.u.s) && (decide (r.u.c = s.u.c)))))))))))))
end Go.Proofs.YtdanbnolbaelhaaGreatDoor

/- source.Check. -/
namespace Go.Proofs.YtdanbnolbaelhaaGreatDoor
open Go.RowKit

noncomputable def Ru.R.good (r : Ru.R) : Bool := @decide r.Ok (Classical.propDecidable _)
theorem Ru.R.good_iff (r : Ru.R) : r.good = true ↔ r.Ok := by
  unfold Ru.R.good
  exact @decide_eq_true_iff _ (Classical.propDecidable _)
noncomputable def Er.E.good (e : Er.E) : Bool := decide (Er.chk e = 0)
namespace Src
/-- The eras of a right zone: each is right, and all but the last one end. -/
noncomputable def erasB : List Er.E → Bool
  | [] => true
  | e :: l => e.good && ((e.en == !l.isEmpty) && erasB l)
noncomputable def zoneB (z : Txt × List Er.E) : Bool := Ru.name z.1 && (decide (1 ≤ z.2.length) && (decide (z.2.length ≤ 64) && erasB z.2))
def linkB (k : Txt × Txt) : Bool := Ru.name k.1 && Ru.name k.2
/-- A source is right. -/
noncomputable def srcB (s : S) : Bool := s.rules.all Ru.R.good && (s.zones.all zoneB && s.links.all linkB)
structure Lims (s : S) : Prop where
  rules : s.rules.length ≤ 4096
  zones : s.zones.length ≤ 1024
  links : s.links.length ≤ 4096
end Src
theorem any_not {α : Type} (f : α → Bool) : ∀ l : List α, l.any (fun x => !f x) = !l.all f
  | [] => rfl
  | x :: l => by
    rw [List.any_cons, List.all_cons, any_not f l]
    cases f x <;> rfl
theorem erasB_next {es : List Er.E} {i n : Nat} {e : Er.E} {X : Bool} (h : X = Src.erasB (es.drop i)) (hx : es[i]? = some e) (hn : es.length = n) : X = (e.good && ((e.en == decide (((i : Int)) < (n : Int) - 1)) && Src.erasB (es.drop (i + 1)))) := by
  have hi := (List.getElem?_eq_some_iff.1 hx).1
  rw [h, List.drop_eq_getElem_cons hi, (List.getElem?_eq_some_iff.1 hx).2, Src.erasB]
  have : (!(es.drop (i + 1)).isEmpty) = decide ((i : Int) < (n : Int) - 1) := by
    by_cases hl : i + 1 < es.length
    · have e1 : (es.drop (i + 1)).isEmpty = false := by
        rw [List.isEmpty_eq_false_iff]
        intro e
        have := congrArg List.length e
        simp at this
        omega
      rw [e1, decide_eq_true (by omega)]
      rfl
    · rw [List.drop_eq_nil_of_le (by omega), decide_eq_false (by omega)]
      rfl
  rw [this]
theorem erasB_end {es : List Er.E} {i : Nat} {X : Bool} (h : X = Src.erasB (es.drop i)) (hi : es.length ≤ i) : X = true := by
  rw [h, List.drop_eq_nil_of_le hi]
  rfl
end Go.Proofs.YtdanbnolbaelhaaGreatDoor

/- source.Check, source.Same. -/
namespace Go.Proofs.YtdanbnolbaelhaaGreatDoor
open Go.RowKit

theorem any_zip {α β : Type} (f : α → Bool) : ∀ (a : List α) (b : List β), b.length = a.length → ((a.zip b).any fun p => f p.1) = a.any f
  | [], [], _ => rfl
  | x :: a, y :: b, h => by
    rw [List.zip_cons_cons, List.any_cons, List.any_cons, any_zip f a b (by simpa using h)]
theorem mem_zip {α β : Type} {a : List α} {b : List β} {p : α × β} (h : p ∈ a.zip b) : p.1 ∈ a := (List.of_mem_zip h).1
namespace Src
end Src
end Go.Proofs.YtdanbnolbaelhaaGreatDoor

/- source.Parse. -/
namespace Go.Proofs.YtdanbnolbaelhaaGreatDoor
open Go.RowKit

end Go.Proofs.YtdanbnolbaelhaaGreatDoor

/- source.Parse: the lines are gone through. -/
namespace Go.Proofs.YtdanbnolbaelhaaGreatDoor
open Go.RowKit

namespace Src
def rest (L : List Ln) (k : Nat) (s : S) : Par S := match readGo own (L.drop k) s with
  | .bad l c w => .bad l c w
  | .ok s' => finish L s'
theorem take_more {ts : List Txt} {j : Nat} {t : Txt} (h : ts[j]? = some t) : ((ts.take (j + 1)).map bts).map Value.string = ((ts.take j).map bts).map Value.string ++ [.string (bts t)] := by
  rw [List.take_add_one, h]
  simp
end Src
theorem At.same {w w' : World} {g : Nat} {xs : List Value} (h : At w g xs) (hs : g < w'.heap.size) (e : w'.heap[g]? = w.heap[g]?) : At w' g xs :=
  ⟨hs, fun i v hi => ⟨(World.cell?_of_block e).trans (h.2 i v hi).1, (World.frozen?_of_block e).trans (h.2 i v hi).2⟩⟩
end Go.Proofs.YtdanbnolbaelhaaGreatDoor

/- slices.EqualFunc at zones, source.Same, source.Names. -/
namespace Go.Proofs.YtdanbnolbaelhaaGreatDoor
open Go.RowKit

end Go.Proofs.YtdanbnolbaelhaaGreatDoor
