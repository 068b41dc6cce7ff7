/- The contract of scan.Lines. -/
import Derived.Test.YtlhoggalhjadgaaDoorK29
import Derived.Test.YtlhoggalhjadgaaDoorK17
import Derived.Test.YtlhoggalhjadgaaDoorK30
import Derived.Test.YtlhoggalhjadgaaDoorK26
import Derived.Deep.AppendLies
import Derived.Deep.RegionHeldLaw
import Derived.Test.YtlhoggalhjadgaaDoorK22
import Derived.Deep.QuietTactic
import Derived.BigQuiet
import Derived.Test.YtlhoggalhjadgaaDoorK23
import Derived.Laws.Cells
namespace Go.Proofs.YtlhoggalhjadgaaDoor
open Go.RowKit

namespace Sc
theorem own_mono {w : World} {base base' : Nat} {e : TypeId} {size : Nat} {v : Value} {n : Nat} {xs : List Value} (h : w.ownsRow base e size v n xs) (hb : base' ≤ base) : w.ownsRow base' e size v n xs := by
  refine ⟨h.1, ?_⟩
  rcases h.2 with hn | ⟨g, cap, cur, hv, h1, rest⟩
  · exact .inl hn
  · exact .inr ⟨g, cap, cur, hv, Nat.le_trans hb h1, rest⟩
def lcells (acc : List (Int × List (List UInt8 × Int))) (us : List Value) : List Value := (acc.zip us).flatMap fun p => [.int .i64 p.1.1, p.2]
/-- A line's fields lie behind the value u, apart from the list v. -/
def Lrow (B : Nat) (wx : World) (v : Value) (x : Int × List (List UInt8 × Int)) (u : Value) : Prop :=
  (∃ A c, u = .slice A x.2.length c ∧ x.2.length ≤ c ∧ c ≤ maxLen) ∧ wx.ownsRow B 62 2 u x.2.length (fcells x.2) ∧ (u.ownBlock = none ∨ u.ownBlock ≠ v.ownBlock)
def mes (a b : Value) : Nat := match a, b with
  | .string s, .bool true => s.size + 1
  | _, _ => 0
def mesB (txt : ByteArray) (more : Bool) : Nat := if more = true then txt.size + 1 else 0
theorem mes_b (txt : ByteArray) (more : Bool) : mes (.string txt) (.bool more) = mesB txt more := by cases more <;> rfl
def left_ (txt : ByteArray) (more : Bool) : List (List UInt8) := if more = true then splitNl (tl txt) else []
theorem At.grownO {w w' : World} {h : Nat} {row : Option Nat} {xs : List Value} (a : At w h xs) (hg : w.grownBy w' row) (hne : ∀ k, row = some k → h ≠ k) : At w' h xs := by
  cases row with
  | none => exact Go.Proofs.YtlhoggalhjadgaaDoor.At.grown a (g := w.heap.size) ⟨hg.os, hg.tape, hg.output, hg.size, fun k hk _ => hg.block k hk (by simp)⟩ (by have := a.lt; omega)
  | some k => exact Go.Proofs.YtlhoggalhjadgaaDoor.At.grown a hg (hne k rfl)
end Sc
theorem cutNl (txt : ByteArray) (w : World) (hW : Wl w) (hs : txt.size ≤ 1048576) (a b : ByteArray) (ok : Bool) (ha : (Sc.cutR (tl txt)).1 = tl a) (hb : (Sc.cutR (tl txt)).2.1 = tl b) (hc : (Sc.cutR (tl txt)).2.2 = ok) :
    Calls Tryd.prog 62 #[.string txt, .string ⟨#[10]⟩] w fun e w' => e = .returned (.tuple #[.string a, .string b, .bool ok]) ∧ Drew w w' := by
  obtain ⟨m, hm⟩ := hW.maxl
  have h := Tryd.strings_Cut txt ⟨#[10]⟩ m w (by omega) hm
  have e : Lib.cut txt.data.toList [10] = Sc.cutR (tl txt) := Sc.cut_cutR _
  have ea : (⟨(Lib.cut txt.data.toList [10]).1.toArray⟩ : ByteArray) = a := by rw [e, ha]; rfl
  have eb : (⟨(Lib.cut txt.data.toList [10]).2.1.toArray⟩ : ByteArray) = b := by rw [e, hb]; rfl
  have ec : (Lib.cut txt.data.toList [10]).2.2 = ok := by rw [e, hc]
  subst ea eb ec
  exact h
end Go.Proofs.YtlhoggalhjadgaaDoor
/- How a reader lies in memory: its own block, and its rows. -/
namespace Go.Proofs.YtlhoggalhjadgaaDoor
open Go.RowKit

namespace Src
abbrev S := St Ru.R Er.E
def ruleRow (v : Value) (s : S) : Row := ⟨29, 11, v, s.rules.length, s.rules.flatMap Ru.R.cells⟩
def zoneCells : List (Txt × List Er.E) → List Value → List Value
  | z :: l, v :: vs => .string (bts z.1) :: v :: zoneCells l vs
  | _, _ => []
def eraRow (v : Value) (es : List Er.E) : Row := ⟨34, 13, v, es.length, es.flatMap Er.E.cells⟩
def eraRows : List (Txt × List Er.E) → List Value → List Row
  | z :: l, v :: vs => eraRow v z.2 :: eraRows l vs
  | _, _ => []
end Src
end Go.Proofs.YtlhoggalhjadgaaDoor
/- (*reader).rule. -/
namespace Go.Proofs.YtlhoggalhjadgaaDoor
open Go.RowKit

namespace Src
/-- All blocks that lay there stay as they are, but for the reader's own and the zones' row. -/
def Kept (g : Nat) (zv : Value) (w w' : World) : Prop := ∀ h : Nat, h < w.heap.size → h ≠ g → zv.ownBlock ≠ some h → w'.heap[h]? = w.heap[h]?
theorem kept_of {g : Nat} {zv : Value} {w w' : World} (hb : Below w.heap.size w w') (hg : g ≤ w.heap.size) : Below g w w' ∧ Kept g zv w w' := ⟨hb.mono hg, fun h hl _ _ => hb.block h hl⟩
end Src
end Go.Proofs.YtlhoggalhjadgaaDoor
/- How a reader lies in memory, what more is read: a rule, a zone, a link, an era. -/
namespace Go.Proofs.YtlhoggalhjadgaaDoor
open Go.RowKit

section
variable {B : Nat} {w w' : World} {rs : List Row} {r : Row}
theorem Many.drewN (h : Many B w rs) (k : Nat) : Many B (w.drewN k) rs := ⟨fun r hr => h.own r hr, h.apart⟩
/-- The row at the head is written, or has grown into a new block. -/
theorem Many.grow1 {v' : Value} {n' : Nat} {xs' : List Value} (h : Many B w (r :: rs)) (hown : w'.ownsRow B r.e r.size v' n' xs') (hg : w.grownBy w' r.v.ownBlock) (hat : v'.ownBlock = r.v.ownBlock ∨ v'.ownBlock = some w.heap.size) :
    Many B w' (⟨r.e, r.size, v', n', xs'⟩ :: rs) := by
  have ha := List.pairwise_cons.1 h.apart
  have hk : ∀ x ∈ rs, w'.ownsRow B x.e x.size x.v x.n x.xs := fun x hx => (h.own x (List.mem_cons_of_mem _ hx)).kept hg (ha.1 x hx).symm
  refine ⟨fun x hx => ?_, List.pairwise_cons.2 ⟨fun x hx => ?_, ha.2⟩⟩
  · rcases List.mem_cons.1 hx with rfl | hx
    · exact hown
    · exact hk x hx
  · show apartV v' x.v
    rcases hat with e | e
    · unfold apartV; rw [e]; exact ha.1 x hx
    · refine apartV.symm ?_
      unfold apartV
      rw [e]
      cases ex : x.v.ownBlock with
      | none => exact .inl rfl
      | some k =>
        right
        have := ((h.own x (List.mem_cons_of_mem _ hx)).lt k ex).2
        intro z
        have hk : k = w.heap.size := Option.some.inj z
        omega
/-- What is read lies elsewhere than a row that grows. -/
theorem Reads.far {B0 size n : Nat} {ad : Addr} {xs : List Value} {row : Option Nat} (h : Reads w B0 size (some ad) n xs) (hg : w.grownBy w' row) (hl : ad.block < w.heap.size) (hne : row ≠ some ad.block) : Reads w' w'.heap.size size (some ad) n xs := by
  refine ⟨h.1, fun hn => ?_⟩
  obtain ⟨ad', e, hb, hc⟩ := h.2 hn
  injection e with e
  subst e
  exact ⟨ad, rfl, Nat.lt_of_lt_of_le hl hg.size, fun j u hu => (hg.cell_far _ (by rw [block_of_add]; exact hl) (by rw [block_of_add]; exact fun x => hne x.symm)).trans (hc j u hu)⟩
theorem Reads.set_far {B0 size n : Nat} {ad p : Addr} {xs : List Value} (h : Reads w B0 size (some ad) n xs) (hne : ad.block ≠ p.block) (u : Value) : Reads (w.setCell p u) B0 size (some ad) n xs := by
  refine ⟨h.1, fun hn => ?_⟩
  obtain ⟨ad', e, hb, hc⟩ := h.2 hn
  injection e with e
  subst e
  exact ⟨ad, rfl, hb, fun j u hu => (World.cell?_setCell_other _ _ _ _ (fun e => hne (by rw [e, block_of_add]))).trans (hc j u hu)⟩
end
namespace Src
theorem zoneCells_app : ∀ (a b : List (Txt × List Er.E)) (va vb : List Value), va.length = a.length → zoneCells (a ++ b) (va ++ vb) = zoneCells a va ++ zoneCells b vb
  | [], b, [], vb, _ => rfl
  | z :: a, b, v :: va, vb, h => by
    have := zoneCells_app a b va vb (by simpa using h)
    simp only [List.cons_append, zoneCells, this]
theorem eraRows_app : ∀ (a b : List (Txt × List Er.E)) (va vb : List Value), va.length = a.length → eraRows (a ++ b) (va ++ vb) = eraRows a va ++ eraRows b vb
  | [], b, [], vb, _ => rfl
  | z :: a, b, v :: va, vb, h => by
    have := eraRows_app a b va vb (by simpa using h)
    simp only [List.cons_append, eraRows, this]
theorem zoneCells_len : ∀ (a : List (Txt × List Er.E)) (va : List Value), va.length = a.length → (zoneCells a va).length = 2 * a.length
  | [], [], _ => rfl
  | z :: a, v :: va, h => by
    have := zoneCells_len a va (by simpa using h)
    simp only [zoneCells, List.length_cons, this]
    omega
theorem addEra_last (e : Er.E) (zs : List (Txt × List Er.E)) (nm : Txt) (es : List Er.E) : addEra e (zs ++ [(nm, es)]) = zs ++ [(nm, es ++ [e])] := by
  rw [addEra_app _ _ _ (by simp)]
  rfl
theorem lastEras_last (zs : List (Txt × List Er.E)) (nm : Txt) (es : List Er.E) : lastEras (zs ++ [(nm, es)]) = es.length := by
  rw [lastEras_app _ _ (by simp)]
  rfl
section
variable {B : Nat} {w w' w2 : World} {g : Nat} {s : S} {rv rv' zv zv' lv lv' : Value} {evs : List Value}
end
end Src
end Go.Proofs.YtlhoggalhjadgaaDoor
/- (*reader).rule: the way that reads. -/
namespace Go.Proofs.YtlhoggalhjadgaaDoor
open Go.RowKit

theorem rule_info : (Tryd.prog.info? 29).map (fun i => (i.zero, i.size, i.bytes)) = some (some (.agg #[.string ⟨#[]⟩, .int .i64 0, .int .i64 0, .int .i64 0, .int .u8 0, .int .i64 0, .int .i64 0, .int .i64 0, .int .u8 0, .int .i64 0, .string ⟨#[]⟩]), 11, 104) := by kernel_rfl
theorem le_alloc_drew (W : World) (o : Obj) (k : Nat) : W.heap.size ≤ ((W.alloc o).drewN k).heap.size := by
  show W.heap.size ≤ (W.alloc o).heap.size
  rw [World.size_alloc]
  omega
theorem cells_new (w : World) (cs : Array Value) (t : TypeId) : ∀ j u, cs.toList[j]? = some u → (w.alloc (.cells cs t)).cell? ((⟨w.heap.size, 0, none⟩ : Addr).add j) = some u := fun j u hu => by
  have hadd : (⟨w.heap.size, 0, none⟩ : Addr).add j = ⟨w.heap.size, j, none⟩ := by unfold Addr.add; split <;> simp_all
  rw [hadd]
  exact (At.new w cs t).cell j u hu
end Go.Proofs.YtlhoggalhjadgaaDoor
/- (*reader).rule: all its ways. -/
namespace Go.Proofs.YtlhoggalhjadgaaDoor
open Go.RowKit

theorem ru_parse_nil : Ru.parse [] = (Ru.R.zero, 0, 5) := by rfl
theorem Src.map_bts_drop (ts : List Src.Txt) (k : Nat) : (ts.map Src.bts).drop k = (ts.drop k).map Src.bts := by rw [List.map_drop]
theorem own_len {w : World} {base : Nat} {e : TypeId} {size n : Nat} {v : Value} {xs : List Value} (h : w.ownsRow base e size v n xs) : ∃ A c, v = .slice A n c ∧ n ≤ c ∧ c ≤ maxLen := own_slice_cap h
end Go.Proofs.YtlhoggalhjadgaaDoor
/- (*reader).era. -/
namespace Go.Proofs.YtlhoggalhjadgaaDoor
open Go.RowKit

theorem era_info : (Tryd.prog.info? 34).map (fun i => (i.zero, i.size, i.bytes)) = some (some (.agg #[.int .i64 0, .int .u8 0, .int .i64 0, .string ⟨#[]⟩, .string ⟨#[]⟩, .bool false, .int .i64 0, .int .i64 0, .int .u8 0, .int .i64 0, .int .i64 0, .int .i64 0, .int .u8 0]), 13, 120) := by kernel_rfl
theorem apartV.ne' {a b : Value} (h : apartV a b) : a.ownBlock = none ∨ a.ownBlock ≠ b.ownBlock := h
theorem er_parse_nil : Er.parse [] = (Er.E.zero, 0, 5) := by rfl
end Go.Proofs.YtlhoggalhjadgaaDoor
/- (*reader).era in one law; (*reader).zone. -/
namespace Go.Proofs.YtlhoggalhjadgaaDoor
open Go.RowKit

/-- The tables lie below the block g. -/
def Low (g : Nat) : Prop := 0 < g ∧ 3 < g ∧ 1 < g
theorem Wq.low_of {w : World} (h : Wq w) : Low w.heap.size := by
  obtain ⟨m, hm⟩ := h.p.maxl
  exact ⟨block_lt_of_cell h.p.p0, block_lt_of_cell hm, block_lt_of_cell h.a.a0⟩
theorem Low.more {g g' : Nat} (h : Low g) (hg : g ≤ g') : Low g' := ⟨Nat.lt_of_lt_of_le h.1 hg, Nat.lt_of_lt_of_le h.2.1 hg, Nat.lt_of_lt_of_le h.2.2 hg⟩
theorem Wq.low {g : Nat} {w w' : World} (h : Wq w) (hl : Low g) (hb : Below g w w') : Wq w' := by
  obtain ⟨m, hm⟩ := h.p.maxl
  have hm' : w'.cell? ⟨3, 0, none⟩ = some (.int .i64 m) := (hb.cell (p := ⟨_, 0, none⟩) hl.2.1).trans hm
  exact ⟨⟨(hb.cell (p := ⟨_, 0, none⟩) hl.1).trans h.p.p0, (hb.cell (p := ⟨_, 1, none⟩) hl.1).trans h.p.p1, (hb.cell (p := ⟨_, 2, none⟩) hl.1).trans h.p.p2, ⟨m, hm'⟩⟩,
    ⟨(hb.cell (p := ⟨_, 0, none⟩) hl.2.2).trans h.a.a0, (hb.cell (p := ⟨_, 1, none⟩) hl.2.2).trans h.a.a1, ⟨m, hm'⟩⟩⟩
namespace Src
theorem last_of {α : Type} {l : List α} (h : l ≠ []) : ∃ a z, l = a ++ [z] := ⟨l.dropLast, l.getLast h, (List.dropLast_concat_getLast h).symm⟩
theorem small_bts {ts : List Txt} (hs : ∀ t ∈ ts, t.length ≤ 1000000) : ∀ t ∈ ts.map bts, t.size ≤ 1000000 := by
  intro t ht
  rw [List.mem_map] at ht
  obtain ⟨x, hx, rfl⟩ := ht
  exact hs x hx
end Src
theorem heap_set_far (w : World) (p : Addr) (v : Value) (k : Nat) (h : k ≠ p.block) : (w.setCell p v).heap[k]? = w.heap[k]? := by
  simp [World.setCell, Array.getElem?_modify, Ne.symm h]
theorem heap_alloc_far (w : World) (o : Obj) (k : Nat) (h : k < w.heap.size) : (w.alloc o).heap[k]? = w.heap[k]? := by
  show (w.heap.push o)[k]? = _
  rw [Array.getElem?_push_lt h, Array.getElem?_eq_getElem h]
end Go.Proofs.YtlhoggalhjadgaaDoor
/- slices.IndexFunc and slices.ContainsFunc, at whatever predicate. -/
namespace Go.Proofs.YtlhoggalhjadgaaDoor
open Go.RowKit

namespace Ix
/-- The first place at which p holds; -1, if there is none. -/
def at_ {α : Type} (p : α → Bool) : List α → Int → Int
  | [], _ => -1
  | x :: l, i => if p x then i else at_ p l (i + 1)
theorem at_bd {α : Type} (p : α → Bool) : ∀ (l : List α) (i : Int), at_ p l i = -1 ∨ (i ≤ at_ p l i ∧ at_ p l i < i + l.length)
  | [], _ => .inl rfl
  | x :: l, i => by
    unfold at_
    split
    · right; simp; omega
    · rcases at_bd p l (i + 1) with h | h
      · exact .inl h
      · right; simp; omega
theorem at_any {α : Type} (p : α → Bool) : ∀ (l : List α) (i : Int), 0 ≤ i → decide (0 ≤ at_ p l i) = l.any p
  | [], _, _ => rfl
  | x :: l, i, h => by
    unfold at_
    cases hx : p x
    · rw [if_neg (by simp), at_any p l (i + 1) (by omega)]
      simp [hx]
    · rw [if_pos rfl]
      simp [hx, h]
theorem at_next {α : Type} {p : α → Bool} {l : List α} {k : Nat} {x : α} {X : Int} (h : X = at_ p (l.drop k) k) (hx : l[k]? = some x) : X = if p x then (k : Int) else at_ p (l.drop (k + 1)) ((k + 1 : Nat) : Int) := by
  rw [List.drop_eq_getElem_cons (List.getElem?_eq_some_iff.1 hx).1] at h
  rw [h, at_, (List.getElem?_eq_some_iff.1 hx).2]
  rfl
theorem at_end {α : Type} {p : α → Bool} {l : List α} {k : Nat} {X : Int} (h : X = at_ p (l.drop k) k) (hk : l.length ≤ k) : X = -1 := by
  rw [h, List.drop_eq_nil_of_le hk]
  rfl
/-- An element's cells, out of all. -/
theorem flat_at {α : Type} (enc : α → List Value) (m : Nat) (hm : ∀ x, (enc x).length = m) : ∀ (xs : List α) (k : Nat) (x : α), xs[k]? = some x → ∀ (j : Nat) (v : Value), (enc x)[j]? = some v → (xs.flatMap enc)[k * m + j]? = some v
  | [], k, x, h, j, v, hj => by simp at h
  | y :: l, 0, x, h, j, v, hj => by
    simp at h
    subst h
    rw [List.flatMap_cons, List.getElem?_append_left (by have := (List.getElem?_eq_some_iff.1 hj).1; omega)]
    simpa using hj
  | y :: l, k + 1, x, h, j, v, hj => by
    rw [List.flatMap_cons, List.getElem?_append_right (by rw [hm, Nat.add_mul]; omega), hm]
    have := flat_at enc m hm l k x (by simpa using h) j v hj
    rw [← this]
    congr 1
    rw [Nat.add_mul]
    omega
theorem flat_len {α : Type} (enc : α → List Value) (m : Nat) (hm : ∀ x, (enc x).length = m) : ∀ xs : List α, (xs.flatMap enc).length = xs.length * m
  | [] => by simp
  | y :: l => by rw [List.flatMap_cons, List.length_append, hm, flat_len enc m hm l, List.length_cons, Nat.add_mul]; omega
theorem reads_cells {α : Type} {enc : α → List Value} {m : Nat} (hm : ∀ x, (enc x).length = m) {w : World} {B n k : Nat} {A : Option Addr} {xs : List α} (hl : xs.length = n) (h : Reads w B m A n (xs.flatMap enc)) (hk : k < n) :
    ∃ ad x, A = some ad ∧ ad.block < B ∧ Hid (xs[k]? = some x) ∧ Hid (∀ j v, (enc x)[j]? = some v → w.cell? ((ad.add (k * m)).add j) = some v) := by
  obtain ⟨ad, e, hb, hc⟩ := h.2 (by omega)
  have hkl : k < xs.length := by omega
  refine ⟨ad, xs[k], e, hb, List.getElem?_eq_getElem hkl, fun j v hj => ?_⟩
  rw [add_of_add]
  exact hc _ _ (flat_at enc m hm xs k _ (List.getElem?_eq_getElem hkl) j v hj)
/-- What is asked of a predicate. -/
def Tells {α : Type} (g : FuncId) (lb : Array Value) (enc : α → Value) (p : α → Bool) (xs : List α) (w : World) : Prop :=
  ∀ W x, x ∈ xs → Below w.heap.size w W → Calls Tryd.prog g (#[enc x] ++ lb) W fun e w' => e = .returned (.bool (p x)) ∧ Below w.heap.size w w'
end Ix
namespace Src
/-- A zone with its eras' slice; its cells. -/
def zc (p : (Txt × List Er.E) × Value) : List Value := [.string (bts p.1.1), p.2]
def zv (p : (Txt × List Er.E) × Value) : Value := .agg #[.string (bts p.1.1), p.2]
def lc (p : Txt × Txt) : List Value := [.string (bts p.1), .string (bts p.2)]
def lv (p : Txt × Txt) : Value := .agg #[.string (bts p.1), .string (bts p.2)]
end Src
end Go.Proofs.YtlhoggalhjadgaaDoor
/- (*reader).zone in one law; (*reader).link. -/
namespace Go.Proofs.YtlhoggalhjadgaaDoor
open Go.RowKit

/-- A name is wrong. -/
def wrongN (s : ByteArray) : Bool := !Ru.name (tl s)
theorem wrong_ge (f : Src.Txt → Bool) : ∀ (l : List Src.Txt) (i j : Int), Src.wrong f l i = some j → i ≤ j
  | [], i, j, h => by cases h
  | t :: l, i, j, h => by
    unfold Src.wrong at h
    split at h
    · have := wrong_ge f l (i + 1) j h
      omega
    · injection h with h
      omega
theorem at_wrong : ∀ (l : List Src.Txt) (i : Int), Ix.at_ wrongN (l.map Src.bts) i = (Src.wrong Src.own.name l i).getD (-1)
  | [], i => rfl
  | t :: l, i => by
    have hown : Src.own.name t = Ru.name t := rfl
    have hb : wrongN (Src.bts t) = !Ru.name t := by unfold wrongN; rw [show tl (Src.bts t) = t from tl_mk t]
    rw [List.map_cons, Ix.at_, Src.wrong, hb, hown, at_wrong l (i + 1)]
    cases Ru.name t <;> simp
/-- The names of a link, out of its texts: where they lie. -/
theorem link_names {w : World} {B n : Nat} {ad : Addr} {ts : List Src.Txt} (h : Reads w B 1 (some ad) n ((ts.map Src.bts).map Value.string)) (h1 : 2 ≤ n) : Reads w B 1 (some (ad.add 1)) (min n 3 - 1) ((((ts.drop 1).take 2).map Src.bts).map Value.string) := by
  have h2 := reads_from h 1 (by omega)
  have hlen : ts.length = n := by have := h.1; simpa using this
  refine ⟨by simp [hlen]; omega, fun hn => ?_⟩
  obtain ⟨ad', e, hb, hc⟩ := h2.2 (by omega)
  refine ⟨ad', e, hb, fun j u hj => hc j u ?_⟩
  rw [← List.map_drop]
  rw [List.map_take, List.map_take] at hj
  have hj2 : j < 2 := by
    have := (List.getElem?_eq_some_iff.1 hj).1
    simp at this
    omega
  rw [List.getElem?_take_of_lt hj2] at hj
  exact hj
end Go.Proofs.YtlhoggalhjadgaaDoor
/- (*reader).link in one law; (*reader).line. -/
namespace Go.Proofs.YtlhoggalhjadgaaDoor
open Go.RowKit

theorem Src.last_le {R E : Type} (p : Src.P R E) (Re : E → Prop) (op : Bool) : ∀ zs : List (Src.Txt × List E), Src.ZonesOk p Re op zs → Src.lastEras zs ≤ 64
  | [], _ => by simp [Src.lastEras]
  | [z], h => h.1.2.1
  | z :: y :: l, h => Src.last_le p Re op (y :: l) h.2.2
abbrev Src.Fit (s : Src.S) : Prop := Src.Right Src.own (fun _ => True) (fun _ => True) s
end Go.Proofs.YtlhoggalhjadgaaDoor
/- What the lines of a text are bounded by; places are not negative; a source in memory as it is read. -/
namespace Go.Proofs.YtlhoggalhjadgaaDoor
open Go.RowKit

namespace Src
def cur : Sc.Mode → Nat
  | .b => 0
  | .f _ t => t.length
  | .q _ _ t => t.length
theorem scan_small (N : Nat) : ∀ (l : Txt) (a : Int) (m : Sc.Mode) (acc f : List (Txt × Int)), (∀ x ∈ acc, x.1.length ≤ N) → cur m + l.length ≤ N → Sc.scan l a m acc = .ok f → ∀ x ∈ f, x.1.length ≤ N
  | [], a, .b, acc, f, ha, hc, h => by
    simp only [Sc.scan, Sc.Res.ok.injEq] at h
    subst h
    exact ha
  | [], a, .f b t, acc, f, ha, hc, h => by
    simp only [Sc.scan, Sc.Res.ok.injEq] at h
    subst h
    intro x hx
    rcases List.mem_append.1 hx with hx | hx
    · exact ha x hx
    · rw [List.mem_singleton] at hx
      subst hx
      simp [cur] at hc
      exact hc
  | [], a, .q q b t, acc, f, ha, hc, h => by simp [Sc.scan] at h
  | c :: l, a, .b, acc, f, ha, hc, h => by
    rw [Sc.scan] at h
    simp only [cur, List.length_cons] at hc
    split at h
    · exact scan_small N l _ _ _ f ha (by simp only [cur]; omega) h
    · split at h
      · simp only [Sc.Res.ok.injEq] at h; subst h; exact ha
      · split at h
        · cases h
        · split at h
          · cases h
          · split at h
            · exact scan_small N l _ _ _ f ha (by simp only [cur, List.length_nil]; omega) h
            · exact scan_small N l _ _ _ f ha (by simp only [cur, List.length_cons, List.length_nil]; omega) h
  | c :: l, a, .f b t, acc, f, ha, hc, h => by
    rw [Sc.scan] at h
    simp only [cur, List.length_cons] at hc
    have hb : ∀ x ∈ acc ++ [(t, b)], x.1.length ≤ N := by
      intro x hx
      rcases List.mem_append.1 hx with hx | hx
      · exact ha x hx
      · rw [List.mem_singleton] at hx
        subst hx
        show t.length ≤ N
        omega
    split at h
    · exact scan_small N l _ _ _ f hb (by simp only [cur]; omega) h
    · split at h
      · simp only [Sc.Res.ok.injEq] at h; subst h; exact hb
      · split at h
        · cases h
        · split at h
          · exact scan_small N l _ _ _ f ha (by simp only [cur]; omega) h
          · exact scan_small N l _ _ _ f ha (by simp only [cur, List.length_append, List.length_cons, List.length_nil]; omega) h
  | c :: l, a, .q q b t, acc, f, ha, hc, h => by
    rw [Sc.scan] at h
    simp only [cur, List.length_cons] at hc
    split at h
    · cases h
    · split at h
      · exact scan_small N l _ _ _ f ha (by simp only [cur]; omega) h
      · exact scan_small N l _ _ _ f ha (by simp only [cur, List.length_append, List.length_cons, List.length_nil]; omega) h
def LineFit (l : Ln) : Prop := l.2 ≠ [] ∧ l.2.length ≤ 1025 ∧ ∀ x ∈ l.2, x.1.length ≤ 2048
theorem fields_small (t : Txt) (f : List (Txt × Int)) (h : Sc.fields t = .ok f) : f.length ≤ 1025 ∧ ∀ x ∈ f, x.1.length ≤ 2048 := by
  have h2 := fields_count t f h
  unfold Sc.fields at h
  split at h
  · cases h
  · rename_i hl
    exact ⟨by omega, scan_small 2048 t 0 .b [] f (fun x hx => by cases hx) (by simp only [cur]; omega) h⟩
theorem linesGo_fit : ∀ (A : List Txt) (no : Int) (acc L : List Ln), (∀ l ∈ acc, LineFit l) → Sc.linesGo A no acc = .ok L → ∀ l ∈ L, LineFit l
  | [], no, acc, L, ha, h => by
    simp only [Sc.linesGo, Sc.LRes.ok.injEq] at h
    subst h
    exact ha
  | t :: A, no, acc, L, ha, h => by
    rw [Sc.linesGo] at h
    cases hf : Sc.fields t with
    | bad col why => rw [hf] at h; cases h
    | ok f =>
      rw [hf] at h
      simp only [] at h
      refine linesGo_fit A _ _ L ?_ h
      split
      · exact ha
      · rename_i hne
        intro l hl
        rcases List.mem_append.1 hl with hl | hl
        · exact ha l hl
        · rw [List.mem_singleton] at hl
          subst hl
          exact ⟨hne, fields_small t f hf⟩
theorem lines_fit (s : Txt) (L : List Ln) (h : Sc.lines s = .ok L) : ∀ l ∈ L, LineFit l := by
  unfold Sc.lines at h
  split at h
  · cases h
  · exact linesGo_fit _ _ _ L (fun l hl => by cases hl) h
theorem eraStep_place (s : S) (t : List Txt) (k : Nat) (place why : Int) (h : eraStep own s t k = .bad place why) : 0 ≤ place ∧ place ≤ k + t.length := by
  unfold eraStep at h
  have hown : own.era (t.drop k) = Er.parse ((t.drop k).map bts) := rfl
  rw [hown] at h
  split at h
  · cases h
  · injection h with h1 h2
    rename_i h0
    rcases Er.parse_ok ((t.drop k).map bts) with h | h
    · exact absurd h.1 h0
    · have h4 := h.2.2.2
      simp only [List.length_map, List.length_drop] at h4
      have h3 := h.2.2.1
      omega
theorem step_place (s : S) (t : List Txt) (place why : Int) (h : step own s t = .bad place why) : 0 ≤ place ∧ place ≤ 16 + t.length := by
  unfold step at h
  split at h
  · split at h
    · injection h with h1 h2; omega
    · have := eraStep_place s t 0 place why h; omega
  · split at h
    · unfold ruleStep at h
      split at h
      · injection h with h1 h2; omega
      · split at h
        · cases h
        · rename_i h0
          injection h with h1 h2
          have hown : own.rule (t.drop 1) = Ru.parse ((t.drop 1).map bts) := rfl
          rw [hown] at h0 h1
          rcases Ru.parse_ok ((t.drop 1).map bts) with h | h
          · exact absurd h.1 h0
          · have := h.2.2.1
            have := h.2.2.2.2
            omega
    · split at h
      · unfold zoneStep at h
        split at h
        · injection h with h1 h2; omega
        · split at h
          · injection h with h1 h2; omega
          · split at h
            · injection h with h1 h2; omega
            · have := eraStep_place _ t 2 place why h; omega
      · split at h
        · unfold linkStep at h
          split at h
          · injection h with h1 h2; omega
          · split at h
            · rename_i i hw
              injection h with h1 h2
              have h3 := wrong_ge _ _ _ _ hw
              have h4 := at_wrong ((t.drop 1).take 2) 0
              rw [hw] at h4
              have h5 := Ix.at_bd wrongN (((t.drop 1).take 2).map bts) 0
              have h6 : ((((t.drop 1).take 2).map bts).length : Int) ≤ 2 := by simp; omega
              simp only [Option.getD_some] at h4
              rcases h5 with h5 | h5 <;> omega
            · split at h
              · injection h with h1 h2
                have h6 : (((t.drop 1).take 2).length : Int) ≤ 2 := by simp; omega
                omega
              · split at h
                · injection h with h1 h2; omega
                · cases h
        · injection h with h1 h2; omega
/-- A slice that reads as a list of cells. -/
def RowR (w : World) (B size n : Nat) (v : Value) (xs : List Value) : Prop := ∃ A c, v = .slice A n c ∧ n ≤ c ∧ c ≤ maxLen ∧ Reads w B size A n xs
theorem RowR.below {w w' : World} {B size n : Nat} {v : Value} {xs : List Value} (h : RowR w B size n v xs) (hb : Below B w w') : RowR w' B size n v xs := by
  obtain ⟨A, c, e, h1, h2, h3⟩ := h
  exact ⟨A, c, e, h1, h2, h3.below hb⟩
theorem RowR.more {w : World} {B B' size n : Nat} {v : Value} {xs : List Value} (h : RowR w B size n v xs) (hb : B ≤ B') : RowR w B' size n v xs := by
  obtain ⟨A, c, e, h1, h2, h3⟩ := h
  exact ⟨A, c, e, h1, h2, h3.more hb⟩
theorem RowR.of_own {w : World} {base size n : Nat} {e : TypeId} {v : Value} {xs : List Value} (h : w.ownsRow base e size v n xs) : RowR w w.heap.size size n v xs := by
  obtain ⟨A, c, rfl, h1, h2⟩ := own_slice_cap h
  exact ⟨A, c, rfl, h1, h2, Reads.of_own h⟩
/-- A source as it is read: three slices, and one for each zone's eras. -/
structure SrcR (w : World) (B : Nat) (s : S) (rv zv lv : Value) (evs : List Value) : Prop where
  rules : RowR w B 11 s.rules.length rv (s.rules.flatMap Ru.R.cells)
  zones : RowR w B 2 s.zones.length zv ((s.zones.zip evs).flatMap zc)
  links : RowR w B 2 s.links.length lv (s.links.flatMap lc)
  len : evs.length = s.zones.length
  eras : ∀ p ∈ s.zones.zip evs, RowR w B 13 p.1.2.length p.2 (p.1.2.flatMap Er.E.cells)
theorem SrcR.below {w w' : World} {B : Nat} {s : S} {rv zv lv : Value} {evs : List Value} (h : SrcR w B s rv zv lv evs) (hb : Below B w w') : SrcR w' B s rv zv lv evs :=
  ⟨h.rules.below hb, h.zones.below hb, h.links.below hb, h.len, fun p hp => (h.eras p hp).below hb⟩
theorem SrcR.more {w : World} {B B' : Nat} {s : S} {rv zv lv : Value} {evs : List Value} (h : SrcR w B s rv zv lv evs) (hb : B ≤ B') : SrcR w B' s rv zv lv evs :=
  ⟨h.rules.more hb, h.zones.more hb, h.links.more hb, h.len, fun p hp => (h.eras p hp).more hb⟩
theorem SrcR.call {w w' : World} {s : S} {rv zv lv : Value} {evs : List Value} (h : SrcR w w.heap.size s rv zv lv evs) (hb : Below w.heap.size w w') : SrcR w' w'.heap.size s rv zv lv evs := (h.below hb).more hb.size
theorem zoneCells_zip : ∀ (a : List (Txt × List Er.E)) (vs : List Value), zoneCells a vs = (a.zip vs).flatMap zc
  | [], _ => by simp [zoneCells]
  | z :: a, [] => by simp [zoneCells]
  | z :: a, v :: vs => by simp [zoneCells, zc, zoneCells_zip a vs]
theorem eraRows_zip : ∀ (a : List (Txt × List Er.E)) (vs : List Value), eraRows a vs = (a.zip vs).map fun p => eraRow p.2 p.1.2
  | [], _ => by simp [eraRows]
  | z :: a, [] => by simp [eraRows]
  | z :: a, v :: vs => by simp [eraRows, eraRows_zip a vs]
/-- What source.Parse leaves. -/
def PRet (w : World) (X : Par S) (e : Ending) (w' : World) : Prop :=
  Below w.heap.size w w' ∧ match X with
  | .ok s => ∃ rv zv lv evs, e = .returned (.tuple #[.agg #[rv, zv, lv], .agg #[.int .i64 0, .int .i64 0, .int .i64 0]]) ∧ SrcR w' w'.heap.size s rv zv lv evs
  | .bad l c y => e = .returned (.tuple #[.agg #[.slice none 0 0, .slice none 0 0, .slice none 0 0], .agg #[.int .i64 l, .int .i64 c, .int .i64 y]])
end Src
end Go.Proofs.YtlhoggalhjadgaaDoor
