/- atlas.Key: the key of a name. -/
import Derived.Test.YthmhadgbhakdlaaDoorP29
import Derived.Deep.DeepCutAuto
import Derived.Laws.EntriesVeiled
import Derived.Test.YthmhadgbhakdlaaDoorP10
import Derived.Test.YthmhadgbhakdlaaDoorP16

namespace Go.Proofs.YthmhadgbhakdlaaDoor
open Go.RowKit Go.Shelf
attribute [local go_sem] Oper.semAt_some

namespace Ca
theorem at_kept {w w' : World} {g : Nat} {xs : List Value} {row : Option Nat} (h : At w g xs) (hg : w.grownBy w' row) (hr : ∀ r, row = some r → ∃ o : Obj, w.heap[r]? = some o ∧ o.isCells = false) : At w' g xs :=
  ⟨Nat.lt_of_lt_of_le h.1 hg.size, fun i v hi => ⟨cell_kept (h.2 i v hi).1 hg hr, (frozen_kept (h.2 i v hi).1 hg hr).trans (h.2 i v hi).2⟩⟩
/-- The boxes of atlas.Key: the chart, the source, the name, both results. -/
structure Bx (g : Nat) (v rv zv lv : Value) (name : ByteArray) (k : Value) (r : Value) (w : World) : Prop where
  l : At w g [v]
  s : At w (g + 1) [rv, zv, lv]
  n : At w (g + 1 + 1) [.string name]
  k : At w (g + 1 + 1 + 1) [k]
  r : At w (g + 1 + 1 + 1 + 1) [r]
theorem Bx.call {g : Nat} {v rv zv lv k r : Value} {name : ByteArray} {w w' : World} (h : Bx g v rv zv lv name k r w) (hb : Below w.heap.size w w') : Bx g v rv zv lv name k r w' :=
  ⟨h.l.call hb, h.s.call hb, h.n.call hb, h.k.call hb, h.r.call hb⟩
theorem Bx.kept {g : Nat} {v rv zv lv k r : Value} {name : ByteArray} {w w' : World} {row : Option Nat} (h : Bx g v rv zv lv name k r w) (hg : w.grownBy w' row) (hr : ∀ r, row = some r → ∃ o : Obj, w.heap[r]? = some o ∧ o.isCells = false) : Bx g v rv zv lv name k r w' :=
  ⟨at_kept h.l hg hr, at_kept h.s hg hr, at_kept h.n hg hr, at_kept h.k hg hr, at_kept h.r hg hr⟩
/-- What atlas.Key hands back. -/
def KyRet (r : ByteArray × Int) (w : World) (e : Ending) (w' : World) : Prop := e = .returned (.tuple #[.string r.1, .int .i64 r.2]) ∧ Below w.heap.size w w'
end Ca
theorem Ca.Bx.put {g : Nat} {v rv zv lv k r : Value} {name : ByteArray} {w : World} (h : Ca.Bx g v rv zv lv name k r w) (k' r' : Value) : Ca.Bx g v rv zv lv name k' r' ((w.setCell ⟨g + 1 + 1 + 1, 0, none⟩ k').setCell ⟨g + 1 + 1 + 1 + 1, 0, none⟩ r') :=
  ⟨(h.l.set_other _ _ (by show g + 1 + 1 + 1 ≠ g; omega)).set_other _ _ (by show g + 1 + 1 + 1 + 1 ≠ g; omega), (h.s.set_other _ _ (by show g + 1 + 1 + 1 ≠ g + 1; omega)).set_other _ _ (by show g + 1 + 1 + 1 + 1 ≠ g + 1; omega),
    (h.n.set_other _ _ (by show g + 1 + 1 + 1 ≠ g + 1 + 1; omega)).set_other _ _ (by show g + 1 + 1 + 1 + 1 ≠ g + 1 + 1; omega), (h.k.set 0 k').set_other _ _ (by show g + 1 + 1 + 1 + 1 ≠ g + 1 + 1 + 1; omega),
    (h.r.set_other _ _ (by show g + 1 + 1 + 1 ≠ g + 1 + 1 + 1 + 1; omega)).set 0 r'⟩
theorem Ca.put_below {g : Nat} {w W : World} (h : Below w.heap.size w W) (hg : w.heap.size = g) (k' r' : Value) : Below w.heap.size w ((W.setCell ⟨g + 1 + 1 + 1, 0, none⟩ k').setCell ⟨g + 1 + 1 + 1 + 1, 0, none⟩ r') :=
  (h.setCell (p := ⟨g + 1 + 1 + 1, 0, none⟩) (by show _ ≤ g + 1 + 1 + 1; omega) _).setCell (p := ⟨g + 1 + 1 + 1 + 1, 0, none⟩) (by show _ ≤ g + 1 + 1 + 1 + 1; omega) _
theorem Ca.Ld.drewN {s : Src.S} {rv zv lv : Value} {h : Nat} {A : List ByteArray} {w : World} (k : Ca.Ld s rv zv lv h A w) (n : Nat) : Ca.Ld s rv zv lv h A (w.drewN n) :=
  ⟨k.box.drew ⟨n, rfl⟩, k.src.drew ⟨n, rfl⟩, k.map.drewN n, k.nodup, k.sub⟩
theorem Ca.Bx.grown {g h : Nat} {v rv zv lv k r : Value} {name : ByteArray} {w w' : World} (b : Ca.Bx g v rv zv lv name k r w) (hg : w.grownBy w' (some h)) (hh : g + 1 + 1 + 1 + 1 < h) : Ca.Bx g v rv zv lv name k r w' :=
  ⟨Sc.At.grownO b.l hg (fun j e => by cases e; omega), Sc.At.grownO b.s hg (fun j e => by cases e; omega), Sc.At.grownO b.n hg (fun j e => by cases e; omega), Sc.At.grownO b.k hg (fun j e => by cases e; omega), Sc.At.grownO b.r hg (fun j e => by cases e; omega)⟩
/-- None of what has come is one that is sought. -/
def Ca.KyI {l : List Ca.E} (R : World → Prop) (p : Nat × ByteArray → Bool) (pre : List (Ca.Nm l)) (W : World) : Prop := (∀ y ∈ pre, p y.1 = false) ∧ R W
/-- The last one that has come is the first one that is sought. -/
def Ca.KyX {l : List Ca.E} (R : Value → World → Prop) (p : Nat × ByteArray → Bool) (jc : Code) (pre : List (Ca.Nm l)) (W : World) : Prop := jc = .ret ∧ ∃ q x, pre = q ++ [x] ∧ (∀ y ∈ q, p y.1 = false) ∧ p x.1 = true ∧ R (.string (Ca.keyAt l x.1.1)) W
theorem Ca.KyI.next {l : List Ca.E} {R : World → Prop} {p : Nat × ByteArray → Bool} {pre : List (Ca.Nm l)} {W W' : World} (h : Ca.KyI R p pre W) (x : Ca.Nm l) (hx : p x.1 = false) (hR : R W') : Ca.KyI R p (pre ++ [x]) W' :=
  ⟨fun y hy => by
    rcases List.mem_append.1 hy with hy | hy
    · exact h.1 y hy
    · rw [List.mem_singleton.1 hy]; exact hx, hR⟩
theorem Ca.hit_of {α β : Type} {f : α → β} {L : List α} {F : List β} (hF : L.map f = F) {p : β → Bool} {j : Nat} {q : List α} {x : α} (h : L.take j = q ++ [x]) (hq : ∀ y ∈ q, p (f y) = false) (hx : p (f x) = true) : F.find? p = some (f x) := by
  obtain ⟨r, hr⟩ : ∃ r, L = (q ++ [x]) ++ r := ⟨L.drop j, by rw [← h, List.take_append_drop]⟩
  subst hF
  rw [hr, List.map_append, List.map_append, List.append_assoc, List.find?_append]
  have h2 : (q.map f).find? p = none := by
    rw [List.find?_eq_none]
    intro y hy
    obtain ⟨z, hz, rfl⟩ := List.mem_map.1 hy
    rw [hq z hz]
    decide
  rw [h2]
  simp [hx]
theorem Ca.miss_of {α β : Type} {f : α → β} {L : List α} {F : List β} (hF : L.map f = F) {p : β → Bool} (h : ∀ y ∈ L, p (f y) = false) : F.find? p = none := by
  subst hF
  rw [List.find?_eq_none]
  intro y hy
  obtain ⟨z, hz, rfl⟩ := List.mem_map.1 hy
  rw [h z hz]
  decide
theorem Ca.find_hit {l : List Ca.E} {p : Nat × ByteArray → Bool} {j : Nat} {q : List (Ca.Nm l)} {x : Ca.Nm l} (h : (Ca.all l).take j = q ++ [x]) (hq : ∀ y ∈ q, p y.1 = false) (hx : p x.1 = true) : (Ca.flat l 0).find? p = some x.1 := Ca.hit_of (Ca.all_map l) h hq hx
theorem Ca.find_miss {l : List Ca.E} {p : Nat × ByteArray → Bool} (h : ∀ y ∈ Ca.all l, p y.1 = false) : (Ca.flat l 0).find? p = none := Ca.miss_of (Ca.all_map l) h
end Go.Proofs.YthmhadgbhakdlaaDoor

/- atlas.Missing: the names that lead nowhere. -/
namespace Go.Proofs.YthmhadgbhakdlaaDoor
open Go.RowKit Go.Shelf
open Go.Maps Go.WideShapes Go.ChangeShapes Go.WideMaps
attribute [local go_sem] Oper.semAt_some

namespace Ca
theorem miss_snoc (s : Src.S) (z : ByteArray) : ∀ (r seen a : List ByteArray), miss s (r ++ [z]) seen a = missStep s (miss s r seen a) (seen ++ r) z
  | [], seen, a => by simp [miss]
  | x :: r, seen, a => by
    rw [List.cons_append, miss, miss, miss_snoc s z r]
    simp
theorem miss_len (s : Src.S) : ∀ (r seen a : List ByteArray), (miss s r seen a).length ≤ a.length + r.length
  | [], seen, a => by simp [miss]
  | x :: r, seen, a => by
    unfold miss
    refine Nat.le_trans (miss_len s r _ _) ?_
    unfold missStep
    split
    · simp; try omega
    · split
      · simp; try omega
      · simp; try omega
theorem sf_again {l : List ByteArray} {s : ByteArray} (h : s ∈ l) : sf (l ++ [s]) = sf l := by
  funext t
  unfold sf
  by_cases h2 : t ∈ l
  · rw [if_pos (has_iff.2 h2), if_pos (has_iff.2 (List.mem_append_left _ h2))]
  · rw [if_neg (fun q => h2 (has_iff.1 q)), if_neg (fun q => by
      rcases List.mem_append.1 (has_iff.1 q) with q | q
      · exact h2 q
      · rw [List.mem_singleton.1 q] at h2; exact h2 h)]
theorem own_kept {w w' : World} {base : Nat} {e : TypeId} {size n : Nat} {v : Value} {xs : List Value} {row : Option Nat} (h : w.ownsRow base e size v n xs) (hg : w.grownBy w' row) (hr : ∀ r, row = some r → ∃ o : Obj, w.heap[r]? = some o ∧ o.isCells = false) : w'.ownsRow base e size v n xs := by
  refine ⟨h.1, ?_⟩
  rcases h.2 with hn | ⟨g, cap, cur, hv, hb, hgg, rest⟩
  · exact .inl hn
  · refine .inr ⟨g, cap, cur, hv, hb, (hg.block g (Array.getElem?_eq_some_iff.1 hgg).1 (fun e => ?_)).trans hgg, rest⟩
    obtain ⟨o, ho, hc⟩ := hr g e.symm
    rw [hgg] at ho
    cases ho
    cases hc
/-- The names of what has come. -/
def nms {l : List E} (pre : List (Nm l)) : List ByteArray := pre.map fun x => x.1.2
theorem nms_snoc {l : List E} (pre : List (Nm l)) (x : Nm l) : nms (pre ++ [x]) = nms pre ++ [x.1.2] := by unfold nms; rw [List.map_append]; rfl
theorem nms_len {l : List E} (pre : List (Nm l)) : (nms pre).length = pre.length := by unfold nms; rw [List.length_map]
theorem nms_all (l : List E) : nms (all l) = (flat l 0).map (·.2) := by
  have h := congrArg (List.map fun (p : Nat × ByteArray) => p.2) (all_map l)
  rw [List.map_map] at h
  exact h
/-- A step of a round: what it keeps. -/
structure Stp (h fb : Nat) (W W' : World) : Prop where
  kf : KeepsFrom (fb + 5) W W'
  kp : Kp (fun k => k = h + 1 ∨ k = fb + 1 ∨ k = fb + 1 + 1 + 1) (fb + 5) W W'
theorem Stp.refl (h fb : Nat) (W : World) : Stp h fb W W := ⟨KeepsFrom.refl _ _, Kp.refl _ _ _⟩
theorem Stp.trans {h fb : Nat} {A B C : World} (a : Stp h fb A B) (b : Stp h fb B C) : Stp h fb A C := ⟨a.kf.trans b.kf, a.kp.trans b.kp⟩
theorem Stp.alloc {h fb : Nat} (W : World) (hs : fb + 5 ≤ W.heap.size) (o : Obj) : Stp h fb W (W.alloc o) := ⟨(KeepsOthers.alloc W o).from _, (Kp.refl _ _ _).alloc hs o⟩
theorem Stp.of {h fb b : Nat} {W W' : World} (hs : fb + 5 ≤ W.heap.size) (hg : W.grownBy W' (some b)) (hb : b = h + 1 ∨ b = fb + 1) (hh : h + 1 < fb) : Stp h fb W W' :=
  ⟨KeepsFrom.of_grownBy hg (fun j e => by cases e; omega), ⟨hg.size, fun k hk hn => hg.block k (by omega) (fun e => by
    injection e with e
    rcases hb with hb | hb
    · exact hn (.inl (e.trans hb))
    · exact hn (.inr (.inl (e.trans hb))))⟩⟩
theorem Stp.own {h fb : Nat} {W W' : World} {e : TypeId} {size n : Nat} {v : Value} {xs : List Value} (hs : fb + 5 ≤ W.heap.size) (ho : W.ownsRow (fb + 5) e size v n xs) (hg : W.grownBy W' v.ownBlock) : Stp h fb W W' := by
  refine ⟨(KeepsOthers.of_grownBy hg (fun j o hj hoj => ?_)).from _, ⟨hg.size, fun k hk _ => hg.block k (by omega) (fun e => by have := (ho.lt k e.symm).1; omega)⟩⟩
  rcases ho.2 with ⟨rfl, _⟩ | ⟨g, cap, cur, rfl, hb, hgg, _⟩
  · cases hj
  · injection hj with hj
    rw [← hj] at hoj
    have := hoj.symm.trans hgg
    cases this
    rfl
theorem Stp.set {h fb : Nat} (W : World) (u : Value) : Stp h fb W (W.setCell ⟨fb + 1 + 1 + 1, 0, none⟩ u) :=
  ⟨(KeepsOthers.setCell _ _ _).from _, ⟨by rw [heap_set]; exact Nat.le_refl _, fun k _ hn => Below.heap_setCell _ _ _ _ (fun e => hn (.inr (.inr e)))⟩⟩
theorem Ld.off {s : Src.S} {rv zv lv : Value} {h : Nat} {A : List ByteArray} {w w' : World} {row : Option Nat} (k : Ld s rv zv lv h A w) (hg : w.grownBy w' row) (hr : ∀ r, row = some r → h + 2 < r) : Ld s rv zv lv h A w' :=
  ⟨Sc.At.grownO k.box hg (fun j e => by have := hr j e; omega), Sc.At.grownO k.src hg (fun j e => by have := hr j e; omega), k.map.kept hg (fun e => by have := hr _ e.symm; omega), k.nodup, k.sub⟩
theorem Ld.set {s : Src.S} {rv zv lv : Value} {h : Nat} {A : List ByteArray} {w : World} (k : Ld s rv zv lv h A w) {p : Addr} (hp : h + 2 < p.block) (u : Value) : Ld s rv zv lv h A (w.setCell p u) :=
  ⟨k.box.set_other _ _ (by omega), k.src.set_other _ _ (by omega), k.map.setCell (by omega) _, k.nodup, k.sub⟩
end Ca
section
variable {F : Fence} {nF : Nat} (w : World) {ops : Array Oper} {rest : List Oper} {o : Oper} {a : Act} {Q : Exit → Act → World → Prop}
end
end Go.Proofs.YthmhadgbhakdlaaDoor

/- solsticelaw32.Small: whether a chart is small. -/
namespace Go.Proofs.YthmhadgbhakdlaaDoor
open Go.RowKit

namespace Ca
/-- A small entry. -/
structure Fe (e : E) : Prop where
  k : e.key.size ≤ 1000
  t : e.terr.size ≤ 1000
  n : e.zones.length ≤ 40
  z : ∀ z ∈ e.zones, z.size ≤ 1000
structure Few (l : List E) : Prop where
  n : l.length ≤ 40
  all : ∀ e ∈ l, Fe e
theorem Few.wd {l : List E} (h : Few l) : Wd l := ⟨by have := h.n; omega, fun e he => ⟨Nat.le_trans (h.all e he).k (by unfold maxLen; omega), Nat.le_trans (h.all e he).t (by unfold maxLen; omega), fun z hz => Nat.le_trans ((h.all e he).z z hz) (by unfold maxLen; omega)⟩⟩
theorem flat_le : ∀ (l : List E) (i : Nat), (∀ e ∈ l, e.zones.length ≤ 40) → (flat l i).length ≤ l.length * 40
  | [], i, _ => by simp [flat]
  | e :: r, i, h => by
    unfold flat
    rw [List.length_append, List.length_map, List.length_cons]
    have h1 := h e List.mem_cons_self
    have h2 := flat_le r (i + 1) (fun x hx => h x (List.mem_cons_of_mem _ hx))
    omega
theorem Few.flat {l : List E} (h : Few l) : (Ca.flat l 0).length ≤ 100000 := by
  have h1 := flat_le l 0 (fun e he => (h.all e he).n)
  have h2 := h.n
  omega
/-- How wide a chart among the arguments is. -/
structure Wide (l : List E) : Prop where
  all : ∀ e ∈ l, e.key.size ≤ maxLen ∧ e.terr.size ≤ maxLen ∧ ∀ z ∈ e.zones, z.size ≤ maxLen
def SmRet (l : List E) (w : World) (e : Ending) (w' : World) : Prop := (e = .returned (.int .i64 0) ∨ (e = .returned (.int .i64 1) ∧ Few l)) ∧ Below w.heap.size w w'
end Ca
set_option maxHeartbeats 4000000 in
set_option maxRecDepth 100000 in
theorem small32_any (l : List Ca.E) (A : Option Addr) (n c : Nat) (evs : List Value) (w : World) (hR : Ca.EntR w w.heap.size l (.slice A n c) evs) (hl : l.length = n) (hW : Ca.Wide l) :
    Calls Tryd.prog 6 #[.slice A n c] w (Ca.SmRet l w) := by
  have HR := Lib.hid hR
  have HL := Lib.hid hl
  have HW := Lib.hid hW
  have hn63 : n ≤ 9223372036854775807 := by
    obtain ⟨A', c', e9, h1, h2, _⟩ := hR.row
    rw [hl] at h1
    unfold maxLen at h2
    omega
  clear hR hl hW
  go_enter Tryd.func6, Tryd.ntmps6
  by_cases hn : n ≤ 40
  · have q0 : ¬ (40 : Int) < (n : Int) := by omega
    go_wp2
    go_loopw [12] (fun i wr => ∃ k : Nat, k ≤ n ∧ i = .int .i64 (k : Int) ∧ Hid (Below w.heap.size w wr) ∧ Hid (∀ e ∈ l.take k, Ca.Fe e)) (fun i _ => n - (intOf i).toNat)
    case atStart => exact ⟨0, Nat.zero_le _, rfl, Below.refl _ _, fun e he => by cases he⟩
    case round =>
      obtain ⟨k, hk, rfl, HB, HF⟩ := hrel
      by_cases hlt : k < n
      · have q1 : (0 : Int) ≤ (k : Int) := by omega
        have q2 : (k : Int) < (n : Int) := by omega
        obtain ⟨ad, x, zA, m, zc, hAe, hab, Hx, c0', c1', c2', HZl, hz1, hz2, HZr, HEv⟩ := HR.out.at_ HL.out hlt
        subst hAe
        have c0 := (HB.out.cell (p := ad.add (k * 3)) (by rw [block_of_add]; exact hab)).trans c0'
        have c1 := (HB.out.cell (p := ⟨(ad.add (k * 3)).block, (ad.add (k * 3)).off + 1, none⟩) (by show (ad.add (k * 3)).block < _; rw [block_of_add]; exact hab)).trans c1'
        have c2 := (HB.out.cell (p := ⟨(ad.add (k * 3)).block, (ad.add (k * 3)).off + 2, none⟩) (by show (ad.add (k * 3)).block < _; rw [block_of_add]; exact hab)).trans c2'
        obtain ⟨h1, h2, h3⟩ := HW.out.all x (List.mem_of_getElem? Hx.out)
        obtain ⟨kx, hkx⟩ : ∃ t, x.key = t := ⟨_, rfl⟩
        obtain ⟨tx, htx⟩ : ∃ t, x.terr = t := ⟨_, rfl⟩
        rw [hkx] at c0 h1
        rw [htx] at c1 h2
        have H3 := Lib.hid h3
        have HBe := Lib.hid (bal HB.out (.cells #[.string kx, .string tx, .slice zA m zc] 49))
        have hm63 : m ≤ 9223372036854775807 := by have := Nat.le_trans hz1 hz2; unfold maxLen at this; omega
        unfold maxLen at h1 h2
        have HK := Lib.hid hkx
        have HT := Lib.hid htx
        clear c0' c1' c2' h3 HEv hkx htx hz1 hz2
        by_cases hk1 : kx.size ≤ 1000
        · have p1 : ¬ (1000 : Int) < (kx.size : Int) := by omega
          by_cases ht1 : tx.size ≤ 1000
          · have p2 : ¬ (1000 : Int) < (tx.size : Int) := by omega
            by_cases hm1 : m ≤ 40
            · have p3 : ¬ (40 : Int) < (m : Int) := by omega
              go_wp2
              go_loopw [35] (fun i wi => ∃ j : Nat, j ≤ m ∧ i = .int .i64 (j : Int) ∧ Hid (Below w.heap.size w wi) ∧ Hid (∀ z ∈ x.zones.take j, z.size ≤ 1000)) (fun i _ => m - (intOf i).toNat)
              case atStart => exact ⟨0, Nat.zero_le _, rfl, HBe.out, fun e he => by cases he⟩
              case round =>
                clear c0 c1 c2 HBe HB
                obtain ⟨j, hj, rfl, HB, HZ⟩ := hrel
                by_cases hlt2 : j < m
                · have q3 : (0 : Int) ≤ (j : Int) := by omega
                  have q4 : (j : Int) < (m : Int) := by omega
                  obtain ⟨ad2, z, rfl, Hz, hcell⟩ : ∃ ad2 nm, zA = some ad2 ∧ Hid (x.zones[j]? = some nm) ∧ wr.cell? (ad2.add j) = some (.string nm) := reads_str (HZr.out.below HB.out) hlt2
                  have hzs := H3.out z (List.mem_of_getElem? Hz.out)
                  unfold maxLen at hzs
                  have HN := Lib.hid (Ca.take_next Hz.out)
                  by_cases hz1 : z.size ≤ 1000
                  · have p4 : ¬ (1000 : Int) < (z.size : Int) := by omega
                    have HZn : Hid (∀ y ∈ x.zones.take (j + 1), y.size ≤ 1000) := by
                      intro y hy
                      rw [HN.out] at hy
                      rcases List.mem_append.1 hy with hy | hy
                      · exact HZ.out y hy
                      · rw [List.mem_singleton.1 hy]; exact hz1
                    go_wp2
                    go_roundw
                    case rel => exact ⟨j + 1, by omega, by go_num, HB.out, HZn.out⟩
                    case measure => simp [intOf]; omega
                  · have p4 : (1000 : Int) < (z.size : Int) := by omega
                    go_wp2
                    go_ret
                    exact ⟨.inl rfl, HB.out⟩
                · have hje : j = m := by omega
                  subst hje
                  have p5 : ¬ (j : Int) < (j : Int) := by omega
                  have HFn : Hid (∀ e ∈ l.take (k + 1), Ca.Fe e) := by
                    intro e he
                    rw [Ca.take_next Hx.out] at he
                    rcases List.mem_append.1 he with he | he
                    · exact HF.out e he
                    · rw [List.mem_singleton.1 he]
                      have h := HZ.out
                      rw [List.take_of_length_le (by rw [HZl.out]; exact Nat.le_refl _)] at h
                      exact ⟨by rw [HK.out]; exact hk1, by rw [HT.out]; exact ht1, by rw [HZl.out]; exact hm1, h⟩
                  go_wp2
                  go_roundw
                  case rel => exact ⟨k + 1, by omega, by go_num, HB.out, HFn.out⟩
                  case measure => simp [intOf]; omega
            · have p3 : (40 : Int) < (m : Int) := by omega
              go_wp2
              go_ret
              exact ⟨.inl rfl, HBe.out⟩
          · have p2 : (1000 : Int) < (tx.size : Int) := by omega
            go_wp2
            go_ret
            exact ⟨.inl rfl, HBe.out⟩
        · have p1 : (1000 : Int) < (kx.size : Int) := by omega
          go_wp2
          go_ret
          exact ⟨.inl rfl, HBe.out⟩
      · have p2 : ¬ (k : Int) < (n : Int) := by omega
        have HE : Hid (Ca.Few l) := by
          have h := HF.out
          rw [List.take_of_length_le (by rw [HL.out]; omega)] at h
          exact ⟨by rw [HL.out]; exact hn, h⟩
        go_wp2
        go_ret
        exact ⟨.inr ⟨rfl, HE.out⟩, HB.out⟩
  · have q0 : (40 : Int) < (n : Int) := by omega
    go_wp2
    go_ret
    exact ⟨.inl rfl, Below.refl _ _⟩
end Go.Proofs.YthmhadgbhakdlaaDoor

/- chart.Text: the text of a right chart. -/
namespace Go.Proofs.YthmhadgbhakdlaaDoor
open Go.RowKit

namespace Mk
/-- An entry, its zones put together. -/
def en (e : Ca.E) : En := (tl e.key, tl e.terr, Lib.join (e.zones.map tl) [32])
def pre (e : Ca.E) : Txt := [32, 32, 60, 109, 97, 112, 32, 107, 101, 121, 61, 34] ++ esc (tl e.key) ++ [34, 32, 116, 101, 114, 114, 105, 116, 111, 114, 121, 61, 34] ++ tl e.terr ++ [34, 32, 122, 111, 110, 101, 115, 61, 34]
def line (e : Ca.E) : Txt := pre e ++ (en e).2.2 ++ [34, 47, 62, 10]
def ctext (l : List Ca.E) : Txt := [60, 99, 104, 97, 114, 116, 62, 10] ++ l.flatMap line ++ [60, 47, 99, 104, 97, 114, 116, 62, 10]
theorem line_tag (e : Ca.E) : line e = [32, 32] ++ enTag (en e) ++ [10] := by
  unfold line pre enTag mapTag mapIn attrT MAP KEY TERR ZONES en
  simp
theorem body_lines : ∀ l : List Ca.E, [10] ++ l.flatMap line ++ [60, 47, 99, 104, 97, 114, 116, 62, 10] = body (l.map en)
  | [] => rfl
  | e :: l => by
    have ih := body_lines l
    rw [List.map_cons, body, ← ih, List.flatMap_cons, line_tag]
    simp
theorem ctext_chart (l : List Ca.E) : ctext l = chartT (l.map en) := by
  unfold ctext chartT
  rw [← body_lines]
  simp
theorem sign_clean (b : UInt8) : Ca.sign b = true → b ≠ 34 ∧ b ≠ 60 ∧ b ≠ 38 ∧ b.toNat < 128 ∧ low b = false := byte_all (P := fun b => Ca.sign b = true → b ≠ 34 ∧ b ≠ 60 ∧ b ≠ 38 ∧ b.toNat < 128 ∧ low b = false) (by decide +kernel) b
theorem nm_clean (b : UInt8) : (Ru.letr (b.toNat : Int) || Ru.rest (b.toNat : Int)) = true → b ≠ 34 ∧ b ≠ 60 ∧ b ≠ 38 ∧ b.toNat < 128 ∧ low b = false := byte_all (P := fun b => (Ru.letr (b.toNat : Int) || Ru.rest (b.toNat : Int)) = true → b ≠ 34 ∧ b ≠ 60 ∧ b ≠ 38 ∧ b.toNat < 128 ∧ low b = false) (by decide +kernel) b
theorem nameAll_mem : ∀ (l : Txt) (f : Bool), Ru.nameAll l f = true → ∀ b ∈ l, (Ru.letr (b.toNat : Int) || Ru.rest (b.toNat : Int)) = true
  | [], _, _, _, h => by cases h
  | c :: r, f, h, b, hb => by
    rw [Ru.nameAll, Bool.and_eq_true] at h
    rcases List.mem_cons.1 hb with rfl | hb
    · have h1 := h.1
      cases e : Ru.letr (b.toNat : Int) with
      | true => rfl
      | false =>
        rw [e, Bool.false_or, Bool.and_eq_true] at h1
        rw [Bool.false_or]
        exact h1.2
    · exact nameAll_mem r false h.2 b hb
def Cl (v : Txt) : Prop := ∀ b ∈ v, b ≠ 34 ∧ b ≠ 60 ∧ b ≠ 38 ∧ b.toNat < 128 ∧ low b = false
theorem Cl.app {a b : Txt} (ha : Cl a) (hb : Cl b) : Cl (a ++ b) := fun x hx => (List.mem_append.1 hx).elim (ha x) (hb x)
theorem cl_join : ∀ (ss : List Txt), (∀ z ∈ ss, Cl z) → Cl (Lib.join ss [32])
  | [], _ => fun b hb => by simp [Lib.join, List.intercalate] at hb
  | [z], h => by
    have e : Lib.join [z] [32] = z := by simp [Lib.join, List.intercalate]
    rw [e]
    exact h z List.mem_cons_self
  | z :: y :: r, h => by
    have e : Lib.join (z :: y :: r) [32] = z ++ [32] ++ Lib.join (y :: r) [32] := by simp [Lib.join, List.intercalate]
    rw [e]
    refine (Cl.app (h z List.mem_cons_self) ?_).app (cl_join (y :: r) fun x hx => h x (List.mem_cons_of_mem _ hx))
    intro b hb
    rw [List.mem_singleton.1 hb]
    decide
theorem join_len : ∀ (ss : List Txt) (m : Nat), (∀ z ∈ ss, z.length ≤ m) → (Lib.join ss [32]).length ≤ ss.length * (m + 1)
  | [], m, _ => by simp [Lib.join, List.intercalate]
  | [z], m, h => by
    have e : Lib.join [z] [32] = z := by simp [Lib.join, List.intercalate]
    have := h z List.mem_cons_self
    rw [e, List.length_singleton]
    omega
  | z :: y :: r, m, h => by
    have e : Lib.join (z :: y :: r) [32] = z ++ [32] ++ Lib.join (y :: r) [32] := by simp [Lib.join, List.intercalate]
    have ih := join_len (y :: r) m fun x hx => h x (List.mem_cons_of_mem _ hx)
    have hz := h z List.mem_cons_self
    rw [e, List.length_append, List.length_append, List.length_singleton, List.length_cons, Nat.succ_mul]
    omega
/-- What a right entry is like. -/
structure EnR (e : Ca.E) : Prop where
  key : Fine e.key
  ksz : e.key.size ≤ 64
  terr : Cl (tl e.terr) ∧ e.terr.size ≤ 8
  zs : Cl (en e).2.2 ∧ (en e).2.2.length ≤ 2080
  zn : 1 ≤ e.zones.length
theorem right_en {e : Ca.E} (h : Ca.right e = true) : EnR e := by
  unfold Ca.right at h
  simp only [Bool.and_eq_true, decide_eq_true_eq] at h
  obtain ⟨⟨⟨hk, ht⟩, hz⟩, hn⟩ := h
  have hks := Te.key_size hk
  have hkl := Te.key_letters hk
  have hkp := Te.key_plain hk
  have hkr : Te.right e.key = true := by unfold Te.plain at hkp; rw [Bool.and_eq_true] at hkp; exact hkp.1
  refine ⟨⟨by omega, hkr, fun b hb => ?_⟩, hks.2, ?_, ?_, hz.1⟩
  · have := hkl b hb
    unfold low
    rw [Bool.and_eq_false_iff]
    exact .inl (decide_eq_false (by omega))
  · unfold Ca.terrB at ht
    rw [Bool.and_eq_true] at ht
    have h1 := of_decide_eq_true ht.1
    exact ⟨fun b hb => sign_clean b (List.all_eq_true.1 ht.2 b hb), by rw [← tl_length]; exact h1.2⟩
  · have hall : ∀ z ∈ e.zones.map tl, Cl z ∧ z.length ≤ 64 := by
      intro z hz2
      obtain ⟨y, hy, rfl⟩ := List.mem_map.1 hz2
      have h2 := List.all_eq_true.1 hn y hy
      unfold Ru.name at h2
      rw [Bool.and_eq_true] at h2
      have h3 := of_decide_eq_true h2.1
      exact ⟨fun b hb => nm_clean b (nameAll_mem _ _ h2.2 b hb), h3.2⟩
    refine ⟨cl_join _ fun z h => (hall z h).1, ?_⟩
    have h4 := join_len (e.zones.map tl) 64 fun z h => (hall z h).2
    rw [List.length_map] at h4
    have h5 : e.zones.length * 65 ≤ 32 * 65 := Nat.mul_le_mul_right _ hz.2
    show (Lib.join (e.zones.map tl) [32]).length ≤ 2080
    omega
theorem EnR.ok {e : Ca.E} (h : EnR e) : EnOk (en e) :=
  ⟨⟨⟨fun x => (h.terr.1 _ x).1 rfl, fun x => (h.terr.1 _ x).2.1 rfl⟩, fun x => (h.terr.1 _ x).2.2.1 rfl⟩, ⟨⟨fun x => (h.zs.1 _ x).1 rfl, fun x => (h.zs.1 _ x).2.1 rfl⟩, fun x => (h.zs.1 _ x).2.2.1 rfl⟩⟩
theorem chk_right {l : List Ca.E} (h : Ca.chk l = 0) : ∀ e ∈ l, Ca.right e = true := by
  intro e he
  unfold Ca.chk at h
  split at h
  · cases h
  · rename_i hr
    cases hx : Ca.right e with
    | true => rfl
    | false => exact absurd (List.any_eq_true.2 ⟨e, he, by rw [hx]; rfl⟩) hr
theorem line_len {e : Ca.E} (h : EnR e) : (line e).length ≤ 2600 ∧ (pre e).length ≤ 500 := by
  have h1 := (esc_len (tl e.key)).2
  have h2 := h.ksz
  have h3 := h.terr.2
  have h4 := h.zs.2
  rw [tl_length] at h1
  unfold line pre
  simp only [List.length_append, List.length_cons, List.length_nil, tl_length]
  omega
/-- strings.Join of a slice that reads. -/
theorem join_reads (A : Option Addr) (n c : Nat) (ss : List ByteArray) (w : World) (hn : ss.length = n) (h1 : 0 < n) (hc : n ≤ c) (hs : n ≤ 1000) (hr : Reads w w.heap.size 1 A n (ss.map Value.string)) (hl : (Lib.join (ss.map tl) [32]).length ≤ 100000000) :
    Calls Tryd.prog 13 #[.slice A n c, .string ⟨#[32]⟩] w fun e w' => e = .returned (.string (bts (Lib.join (ss.map tl) [32]))) ∧ Below w.heap.size w w' := by
  obtain ⟨ad, rfl, hb, hcl⟩ := hr.2 h1
  obtain ⟨bk, o, sp⟩ := ad
  have hsp : sp = none := by
    cases sp with
    | none => rfl
    | some q =>
      obtain ⟨x, hx⟩ : ∃ x, ss[0]? = some x := ⟨_, List.getElem?_eq_getElem (by omega)⟩
      have h := hcl 0 (.string x) (by rw [List.getElem?_map, hx]; rfl)
      rw [addr_zero] at h
      unfold World.cell? at h
      simp at h
      split at h <;> simp at h
  subst hsp
  subst hn
  have h := Tryd.strings_Join bk o c ss ⟨#[32]⟩ w (fun j x hx => by
    have h2 := hcl j (.string x) (by rw [List.getElem?_map, hx]; rfl)
    unfold Addr.add at h2
    split at h2
    · rename_i hj
      rw [hj]
      exact h2
    · exact h2) hb (by omega) hc (by have h3 : (Lib.join (ss.map (·.data.toList)) [32]).length ≤ 100000000 := hl; exact Nat.le_trans h3 (by omega))
  exact h
/-- A text more, and what else is kept. -/
theorem putS2 {g : Nat} {l : Txt} {w : World} (t : ByteArray) (h : IsB w g l) (hl : l.length ≤ 100000000000000) (ht : t.size ≤ 100000000) :
    Calls Tryd.prog 12 #[.pointer (some ⟨g, 0, none⟩), .string t] w fun e w' => e = .returned (.tuple #[.int .i64 t.size, .nilIface]) ∧ IsB w' g (l ++ tl t) ∧ Below g w w' ∧ Lib.OthersKept 5 (some g) w w' :=
  (Tryd.prWriteString g g _ t w h (by rw [cells_len]; omega) (Nat.le_of_lt h.lt)).mono fun _ _ h2 => ⟨h2.1, by show Lib.IsBuilderF _ _ _ _ _ _; rw [← bytes_str]; exact .inr h2.2.1, h2.2.2.1, h2.2.2.2⟩
/-- Block h holds an entry. -/
def Bx (w : World) (h : Nat) (cs : Array Value) : Prop := w.heap[h]? = some (.cells cs 49 (0, 0))
theorem Bx.lt {w : World} {h : Nat} {cs : Array Value} (b : Bx w h cs) : h < w.heap.size := (Array.getElem?_eq_some_iff.1 b).1
theorem Bx.call {w w' : World} {h : Nat} {cs : Array Value} (b : Bx w h cs) (hb : Below w.heap.size w w') : Bx w' h cs := (hb.block h b.lt).trans b
theorem Bx.oth {w w' : World} {h g : Nat} {cs : Array Value} (b : Bx w h cs) (ho : Lib.OthersKept 5 (some g) w w') (hne : h ≠ g) : Bx w' h cs :=
  ho h _ b (fun e => hne (Option.some.inj e)) (fun c fz e => by injection e with _ e _; revert e; decide)
theorem Bx.cell {w : World} {h : Nat} {cs : Array Value} (b : Bx w h cs) (j : Nat) : w.cell? ⟨h, j, none⟩ = cs[j]? := cell_of_row w h j cs _ _ b
def acc (l : List Ca.E) (k : Nat) : Txt := [60, 99, 104, 97, 114, 116, 62, 10] ++ (l.take k).flatMap line
theorem acc_next {l : List Ca.E} {k : Nat} {e : Ca.E} (h : l[k]? = some e) : acc l (k + 1) = acc l k ++ pre e ++ (en e).2.2 ++ [34, 47, 62, 10] := by
  unfold acc
  rw [List.take_add_one, h]
  simp [line]
theorem acc_len (l : List Ca.E) (k : Nat) (h : ∀ e ∈ l, EnR e) : (acc l k).length ≤ 8 + 2600 * k := by
  unfold acc
  rw [List.length_append]
  have key : ∀ m : List Ca.E, (∀ e ∈ m, EnR e) → (m.flatMap line).length ≤ 2600 * m.length := by
    intro m hm
    induction m with
    | nil => simp
    | cons a m ih =>
      have h1 := (line_len (hm a List.mem_cons_self)).1
      have h2 := ih fun e he => hm e (List.mem_cons_of_mem _ he)
      rw [List.flatMap_cons, List.length_append, List.length_cons]
      omega
  have h1 := key (l.take k) fun e he => h e (List.mem_of_mem_take he)
  have h2 : (l.take k).length ≤ k := List.length_take_le _ _
  have h3 : 2600 * (l.take k).length ≤ 2600 * k := Nat.mul_le_mul_left _ h2
  show 8 + _ ≤ _
  omega
end Mk
set_option maxHeartbeats 4000000 in
set_option maxRecDepth 100000 in
theorem chartText_any (l : List Ca.E) (A : Option Addr) (n c : Nat) (evs : List Value) (w : World) (hR : Ca.EntR w w.heap.size l (.slice A n c) evs) (hl : l.length = n) (hW : Ca.Wd l) :
    Calls Tryd.prog 5 #[.slice A n c] w fun e w' => ((Ca.chk l = 0 ∧ e = .returned (.tuple #[.string (Mk.bts (Mk.ctext l)), .int .i64 0])) ∨ (Ca.chk l ≠ 0 ∧ e = .returned (.tuple #[.string ⟨#[]⟩, .int .i64 (Ca.chk l)]))) ∧ Below w.heap.size w w' := by
  have hn4 : n ≤ 4096 := by rw [← hl]; exact hW.n
  have HCk := Lib.hid (caCheck_any l A n c evs w hR hl hW)
  have HR := Lib.hid hR
  have HL := Lib.hid hl
  have hnw : IntKind.i64.wrap (n : Int) = (n : Int) := by rw [IntKind.wrap_i64]; omega
  clear hR hl hW
  by_cases hc : Ca.chk l = 0
  · rw [hc] at HCk
    have HEn : Hid (∀ e ∈ l, Mk.EnR e) := fun e he => Mk.right_en (Mk.chk_right hc e he)
    have HC0 := Lib.hid hc
    clear hc
    go_enter Tryd.func5, Tryd.ntmps5
    go_wp2_with fail
    refine HCk.out.mono ?_
    rintro e w1 ⟨rfl, hb⟩
    have HB1 := Lib.hid hb
    clear hb
    have HI1 := Lib.hid (Mk.fresh w1)
    have HB2 := Lib.hid (HB1.out.trans ((Mk.below_new w1 (.cells #[.pointer none, .slice none 0 0] 42)).mono HB1.out.size))
    have HL1 := Lib.hid HB1.out.size
    go_wp2_with fail
    refine (Mk.putS2 ⟨#[60, 99, 104, 97, 114, 116, 62, 10]⟩ HI1.out (by simp) (by decide)).mono ?_
    rintro e w2 ⟨rfl, hI, hb, _⟩
    have HI2 : Hid (Mk.IsB w2 w1.heap.size (Mk.acc l 0)) := hI
    have HB3 := Lib.hid (HB2.out.trans (hb.mono HL1.out))
    clear hI hb
    go_wp2_with fail
    go_loopw [18] (fun i wr => ∃ k : Nat, k ≤ n ∧ i = .int .i64 (k : Int) ∧ Hid (Mk.IsB wr w1.heap.size (Mk.acc l k)) ∧ Hid (Below w.heap.size w wr)) (fun i _ => n - (intOf i).toNat)
    case atStart => exact ⟨0, Nat.zero_le _, rfl, HI2.out, HB3.out⟩
    case round =>
      obtain ⟨k, hk, rfl, HI, HB⟩ := hrel
      have hal := Mk.acc_len l k HEn.out
      have HAl : Hid ((Mk.acc l k).length ≤ 20000000) := by show _ ≤ _; omega
      clear hal
      by_cases hlt : k < n
      · obtain ⟨ad, e, zA, m, zc, rfl, hab, Hx, x0, x1, x2, Hm, hmz, hzc, _, Hev⟩ := (HR.out.call HB.out).at_ HL.out hlt
        have hkb : (ad.add (k * 3)).block < wr.heap.size := by rw [block_of_add]; exact hab
        have q1 : (0 : Int) ≤ (k : Int) := by omega
        have q2 : (k : Int) < (n : Int) := by omega
        have hE := HEn.out e (List.mem_of_getElem? Hx.out)
        have hgl := HI.out.lt
        have HBx : Hid (Mk.Bx (wr.alloc (.cells #[.string e.key, .string e.terr, .slice zA m zc] 49)) wr.heap.size #[.string e.key, .string e.terr, .slice zA m zc]) := heap_alloc_new wr _
        have HRdz : Hid (∀ W, Below w.heap.size w W → Reads W W.heap.size 1 zA m (e.zones.map Value.string)) := fun W hb => by
          obtain ⟨ad3, e3, zA3, m3, zc3, h1, _, h2, _, _, h3, h4, _, _, h5, h6⟩ := (HR.out.call hb).at_ HL.out hlt
          have h7 := Option.some.inj (h6.out.symm.trans Hev.out)
          injection h7 with h8 h9 h10
          subst h8 h9
          obtain rfl := Option.some.inj (h2.out.symm.trans Hx.out)
          exact h5.out
        have hll := Mk.line_len hE
        have hm0 : 0 < m := by rw [← Hm.out]; exact hE.zn
        have hm32 : m ≤ 40 := by
          rw [← Hm.out]
          have h1 := Mk.chk_right HC0.out e (List.mem_of_getElem? Hx.out)
          unfold Ca.right at h1
          simp only [Bool.and_eq_true, decide_eq_true_eq] at h1
          have := h1.1.2.2
          omega
        have HEs := Lib.hid (fun W => Mk.esc_ok e.key hE.key W)
        have hel := (Mk.esc_len (tl e.key)).2
        rw [tl_length] at hel
        have hks := hE.ksz
        have hts := hE.terr.2
        have hzl := hE.zs.2
        obtain ⟨K, hK⟩ : ∃ x, Mk.esc (tl e.key) = x := ⟨_, rfl⟩
        obtain ⟨KB, hKB⟩ : ∃ x, Mk.bts (Mk.esc (tl e.key)) = x := ⟨_, rfl⟩
        rw [hKB] at HEs
        rw [hK] at hel hKB
        obtain ⟨X1, hX1⟩ : ∃ y, Mk.bts ([32, 32, 60, 109, 97, 112, 32, 107, 101, 121, 61, 34] ++ K) = y := ⟨_, rfl⟩
        obtain ⟨X2, hX2⟩ : ∃ y, Mk.bts ([32, 32, 60, 109, 97, 112, 32, 107, 101, 121, 61, 34] ++ K ++ [34, 32, 116, 101, 114, 114, 105, 116, 111, 114, 121, 61, 34]) = y := ⟨_, rfl⟩
        obtain ⟨X3, hX3⟩ : ∃ y, Mk.bts ([32, 32, 60, 109, 97, 112, 32, 107, 101, 121, 61, 34] ++ K ++ [34, 32, 116, 101, 114, 114, 105, 116, 111, 114, 121, 61, 34] ++ tl e.terr) = y := ⟨_, rfl⟩
        obtain ⟨X4, hX4⟩ : ∃ y, Mk.bts (Mk.pre e) = y := ⟨_, rfl⟩
        have hpe : Mk.pre e = [32, 32, 60, 109, 97, 112, 32, 107, 101, 121, 61, 34] ++ K ++ [34, 32, 116, 101, 114, 114, 105, 116, 111, 114, 121, 61, 34] ++ tl e.terr ++ [34, 32, 122, 111, 110, 101, 115, 61, 34] := by unfold Mk.pre; rw [hK]
        have htl : (tl e.terr).length ≤ 8 := by rw [tl_length]; exact hts
        have sm1 : ∀ W, (Op.stringOp .add ⟨#[32, 32, 60, 109, 97, 112, 32, 107, 101, 121, 61, 34]⟩ KB).run Tryd.prog W = .ok (.string X1) W := fun W => by rw [← hX1, ← hKB]; exact Mk.add_bts [32, 32, 60, 109, 97, 112, 32, 107, 101, 121, 61, 34] K (by simp only [List.length_cons, List.length_nil]; omega) W
        have sm2 : ∀ W, (Op.stringOp .add X1 ⟨#[34, 32, 116, 101, 114, 114, 105, 116, 111, 114, 121, 61, 34]⟩).run Tryd.prog W = .ok (.string X2) W := fun W => by rw [← hX1, ← hX2]; exact Mk.add_bts _ [34, 32, 116, 101, 114, 114, 105, 116, 111, 114, 121, 61, 34] (by simp only [List.length_append, List.length_cons, List.length_nil]; omega) W
        have sm3 : ∀ W, (Op.stringOp .add X2 e.terr).run Tryd.prog W = .ok (.string X3) W := fun W => by rw [← hX2, ← hX3]; exact Mk.add_bts _ (tl e.terr) (by simp only [List.length_append, List.length_cons, List.length_nil]; omega) W
        have sm4 : ∀ W, (Op.stringOp .add X3 ⟨#[34, 32, 122, 111, 110, 101, 115, 61, 34]⟩).run Tryd.prog W = .ok (.string X4) W := fun W => by rw [← hX3, ← hX4, hpe]; exact Mk.add_bts _ [34, 32, 122, 111, 110, 101, 115, 61, 34] (by simp only [List.length_append, List.length_cons, List.length_nil]; omega) W
        have hx4 : tl X4 = Mk.pre e := by rw [← hX4]; rfl
        have hx4s : X4.size ≤ 500 := by rw [← tl_length, hx4]; exact hll.2
        have HX4 := Lib.hid hx4
        have hplen : (Mk.pre e).length ≤ 500 := hll.2
        have HAc : Hid (Mk.acc l (k + 1) = Mk.acc l k ++ Mk.pre e ++ (Mk.en e).2.2 ++ [34, 47, 62, 10]) := Mk.acc_next Hx.out
        have HBv := Lib.hid (HB.out.alloc HB.out.size (.cells #[.string e.key, .string e.terr, .slice zA m zc] 49))
        have HIv : Hid (Mk.IsB (wr.alloc (.cells #[.string e.key, .string e.terr, .slice zA m zc] 49)) w1.heap.size (Mk.acc l k)) := HI.out.call (Mk.below_new _ _)
        have hne : wr.heap.size ≠ w1.heap.size := by omega
        clear hll hel hks hts hK hKB hX1 hX2 hX3 hX4 hpe htl hx4
        go_wp2_with fail
        refine (HEs.out _).mono ?_
        rintro e2 w3 ⟨rfl, hb⟩
        have HB4 := Lib.hid (below_then HBv.out hb)
        have HI4 := Lib.hid (HIv.out.call hb)
        have HX5 := Lib.hid (HBx.out.call hb)
        clear hb x0 x1 x2
        have y1 := HX5.out.cell 1
        have z5 := HX5.out.lt
        go_wp2_with fail
        refine (Mk.putS2 X4 HI4.out (by have := HAl.out; omega) (by omega)).mono ?_
        rintro e3 w4 ⟨rfl, hI, hb, ho⟩
        have HB6 := Lib.hid (HB4.out.trans (hb.mono HL1.out))
        have HI6 := Lib.hid hI
        have HX6 := Lib.hid (HX5.out.oth ho hne)
        clear hI hb ho y1 z5
        have y2 := HX6.out.cell 2
        have z6 := HX6.out.lt
        have HJ := Lib.hid (Mk.join_reads zA m zc e.zones w4 Hm.out hm0 hmz (by omega) (HRdz.out w4 HB6.out) (Nat.le_trans hzl (by omega)))
        go_wp2_with fail
        refine HJ.out.mono ?_
        rintro e4 w5 ⟨rfl, hb⟩
        have HB7 := Lib.hid (below_then HB6.out hb)
        have HI7 := Lib.hid (HI6.out.call hb)
        clear hb y2 z6
        go_wp2_with fail
        refine (Mk.putS2 (Mk.bts (Lib.join (e.zones.map tl) [32])) HI7.out (by rw [List.length_append, HX4.out]; have := HAl.out; omega) (by rw [Mk.bts_size]; exact Nat.le_trans hzl (by omega))).mono ?_
        rintro e5 w6 ⟨rfl, hI, hb, _⟩
        have HB8 := Lib.hid (HB7.out.trans (hb.mono HL1.out))
        have HI8 := Lib.hid hI
        clear hI hb
        go_wp2_with fail
        refine (Mk.putS2 ⟨#[34, 47, 62, 10]⟩ HI8.out (by rw [List.length_append, List.length_append, HX4.out, Mk.tl_bts]; have := HAl.out; have h2 : (Lib.join (e.zones.map tl) [32]).length ≤ 2080 := hzl; omega) (by decide)).mono ?_
        rintro e6 w7 ⟨rfl, hI, hb, _⟩
        have HB9 := Lib.hid (HB8.out.trans (hb.mono HL1.out))
        have HI9 : Hid (Mk.IsB w7 w1.heap.size (Mk.acc l (k + 1))) := by
          rw [HX4.out, Mk.tl_bts] at hI
          rw [HAc.out]
          exact hI
        clear hI hb
        go_wp2
        go_roundw
        case rel => exact ⟨k + 1, by omega, by go_num, HI9.out, HB9.out⟩
        case measure => simp [intOf]; omega
      · have hkn : n = k := by omega
        subst hkn
        have q2 : ¬ (n : Int) < (n : Int) := by omega
        have HAe : Hid (Mk.acc l n ++ [60, 47, 99, 104, 97, 114, 116, 62, 10] = Mk.ctext l) := by
          show _ = _
          unfold Mk.acc Mk.ctext
          rw [List.take_of_length_le (by rw [HL.out]; exact Nat.le_refl _)]
        go_wp2_with fail
        refine (Mk.putS2 ⟨#[60, 47, 99, 104, 97, 114, 116, 62, 10]⟩ HI.out (by have := HAl.out; omega) (by decide)).mono ?_
        rintro e6 w7 ⟨rfl, hI, hb, _⟩
        have HB9 := Lib.hid (HB.out.trans (hb.mono HL1.out))
        have HI9 : Hid (Mk.IsB w7 w1.heap.size (Mk.ctext l)) := by rw [← HAe.out]; exact hI
        clear hI hb
        go_wp2_with fail
        refine (Mk.takeS HI9.out).mono ?_
        rintro e7 w8 ⟨rfl, hb⟩
        have HB10 := Lib.hid (HB9.out.trans (hb.mono HL1.out))
        clear hb
        go_wp2
        go_ret2
        exact ⟨.inl ⟨HC0.out, rfl⟩, HB10.out⟩
  · obtain ⟨X, hX⟩ : ∃ X, Ca.chk l = X := ⟨_, rfl⟩
    rw [hX] at HCk hc ⊢
    have q0 : (X == 0) = false := by rw [beq_eq_false_iff_ne]; exact hc
    have HNc := Lib.hid hc
    clear hc hX
    go_enter Tryd.func5, Tryd.ntmps5
    go_wp2_with fail
    refine HCk.out.mono ?_
    rintro e w1 ⟨rfl, hb⟩
    have HB1 := Lib.hid hb
    clear hb
    go_wp2
    go_ret2
    exact ⟨.inr ⟨HNc.out, rfl⟩, HB1.out⟩
end Go.Proofs.YthmhadgbhakdlaaDoor
