/- How a reader lies in memory, what more is read: a rule, a zone, a link, an era. -/
import Derived.Test.YtajcgoinhpengaaDoorP14
import Derived.Deep.AppendLies
import Derived.Deep.RegionHeldLaw
import Derived.Test.YtajcgoinhpengaaDoorP12
import Derived.Deep.QuietTactic
import Derived.BigQuiet
import Derived.Test.YtajcgoinhpengaaDoorP13
import Derived.Laws.Cells

namespace Go.Proofs.YtajcgoinhpengaaDoor
open Go.RowKit

section
variable {B : Nat} {w w' : World} {rs : List Row} {r : Row}
theorem Many.drewN (h : Many B w rs) (k : Nat) : Many B (w.drewN k) rs := ⟨fun r hr => h.own r hr, h.apart⟩
/-- The row at the head is written, or has grown into a new block. -/
theorem Many.grow1 {v' : Value} {n' : Nat} {xs' : List Value} (h : Many B w (r :: rs)) (hown : w'.ownsRow B r.e r.size v' n' xs') (hg : w.grownBy w' r.v.ownBlock) (hat : v'.ownBlock = r.v.ownBlock ∨ v'.ownBlock = some w.heap.size) :
    Many B w' (⟨r.e, r.size, v', n', xs'⟩ :: rs) := by
  have ha := List.pairwise_cons.1 h.apart
  have hk : ∀ x ∈ rs, w'.ownsRow B x.e x.size x.v x.n x.xs := fun x hx => (h.own x (List.mem_cons_of_mem _ hx)).kept hg (ha.1 x hx).symm
  refine ⟨fun x hx => ?_, List.pairwise_cons.2 ⟨fun x hx => ?_, ha.2⟩⟩
  · rcases List.mem_cons.1 hx with rfl | hx
    · exact hown
    · exact hk x hx
  · show apartV v' x.v
    rcases hat with e | e
    · unfold apartV; rw [e]; exact ha.1 x hx
    · refine apartV.symm ?_
      unfold apartV
      rw [e]
      cases ex : x.v.ownBlock with
      | none => exact .inl rfl
      | some k =>
        right
        have := ((h.own x (List.mem_cons_of_mem _ hx)).lt k ex).2
        intro z
        have hk : k = w.heap.size := Option.some.inj z
        omega
/-- What is read lies elsewhere than a row that grows. -/
theorem Reads.far {B0 size n : Nat} {ad : Addr} {xs : List Value} {row : Option Nat} (h : Reads w B0 size (some ad) n xs) (hg : w.grownBy w' row) (hl : ad.block < w.heap.size) (hne : row ≠ some ad.block) : Reads w' w'.heap.size size (some ad) n xs := by
  refine ⟨h.1, fun hn => ?_⟩
  obtain ⟨ad', e, hb, hc⟩ := h.2 hn
  injection e with e
  subst e
  exact ⟨ad, rfl, Nat.lt_of_lt_of_le hl hg.size, fun j u hu => (hg.cell_far _ (by rw [block_of_add]; exact hl) (by rw [block_of_add]; exact fun x => hne x.symm)).trans (hc j u hu)⟩
theorem Reads.set_far {B0 size n : Nat} {ad p : Addr} {xs : List Value} (h : Reads w B0 size (some ad) n xs) (hne : ad.block ≠ p.block) (u : Value) : Reads (w.setCell p u) B0 size (some ad) n xs := by
  refine ⟨h.1, fun hn => ?_⟩
  obtain ⟨ad', e, hb, hc⟩ := h.2 hn
  injection e with e
  subst e
  exact ⟨ad, rfl, hb, fun j u hu => (World.cell?_setCell_other _ _ _ _ (fun e => hne (by rw [e, block_of_add]))).trans (hc j u hu)⟩
end
namespace Src
theorem zoneCells_app : ∀ (a b : List (Txt × List Er.E)) (va vb : List Value), va.length = a.length → zoneCells (a ++ b) (va ++ vb) = zoneCells a va ++ zoneCells b vb
  | [], b, [], vb, _ => rfl
  | z :: a, b, v :: va, vb, h => by
    have := zoneCells_app a b va vb (by simpa using h)
    simp only [List.cons_append, zoneCells, this]
theorem eraRows_app : ∀ (a b : List (Txt × List Er.E)) (va vb : List Value), va.length = a.length → eraRows (a ++ b) (va ++ vb) = eraRows a va ++ eraRows b vb
  | [], b, [], vb, _ => rfl
  | z :: a, b, v :: va, vb, h => by
    have := eraRows_app a b va vb (by simpa using h)
    simp only [List.cons_append, eraRows, this]
theorem zoneCells_len : ∀ (a : List (Txt × List Er.E)) (va : List Value), va.length = a.length → (zoneCells a va).length = 2 * a.length
  | [], [], _ => rfl
  | z :: a, v :: va, h => by
    have := zoneCells_len a va (by simpa using h)
    simp only [zoneCells, List.length_cons, this]
    omega
theorem addEra_last (e : Er.E) (zs : List (Txt × List Er.E)) (nm : Txt) (es : List Er.E) : addEra e (zs ++ [(nm, es)]) = zs ++ [(nm, es ++ [e])] := by
  rw [addEra_app _ _ _ (by simp)]
  rfl
theorem lastEras_last (zs : List (Txt × List Er.E)) (nm : Txt) (es : List Er.E) : lastEras (zs ++ [(nm, es)]) = es.length := by
  rw [lastEras_app _ _ (by simp)]
  rfl
section
variable {B : Nat} {w w' w2 : World} {g : Nat} {s : S} {rv rv' zv zv' lv lv' : Value} {evs : List Value}
theorem Held.drewN (h : Held B w g s rv zv lv evs) (k : Nat) : Held B (w.drewN k) g s rv zv lv evs := ⟨h.at_.drew ⟨k, rfl⟩, h.many.drewN k, h.below, h.evs_len⟩
theorem Held.apart_g (h : Held B w g s rv zv lv evs) {r : Row} (hr : r ∈ ruleRow rv s :: zoneRow zv evs s :: linkRow lv s :: eraRows s.zones evs) : ∀ k, r.v.ownBlock = some k → g ≠ k := fun k hk e => by
  have := ((h.many.own _ hr).lt k hk).1
  have := h.below
  omega
theorem Held.apart_era {zs : List (Txt × List Er.E)} {nm : Txt} {es : List Er.E} {evs0 : List Value} {ev : Value} (h : Held B w g s rv zv lv (evs0 ++ [ev])) (hz : s.zones = zs ++ [(nm, es)]) : apartV zv ev := by
  have hl : evs0.length = zs.length := by
    have := h.evs_len
    rw [hz] at this
    simp at this
    omega
  have he : eraRows s.zones (evs0 ++ [ev]) = eraRows zs evs0 ++ [eraRow ev es] := by
    rw [hz, eraRows_app _ _ _ _ hl]
    rfl
  exact (List.pairwise_cons.1 (List.pairwise_cons.1 h.many.apart).2).1 (eraRow ev es) (by simp [he])
theorem Held.own_era {zs : List (Txt × List Er.E)} {nm : Txt} {es : List Er.E} {evs0 : List Value} {ev : Value} (h : Held B w g s rv zv lv (evs0 ++ [ev])) (hz : s.zones = zs ++ [(nm, es)]) : w.ownsRow B 65 13 ev es.length (es.flatMap Er.E.cells) ∧ ∀ k, ev.ownBlock = some k → g ≠ k := by
  have hl : evs0.length = zs.length := by
    have := h.evs_len
    rw [hz] at this
    simp at this
    omega
  have he : eraRows s.zones (evs0 ++ [ev]) = eraRows zs evs0 ++ [eraRow ev es] := by
    rw [hz, eraRows_app _ _ _ _ hl]
    rfl
  have hm : eraRow ev es ∈ ruleRow rv s :: zoneRow zv (evs0 ++ [ev]) s :: linkRow lv s :: eraRows s.zones (evs0 ++ [ev]) := by simp [he]
  exact ⟨h.many.own _ hm, h.apart_g (r := eraRow ev es) hm⟩
/-- A rule more. -/
theorem Held.rule1 (h : Held B w g s rv zv lv evs) (r : Ru.R)
    (hown : w'.ownsRow B 67 11 rv' (s.rules.length + 1) (s.rules.flatMap Ru.R.cells ++ r.cells)) (hg : w.grownBy w' rv.ownBlock) (hat : rv'.ownBlock = rv.ownBlock ∨ rv'.ownBlock = some w.heap.size) :
    Held B (w'.setCell ⟨g, 0, none⟩ rv') g { s with rules := s.rules ++ [r] } rv' zv lv evs := by
  have a1 := (Sc.At.grownO h.at_ hg (h.apart_g (r := ruleRow rv s) List.mem_cons_self)).set 0 rv'
  have m1 := (h.many.grow1 hown hg hat).setBelow (p := ⟨g, 0, none⟩) h.below rv'
  refine ⟨a1, ?_, h.below, h.evs_len⟩
  have e : ruleRow rv' { s with rules := s.rules ++ [r] } = ⟨67, 11, rv', s.rules.length + 1, s.rules.flatMap Ru.R.cells ++ r.cells⟩ := by
    simp [ruleRow]
  rw [e]
  exact m1
/-- A link more. -/
theorem Held.link1 (h : Held B w g s rv zv lv evs) (a b : Txt)
    (hown : w'.ownsRow B 48 2 lv' (s.links.length + 1) ((s.links.flatMap fun k => [.string (bts k.1), .string (bts k.2)]) ++ [.string (bts a), .string (bts b)])) (hg : w.grownBy w' lv.ownBlock) (hat : lv'.ownBlock = lv.ownBlock ∨ lv'.ownBlock = some w.heap.size) :
    Held B (w'.setCell ⟨g, 2, none⟩ lv') g { s with links := s.links ++ [(a, b)] } rv zv lv' evs := by
  have a1 := (Sc.At.grownO h.at_ hg (h.apart_g (r := linkRow lv s) (by simp))).set 2 lv'
  have p1 : (ruleRow rv s :: zoneRow zv evs s :: linkRow lv s :: eraRows s.zones evs).Perm (linkRow lv s :: ruleRow rv s :: zoneRow zv evs s :: eraRows s.zones evs) :=
    ((List.Perm.swap _ _ _).cons _).trans (List.Perm.swap _ _ _)
  have m1 := ((h.many.perm p1).grow1 (r := linkRow lv s) hown hg hat).setBelow (p := ⟨g, 2, none⟩) h.below lv'
  refine ⟨a1, ?_, h.below, h.evs_len⟩
  have e : linkRow lv' { s with links := s.links ++ [(a, b)] } = ⟨48, 2, lv', s.links.length + 1, (s.links.flatMap fun k => [.string (bts k.1), .string (bts k.2)]) ++ [.string (bts a), .string (bts b)]⟩ := by
    simp [linkRow]
  rw [e]
  exact m1.perm ((List.Perm.swap _ _ _).trans ((List.Perm.swap _ _ _).cons _))
/-- A zone more, that has no eras. -/
theorem Held.zone1 (h : Held B w g s rv zv lv evs) (nm : Txt)
    (hown : w'.ownsRow B 54 2 zv' (s.zones.length + 1) (zoneCells s.zones evs ++ [.string (bts nm), .slice none 0 0])) (hg : w.grownBy w' zv.ownBlock) (hat : zv'.ownBlock = zv.ownBlock ∨ zv'.ownBlock = some w.heap.size) :
    Held B (w'.setCell ⟨g, 1, none⟩ zv') g { s with zones := s.zones ++ [(nm, [])] } rv zv' lv (evs ++ [.slice none 0 0]) := by
  have a1 := (Sc.At.grownO h.at_ hg (h.apart_g (r := zoneRow zv evs s) (by simp))).set 1 zv'
  have p1 : (ruleRow rv s :: zoneRow zv evs s :: linkRow lv s :: eraRows s.zones evs).Perm (zoneRow zv evs s :: ruleRow rv s :: linkRow lv s :: eraRows s.zones evs) := List.Perm.swap _ _ _
  have m1 := Many.add0 (((h.many.perm p1).grow1 (r := zoneRow zv evs s) hown hg hat).setBelow (p := ⟨g, 1, none⟩) h.below zv') 65 13
  refine ⟨a1, ?_, h.below, by simp [h.evs_len]⟩
  have e : zoneRow zv' (evs ++ [.slice none 0 0]) { s with zones := s.zones ++ [(nm, [])] } = ⟨54, 2, zv', s.zones.length + 1, zoneCells s.zones evs ++ [.string (bts nm), .slice none 0 0]⟩ := by
    simp [zoneRow, zoneCells_app _ _ _ _ h.evs_len, zoneCells]
  have e2 : eraRows (s.zones ++ [(nm, [])]) (evs ++ [.slice none 0 0]) = eraRows s.zones evs ++ [⟨65, 13, .slice none 0 0, 0, []⟩] := by
    rw [eraRows_app _ _ _ _ h.evs_len]
    rfl
  rw [e, e2]
  refine m1.perm ?_
  refine (List.Perm.cons _ (List.Perm.swap _ _ _)).trans ?_
  refine List.Perm.symm ?_
  exact List.perm_append_singleton _ (ruleRow rv s :: ⟨54, 2, zv', s.zones.length + 1, zoneCells s.zones evs ++ [.string (bts nm), .slice none 0 0]⟩ :: linkRow lv s :: eraRows s.zones evs)
/-- An era more. -/
theorem Held.era1 {zs : List (Txt × List Er.E)} {nm : Txt} {es : List Er.E} {evs0 : List Value} {ev ev' : Value} {zb cap : Nat} (h : Held B w g s rv zv lv evs) (e : Er.E) (hz : s.zones = zs ++ [(nm, es)]) (hv : evs = evs0 ++ [ev])
    (hzv : zv = .slice (some ⟨zb, 0, none⟩) s.zones.length cap)
    (hown : w'.ownsRow B 65 13 ev' (es.length + 1) (es.flatMap Er.E.cells ++ e.cells)) (hg : w.grownBy w' ev.ownBlock) (hat : ev'.ownBlock = ev.ownBlock ∨ ev'.ownBlock = some w.heap.size) :
    Held B ((w'.setCell ⟨zb, 2 * zs.length + 1, none⟩ ev').setCell ⟨g, 3, none⟩ (.bool e.en)) g { s with zones := addEra e s.zones, op := e.en } rv zv lv (evs0 ++ [ev']) := by
  obtain ⟨rules, zones, links, op⟩ := s
  simp only at hz hzv
  subst hz hv
  have hl : evs0.length = zs.length := by
    have := h.evs_len
    simp at this
    omega
  have he : eraRows (zs ++ [(nm, es)]) (evs0 ++ [ev]) = eraRows zs evs0 ++ [eraRow ev es] := by
    rw [eraRows_app _ _ _ _ hl]
    rfl
  have hzne : g ≠ zb := h.apart_g (r := zoneRow zv (evs0 ++ [ev]) ⟨rules, zs ++ [(nm, es)], links, op⟩) (by simp) zb (by subst hzv; rfl)
  have hene := h.apart_g (r := eraRow ev es) (by simp [he])
  have a1 := ((Sc.At.grownO h.at_ hg hene).set_other ⟨zb, 2 * zs.length + 1, none⟩ ev' (fun x => hzne x.symm)).set 3 (.bool e.en)
  have m0 := h.many
  simp only [he] at m0
  obtain ⟨R, hR⟩ : ∃ R, ruleRow rv ⟨rules, zs ++ [(nm, es)], links, op⟩ = R := ⟨_, rfl⟩
  obtain ⟨L, hL⟩ : ∃ L, linkRow lv ⟨rules, zs ++ [(nm, es)], links, op⟩ = L := ⟨_, rfl⟩
  rw [hR, hL] at m0
  have p1 : (R :: zoneRow zv (evs0 ++ [ev]) ⟨rules, zs ++ [(nm, es)], links, op⟩ :: L :: (eraRows zs evs0 ++ [eraRow ev es])).Perm (eraRow ev es :: R :: zoneRow zv (evs0 ++ [ev]) ⟨rules, zs ++ [(nm, es)], links, op⟩ :: L :: eraRows zs evs0) :=
    List.perm_append_singleton (eraRow ev es) (R :: zoneRow zv (evs0 ++ [ev]) ⟨rules, zs ++ [(nm, es)], links, op⟩ :: L :: eraRows zs evs0)
  have m1 := (m0.perm p1).grow1 (r := eraRow ev es) hown hg hat
  have m2 := m1.perm ((List.Perm.cons _ (List.Perm.swap _ _ _)).trans (List.Perm.swap _ _ _))
  unfold zoneRow at m2
  subst hzv
  have m3 := (m2.store (2 * zs.length + 1) ev').setBelow (p := ⟨g, 3, none⟩) h.below (.bool e.en)
  refine ⟨a1, ?_, h.below, by simp [hl, addEra_last]⟩
  have e1 : zoneRow (.slice (some ⟨zb, 0, none⟩) (zs ++ [(nm, es)]).length cap) (evs0 ++ [ev']) ⟨rules, addEra e (zs ++ [(nm, es)]), links, e.en⟩ = ⟨54, 2, .slice (some ⟨zb, 0, none⟩) (zs ++ [(nm, es)]).length cap, (zs ++ [(nm, es)]).length, (zoneCells (zs ++ [(nm, es)]) (evs0 ++ [ev])).set (2 * zs.length + 1) ev'⟩ := by
    unfold zoneRow
    rw [addEra_last, zoneCells_app _ _ _ _ hl, zoneCells_app _ _ _ _ hl]
    have : 2 * zs.length + 1 = (zoneCells zs evs0).length + 1 := by rw [zoneCells_len _ _ hl]
    rw [this, List.set_append_right _ _ (by omega)]
    simp [zoneCells]
  have e2 : eraRows (addEra e (zs ++ [(nm, es)])) (evs0 ++ [ev']) = eraRows zs evs0 ++ [⟨65, 13, ev', es.length + 1, es.flatMap Er.E.cells ++ e.cells⟩] := by
    rw [addEra_last, eraRows_app _ _ _ _ hl]
    simp [eraRows, eraRow]
  have e3 : ruleRow rv ⟨rules, addEra e (zs ++ [(nm, es)]), links, e.en⟩ = R := by rw [← hR]; rfl
  have e4 : linkRow lv ⟨rules, addEra e (zs ++ [(nm, es)]), links, e.en⟩ = L := by rw [← hL]; rfl
  show Many B _ (_ :: _ :: _ :: _)
  rw [e1, e2, e3, e4]
  refine m3.perm ?_
  refine (List.Perm.swap _ _ _).trans ?_
  refine (List.Perm.cons _ (List.Perm.swap _ _ _)).trans ?_
  exact (List.perm_append_singleton _ (R :: _ :: L :: eraRows zs evs0)).symm
end
end Src
end Go.Proofs.YtajcgoinhpengaaDoor

/- (*reader).rule: the way that reads. -/
namespace Go.Proofs.YtajcgoinhpengaaDoor
open Go.RowKit

theorem rule_info : (Tryd.prog.info? 67).map (fun i => (i.zero, i.size, i.bytes)) = some (some (.agg #[.string ⟨#[]⟩, .int .i64 0, .int .i64 0, .int .i64 0, .int .u8 0, .int .i64 0, .int .i64 0, .int .i64 0, .int .u8 0, .int .i64 0, .string ⟨#[]⟩]), 11, 104) := by kernel_rfl
theorem le_alloc_drew (W : World) (o : Obj) (k : Nat) : W.heap.size ≤ ((W.alloc o).drewN k).heap.size := by
  show W.heap.size ≤ (W.alloc o).heap.size
  rw [World.size_alloc]
  omega
theorem cells_new (w : World) (cs : Array Value) (t : TypeId) : ∀ j u, cs.toList[j]? = some u → (w.alloc (.cells cs t)).cell? ((⟨w.heap.size, 0, none⟩ : Addr).add j) = some u := fun j u hu => by
  have hadd : (⟨w.heap.size, 0, none⟩ : Addr).add j = ⟨w.heap.size, j, none⟩ := by unfold Addr.add; split <;> simp_all
  rw [hadd]
  exact (At.new w cs t).cell j u hu
end Go.Proofs.YtajcgoinhpengaaDoor

/- (*reader).rule: all its ways. -/
namespace Go.Proofs.YtajcgoinhpengaaDoor
open Go.RowKit

theorem ru_parse_nil : Ru.parse [] = (Ru.R.zero, 0, 5) := by rfl
theorem Src.map_bts_drop (ts : List Src.Txt) (k : Nat) : (ts.map Src.bts).drop k = (ts.drop k).map Src.bts := by rw [List.map_drop]
theorem own_len {w : World} {base : Nat} {e : TypeId} {size n : Nat} {v : Value} {xs : List Value} (h : w.ownsRow base e size v n xs) : ∃ A c, v = .slice A n c ∧ n ≤ c ∧ c ≤ maxLen := own_slice_cap h
end Go.Proofs.YtajcgoinhpengaaDoor

/- (*reader).era. -/
namespace Go.Proofs.YtajcgoinhpengaaDoor
open Go.RowKit

theorem era_info : (Tryd.prog.info? 65).map (fun i => (i.zero, i.size, i.bytes)) = some (some (.agg #[.int .i64 0, .int .u8 0, .int .i64 0, .string ⟨#[]⟩, .string ⟨#[]⟩, .bool false, .int .i64 0, .int .i64 0, .int .u8 0, .int .i64 0, .int .i64 0, .int .i64 0, .int .u8 0]), 13, 120) := by kernel_rfl
theorem apartV.ne' {a b : Value} (h : apartV a b) : a.ownBlock = none ∨ a.ownBlock ≠ b.ownBlock := h
theorem er_parse_nil : Er.parse [] = (Er.E.zero, 0, 5) := by rfl
end Go.Proofs.YtajcgoinhpengaaDoor

/- (*reader).era in one law; (*reader).zone. -/
namespace Go.Proofs.YtajcgoinhpengaaDoor
open Go.RowKit

namespace Src
theorem Post.after {B g : Nat} {zv zv1 : Value} {w w1 w' : World} {o : Out S} {e : Ending} (h : Post B g zv1 w1 o e w') (hb : Below g w w1) (hk : Kept g zv w w1) (hs : w.heap.size ≤ w1.heap.size) (hz : ∀ k, k < w.heap.size → zv1.ownBlock = some k → zv.ownBlock = some k) : Post B g zv w o e w' := by
  cases o with
  | ok s => exact ⟨h.1, hb.trans h.2.1, h.2.2⟩
  | bad p y => exact ⟨h.1, hb.trans h.2.1, fun k hl hn hv => (h.2.2 k (Nat.lt_of_lt_of_le hl hs) hn (fun e => hv (hz k hl e))).trans (hk k hl hn hv)⟩
theorem Post.after0 {B g : Nat} {zv : Value} {w w1 w' : World} {o : Out S} {e : Ending} (h : Post B g zv w1 o e w') (hb : Below w.heap.size w w1) (hg : g ≤ w.heap.size) : Post B g zv w o e w' :=
  h.after (hb.mono hg) (kept_of hb hg).2 hb.size (fun _ _ e => e)
theorem last_of {α : Type} {l : List α} (h : l ≠ []) : ∃ a z, l = a ++ [z] := ⟨l.dropLast, l.getLast h, (List.dropLast_concat_getLast h).symm⟩
theorem small_bts {ts : List Txt} (hs : ∀ t ∈ ts, t.length ≤ 1000000) : ∀ t ∈ ts.map bts, t.size ≤ 1000000 := by
  intro t ht
  rw [List.mem_map] at ht
  obtain ⟨x, hx, rfl⟩ := ht
  exact hs x hx
end Src
theorem heap_set_far (w : World) (p : Addr) (v : Value) (k : Nat) (h : k ≠ p.block) : (w.setCell p v).heap[k]? = w.heap[k]? := by
  simp [World.setCell, Array.getElem?_modify, Ne.symm h]
theorem heap_alloc_far (w : World) (o : Obj) (k : Nat) (h : k < w.heap.size) : (w.alloc o).heap[k]? = w.heap[k]? := by
  show (w.heap.push o)[k]? = _
  rw [Array.getElem?_push_lt h, Array.getElem?_eq_getElem h]
theorem zone_info : (Tryd.prog.info? 54).map (fun i => (i.zero, i.size, i.bytes)) = some (some (.agg #[.string ⟨#[]⟩, .slice none 0 0]), 2, 40) := by kernel_rfl
end Go.Proofs.YtajcgoinhpengaaDoor

/- slices.IndexFunc and slices.ContainsFunc, at whatever predicate. -/
namespace Go.Proofs.YtajcgoinhpengaaDoor
open Go.RowKit

namespace Ix
/-- The first place at which p holds; -1, if there is none. -/
def at_ {α : Type} (p : α → Bool) : List α → Int → Int
  | [], _ => -1
  | x :: l, i => if p x then i else at_ p l (i + 1)
theorem at_bd {α : Type} (p : α → Bool) : ∀ (l : List α) (i : Int), at_ p l i = -1 ∨ (i ≤ at_ p l i ∧ at_ p l i < i + l.length)
  | [], _ => .inl rfl
  | x :: l, i => by
    unfold at_
    split
    · right; simp; omega
    · rcases at_bd p l (i + 1) with h | h
      · exact .inl h
      · right; simp; omega
theorem at_any {α : Type} (p : α → Bool) : ∀ (l : List α) (i : Int), 0 ≤ i → decide (0 ≤ at_ p l i) = l.any p
  | [], _, _ => rfl
  | x :: l, i, h => by
    unfold at_
    cases hx : p x
    · rw [if_neg (by simp), at_any p l (i + 1) (by omega)]
      simp [hx]
    · rw [if_pos rfl]
      simp [hx, h]
theorem at_next {α : Type} {p : α → Bool} {l : List α} {k : Nat} {x : α} {X : Int} (h : X = at_ p (l.drop k) k) (hx : l[k]? = some x) : X = if p x then (k : Int) else at_ p (l.drop (k + 1)) ((k + 1 : Nat) : Int) := by
  rw [List.drop_eq_getElem_cons (List.getElem?_eq_some_iff.1 hx).1] at h
  rw [h, at_, (List.getElem?_eq_some_iff.1 hx).2]
  rfl
theorem at_end {α : Type} {p : α → Bool} {l : List α} {k : Nat} {X : Int} (h : X = at_ p (l.drop k) k) (hk : l.length ≤ k) : X = -1 := by
  rw [h, List.drop_eq_nil_of_le hk]
  rfl
/-- An element's cells, out of all. -/
theorem flat_at {α : Type} (enc : α → List Value) (m : Nat) (hm : ∀ x, (enc x).length = m) : ∀ (xs : List α) (k : Nat) (x : α), xs[k]? = some x → ∀ (j : Nat) (v : Value), (enc x)[j]? = some v → (xs.flatMap enc)[k * m + j]? = some v
  | [], k, x, h, j, v, hj => by simp at h
  | y :: l, 0, x, h, j, v, hj => by
    simp at h
    subst h
    rw [List.flatMap_cons, List.getElem?_append_left (by have := (List.getElem?_eq_some_iff.1 hj).1; omega)]
    simpa using hj
  | y :: l, k + 1, x, h, j, v, hj => by
    rw [List.flatMap_cons, List.getElem?_append_right (by rw [hm, Nat.add_mul]; omega), hm]
    have := flat_at enc m hm l k x (by simpa using h) j v hj
    rw [← this]
    congr 1
    rw [Nat.add_mul]
    omega
theorem flat_len {α : Type} (enc : α → List Value) (m : Nat) (hm : ∀ x, (enc x).length = m) : ∀ xs : List α, (xs.flatMap enc).length = xs.length * m
  | [] => by simp
  | y :: l => by rw [List.flatMap_cons, List.length_append, hm, flat_len enc m hm l, List.length_cons, Nat.add_mul]; omega
theorem reads_cells {α : Type} {enc : α → List Value} {m : Nat} (hm : ∀ x, (enc x).length = m) {w : World} {B n k : Nat} {A : Option Addr} {xs : List α} (hl : xs.length = n) (h : Reads w B m A n (xs.flatMap enc)) (hk : k < n) :
    ∃ ad x, A = some ad ∧ ad.block < B ∧ Hid (xs[k]? = some x) ∧ Hid (∀ j v, (enc x)[j]? = some v → w.cell? ((ad.add (k * m)).add j) = some v) := by
  obtain ⟨ad, e, hb, hc⟩ := h.2 (by omega)
  have hkl : k < xs.length := by omega
  refine ⟨ad, xs[k], e, hb, List.getElem?_eq_getElem hkl, fun j v hj => ?_⟩
  rw [add_of_add]
  exact hc _ _ (flat_at enc m hm xs k _ (List.getElem?_eq_getElem hkl) j v hj)
/-- What is asked of a predicate. -/
def Tells {α : Type} (g : FuncId) (lb : Array Value) (enc : α → Value) (p : α → Bool) (xs : List α) (w : World) : Prop :=
  ∀ W x, x ∈ xs → Below w.heap.size w W → Calls Tryd.prog g (#[enc x] ++ lb) W fun e w' => e = .returned (.bool (p x)) ∧ Below w.heap.size w w'
end Ix
set_option maxHeartbeats 2000000 in
set_option maxRecDepth 100000 in
theorem idx_rule (p : Ru.R → Bool) (g : FuncId) (lb : Array Value) (eg : ∀ args w, (callFunc g args).run Tryd.prog w = .ok (.enter g args) w) (A : Option Addr) (n c : Nat) (xs : List Ru.R) (w : World) (hn : n ≤ maxLen) (hl : xs.length = n)
    (hr : Reads w w.heap.size 11 A n (xs.flatMap Ru.R.cells)) (hp : Ix.Tells g lb Ru.R.v p xs w) :
    Calls Tryd.prog 52 #[.slice A n c, .func (.func g) #[] lb] w fun e w' => e = .returned (.int .i64 (Ix.at_ p xs 0)) ∧ Below w.heap.size w w' := by
  unfold maxLen at hn
  obtain ⟨X, hX⟩ : ∃ X, Ix.at_ p xs 0 = X := ⟨_, rfl⟩
  rw [hX]
  have HX := Lib.hid hX
  have HR := Lib.hid hr
  have HP := Lib.hid hp
  have HL := Lib.hid hl
  clear hX hr hp hl
  go_enter Tryd.func52, Tryd.ntmps52
  go_wp2
  go_loopw [5, 8] (fun _ i wr => ∃ k : Nat, k ≤ n ∧ i = .int .i64 k ∧ Hid (X = Ix.at_ p (xs.drop k) k) ∧ Hid (Below w.heap.size w wr)) (fun _ i _ => n - (intOf i).toNat)
  case atStart => exact ⟨0, Nat.zero_le _, rfl, HX.out.symm, Below.refl _ _⟩
  case round =>
    obtain ⟨k, hk, rfl, HK, HB⟩ := hrel
    by_cases hlt : k < n
    · have q2 : (k : Int) < (n : Int) := by omega
      have q1 : (0 : Int) ≤ (k : Int) := by omega
      obtain ⟨ad, x, rfl, hab, Hx, HL0⟩ := Ix.reads_cells (enc := Ru.R.cells) (m := 11) (fun _ => rfl) HL.out (HR.out.below HB.out) hlt
      have hc0 : wr.cell? (ad.add (k * 11)) = some (.string x.nm) := HL0.out 0 _ rfl
      have hc1 : wr.cell? ⟨(ad.add (k * 11)).block, (ad.add (k * 11)).off + 1, none⟩ = some (.int .i64 x.fr) := HL0.out 1 _ rfl
      have hc2 : wr.cell? ⟨(ad.add (k * 11)).block, (ad.add (k * 11)).off + 2, none⟩ = some (.int .i64 x.tt) := HL0.out 2 _ rfl
      have hc3 : wr.cell? ⟨(ad.add (k * 11)).block, (ad.add (k * 11)).off + 3, none⟩ = some (.int .i64 x.mo) := HL0.out 3 _ rfl
      have hc4 : wr.cell? ⟨(ad.add (k * 11)).block, (ad.add (k * 11)).off + 4, none⟩ = some (.int .u8 x.k) := HL0.out 4 _ rfl
      have hc5 : wr.cell? ⟨(ad.add (k * 11)).block, (ad.add (k * 11)).off + 5, none⟩ = some (.int .i64 x.n) := HL0.out 5 _ rfl
      have hc6 : wr.cell? ⟨(ad.add (k * 11)).block, (ad.add (k * 11)).off + 6, none⟩ = some (.int .i64 x.d) := HL0.out 6 _ rfl
      have hc7 : wr.cell? ⟨(ad.add (k * 11)).block, (ad.add (k * 11)).off + 7, none⟩ = some (.int .i64 x.s) := HL0.out 7 _ rfl
      have hc8 : wr.cell? ⟨(ad.add (k * 11)).block, (ad.add (k * 11)).off + 8, none⟩ = some (.int .u8 x.c) := HL0.out 8 _ rfl
      have hc9 : wr.cell? ⟨(ad.add (k * 11)).block, (ad.add (k * 11)).off + 9, none⟩ = some (.int .i64 x.sv) := HL0.out 9 _ rfl
      have hc10 : wr.cell? ⟨(ad.add (k * 11)).block, (ad.add (k * 11)).off + 10, none⟩ = some (.string x.lt) := HL0.out 10 _ rfl
      have HC := HP.out wr x (List.mem_of_getElem? Hx.out) HB.out
      have HN := Ix.at_next HK.out Hx.out
      cases hq : p x with
      | true =>
        rw [hq] at HC HN
        replace HN := Lib.hid (HN.trans (if_pos rfl))
        replace HC := Lib.hid HC
        clear hq
        go_wp2_with (go_at_fn g; refine HC.out.mono ?_; rintro e w' ⟨rfl, hb⟩)
        go_ret
        exact ⟨ret_int HN.out.symm, hb⟩
      | false =>
        rw [hq] at HC HN
        replace HN := Lib.hid (HN.trans (if_neg (by decide)))
        replace HC := Lib.hid HC
        clear hq
        go_wp2_with (go_at_fn g; refine HC.out.mono ?_; rintro e w' ⟨rfl, hb⟩)
        go_roundw
        case rel => exact ⟨k + 1, by omega, by go_num, HN.out, hb⟩
        case measure => simp [intOf]; omega
    · have q2 : ¬ (k : Int) < (n : Int) := by omega
      have HE := Lib.hid (Ix.at_end HK.out (by rw [HL.out]; omega))
      go_wp2
      go_ret
      exact ⟨ret_int HE.out.symm, HB.out⟩
set_option maxHeartbeats 400000 in
theorem has_rule (p : Ru.R → Bool) (g : FuncId) (lb : Array Value) (eg : ∀ args w, (callFunc g args).run Tryd.prog w = .ok (.enter g args) w) (A : Option Addr) (n c : Nat) (xs : List Ru.R) (w : World) (hn : n ≤ maxLen) (hl : xs.length = n)
    (hr : Reads w w.heap.size 11 A n (xs.flatMap Ru.R.cells)) (hp : Ix.Tells g lb Ru.R.v p xs w) :
    Calls Tryd.prog 32 #[.slice A n c, .func (.func g) #[] lb] w fun e w' => e = .returned (.bool (xs.any p)) ∧ Below w.heap.size w w' := by
  have h := idx_rule p g lb eg A n c xs w hn hl hr hp
  have hb := Ix.at_bd p xs 0
  rw [← Ix.at_any p xs 0 (by omega)]
  obtain ⟨X, hX⟩ : ∃ X, Ix.at_ p xs 0 = X := ⟨_, rfl⟩
  rw [hX] at h ⊢
  have H := Lib.hid h
  clear h hX hr hp hb
  go_enter Tryd.func32, Tryd.ntmps32
  go_wp2_with fail
  refine H.out.mono ?_
  rintro e w1 ⟨rfl, hb⟩
  have HB := Lib.hid hb
  clear hb
  go_wp2
  go_ret
  exact ⟨rfl, HB.out⟩
namespace Src
/-- A zone with its eras' slice; its cells. -/
def zc (p : (Txt × List Er.E) × Value) : List Value := [.string (bts p.1.1), p.2]
def zv (p : (Txt × List Er.E) × Value) : Value := .agg #[.string (bts p.1.1), p.2]
def lc (p : Txt × Txt) : List Value := [.string (bts p.1), .string (bts p.2)]
def lv (p : Txt × Txt) : Value := .agg #[.string (bts p.1), .string (bts p.2)]
end Src
set_option maxHeartbeats 2000000 in
set_option maxRecDepth 100000 in
theorem idx_zone (p : ((Src.Txt × List Er.E) × Value) → Bool) (g : FuncId) (lb : Array Value) (eg : ∀ args w, (callFunc g args).run Tryd.prog w = .ok (.enter g args) w) (A : Option Addr) (n c : Nat) (xs : List ((Src.Txt × List Er.E) × Value)) (w : World) (hn : n ≤ maxLen) (hl : xs.length = n)
    (hr : Reads w w.heap.size 2 A n (xs.flatMap Src.zc)) (hp : Ix.Tells g lb Src.zv p xs w) :
    Calls Tryd.prog 53 #[.slice A n c, .func (.func g) #[] lb] w fun e w' => e = .returned (.int .i64 (Ix.at_ p xs 0)) ∧ Below w.heap.size w w' := by
  unfold maxLen at hn
  obtain ⟨X, hX⟩ : ∃ X, Ix.at_ p xs 0 = X := ⟨_, rfl⟩
  rw [hX]
  have HX := Lib.hid hX
  have HR := Lib.hid hr
  have HP := Lib.hid hp
  have HL := Lib.hid hl
  clear hX hr hp hl
  go_enter Tryd.func53, Tryd.ntmps53
  go_wp2
  go_loopw [5, 8] (fun _ i wr => ∃ k : Nat, k ≤ n ∧ i = .int .i64 k ∧ Hid (X = Ix.at_ p (xs.drop k) k) ∧ Hid (Below w.heap.size w wr)) (fun _ i _ => n - (intOf i).toNat)
  case atStart => exact ⟨0, Nat.zero_le _, rfl, HX.out.symm, Below.refl _ _⟩
  case round =>
    obtain ⟨k, hk, rfl, HK, HB⟩ := hrel
    by_cases hlt : k < n
    · have q2 : (k : Int) < (n : Int) := by omega
      have q1 : (0 : Int) ≤ (k : Int) := by omega
      obtain ⟨ad, x, rfl, hab, Hx, HL0⟩ := Ix.reads_cells (enc := Src.zc) (m := 2) (fun _ => rfl) HL.out (HR.out.below HB.out) hlt
      have hc0 : wr.cell? (ad.add (k * 2)) = some (.string (Src.bts x.1.1)) := HL0.out 0 _ rfl
      have hc1 : wr.cell? ⟨(ad.add (k * 2)).block, (ad.add (k * 2)).off + 1, none⟩ = some (x.2) := HL0.out 1 _ rfl
      have HC := HP.out wr x (List.mem_of_getElem? Hx.out) HB.out
      have HN := Ix.at_next HK.out Hx.out
      cases hq : p x with
      | true =>
        rw [hq] at HC HN
        replace HN := Lib.hid (HN.trans (if_pos rfl))
        replace HC := Lib.hid HC
        clear hq
        go_wp2_with (go_at_fn g; refine HC.out.mono ?_; rintro e w' ⟨rfl, hb⟩)
        go_ret
        exact ⟨ret_int HN.out.symm, hb⟩
      | false =>
        rw [hq] at HC HN
        replace HN := Lib.hid (HN.trans (if_neg (by decide)))
        replace HC := Lib.hid HC
        clear hq
        go_wp2_with (go_at_fn g; refine HC.out.mono ?_; rintro e w' ⟨rfl, hb⟩)
        go_roundw
        case rel => exact ⟨k + 1, by omega, by go_num, HN.out, hb⟩
        case measure => simp [intOf]; omega
    · have q2 : ¬ (k : Int) < (n : Int) := by omega
      have HE := Lib.hid (Ix.at_end HK.out (by rw [HL.out]; omega))
      go_wp2
      go_ret
      exact ⟨ret_int HE.out.symm, HB.out⟩
set_option maxHeartbeats 400000 in
theorem has_zone (p : ((Src.Txt × List Er.E) × Value) → Bool) (g : FuncId) (lb : Array Value) (eg : ∀ args w, (callFunc g args).run Tryd.prog w = .ok (.enter g args) w) (A : Option Addr) (n c : Nat) (xs : List ((Src.Txt × List Er.E) × Value)) (w : World) (hn : n ≤ maxLen) (hl : xs.length = n)
    (hr : Reads w w.heap.size 2 A n (xs.flatMap Src.zc)) (hp : Ix.Tells g lb Src.zv p xs w) :
    Calls Tryd.prog 33 #[.slice A n c, .func (.func g) #[] lb] w fun e w' => e = .returned (.bool (xs.any p)) ∧ Below w.heap.size w w' := by
  have h := idx_zone p g lb eg A n c xs w hn hl hr hp
  have hb := Ix.at_bd p xs 0
  rw [← Ix.at_any p xs 0 (by omega)]
  obtain ⟨X, hX⟩ : ∃ X, Ix.at_ p xs 0 = X := ⟨_, rfl⟩
  rw [hX] at h ⊢
  have H := Lib.hid h
  clear h hX hr hp hb
  go_enter Tryd.func33, Tryd.ntmps33
  go_wp2_with fail
  refine H.out.mono ?_
  rintro e w1 ⟨rfl, hb⟩
  have HB := Lib.hid hb
  clear hb
  go_wp2
  go_ret
  exact ⟨rfl, HB.out⟩
set_option maxHeartbeats 2000000 in
set_option maxRecDepth 100000 in
theorem idx_link (p : (Src.Txt × Src.Txt) → Bool) (g : FuncId) (lb : Array Value) (eg : ∀ args w, (callFunc g args).run Tryd.prog w = .ok (.enter g args) w) (A : Option Addr) (n c : Nat) (xs : List (Src.Txt × Src.Txt)) (w : World) (hn : n ≤ maxLen) (hl : xs.length = n)
    (hr : Reads w w.heap.size 2 A n (xs.flatMap Src.lc)) (hp : Ix.Tells g lb Src.lv p xs w) :
    Calls Tryd.prog 54 #[.slice A n c, .func (.func g) #[] lb] w fun e w' => e = .returned (.int .i64 (Ix.at_ p xs 0)) ∧ Below w.heap.size w w' := by
  unfold maxLen at hn
  obtain ⟨X, hX⟩ : ∃ X, Ix.at_ p xs 0 = X := ⟨_, rfl⟩
  rw [hX]
  have HX := Lib.hid hX
  have HR := Lib.hid hr
  have HP := Lib.hid hp
  have HL := Lib.hid hl
  clear hX hr hp hl
  go_enter Tryd.func54, Tryd.ntmps54
  go_wp2
  go_loopw [5, 8] (fun _ i wr => ∃ k : Nat, k ≤ n ∧ i = .int .i64 k ∧ Hid (X = Ix.at_ p (xs.drop k) k) ∧ Hid (Below w.heap.size w wr)) (fun _ i _ => n - (intOf i).toNat)
  case atStart => exact ⟨0, Nat.zero_le _, rfl, HX.out.symm, Below.refl _ _⟩
  case round =>
    obtain ⟨k, hk, rfl, HK, HB⟩ := hrel
    by_cases hlt : k < n
    · have q2 : (k : Int) < (n : Int) := by omega
      have q1 : (0 : Int) ≤ (k : Int) := by omega
      obtain ⟨ad, x, rfl, hab, Hx, HL0⟩ := Ix.reads_cells (enc := Src.lc) (m := 2) (fun _ => rfl) HL.out (HR.out.below HB.out) hlt
      have hc0 : wr.cell? (ad.add (k * 2)) = some (.string (Src.bts x.1)) := HL0.out 0 _ rfl
      have hc1 : wr.cell? ⟨(ad.add (k * 2)).block, (ad.add (k * 2)).off + 1, none⟩ = some (.string (Src.bts x.2)) := HL0.out 1 _ rfl
      have HC := HP.out wr x (List.mem_of_getElem? Hx.out) HB.out
      have HN := Ix.at_next HK.out Hx.out
      cases hq : p x with
      | true =>
        rw [hq] at HC HN
        replace HN := Lib.hid (HN.trans (if_pos rfl))
        replace HC := Lib.hid HC
        clear hq
        go_wp2_with (go_at_fn g; refine HC.out.mono ?_; rintro e w' ⟨rfl, hb⟩)
        go_ret
        exact ⟨ret_int HN.out.symm, hb⟩
      | false =>
        rw [hq] at HC HN
        replace HN := Lib.hid (HN.trans (if_neg (by decide)))
        replace HC := Lib.hid HC
        clear hq
        go_wp2_with (go_at_fn g; refine HC.out.mono ?_; rintro e w' ⟨rfl, hb⟩)
        go_roundw
        case rel => exact ⟨k + 1, by omega, by go_num, HN.out, hb⟩
        case measure => simp [intOf]; omega
    · have q2 : ¬ (k : Int) < (n : Int) := by omega
      have HE := Lib.hid (Ix.at_end HK.out (by rw [HL.out]; omega))
      go_wp2
      go_ret
      exact ⟨ret_int HE.out.symm, HB.out⟩
set_option maxHeartbeats 400000 in
theorem has_link (p : (Src.Txt × Src.Txt) → Bool) (g : FuncId) (lb : Array Value) (eg : ∀ args w, (callFunc g args).run Tryd.prog w = .ok (.enter g args) w) (A : Option Addr) (n c : Nat) (xs : List (Src.Txt × Src.Txt)) (w : World) (hn : n ≤ maxLen) (hl : xs.length = n)
    (hr : Reads w w.heap.size 2 A n (xs.flatMap Src.lc)) (hp : Ix.Tells g lb Src.lv p xs w) :
    Calls Tryd.prog 34 #[.slice A n c, .func (.func g) #[] lb] w fun e w' => e = .returned (.bool (xs.any p)) ∧ Below w.heap.size w w' := by
  have h := idx_link p g lb eg A n c xs w hn hl hr hp
  have hb := Ix.at_bd p xs 0
  rw [← Ix.at_any p xs 0 (by omega)]
  obtain ⟨X, hX⟩ : ∃ X, Ix.at_ p xs 0 = X := ⟨_, rfl⟩
  rw [hX] at h ⊢
  have H := Lib.hid h
  clear h hX hr hp hb
  go_enter Tryd.func34, Tryd.ntmps34
  go_wp2_with fail
  refine H.out.mono ?_
  rintro e w1 ⟨rfl, hb⟩
  have HB := Lib.hid hb
  clear hb
  go_wp2
  go_ret
  exact ⟨rfl, HB.out⟩
end Go.Proofs.YtajcgoinhpengaaDoor

/- (*reader).zone in one law; (*reader).link. -/
namespace Go.Proofs.YtajcgoinhpengaaDoor
open Go.RowKit

theorem link_info : (Tryd.prog.info? 48).map (fun i => (i.zero, i.size, i.bytes)) = some (some (.agg #[.string ⟨#[]⟩, .string ⟨#[]⟩]), 2, 32) := by kernel_rfl
/-- A name is wrong. -/
def wrongN (s : ByteArray) : Bool := !Ru.name (tl s)
theorem wrong_ge (f : Src.Txt → Bool) : ∀ (l : List Src.Txt) (i j : Int), Src.wrong f l i = some j → i ≤ j
  | [], i, j, h => by cases h
  | t :: l, i, j, h => by
    unfold Src.wrong at h
    split at h
    · have := wrong_ge f l (i + 1) j h
      omega
    · injection h with h
      omega
theorem at_wrong : ∀ (l : List Src.Txt) (i : Int), Ix.at_ wrongN (l.map Src.bts) i = (Src.wrong Src.own.name l i).getD (-1)
  | [], i => rfl
  | t :: l, i => by
    have hown : Src.own.name t = Ru.name t := rfl
    have hb : wrongN (Src.bts t) = !Ru.name t := by unfold wrongN; rw [show tl (Src.bts t) = t from tl_mk t]
    rw [List.map_cons, Ix.at_, Src.wrong, hb, hown, at_wrong l (i + 1)]
    cases Ru.name t <;> simp
/-- The names of a link, out of its texts: where they lie. -/
theorem link_names {w : World} {B n : Nat} {ad : Addr} {ts : List Src.Txt} (h : Reads w B 1 (some ad) n ((ts.map Src.bts).map Value.string)) (h1 : 2 ≤ n) : Reads w B 1 (some (ad.add 1)) (min n 3 - 1) ((((ts.drop 1).take 2).map Src.bts).map Value.string) := by
  have h2 := reads_from h 1 (by omega)
  have hlen : ts.length = n := by have := h.1; simpa using this
  refine ⟨by simp [hlen]; omega, fun hn => ?_⟩
  obtain ⟨ad', e, hb, hc⟩ := h2.2 (by omega)
  refine ⟨ad', e, hb, fun j u hj => hc j u ?_⟩
  rw [← List.map_drop]
  rw [List.map_take, List.map_take] at hj
  have hj2 : j < 2 := by
    have := (List.getElem?_eq_some_iff.1 hj).1
    simp at this
    omega
  rw [List.getElem?_take_of_lt hj2] at hj
  exact hj
end Go.Proofs.YtajcgoinhpengaaDoor

/- (*reader).link in one law; (*reader).line. -/
namespace Go.Proofs.YtajcgoinhpengaaDoor
open Go.RowKit

theorem Src.last_le {R E : Type} (p : Src.P R E) (Re : E → Prop) (op : Bool) : ∀ zs : List (Src.Txt × List E), Src.ZonesOk p Re op zs → Src.lastEras zs ≤ 64
  | [], _ => by simp [Src.lastEras]
  | [z], h => h.1.2.1
  | z :: y :: l, h => Src.last_le p Re op (y :: l) h.2.2
abbrev Src.Fit (s : Src.S) : Prop := Src.Right Src.own (fun _ => True) (fun _ => True) s
end Go.Proofs.YtajcgoinhpengaaDoor
