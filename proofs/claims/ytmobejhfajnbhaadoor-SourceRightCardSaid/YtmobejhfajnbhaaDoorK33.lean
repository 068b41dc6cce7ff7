/- How a reader lies in memory, what more is read: a rule, a zone, a link, an era. -/
import Derived.Test.YtmobejhfajnbhaaDoorK30
import Derived.Test.YtmobejhfajnbhaaDoorK32
import Derived.Deep.AppendLies
import Derived.Deep.RegionHeldLaw
import Derived.Test.YtmobejhfajnbhaaDoorK24
namespace Go.Proofs.YtmobejhfajnbhaaDoor
open Go.RowKit

section
variable {B : Nat} {w w' : World} {rs : List Row} {r : Row}
theorem Many.drewN (h : Many B w rs) (k : Nat) : Many B (w.drewN k) rs := ⟨fun r hr => h.own r hr, h.apart⟩
/-- The row at the head is written, or has grown into a new block. -/
theorem Many.grow1 {v' : Value} {n' : Nat} {xs' : List Value} (h : Many B w (r :: rs)) (hown : w'.ownsRow B r.e r.size v' n' xs') (hg : w.grownBy w' r.v.ownBlock) (hat : v'.ownBlock = r.v.ownBlock ∨ v'.ownBlock = some w.heap.size) :
    Many B w' (⟨r.e, r.size, v', n', xs'⟩ :: rs) := by
  have ha := List.pairwise_cons.1 h.apart
  have hk : ∀ x ∈ rs, w'.ownsRow B x.e x.size x.v x.n x.xs := fun x hx => (h.own x (List.mem_cons_of_mem _ hx)).kept hg (ha.1 x hx).symm
  refine ⟨fun x hx => ?_, List.pairwise_cons.2 ⟨fun x hx => ?_, ha.2⟩⟩
  · rcases List.mem_cons.1 hx with rfl | hx
    · exact hown
    · exact hk x hx
  · show apartV v' x.v
    rcases hat with e | e
    · unfold apartV; rw [e]; exact ha.1 x hx
    · refine apartV.symm ?_
      unfold apartV
      rw [e]
      cases ex : x.v.ownBlock with
      | none => exact .inl rfl
      | some k =>
        right
        have := ((h.own x (List.mem_cons_of_mem _ hx)).lt k ex).2
        intro z
        have hk : k = w.heap.size := Option.some.inj z
        omega
/-- What is read lies elsewhere than a row that grows. -/
theorem Reads.far {B0 size n : Nat} {ad : Addr} {xs : List Value} {row : Option Nat} (h : Reads w B0 size (some ad) n xs) (hg : w.grownBy w' row) (hl : ad.block < w.heap.size) (hne : row ≠ some ad.block) : Reads w' w'.heap.size size (some ad) n xs := by
  refine ⟨h.1, fun hn => ?_⟩
  obtain ⟨ad', e, hb, hc⟩ := h.2 hn
  injection e with e
  subst e
  exact ⟨ad, rfl, Nat.lt_of_lt_of_le hl hg.size, fun j u hu => (hg.cell_far _ (by rw [block_of_add]; exact hl) (by rw [block_of_add]; exact fun x => hne x.symm)).trans (hc j u hu)⟩
theorem Reads.set_far {B0 size n : Nat} {ad p : Addr} {xs : List Value} (h : Reads w B0 size (some ad) n xs) (hne : ad.block ≠ p.block) (u : Value) : Reads (w.setCell p u) B0 size (some ad) n xs := by
  refine ⟨h.1, fun hn => ?_⟩
  obtain ⟨ad', e, hb, hc⟩ := h.2 hn
  injection e with e
  subst e
  exact ⟨ad, rfl, hb, fun j u hu => (World.cell?_setCell_other _ _ _ _ (fun e => hne (by rw [e, block_of_add]))).trans (hc j u hu)⟩
end
namespace Src
theorem zoneCells_app : ∀ (a b : List (Txt × List Er.E)) (va vb : List Value), va.length = a.length → zoneCells (a ++ b) (va ++ vb) = zoneCells a va ++ zoneCells b vb
  | [], b, [], vb, _ => rfl
  | z :: a, b, v :: va, vb, h => by
    have := zoneCells_app a b va vb (by simpa using h)
    simp only [List.cons_append, zoneCells, this]
theorem eraRows_app : ∀ (a b : List (Txt × List Er.E)) (va vb : List Value), va.length = a.length → eraRows (a ++ b) (va ++ vb) = eraRows a va ++ eraRows b vb
  | [], b, [], vb, _ => rfl
  | z :: a, b, v :: va, vb, h => by
    have := eraRows_app a b va vb (by simpa using h)
    simp only [List.cons_append, eraRows, this]
theorem zoneCells_len : ∀ (a : List (Txt × List Er.E)) (va : List Value), va.length = a.length → (zoneCells a va).length = 2 * a.length
  | [], [], _ => rfl
  | z :: a, v :: va, h => by
    have := zoneCells_len a va (by simpa using h)
    simp only [zoneCells, List.length_cons, this]
    omega
theorem addEra_last (e : Er.E) (zs : List (Txt × List Er.E)) (nm : Txt) (es : List Er.E) : addEra e (zs ++ [(nm, es)]) = zs ++ [(nm, es ++ [e])] := by
  rw [addEra_app _ _ _ (by simp)]
  rfl
theorem lastEras_last (zs : List (Txt × List Er.E)) (nm : Txt) (es : List Er.E) : lastEras (zs ++ [(nm, es)]) = es.length := by
  rw [lastEras_app _ _ (by simp)]
  rfl
section
variable {B : Nat} {w w' w2 : World} {g : Nat} {s : S} {rv rv' zv zv' lv lv' : Value} {evs : List Value}
theorem Held.drewN (h : Held B w g s rv zv lv evs) (k : Nat) : Held B (w.drewN k) g s rv zv lv evs := ⟨h.at_.drew ⟨k, rfl⟩, h.many.drewN k, h.below, h.evs_len⟩
theorem Held.apart_g (h : Held B w g s rv zv lv evs) {r : Row} (hr : r ∈ ruleRow rv s :: zoneRow zv evs s :: linkRow lv s :: eraRows s.zones evs) : ∀ k, r.v.ownBlock = some k → g ≠ k := fun k hk e => by
  have := ((h.many.own _ hr).lt k hk).1
  have := h.below
  omega
theorem Held.apart_era {zs : List (Txt × List Er.E)} {nm : Txt} {es : List Er.E} {evs0 : List Value} {ev : Value} (h : Held B w g s rv zv lv (evs0 ++ [ev])) (hz : s.zones = zs ++ [(nm, es)]) : apartV zv ev := by
  have hl : evs0.length = zs.length := by
    have := h.evs_len
    rw [hz] at this
    simp at this
    omega
  have he : eraRows s.zones (evs0 ++ [ev]) = eraRows zs evs0 ++ [eraRow ev es] := by
    rw [hz, eraRows_app _ _ _ _ hl]
    rfl
  exact (List.pairwise_cons.1 (List.pairwise_cons.1 h.many.apart).2).1 (eraRow ev es) (by simp [he])
theorem Held.own_era {zs : List (Txt × List Er.E)} {nm : Txt} {es : List Er.E} {evs0 : List Value} {ev : Value} (h : Held B w g s rv zv lv (evs0 ++ [ev])) (hz : s.zones = zs ++ [(nm, es)]) : w.ownsRow B 50 13 ev es.length (es.flatMap Er.E.cells) ∧ ∀ k, ev.ownBlock = some k → g ≠ k := by
  have hl : evs0.length = zs.length := by
    have := h.evs_len
    rw [hz] at this
    simp at this
    omega
  have he : eraRows s.zones (evs0 ++ [ev]) = eraRows zs evs0 ++ [eraRow ev es] := by
    rw [hz, eraRows_app _ _ _ _ hl]
    rfl
  have hm : eraRow ev es ∈ ruleRow rv s :: zoneRow zv (evs0 ++ [ev]) s :: linkRow lv s :: eraRows s.zones (evs0 ++ [ev]) := by simp [he]
  exact ⟨h.many.own _ hm, h.apart_g (r := eraRow ev es) hm⟩
/-- A rule more. -/
theorem Held.rule1 (h : Held B w g s rv zv lv evs) (r : Ru.R)
    (hown : w'.ownsRow B 34 11 rv' (s.rules.length + 1) (s.rules.flatMap Ru.R.cells ++ r.cells)) (hg : w.grownBy w' rv.ownBlock) (hat : rv'.ownBlock = rv.ownBlock ∨ rv'.ownBlock = some w.heap.size) :
    Held B (w'.setCell ⟨g, 0, none⟩ rv') g { s with rules := s.rules ++ [r] } rv' zv lv evs := by
  have a1 := (Sc.At.grownO h.at_ hg (h.apart_g (r := ruleRow rv s) List.mem_cons_self)).set 0 rv'
  have m1 := (h.many.grow1 hown hg hat).setBelow (p := ⟨g, 0, none⟩) h.below rv'
  refine ⟨a1, ?_, h.below, h.evs_len⟩
  have e : ruleRow rv' { s with rules := s.rules ++ [r] } = ⟨34, 11, rv', s.rules.length + 1, s.rules.flatMap Ru.R.cells ++ r.cells⟩ := by
    simp [ruleRow]
  rw [e]
  exact m1
/-- A link more. -/
theorem Held.link1 (h : Held B w g s rv zv lv evs) (a b : Txt)
    (hown : w'.ownsRow B 89 2 lv' (s.links.length + 1) ((s.links.flatMap fun k => [.string (bts k.1), .string (bts k.2)]) ++ [.string (bts a), .string (bts b)])) (hg : w.grownBy w' lv.ownBlock) (hat : lv'.ownBlock = lv.ownBlock ∨ lv'.ownBlock = some w.heap.size) :
    Held B (w'.setCell ⟨g, 2, none⟩ lv') g { s with links := s.links ++ [(a, b)] } rv zv lv' evs := by
  have a1 := (Sc.At.grownO h.at_ hg (h.apart_g (r := linkRow lv s) (by simp))).set 2 lv'
  have p1 : (ruleRow rv s :: zoneRow zv evs s :: linkRow lv s :: eraRows s.zones evs).Perm (linkRow lv s :: ruleRow rv s :: zoneRow zv evs s :: eraRows s.zones evs) :=
    ((List.Perm.swap _ _ _).cons _).trans (List.Perm.swap _ _ _)
  have m1 := ((h.many.perm p1).grow1 (r := linkRow lv s) hown hg hat).setBelow (p := ⟨g, 2, none⟩) h.below lv'
  refine ⟨a1, ?_, h.below, h.evs_len⟩
  have e : linkRow lv' { s with links := s.links ++ [(a, b)] } = ⟨89, 2, lv', s.links.length + 1, (s.links.flatMap fun k => [.string (bts k.1), .string (bts k.2)]) ++ [.string (bts a), .string (bts b)]⟩ := by
    simp [linkRow]
  rw [e]
  exact m1.perm ((List.Perm.swap _ _ _).trans ((List.Perm.swap _ _ _).cons _))
/-- A zone more, that has no eras. -/
theorem Held.zone1 (h : Held B w g s rv zv lv evs) (nm : Txt)
    (hown : w'.ownsRow B 37 2 zv' (s.zones.length + 1) (zoneCells s.zones evs ++ [.string (bts nm), .slice none 0 0])) (hg : w.grownBy w' zv.ownBlock) (hat : zv'.ownBlock = zv.ownBlock ∨ zv'.ownBlock = some w.heap.size) :
    Held B (w'.setCell ⟨g, 1, none⟩ zv') g { s with zones := s.zones ++ [(nm, [])] } rv zv' lv (evs ++ [.slice none 0 0]) := by
  have a1 := (Sc.At.grownO h.at_ hg (h.apart_g (r := zoneRow zv evs s) (by simp))).set 1 zv'
  have p1 : (ruleRow rv s :: zoneRow zv evs s :: linkRow lv s :: eraRows s.zones evs).Perm (zoneRow zv evs s :: ruleRow rv s :: linkRow lv s :: eraRows s.zones evs) := List.Perm.swap _ _ _
  have m1 := Many.add0 (((h.many.perm p1).grow1 (r := zoneRow zv evs s) hown hg hat).setBelow (p := ⟨g, 1, none⟩) h.below zv') 50 13
  refine ⟨a1, ?_, h.below, by simp [h.evs_len]⟩
  have e : zoneRow zv' (evs ++ [.slice none 0 0]) { s with zones := s.zones ++ [(nm, [])] } = ⟨37, 2, zv', s.zones.length + 1, zoneCells s.zones evs ++ [.string (bts nm), .slice none 0 0]⟩ := by
    simp [zoneRow, zoneCells_app _ _ _ _ h.evs_len, zoneCells]
  have e2 : eraRows (s.zones ++ [(nm, [])]) (evs ++ [.slice none 0 0]) = eraRows s.zones evs ++ [⟨50, 13, .slice none 0 0, 0, []⟩] := by
    rw [eraRows_app _ _ _ _ h.evs_len]
    rfl
  rw [e, e2]
  refine m1.perm ?_
  refine (List.Perm.cons _ (List.Perm.swap _ _ _)).trans ?_
  refine List.Perm.symm ?_
  exact List.perm_append_singleton _ (ruleRow rv s :: ⟨37, 2, zv', s.zones.length + 1, zoneCells s.zones evs ++ [.string (bts nm), .slice none 0 0]⟩ :: linkRow lv s :: eraRows s.zones evs)
/-- An era more. -/
theorem Held.era1 {zs : List (Txt × List Er.E)} {nm : Txt} {es : List Er.E} {evs0 : List Value} {ev ev' : Value} {zb cap : Nat} (h : Held B w g s rv zv lv evs) (e : Er.E) (hz : s.zones = zs ++ [(nm, es)]) (hv : evs = evs0 ++ [ev])
    (hzv : zv = .slice (some ⟨zb, 0, none⟩) s.zones.length cap)
    (hown : w'.ownsRow B 50 13 ev' (es.length + 1) (es.flatMap Er.E.cells ++ e.cells)) (hg : w.grownBy w' ev.ownBlock) (hat : ev'.ownBlock = ev.ownBlock ∨ ev'.ownBlock = some w.heap.size) :
    Held B ((w'.setCell ⟨zb, 2 * zs.length + 1, none⟩ ev').setCell ⟨g, 3, none⟩ (.bool e.en)) g { s with zones := addEra e s.zones, op := e.en } rv zv lv (evs0 ++ [ev']) := by
  obtain ⟨rules, zones, links, op⟩ := s
  simp only at hz hzv
  subst hz hv
  have hl : evs0.length = zs.length := by
    have := h.evs_len
    simp at this
    omega
  have he : eraRows (zs ++ [(nm, es)]) (evs0 ++ [ev]) = eraRows zs evs0 ++ [eraRow ev es] := by
    rw [eraRows_app _ _ _ _ hl]
    rfl
  have hzne : g ≠ zb := h.apart_g (r := zoneRow zv (evs0 ++ [ev]) ⟨rules, zs ++ [(nm, es)], links, op⟩) (by simp) zb (by subst hzv; rfl)
  have hene := h.apart_g (r := eraRow ev es) (by simp [he])
  have a1 := ((Sc.At.grownO h.at_ hg hene).set_other ⟨zb, 2 * zs.length + 1, none⟩ ev' (fun x => hzne x.symm)).set 3 (.bool e.en)
  have m0 := h.many
  simp only [he] at m0
  obtain ⟨R, hR⟩ : ∃ R, ruleRow rv ⟨rules, zs ++ [(nm, es)], links, op⟩ = R := ⟨_, rfl⟩
  obtain ⟨L, hL⟩ : ∃ L, linkRow lv ⟨rules, zs ++ [(nm, es)], links, op⟩ = L := ⟨_, rfl⟩
  rw [hR, hL] at m0
  have p1 : (R :: zoneRow zv (evs0 ++ [ev]) ⟨rules, zs ++ [(nm, es)], links, op⟩ :: L :: (eraRows zs evs0 ++ [eraRow ev es])).Perm (eraRow ev es :: R :: zoneRow zv (evs0 ++ [ev]) ⟨rules, zs ++ [(nm, es)], links, op⟩ :: L :: eraRows zs evs0) :=
    List.perm_append_singleton (eraRow ev es) (R :: zoneRow zv (evs0 ++ [ev]) ⟨rules, zs ++ [(nm, es)], links, op⟩ :: L :: eraRows zs evs0)
  have m1 := (m0.perm p1).grow1 (r := eraRow ev es) hown hg hat
  have m2 := m1.perm ((List.Perm.cons _ (List.Perm.swap _ _ _)).trans (List.Perm.swap _ _ _))
  unfold zoneRow at m2
  subst hzv
  have m3 := (m2.store (2 * zs.length + 1) ev').setBelow (p := ⟨g, 3, none⟩) h.below (.bool e.en)
  refine ⟨a1, ?_, h.below, by simp [hl, addEra_last]⟩
  have e1 : zoneRow (.slice (some ⟨zb, 0, none⟩) (zs ++ [(nm, es)]).length cap) (evs0 ++ [ev']) ⟨rules, addEra e (zs ++ [(nm, es)]), links, e.en⟩ = ⟨37, 2, .slice (some ⟨zb, 0, none⟩) (zs ++ [(nm, es)]).length cap, (zs ++ [(nm, es)]).length, (zoneCells (zs ++ [(nm, es)]) (evs0 ++ [ev])).set (2 * zs.length + 1) ev'⟩ := by
    unfold zoneRow
    rw [addEra_last, zoneCells_app _ _ _ _ hl, zoneCells_app _ _ _ _ hl]
    have : 2 * zs.length + 1 = (zoneCells zs evs0).length + 1 := by rw [zoneCells_len _ _ hl]
    rw [this, List.set_append_right _ _ (by omega)]
    simp [zoneCells]
  have e2 : eraRows (addEra e (zs ++ [(nm, es)])) (evs0 ++ [ev']) = eraRows zs evs0 ++ [⟨50, 13, ev', es.length + 1, es.flatMap Er.E.cells ++ e.cells⟩] := by
    rw [addEra_last, eraRows_app _ _ _ _ hl]
    simp [eraRows, eraRow]
  have e3 : ruleRow rv ⟨rules, addEra e (zs ++ [(nm, es)]), links, e.en⟩ = R := by rw [← hR]; rfl
  have e4 : linkRow lv ⟨rules, addEra e (zs ++ [(nm, es)]), links, e.en⟩ = L := by rw [← hL]; rfl
  show Many B _ (_ :: _ :: _ :: _)
  rw [e1, e2, e3, e4]
  refine m3.perm ?_
  refine (List.Perm.swap _ _ _).trans ?_
  refine (List.Perm.cons _ (List.Perm.swap _ _ _)).trans ?_
  exact (List.perm_append_singleton _ (R :: _ :: L :: eraRows zs evs0)).symm
end
end Src
end Go.Proofs.YtmobejhfajnbhaaDoor
/- (*reader).rule: the way that reads. -/
namespace Go.Proofs.YtmobejhfajnbhaaDoor
open Go.RowKit

theorem rule_info : (Tryd.prog.info? 34).map (fun i => (i.zero, i.size, i.bytes)) = some (some (.agg #[.string ⟨#[]⟩, .int .i64 0, .int .i64 0, .int .i64 0, .int .u8 0, .int .i64 0, .int .i64 0, .int .i64 0, .int .u8 0, .int .i64 0, .string ⟨#[]⟩]), 11, 104) := by kernel_rfl
theorem le_alloc_drew (W : World) (o : Obj) (k : Nat) : W.heap.size ≤ ((W.alloc o).drewN k).heap.size := by
  show W.heap.size ≤ (W.alloc o).heap.size
  rw [World.size_alloc]
  omega
theorem cells_new (w : World) (cs : Array Value) (t : TypeId) : ∀ j u, cs.toList[j]? = some u → (w.alloc (.cells cs t)).cell? ((⟨w.heap.size, 0, none⟩ : Addr).add j) = some u := fun j u hu => by
  have hadd : (⟨w.heap.size, 0, none⟩ : Addr).add j = ⟨w.heap.size, j, none⟩ := by unfold Addr.add; split <;> simp_all
  rw [hadd]
  exact (At.new w cs t).cell j u hu
set_option maxHeartbeats 800000 in
set_option maxRecDepth 100000 in
theorem rdRule_ok (B g : Nat) (s : Src.S) (ad : Addr) (n c : Nat) (ss : List ByteArray) (R : Nat) (rA : Option Addr) (zv lv : Value) (evs : List Value) (w : World) (hW : Wp w) (hn : n ≤ c) (hc : c ≤ maxLen) (h1 : 2 ≤ n)
    (hr : Reads w w.heap.size 1 (some ad) n (ss.map Value.string)) (hs : ∀ t ∈ ss, t.size ≤ 1000000) (hBw : B ≤ w.heap.size)
    (L : Nat) (hL : s.rules.length = L) (H : Src.Held B w g s (.slice rA L R) zv lv evs) (hl : L < 4096) (P : Ru.R × Int × Int) (hP : Ru.parse (ss.drop 1) = P) (hP2 : P.2.2 = 0) :
    Calls Tryd.prog 94 #[.pointer (some ⟨g, 0, none⟩), .slice (some ad) n c] w (Src.Post B g zv w (.ok { s with rules := s.rules ++ [P.1] })) := by
  unfold maxLen at hc
  obtain ⟨⟨nm, fr, tt, mo, k, nn, d, sc, cc, sv, lt⟩, pl, wy⟩ := P
  simp only at hP2
  subst hP2
  have h0 := Lib.hid (H.at_.cell 0 _ rfl)
  have hc0 : w.cell? ⟨g, 0, none⟩ = some (.slice rA L R) := h0.out
  have hlt := H.at_.lt
  have HH := Lib.hid H
  have HL := Lib.hid hL
  have e1 : ((L : Int) == 4096) = false := by rw [beq_eq_false_iff_ne]; omega
  have HW := Lib.hid hW
  have HR := Lib.hid (reads_from hr 1 (by omega))
  obtain ⟨i0, i1, i2, i3, i4⟩ := info_parts rule_info
  have HI := Lib.hid (And.intro i1 (And.intro i2 (And.intro i3 i4)))
  clear hL hW hr i1 i2 i3 i4 H
  go_enter Tryd.func94, Tryd.ntmps94
  go_wp2_with fail
  refine (ruParse_any (some (ad.add 1)) (n - 1) (c - 1) (ss.drop 1) _ HW.out (by omega) (by unfold maxLen; omega) HR.out (fun t ht => hs t (List.mem_of_mem_drop ht))).mono ?_
  rintro e w2 ⟨rfl, hD⟩
  rw [hP]
  have HD := Lib.hid hD
  have HH2 := Lib.hid ((HH.out.call hD).allocO (.cells #[.string nm, .int .i64 fr, .int .i64 tt, .int .i64 mo, .int .u8 k, .int .i64 nn, .int .i64 d, .int .i64 sc, .int .u8 cc, .int .i64 sv, .string lt] 34))
  have HA := Lib.hid (At.new w2 #[.string nm, .int .i64 fr, .int .i64 tt, .int .i64 mo, .int .u8 k, .int .i64 nn, .int .i64 d, .int .i64 sc, .int .u8 cc, .int .i64 sv, .string lt] 34)
  have HB2 := Lib.hid ((HD.out.mono (Nat.le_of_lt hlt) : Below g w w2).alloc (Nat.le_trans (Nat.le_of_lt hlt) HD.out.size) (.cells #[.string nm, .int .i64 fr, .int .i64 tt, .int .i64 mo, .int .u8 k, .int .i64 nn, .int .i64 d, .int .i64 sc, .int .u8 cc, .int .i64 sv, .string lt] 34))
  have hgw2 : g < w2.heap.size := Nat.lt_of_lt_of_le hlt hD.size
  have hBs := hD.size
  have hc2 : w2.cell? ⟨g, 0, none⟩ = some (.slice rA L R) := (HH.out.call hD).at_.cell 0 _ rfl
  clear hD hP h0 hc0
  simp only [Ru.R.v]
  go_wp2_with fail
  clear hc2
  obtain ⟨W, hWW⟩ : ∃ W, w2.alloc (.cells #[.string nm, .int .i64 fr, .int .i64 tt, .int .i64 mo, .int .u8 k, .int .i64 nn, .int .i64 d, .int .i64 sc, .int .u8 cc, .int .i64 sv, .string lt] 34) = W := ⟨_, rfl⟩
  have hWs : w2.heap.size < W.heap.size := by rw [← hWW]; simp
  rw [hWW] at HH2 HA HB2 ⊢
  obtain ⟨h6, hh6⟩ : ∃ h, w2.heap.size = h := ⟨_, rfl⟩
  rw [hh6] at HA hWs hgw2 hBs ⊢
  have a0 := HA.out.cell 0 _ rfl
  have a1 := HA.out.cell 1 _ rfl
  have a2 := HA.out.cell 2 _ rfl
  have a3 := HA.out.cell 3 _ rfl
  have a4 := HA.out.cell 4 _ rfl
  have a5 := HA.out.cell 5 _ rfl
  have a6 := HA.out.cell 6 _ rfl
  have a7 := HA.out.cell 7 _ rfl
  have a8 := HA.out.cell 8 _ rfl
  have a9 := HA.out.cell 9 _ rfl
  have a10 := HA.out.cell 10 _ rfl
  have c0 : W.cell? ⟨g, 0, none⟩ = some (.slice rA L R) := HH2.out.at_.cell 0 _ rfl
  have hgW : g < W.heap.size := by omega
  have HH3 := Lib.hid ((HH2.out.allocO (.cells #[.string nm, .int .i64 fr, .int .i64 tt, .int .i64 mo, .int .u8 k, .int .i64 nn, .int .i64 d, .int .i64 sc, .int .u8 cc, .int .i64 sv, .string lt] 34)).drewN 1)
  have HO : Hid (((W.alloc (.cells #[.string nm, .int .i64 fr, .int .i64 tt, .int .i64 mo, .int .u8 k, .int .i64 nn, .int .i64 d, .int .i64 sc, .int .u8 cc, .int .i64 sv, .string lt] 34)).drewN 1).ownsRow B 34 11 (.slice rA L R) L (s.rules.flatMap Ru.R.cells)) := by
    have := HH3.out.many.own (Src.ruleRow (.slice rA L R) s) List.mem_cons_self
    show World.ownsRow _ _ _ _ _ _ _
    have e : (Src.ruleRow (.slice rA L R) s).n = L := HL.out
    rw [e] at this
    exact this
  have HA3 : Hid (At ((W.alloc (.cells #[.string nm, .int .i64 fr, .int .i64 tt, .int .i64 mo, .int .u8 k, .int .i64 nn, .int .i64 d, .int .i64 sc, .int .u8 cc, .int .i64 sv, .string lt] 34)).drewN 1) g [.slice rA L R, zv, lv, .bool s.op]) := by
    exact HH3.out.at_
  have HN := Lib.hid (cells_new W #[.string nm, .int .i64 fr, .int .i64 tt, .int .i64 mo, .int .u8 k, .int .i64 nn, .int .i64 d, .int .i64 sc, .int .u8 cc, .int .i64 sv, .string lt] 34)
  have hap : Hid (∀ kk, (Value.slice rA L R).ownBlock = some kk → g ≠ kk) := by
    exact HH3.out.apart_g (r := Src.ruleRow (.slice rA L R) s) List.mem_cons_self
  go_region_law ((refine step_append_lies _ (by rfl) (.tmp 33) (.tmp 35) 22 (by rfl) B 34 i0 _ 11 104 Tryd.underlying22 HI.out.1 HI.out.2.1 HI.out.2.2.1 HI.out.2.2.2 (by rfl) (by decide) _ L _ (by rfl) HO.out _ 1 1 _ (by rfl) (by rfl) HN.out (by simp [Value.oneCell']) (by decide) (by unfold maxLen; omega) (by omega) (by simp; omega) _ rfl ?_; intro g9 cp9 w9 hown9 hg9 hat9 hlt9; have c9 : w9.cell? ⟨g, 0, none⟩ = some (.slice rA L R) := (Sc.At.grownO HA3.out hg9 hap.out).cell 0 _ rfl; have f9 : w9.frozen? ⟨g, 0, none⟩ = false := (Sc.At.grownO HA3.out hg9 hap.out).free 0 _ rfl))
  all_goals (have HF := Lib.hid hown9; have HG := Lib.hid hg9; have HT := Lib.hid hat9; clear hown9 hg9 hat9 c9 f9)
  all_goals go_wp2
  all_goals go_ret2
  all_goals
    refine ⟨rfl, ?_, .slice (some ⟨g9, 0, none⟩) (L + 1) cp9, zv, lv, evs, ?_⟩
    · refine Below.setCell (Below.grown (below_drewN (HB2.out.alloc (Nat.le_of_lt hgW) _) 1) HG.out (Nat.le_trans (Nat.le_of_lt hgW) (le_alloc_drew _ _ _)) (fun kk hk => ?_)) (Nat.le_refl _) _
      have h1 := (HO.out.lt kk hk).1
      have h2 := HH3.out.below
      omega
    · have hF := HF.out
      have hlen := HL.out
      refine HH3.out.rule1 ⟨nm, fr, tt, mo, k, nn, d, sc, cc, sv, lt⟩ ?_ HG.out ?_
      · rw [hlen]
        exact hF
      · rcases HT.out with h | h
        · exact .inl h.symm
        · exact .inr (congrArg some h)
end Go.Proofs.YtmobejhfajnbhaaDoor
/- (*reader).rule: all its ways. -/
namespace Go.Proofs.YtmobejhfajnbhaaDoor
open Go.RowKit

theorem ru_parse_nil : Ru.parse [] = (Ru.R.zero, 0, 5) := by rfl
set_option maxHeartbeats 400000 in
set_option maxRecDepth 100000 in
theorem rdRule_one (B g : Nat) (s : Src.S) (ad : Addr) (c : Nat) (L R : Nat) (rA : Option Addr) (zv lv : Value) (evs : List Value) (w : World) (hW : Wp w) (hn : 1 ≤ c) (hc : c ≤ maxLen)
    (H : Src.Held B w g s (.slice rA L R) zv lv evs) (hl : L ≠ 4096) :
    Calls Tryd.prog 94 #[.pointer (some ⟨g, 0, none⟩), .slice (some ad) 1 c] w (Src.Post B g zv w (.bad 1 5)) := by
  unfold maxLen at hc
  have h0 := Lib.hid (H.at_.cell 0 _ rfl)
  have hc0 : w.cell? ⟨g, 0, none⟩ = some (.slice rA L R) := h0.out
  have hlt := H.at_.lt
  have e1 : ((L : Int) == 4096) = false := by rw [beq_eq_false_iff_ne]; omega
  have HW := Lib.hid hW
  have q1 : (1 : Int) ≤ (c : Int) := by omega
  go_enter Tryd.func94, Tryd.ntmps94
  go_wp2_with fail
  all_goals
    refine (ruParse_any _ 0 _ [] _ HW.out (by omega) (by unfold maxLen; omega) ⟨by simp, fun h => absurd h (by omega)⟩ (fun t ht => by cases ht)).mono ?_
    rintro e w2 ⟨rfl, HD⟩
    rw [ru_parse_nil]
    replace HD := Lib.hid HD
    simp only [Ru.R.v]
    go_wp2_with fail
    go_ret2
    exact ⟨rfl, Src.kept_of (HD.out.alloc HD.out.size _) (Nat.le_of_lt hlt)⟩
theorem Src.map_bts_drop (ts : List Src.Txt) (k : Nat) : (ts.map Src.bts).drop k = (ts.drop k).map Src.bts := by rw [List.map_drop]
theorem own_len {w : World} {base : Nat} {e : TypeId} {size n : Nat} {v : Value} {xs : List Value} (h : w.ownsRow base e size v n xs) : ∃ A c, v = .slice A n c ∧ n ≤ c ∧ c ≤ maxLen := own_slice_cap h
/-- (*reader).rule. -/
theorem rdRule_any (B g : Nat) (s : Src.S) (ad : Addr) (n c : Nat) (ts : List Src.Txt) (rv zv lv : Value) (evs : List Value) (w : World) (hW : Wp w) (hn : n ≤ c) (hc : c ≤ maxLen) (h1 : 1 ≤ n)
    (hr : Reads w w.heap.size 1 (some ad) n ((ts.map Src.bts).map Value.string)) (hs : ∀ t ∈ ts, t.length ≤ 1000000) (hBw : B ≤ w.heap.size)
    (H : Src.Held B w g s rv zv lv evs) (hl : s.rules.length ≤ 4096) :
    Calls Tryd.prog 94 #[.pointer (some ⟨g, 0, none⟩), .slice (some ad) n c] w (Src.Post B g zv w (Src.ruleStep Src.own s ts)) := by
  have hlen : ts.length = n := by have := hr.1; simpa using this
  have hs' : ∀ t ∈ ts.map Src.bts, t.size ≤ 1000000 := by
    intro t ht
    rw [List.mem_map] at ht
    obtain ⟨x, hx, rfl⟩ := ht
    exact hs x hx
  obtain ⟨rA, R, e, _, _⟩ := own_slice_cap (show w.ownsRow B 34 11 rv s.rules.length (s.rules.flatMap Ru.R.cells) from H.many.own (Src.ruleRow rv s) List.mem_cons_self)
  subst e
  have H' : Src.Held B w g s (.slice rA s.rules.length R) zv lv evs := H
  unfold Src.ruleStep
  by_cases h4 : s.rules.length = 4096
  · rw [if_pos h4]
    exact rdRule_full B g s (some ad) n c R rA zv lv evs w H' h4
  rw [if_neg h4]
  have hown : ∀ l, Src.own.rule l = Ru.parse (l.map Src.bts) := fun _ => rfl
  rw [hown, ← Src.map_bts_drop]
  by_cases hn1 : n = 1
  · subst hn1
    have e0 : (ts.map Src.bts).drop 1 = [] := List.drop_eq_nil_of_le (by simp; omega)
    rw [e0, ru_parse_nil, if_neg (by decide)]
    exact rdRule_one B g s ad c _ R rA zv lv evs w hW hn hc H' h4
  by_cases hP2 : (Ru.parse ((ts.map Src.bts).drop 1)).2.2 = 0
  · rw [if_pos hP2]
    exact rdRule_ok B g s ad n c _ R rA zv lv evs w hW hn hc (by omega) hr hs' hBw _ rfl H' (by omega) _ rfl hP2
  · rw [if_neg hP2]
    have hb := Ru.parse_ok ((ts.map Src.bts).drop 1)
    exact rdRule_bad B g s ad n c _ R rA zv lv evs w hW hn hc (by omega) hr hs' H' h4 _ rfl (by rcases hb with h | h; exact absurd h.1 hP2; exact ⟨h.2.2.1, h.2.2.2.2⟩) hP2
end Go.Proofs.YtmobejhfajnbhaaDoor
