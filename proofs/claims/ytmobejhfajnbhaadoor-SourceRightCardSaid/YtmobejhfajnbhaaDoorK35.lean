/- (*reader).era in one law; (*reader).zone. -/
import Derived.Test.YtmobejhfajnbhaaDoorK34
import Derived.Test.YtmobejhfajnbhaaDoorK25
namespace Go.Proofs.YtmobejhfajnbhaaDoor
open Go.RowKit

/-- The tables lie below the block g. -/
def Low (g : Nat) : Prop := 1 < g ∧ 3 < g ∧ 2 < g
theorem Wq.low_of {w : World} (h : Wq w) : Low w.heap.size := by
  obtain ⟨m, hm⟩ := h.p.maxl
  exact ⟨block_lt_of_cell h.p.p0, block_lt_of_cell hm, block_lt_of_cell h.a.a0⟩
theorem Low.more {g g' : Nat} (h : Low g) (hg : g ≤ g') : Low g' := ⟨Nat.lt_of_lt_of_le h.1 hg, Nat.lt_of_lt_of_le h.2.1 hg, Nat.lt_of_lt_of_le h.2.2 hg⟩
theorem Wq.low {g : Nat} {w w' : World} (h : Wq w) (hl : Low g) (hb : Below g w w') : Wq w' := by
  obtain ⟨m, hm⟩ := h.p.maxl
  have hm' : w'.cell? ⟨3, 0, none⟩ = some (.int .i64 m) := (hb.cell (p := ⟨_, 0, none⟩) hl.2.1).trans hm
  exact ⟨⟨(hb.cell (p := ⟨_, 0, none⟩) hl.1).trans h.p.p0, (hb.cell (p := ⟨_, 1, none⟩) hl.1).trans h.p.p1, (hb.cell (p := ⟨_, 2, none⟩) hl.1).trans h.p.p2, ⟨m, hm'⟩⟩,
    ⟨(hb.cell (p := ⟨_, 0, none⟩) hl.2.2).trans h.a.a0, (hb.cell (p := ⟨_, 1, none⟩) hl.2.2).trans h.a.a1, ⟨m, hm'⟩⟩⟩
namespace Src
theorem Post.after {B g : Nat} {zv zv1 : Value} {w w1 w' : World} {o : Out S} {e : Ending} (h : Post B g zv1 w1 o e w') (hb : Below g w w1) (hk : Kept g zv w w1) (hs : w.heap.size ≤ w1.heap.size) (hz : ∀ k, k < w.heap.size → zv1.ownBlock = some k → zv.ownBlock = some k) : Post B g zv w o e w' := by
  cases o with
  | ok s => exact ⟨h.1, hb.trans h.2.1, h.2.2⟩
  | bad p y => exact ⟨h.1, hb.trans h.2.1, fun k hl hn hv => (h.2.2 k (Nat.lt_of_lt_of_le hl hs) hn (fun e => hv (hz k hl e))).trans (hk k hl hn hv)⟩
theorem Post.after0 {B g : Nat} {zv : Value} {w w1 w' : World} {o : Out S} {e : Ending} (h : Post B g zv w1 o e w') (hb : Below w.heap.size w w1) (hg : g ≤ w.heap.size) : Post B g zv w o e w' :=
  h.after (hb.mono hg) (kept_of hb hg).2 hb.size (fun _ _ e => e)
theorem last_of {α : Type} {l : List α} (h : l ≠ []) : ∃ a z, l = a ++ [z] := ⟨l.dropLast, l.getLast h, (List.dropLast_concat_getLast h).symm⟩
theorem small_bts {ts : List Txt} (hs : ∀ t ∈ ts, t.length ≤ 1000000) : ∀ t ∈ ts.map bts, t.size ≤ 1000000 := by
  intro t ht
  rw [List.mem_map] at ht
  obtain ⟨x, hx, rfl⟩ := ht
  exact hs x hx
end Src
/-- (*reader).era. -/
theorem rdEra_any (B g : Nat) (s : Src.S) (ad : Addr) (n c fr : Nat) (ts : List Src.Txt) (rv zv lv : Value) (evs : List Value) (w : World) (hW : Wq w) (hn : n ≤ c) (hc : c ≤ maxLen) (hfr : fr ≤ n) (hn6 : n ≤ 1048576)
    (hr : Reads w w.heap.size 1 (some ad) n ((ts.map Src.bts).map Value.string)) (hs : ∀ t ∈ ts, t.length ≤ 1000000) (hBw : B ≤ w.heap.size)
    (H : Src.Held B w g s rv zv lv evs) (hz : s.zones ≠ []) (hl : Src.lastEras s.zones < 64) (hzl : s.zones.length ≤ 1024) :
    Calls Tryd.prog 92 #[.pointer (some ⟨g, 0, none⟩), .slice (some ad) n c, .int .i64 fr] w (Src.Post B g zv w (Src.eraStep Src.own s ts fr)) := by
  have hlen : ts.length = n := by have := hr.1; simpa using this
  have hs' := Src.small_bts hs
  have hg := Nat.le_of_lt H.at_.lt
  unfold Src.eraStep
  have hown : ∀ l, Src.own.era l = Er.parse (l.map Src.bts) := fun _ => rfl
  rw [hown, ← Src.map_bts_drop]
  by_cases hfn : fr = n
  · subst hfn
    have e0 : (ts.map Src.bts).drop fr = [] := List.drop_eq_nil_of_le (by simp; omega)
    rw [e0, er_parse_nil, if_neg (by decide)]
    have := rdEra_none B g zv ad fr c w hW.p hW.a hn hc hg
    rw [show (fr : Int) + (Er.E.zero, (0 : Int), (5 : Int)).2.1 = (fr : Int) by simp]
    exact this
  have hb := Er.parse_ok ((ts.map Src.bts).drop fr)
  by_cases hP2 : (Er.parse ((ts.map Src.bts).drop fr)).2.2 = 0
  · rw [if_pos hP2]
    obtain ⟨zs, ⟨nm, es⟩, hzs⟩ := Src.last_of hz
    have hev : evs ≠ [] := by
      intro e
      have := H.evs_len
      rw [e, hzs] at this
      simp at this
    obtain ⟨evs0, ev, hevs⟩ := Src.last_of hev
    subst hevs
    obtain ⟨zb, zc, e, _, _⟩ := World.ownsRow.form (show w.ownsRow B 37 2 zv s.zones.length (Src.zoneCells s.zones (evs0 ++ [ev])) from H.many.own (Src.zoneRow zv (evs0 ++ [ev]) s) (by simp)) (by rw [hzs]; simp)
    subst e
    obtain ⟨eA, eR, e, _, _⟩ := own_slice_cap (H.own_era hzs).1
    subst e
    rw [hzs, Src.lastEras_last] at hl
    have hzn : s.zones.length = zs.length + 1 := by rw [hzs]; simp
    rw [hzn] at H hzl
    exact rdEra_ok B g s ad n c fr _ w hW.p hW.a hn hc (by omega) hr hs' hBw zs nm es evs0 rv lv zb zc _ _ eR eA hzs rfl rfl H hl (by omega) _ rfl hP2
  · rw [if_neg hP2]
    exact rdEra_bad B g zv ad n c fr _ w hW.p hW.a hn hc (by omega) hn6 hr hs' hg _ rfl (by rcases hb with h | h; exact absurd h.1 hP2; exact ⟨h.2.2.1, by have := h.2.2.2; simp at this; omega⟩) hP2
theorem heap_set_far (w : World) (p : Addr) (v : Value) (k : Nat) (h : k ≠ p.block) : (w.setCell p v).heap[k]? = w.heap[k]? := by
  simp [World.setCell, Array.getElem?_modify, Ne.symm h]
theorem heap_alloc_far (w : World) (o : Obj) (k : Nat) (h : k < w.heap.size) : (w.alloc o).heap[k]? = w.heap[k]? := by
  show (w.heap.push o)[k]? = _
  rw [Array.getElem?_push_lt h, Array.getElem?_eq_getElem h]
theorem zone_info : (Tryd.prog.info? 37).map (fun i => (i.zero, i.size, i.bytes)) = some (some (.agg #[.string ⟨#[]⟩, .slice none 0 0]), 2, 40) := by kernel_rfl
set_option maxHeartbeats 400000 in
set_option maxRecDepth 100000 in
theorem rdZone_full (B g : Nat) (s : Src.S) (A : Option Addr) (n c : Nat) (Z zc : Nat) (zA : Option Addr) (rv lv : Value) (evs : List Value) (w : World)
    (H : Src.Held B w g s rv (.slice zA Z zc) lv evs) (hl : Z = 1024) :
    Calls Tryd.prog 95 #[.pointer (some ⟨g, 0, none⟩), .slice A n c] w (Src.Post B g (.slice zA Z zc) w (.bad 0 6)) := by
  have h0 := Lib.hid (H.at_.cell 1 _ rfl)
  have hc0 : w.cell? ⟨g, 1, none⟩ = some (.slice zA Z zc) := h0.out
  have hlt := H.at_.lt
  subst hl
  go_enter Tryd.func95, Tryd.ntmps95
  go_wp2
  go_ret2
  exact ⟨rfl, Src.kept_of (Below.refl _ _) (Nat.le_of_lt hlt)⟩
set_option maxHeartbeats 400000 in
set_option maxRecDepth 100000 in
theorem rdZone_short (B g : Nat) (s : Src.S) (A : Option Addr) (n c : Nat) (Z zc : Nat) (zA : Option Addr) (rv lv : Value) (evs : List Value) (w : World)
    (H : Src.Held B w g s rv (.slice zA Z zc) lv evs) (hl : Z ≠ 1024) (hn : n < 2) :
    Calls Tryd.prog 95 #[.pointer (some ⟨g, 0, none⟩), .slice A n c] w (Src.Post B g (.slice zA Z zc) w (.bad 1 5)) := by
  have h0 := Lib.hid (H.at_.cell 1 _ rfl)
  have hc0 : w.cell? ⟨g, 1, none⟩ = some (.slice zA Z zc) := h0.out
  have hlt := H.at_.lt
  have e1 : ((Z : Int) == 1024) = false := by rw [beq_eq_false_iff_ne]; omega
  have q1 : (n : Int) < 2 := by omega
  go_enter Tryd.func95, Tryd.ntmps95
  go_wp2
  go_ret2
  exact ⟨rfl, Src.kept_of (Below.refl _ _) (Nat.le_of_lt hlt)⟩
set_option maxHeartbeats 400000 in
set_option maxRecDepth 100000 in
theorem rdZone_name (B g : Nat) (s : Src.S) (ad : Addr) (n c : Nat) (nm : ByteArray) (Z zc : Nat) (zA : Option Addr) (rv lv : Value) (evs : List Value) (w : World)
    (H : Src.Held B w g s rv (.slice zA Z zc) lv evs) (hl : Z ≠ 1024) (hn : 2 ≤ n) (hnm : w.cell? (ad.add 1) = some (.string nm)) (hsz : nm.size ≤ 1000000) (hN : Ru.name (tl nm) = false) :
    Calls Tryd.prog 95 #[.pointer (some ⟨g, 0, none⟩), .slice (some ad) n c] w (Src.Post B g (.slice zA Z zc) w (.bad 1 7)) := by
  have h0 := Lib.hid (H.at_.cell 1 _ rfl)
  have hc0 : w.cell? ⟨g, 1, none⟩ = some (.slice zA Z zc) := h0.out
  have hc1 : w.cell? ⟨ad.block, ad.off + 1, none⟩ = some (.string nm) := hnm
  have hlt := H.at_.lt
  have hlt' := Nat.le_of_lt hlt
  have e1 : ((Z : Int) == 1024) = false := by rw [beq_eq_false_iff_ne]; omega
  have q1 : ¬ (n : Int) < 2 := by omega
  have q2 : (1 : Int) < (n : Int) := by omega
  have HC := Lib.hid (calls_bool (name_any nm w hsz) hN)
  go_enter Tryd.func95, Tryd.ntmps95
  go_wp2_with fail
  refine HC.out.mono ?_
  rintro e w1 ⟨rfl, HD⟩
  replace HD := Lib.hid HD
  go_wp2
  go_ret2
  exact ⟨rfl, Src.kept_of HD.out hlt'⟩
set_option maxHeartbeats 2000000 in
set_option maxRecDepth 100000 in
theorem rdZone_ok (B g : Nat) (s : Src.S) (ad : Addr) (n c : Nat) (ts : List Src.Txt) (t : Src.Txt) (Z zc : Nat) (zA : Option Addr) (rv lv : Value) (evs : List Value) (w : World) (hW : Wq w) (hn : n ≤ c) (hc : c ≤ maxLen) (hn2 : 2 ≤ n) (hn6 : n ≤ 1048576)
    (hr : Reads w w.heap.size 1 (some ad) n ((ts.map Src.bts).map Value.string)) (hs : ∀ t ∈ ts, t.length ≤ 1000000) (hBw : B ≤ w.heap.size) (hLo : Low g) (hBa : B ≤ ad.block) (hap : (Value.slice zA Z zc).ownBlock ≠ some ad.block)
    (hZ : s.zones.length = Z) (H : Src.Held B w g s rv (.slice zA Z zc) lv evs) (hl : Z < 1024) (hnt : ts[1]? = some t) (hN : Ru.name t = true) :
    Calls Tryd.prog 95 #[.pointer (some ⟨g, 0, none⟩), .slice (some ad) n c] w (Src.Post B g (.slice zA Z zc) w (Src.eraStep Src.own { s with zones := s.zones ++ [(t, [])] } ts 2)) := by
  obtain ⟨o, ho⟩ : ∃ o, Src.eraStep Src.own { s with zones := s.zones ++ [(t, [])] } ts 2 = o := ⟨_, rfl⟩
  rw [ho]
  have HOo := Lib.hid ho
  have hlt := H.at_.lt
  obtain ⟨ad', e, hadb, hcells⟩ := hr.2 (by omega)
  injection e with e
  subst e
  obtain ⟨nm, hnm⟩ : ∃ nm, Src.bts t = nm := ⟨_, rfl⟩
  have hc1 : w.cell? ⟨ad.block, ad.off + 1, none⟩ = some (.string nm) := by
    rw [← hnm]
    exact hcells 1 _ (by simp [hnt])
  have hsz : nm.size ≤ 1000000 := by rw [← hnm]; exact hs t (List.mem_of_getElem? hnt)
  have hN' : Ru.name (tl nm) = true := by rw [← hnm, show tl (Src.bts t) = t from tl_mk t]; exact hN
  have HC := Lib.hid (calls_bool (name_any nm w hsz) hN')
  have HNM := Lib.hid hnm
  have HCC := Lib.hid hcells
  unfold maxLen at hc
  have hc0 : w.cell? ⟨g, 1, none⟩ = some (.slice zA Z zc) := H.at_.cell 1 _ rfl
  have HH := Lib.hid H
  have HZ := Lib.hid hZ
  have HW := Lib.hid hW
  have HR := Lib.hid hr
  have HS := Lib.hid hs
  have HAPP := Lib.hid hap
  have e1 : ((Z : Int) == 1024) = false := by rw [beq_eq_false_iff_ne]; omega
  have q1 : ¬ (n : Int) < 2 := by omega
  have q2 : (1 : Int) < (n : Int) := by omega
  obtain ⟨i0, i1, i2, i3, i4⟩ := info_parts zone_info
  have HI := Lib.hid (And.intro i1 (And.intro i2 (And.intro i3 i4)))
  clear ho hW hr i1 i2 i3 i4 H hZ hs hap hcells hnm hnt hN hN' hsz
  go_enter Tryd.func95, Tryd.ntmps95
  go_wp2_with fail
  refine HC.out.mono ?_
  rintro e W ⟨rfl, hD⟩
  have HD := Lib.hid hD
  have HH2 := Lib.hid (HH.out.call hD)
  have hhs : w.heap.size ≤ W.heap.size := hD.size
  have c0 : W.cell? ⟨g, 1, none⟩ = some (.slice zA Z zc) := HH2.out.at_.cell 1 _ rfl
  have c1 : W.cell? ⟨ad.block, ad.off + 1, none⟩ = some (.string nm) := (hD.cell (p := ⟨ad.block, ad.off + 1, none⟩) hadb).trans hc1
  have hgW : g < W.heap.size := by omega
  have haW : ad.block < W.heap.size := by omega
  have hBW : B ≤ W.heap.size := by omega
  have HR2 := Lib.hid (HR.out.below hD)
  have HB2 := Lib.hid (hD.mono (Nat.le_of_lt hlt) : Below g w W)
  have HDD := Lib.hid hD
  clear hD hc0 hc1
  have HH4 := Lib.hid ((HH2.out.allocO (.cells #[.string nm, .slice none 0 0] 37)).drewN 1)
  have HO : Hid (((W.alloc (.cells #[.string nm, .slice none 0 0] 37)).drewN 1).ownsRow B 37 2 (.slice zA Z zc) Z (Src.zoneCells s.zones evs)) := by
    have := HH4.out.many.own (Src.zoneRow (.slice zA Z zc) evs s) (by simp)
    show World.ownsRow _ _ _ _ _ _ _
    have e : (Src.zoneRow (.slice zA Z zc) evs s).n = Z := HZ.out
    rw [e] at this
    exact this
  have HN := Lib.hid (cells_new W #[.string nm, .slice none 0 0] 37)
  have HGE := Lib.hid (HH4.out.apart_g (r := Src.zoneRow (.slice zA Z zc) evs s) (by simp))
  have HR4 : Hid (Reads ((W.alloc (.cells #[.string nm, .slice none 0 0] 37)).drewN 1) w.heap.size 1 (some ad) n ((ts.map Src.bts).map Value.string)) := by
    show Reads _ _ _ _ _ _
    refine Reads.drewN (Reads.keep HR2.out fun p hp => ?_) 1
    exact World.cell?_alloc_lt W _ p (by omega)
  have HAN := Lib.hid (And.intro hlt haW)
  go_wp2_with fail
  go_region_law ((refine step_append_lies _ (by rfl) (.tmp 26) (.tmp 31) 23 (by rfl) B 37 i0 _ 2 40 Tryd.underlying23 HI.out.1 HI.out.2.1 HI.out.2.2.1 HI.out.2.2.2 (by rfl) (by decide) _ Z _ (by rfl) HO.out _ 1 1 _ (by rfl) (by rfl) HN.out (by simp [Value.oneCell']) (by decide) (by unfold maxLen; omega) (by omega) (by simp; omega) _ rfl ?_; intro g9 cp9 w9 hown9 hg9 hat9 hlt9; have c9 : w9.cell? ⟨g, 1, none⟩ = some (.slice zA Z zc) := (Sc.At.grownO HH4.out.at_ hg9 HGE.out).cell 1 _ rfl; have f9 : w9.frozen? ⟨g, 1, none⟩ = false := (Sc.At.grownO HH4.out.at_ hg9 HGE.out).free 1 _ rfl))
  all_goals (have HF := Lib.hid hown9; have HG := Lib.hid hg9; have HT := Lib.hid hat9; clear hown9 hg9 hat9)
  all_goals go_wp2_with fail
  all_goals
    have HH5 := Lib.hid (HH4.out.zone1 (zv' := .slice (some ⟨g9, 0, none⟩) (Z + 1) cp9) t (by rw [HZ.out, HNM.out]; exact HF.out) HG.out (by
      rcases HT.out with h | h
      · exact .inl h.symm
      · exact .inr (congrArg some h)))
    have HB5 : Hid (Below g w (w9.setCell ⟨g, 1, none⟩ (.slice (some ⟨g9, 0, none⟩) (Z + 1) cp9))) := by
      refine Below.setCell (Below.grown (below_drewN (HB2.out.alloc (Nat.le_of_lt hgW) _) 1) HG.out (Nat.le_trans (Nat.le_of_lt hgW) (le_alloc_drew _ _ _)) (fun kk hk => ?_)) (Nat.le_refl _) _
      have h1 := (HO.out.lt kk hk).1
      have h2 := HH2.out.below
      omega
    have hs8 : W.heap.size ≤ w9.heap.size := Nat.le_trans (le_alloc_drew W (.cells #[.string nm, .slice none 0 0] 37) 1) HG.out.size
    have HK5 : Hid (Src.Kept g (.slice zA Z zc) w (w9.setCell ⟨g, 1, none⟩ (.slice (some ⟨g9, 0, none⟩) (Z + 1) cp9))) := by
      intro k hl hn hv
      rw [heap_set_far _ _ _ k (fun e => hn e)]
      rw [HG.out.block k (Nat.lt_of_lt_of_le (Nat.lt_of_lt_of_le hl hhs) (le_alloc_drew W (.cells #[.string nm, .slice none 0 0] 37) 1)) (fun e => hv e.symm)]
      show (W.alloc (.cells #[.string nm, .slice none 0 0] 37)).heap[k]? = _
      rw [heap_alloc_far W (.cells #[.string nm, .slice none 0 0] 37) k (Nat.lt_of_lt_of_le hl hhs)]
      exact HDD.out.block k hl
    have hsz5 : w.heap.size ≤ (w9.setCell ⟨g, 1, none⟩ (.slice (some ⟨g9, 0, none⟩) (Z + 1) cp9)).heap.size := by
      rw [heap_set]
      omega
    have hz5 : ∀ k, k < w.heap.size → (Value.slice (some ⟨g9, 0, none⟩) (Z + 1) cp9).ownBlock = some k → (Value.slice zA Z zc).ownBlock = some k := by
      intro k hl e
      rcases HT.out with h | h
      · exact h.trans e
      · exfalso
        have e : some g9 = some k := e
        injection e with e
        have h' : g9 = (W.alloc (.cells #[.string nm, .slice none 0 0] 37)).heap.size := h
        rw [World.size_alloc] at h'
        omega
    have hs9 : ((w9.setCell ⟨g, 1, none⟩ (.slice (some ⟨g9, 0, none⟩) (Z + 1) cp9))).heap.size = w9.heap.size := heap_set _ _ _
    refine ((rdEra_any B g _ ad n c 2 ts rv _ lv _ _ (HW.out.low hLo HB5.out) hn (by unfold maxLen; omega) hn2 hn6 ?_ HS.out (by omega) HH5.out (by simp) ?_ (by simp [HZ.out]; omega)).mono ?_)
    · refine (Reads.set_far (Reads.far HR4.out HG.out (Nat.lt_of_lt_of_le HAN.out.2 (le_alloc_drew _ _ _)) HAPP.out) ?_ _).more (Nat.le_of_eq hs9.symm)
      show ad.block ≠ g
      have := HH2.out.below
      omega
    · rw [Src.lastEras_last]
      decide
    · rintro e w' hP
      rw [HOo.out] at hP
      have hP := hP.after HB5.out HK5.out hsz5 hz5
      cases o with
      | ok s' =>
        obtain ⟨rfl, hb, hh⟩ := hP
        go_wp2
        go_ret2
        exact ⟨rfl, hb, hh⟩
      | bad p y =>
        obtain ⟨rfl, hb⟩ := hP
        go_wp2
        go_ret2
        exact ⟨rfl, hb⟩
end Go.Proofs.YtmobejhfajnbhaaDoor
