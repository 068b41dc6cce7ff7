/- (*reader).zone in one law; (*reader).link. -/
import Derived.Test.YtmobejhfajnbhaaDoorK35
import Derived.Test.YtmobejhfajnbhaaDoorK36
import Derived.Test.YtmobejhfajnbhaaDoorK29
namespace Go.Proofs.YtmobejhfajnbhaaDoor
open Go.RowKit

/-- (*reader).zone. -/
theorem rdZone_any (B g : Nat) (s : Src.S) (ad : Addr) (n c : Nat) (ts : List Src.Txt) (rv zv lv : Value) (evs : List Value) (w : World) (hW : Wq w) (hn : n ≤ c) (hc : c ≤ maxLen) (hn6 : n ≤ 1048576) (h1 : 1 ≤ n)
    (hr : Reads w w.heap.size 1 (some ad) n ((ts.map Src.bts).map Value.string)) (hs : ∀ t ∈ ts, t.length ≤ 1000000) (hBw : B ≤ w.heap.size) (hLo : Low g) (hBa : B ≤ ad.block) (hap : zv.ownBlock ≠ some ad.block)
    (H : Src.Held B w g s rv zv lv evs) (hl : s.zones.length ≤ 1024) :
    Calls Tryd.prog 95 #[.pointer (some ⟨g, 0, none⟩), .slice (some ad) n c] w (Src.Post B g zv w (Src.zoneStep Src.own s ts)) := by
  have hlen : ts.length = n := by have := hr.1; simpa using this
  obtain ⟨zA, zc, e, _, _⟩ := own_slice_cap (show w.ownsRow B 37 2 zv s.zones.length (Src.zoneCells s.zones evs) from H.many.own (Src.zoneRow zv evs s) (by simp))
  subst e
  unfold Src.zoneStep
  by_cases h4 : s.zones.length = 1024
  · rw [if_pos h4]
    exact rdZone_full B g s (some ad) n c _ zc zA rv lv evs w H h4
  rw [if_neg h4]
  by_cases h2 : ts.length < 2
  · rw [if_pos h2]
    exact rdZone_short B g s (some ad) n c _ zc zA rv lv evs w H h4 (by omega)
  rw [if_neg h2]
  obtain ⟨t, ht⟩ : ∃ t, ts[1]? = some t := ⟨_, List.getElem?_eq_getElem (by omega)⟩
  have e1 : ts.getD 1 [] = t := by simp [List.getD, ht]
  rw [e1]
  have hown : Src.own.name t = Ru.name t := rfl
  rw [hown]
  cases hN : Ru.name t
  · rw [if_pos rfl]
    obtain ⟨ad', e, _, hcells⟩ := hr.2 (by omega)
    injection e with e
    subst e
    exact rdZone_name B g s ad n c (Src.bts t) _ zc zA rv lv evs w H h4 (by omega) (hcells 1 _ (by simp [ht])) (hs t (List.mem_of_getElem? ht)) (by rw [show tl (Src.bts t) = t from tl_mk t]; exact hN)
  · rw [if_neg (by decide)]
    exact rdZone_ok B g s ad n c ts t _ zc zA rv lv evs w hW hn hc (by omega) hn6 hr hs hBw hLo hBa hap rfl H (by omega) ht hN
theorem link_info : (Tryd.prog.info? 89).map (fun i => (i.zero, i.size, i.bytes)) = some (some (.agg #[.string ⟨#[]⟩, .string ⟨#[]⟩]), 2, 32) := by kernel_rfl
/-- A name is wrong. -/
def wrongN (s : ByteArray) : Bool := !Ru.name (tl s)
theorem linkFn_any (s : ByteArray) (w : World) (hs : s.size ≤ 1000000) : Calls Tryd.prog 128 #[.string s] w fun e w' => e = .returned (.bool (wrongN s)) ∧ Below w.heap.size w w' := by
  have HN := Lib.hid (name_any s w hs)
  unfold wrongN
  obtain ⟨b, hb⟩ : ∃ b, Ru.name (tl s) = b := ⟨_, rfl⟩
  rw [hb] at HN ⊢
  clear hb
  go_enter Tryd.func128, Tryd.ntmps128
  go_wp2_with fail
  refine HN.out.mono ?_
  rintro e w1 ⟨rfl, HD⟩
  replace HD := Lib.hid HD
  go_wp2
  go_ret
  exact ⟨rfl, HD.out⟩
theorem wrong_ge (f : Src.Txt → Bool) : ∀ (l : List Src.Txt) (i j : Int), Src.wrong f l i = some j → i ≤ j
  | [], i, j, h => by cases h
  | t :: l, i, j, h => by
    unfold Src.wrong at h
    split at h
    · have := wrong_ge f l (i + 1) j h
      omega
    · injection h with h
      omega
theorem at_wrong : ∀ (l : List Src.Txt) (i : Int), Ix.at_ wrongN (l.map Src.bts) i = (Src.wrong Src.own.name l i).getD (-1)
  | [], i => rfl
  | t :: l, i => by
    have hown : Src.own.name t = Ru.name t := rfl
    have hb : wrongN (Src.bts t) = !Ru.name t := by unfold wrongN; rw [show tl (Src.bts t) = t from tl_mk t]
    rw [List.map_cons, Ix.at_, Src.wrong, hb, hown, at_wrong l (i + 1)]
    cases Ru.name t <;> simp
set_option maxHeartbeats 400000 in
set_option maxRecDepth 100000 in
theorem rdLink_full (B g : Nat) (s : Src.S) (A : Option Addr) (n c : Nat) (L lc : Nat) (lA : Option Addr) (rv zv : Value) (evs : List Value) (w : World)
    (H : Src.Held B w g s rv zv (.slice lA L lc) evs) (hl : L = 4096) :
    Calls Tryd.prog 96 #[.pointer (some ⟨g, 0, none⟩), .slice A n c] w (Src.Post B g zv w (.bad 0 6)) := by
  have h0 := Lib.hid (H.at_.cell 2 _ rfl)
  have hc0 : w.cell? ⟨g, 2, none⟩ = some (.slice lA L lc) := h0.out
  have hlt := H.at_.lt
  subst hl
  go_enter Tryd.func96, Tryd.ntmps96
  go_wp2
  go_ret2
  exact ⟨rfl, Src.kept_of (Below.refl _ _) (Nat.le_of_lt hlt)⟩
/-- The names of a link, out of its texts: where they lie. -/
theorem link_names {w : World} {B n : Nat} {ad : Addr} {ts : List Src.Txt} (h : Reads w B 1 (some ad) n ((ts.map Src.bts).map Value.string)) (h1 : 2 ≤ n) : Reads w B 1 (some (ad.add 1)) (min n 3 - 1) ((((ts.drop 1).take 2).map Src.bts).map Value.string) := by
  have h2 := reads_from h 1 (by omega)
  have hlen : ts.length = n := by have := h.1; simpa using this
  refine ⟨by simp [hlen]; omega, fun hn => ?_⟩
  obtain ⟨ad', e, hb, hc⟩ := h2.2 (by omega)
  refine ⟨ad', e, hb, fun j u hj => hc j u ?_⟩
  rw [← List.map_drop]
  rw [List.map_take, List.map_take] at hj
  have hj2 : j < 2 := by
    have := (List.getElem?_eq_some_iff.1 hj).1
    simp at this
    omega
  rw [List.getElem?_take_of_lt hj2] at hj
  exact hj
set_option maxHeartbeats 2000000 in
set_option maxRecDepth 100000 in
theorem rdLink_any (B g : Nat) (s : Src.S) (ad : Addr) (n c : Nat) (ts : List Src.Txt) (L lc : Nat) (lA : Option Addr) (rv zv : Value) (evs : List Value) (w : World) (hn : n ≤ c) (hc : c ≤ maxLen) (hn1 : 2 ≤ n)
    (hr : Reads w w.heap.size 1 (some ad) n ((ts.map Src.bts).map Value.string)) (hs : ∀ t ∈ ts, t.length ≤ 1000000) (hBw : B ≤ w.heap.size)
    (hL : s.links.length = L) (H : Src.Held B w g s rv zv (.slice lA L lc) evs) (hl : L < 4096) :
    Calls Tryd.prog 96 #[.pointer (some ⟨g, 0, none⟩), .slice (some ad) n c] w (Src.Post B g zv w (Src.linkStep Src.own s ts)) := by
  obtain ⟨o, ho⟩ : ∃ o, Src.linkStep Src.own s ts = o := ⟨_, rfl⟩
  rw [ho]
  unfold Src.linkStep at ho
  rw [if_neg (by omega)] at ho
  have HOo := Lib.hid ho
  unfold maxLen at hc
  have hlen : ts.length = n := by have := hr.1; simpa using this
  have h0 := Lib.hid (H.at_.cell 2 _ rfl)
  have hc0 : w.cell? ⟨g, 2, none⟩ = some (.slice lA L lc) := h0.out
  have hlt := H.at_.lt
  have e1 : ((L : Int) == 4096) = false := by rw [beq_eq_false_iff_ne]; omega
  have hsz : ∀ x ∈ (((ts.drop 1).take 2).map Src.bts), x.size ≤ 1000000 := by
    intro x hx
    refine Src.small_bts hs x ?_
    rw [List.mem_map] at hx ⊢
    obtain ⟨y, hy, rfl⟩ := hx
    exact ⟨y, List.mem_of_mem_drop (List.mem_of_mem_take hy), rfl⟩
  have hT : Ix.Tells 128 #[] Value.string wrongN (((ts.drop 1).take 2).map Src.bts) w := by
    intro W x hx hbW
    have e : (#[Value.string x] ++ (#[] : Array Value)) = #[Value.string x] := by simp
    rw [e]
    exact (linkFn_any x W (hsz x hx)).mono fun e w' ⟨h, hb⟩ => ⟨h, hbW.trans (hb.mono hbW.size)⟩
  obtain ⟨m, hm⟩ : ∃ m, min n 3 = m := ⟨_, rfl⟩
  have hmi : min (n : Int) 3 = (m : Int) := by omega
  have hRN := link_names hr hn1
  rw [hm] at hRN
  have hmb : 2 ≤ m ∧ m ≤ 3 ∧ m ≤ n := by omega
  obtain ⟨m2, m3, m4⟩ := hmb
  have HC := Lib.hid (idx_str wrongN 128 #[] (enters_of Tryd.func128 (by kernel_rfl) rfl) (some ⟨ad.block, ad.off + 1, none⟩) (m - 1) (c - 1) (((ts.drop 1).take 2).map Src.bts) w (by unfold maxLen; omega) (by simp [hlen]; omega) hRN hT)
  have hX := at_wrong ((ts.drop 1).take 2) 0
  have hXb := Ix.at_bd wrongN (((ts.drop 1).take 2).map Src.bts) 0
  obtain ⟨X, hXX⟩ : ∃ X, Ix.at_ wrongN (((ts.drop 1).take 2).map Src.bts) 0 = X := ⟨_, rfl⟩
  rw [hXX] at HC hX hXb
  have hXl : ((((ts.drop 1).take 2).map Src.bts).length : Int) ≤ 2 := by simp; omega
  have HX := Lib.hid hX
  have q1 : (1 : Int) ≤ (m : Int) := by omega
  have q2 : (m : Int) ≤ (c : Int) := by omega
  have q3 : (1 : Int) < (c : Int) := by omega
  have HH := Lib.hid H
  have HLL := Lib.hid hL
  have HT := Lib.hid hlen
  have HM := Lib.hid hm
  have HR := Lib.hid hr
  obtain ⟨i0, i1, i2, i3, i4⟩ := info_parts link_info
  have HI := Lib.hid (And.intro i1 (And.intro i2 (And.intro i3 i4)))
  have hlt' := Nat.le_of_lt hlt
  clear ho hXX hX hRN hT hsz h0 hs hm hlen hr i1 i2 i3 i4 H hL
  go_enter Tryd.func96, Tryd.ntmps96
  go_wp2_with fail
  refine HC.out.mono ?_
  rintro e W ⟨rfl, hD⟩
  have HD := Lib.hid (hD.mono hlt' : Below g w W)
  have HDD := Lib.hid hD
  have HH2 := Lib.hid (HH.out.call hD)
  have hWs := hD.size
  have HR2 := Lib.hid (HR.out.below hD)
  clear hD hc0
  cases hw : Src.wrong Src.own.name ((ts.drop 1).take 2) 0 with
  | some i =>
    have hXi : X = i := by have := HX.out; rw [hw] at this; exact this
    have HW2 := Lib.hid hw
    clear hw
    subst hXi
    have HN0 : Hid (X ≠ -1) := by
      show X ≠ -1
      have := wrong_ge Src.own.name _ 0 X HW2.out
      omega
    have qx : (0 : Int) ≤ X := by
      rcases hXb with h | h
      · exact absurd h HN0.out
      · exact h.1
    have qy : X ≤ 2 := by omega
    clear hXb hXl
    have wx : IntKind.i64.wrap (1 + X) = 1 + X := IntWalk.i64_in _ (by omega)
    go_wp2
    go_ret2
    rw [← HOo.out, HW2.out]
    exact ⟨rfl, Src.kept_of HDD.out hlt'⟩
  | none =>
    have hXi : X = -1 := by have := HX.out; rw [hw] at this; exact this
    have HW2 := Lib.hid hw
    clear hw hXb
    subst hXi
    by_cases hm2 : m = 2
    · subst hm2
      have hl2 : ((ts.drop 1).take 2).length = 1 := by simp; have := HT.out; have := HM.out; omega
      have HL2 := Lib.hid hl2
      clear hl2
      go_wp2
      go_ret2
      rw [← HOo.out, HW2.out]
      simp only [HL2.out]
      exact ⟨rfl, Src.kept_of HDD.out hlt'⟩
    have hm3 : m = 3 := by omega
    subst hm3
    have hl2 : ((ts.drop 1).take 2).length = 2 := by simp; have := HT.out; have := HM.out; omega
    have HL2 := Lib.hid hl2
    clear hl2
    by_cases hn3 : 3 < n
    · have qn : (3 : Int) < (n : Int) := by omega
      go_wp2
      go_ret2
      rw [← HOo.out, HW2.out]
      simp only [HL2.out, HT.out]
      rw [if_neg (by decide), if_pos hn3]
      exact ⟨rfl, Src.kept_of HDD.out hlt'⟩
    have qn : ¬ (3 : Int) < (n : Int) := by omega
    obtain ⟨ad', e, hadb, hcells⟩ := HR2.out.2 (by omega)
    injection e with e
    subst e
    obtain ⟨a, ha⟩ : ∃ t, ts[1]? = some t := ⟨_, List.getElem?_eq_getElem (by have := HT.out; omega)⟩
    obtain ⟨b, hb⟩ : ∃ t, ts[2]? = some t := ⟨_, List.getElem?_eq_getElem (by have := HT.out; omega)⟩
    obtain ⟨na, hna⟩ : ∃ nm, Src.bts a = nm := ⟨_, rfl⟩
    obtain ⟨nb, hnb⟩ : ∃ nm, Src.bts b = nm := ⟨_, rfl⟩
    have c1 : W.cell? ⟨ad.block, ad.off + 1, none⟩ = some (.string na) := by
      rw [← hna]
      exact hcells 1 _ (by simp [ha])
    have c2 : W.cell? ⟨ad.block, ad.off + 1 + 1, none⟩ = some (.string nb) := by
      rw [← hnb]
      exact hcells 2 _ (by simp [hb])
    have HAB := Lib.hid (And.intro ha (And.intro hb (And.intro hna hnb)))
    have c0 : W.cell? ⟨g, 2, none⟩ = some (.slice lA L lc) := HH2.out.at_.cell 2 _ rfl
    have hgW : g < W.heap.size := by omega
    have hBW : B ≤ W.heap.size := by omega
    clear ha hb hna hnb hcells
    have HH4 := Lib.hid ((HH2.out.allocO (.cells #[.string na, .string nb] 89)).drewN 1)
    have HO : Hid (((W.alloc (.cells #[.string na, .string nb] 89)).drewN 1).ownsRow B 89 2 (.slice lA L lc) L (s.links.flatMap fun k => [.string (Src.bts k.1), .string (Src.bts k.2)])) := by
      have := HH4.out.many.own (Src.linkRow (.slice lA L lc) s) (by simp)
      show World.ownsRow _ _ _ _ _ _ _
      have e : (Src.linkRow (.slice lA L lc) s).n = L := HLL.out
      rw [e] at this
      exact this
    have HN := Lib.hid (cells_new W #[.string na, .string nb] 89)
    have HGE := Lib.hid (HH4.out.apart_g (r := Src.linkRow (.slice lA L lc) s) (by simp))
    go_wp2_with fail
    go_region_law ((refine step_append_lies _ (by rfl) (.tmp 42) (.tmp 50) 24 (by rfl) B 89 i0 _ 2 32 Tryd.underlying24 HI.out.1 HI.out.2.1 HI.out.2.2.1 HI.out.2.2.2 (by rfl) (by decide) _ L _ (by rfl) HO.out _ 1 1 _ (by rfl) (by rfl) HN.out (by simp [Value.oneCell']) (by decide) (by unfold maxLen; omega) (by omega) (by simp; omega) _ rfl ?_; intro g9 cp9 w9 hown9 hg9 hat9 hlt9; have c9 : w9.cell? ⟨g, 2, none⟩ = some (.slice lA L lc) := (Sc.At.grownO HH4.out.at_ hg9 HGE.out).cell 2 _ rfl; have f9 : w9.frozen? ⟨g, 2, none⟩ = false := (Sc.At.grownO HH4.out.at_ hg9 HGE.out).free 2 _ rfl))
    all_goals (have HF := Lib.hid hown9; have HG := Lib.hid hg9; have HT9 := Lib.hid hat9; clear hown9 hg9 hat9)
    all_goals go_wp2
    all_goals go_ret2
    all_goals
      obtain ⟨ha, hb, hna, hnb⟩ := HAB.out
      have HH5 := HH4.out.link1 (lv' := .slice (some ⟨g9, 0, none⟩) (L + 1) cp9) a b (by rw [HLL.out, hna, hnb]; exact HF.out) HG.out (by
        rcases HT9.out with h | h
        · exact .inl h.symm
        · exact .inr (congrArg some h))
      rw [← HOo.out, HW2.out]
      simp only [HL2.out, HT.out]
      rw [if_neg (by decide), if_neg hn3, show ts.getD 1 [] = a by simp [List.getD, ha], show ts.getD 2 [] = b by simp [List.getD, hb]]
      refine ⟨rfl, ?_, _, _, _, _, HH5⟩
      refine Below.setCell (Below.grown (below_drewN (HD.out.alloc (Nat.le_of_lt hgW) _) 1) HG.out (Nat.le_trans (Nat.le_of_lt hgW) (le_alloc_drew _ _ _)) (fun kk hk => ?_)) (Nat.le_refl _) _
      have h1 := (HO.out.lt kk hk).1
      have h2 := HH2.out.below
      omega
end Go.Proofs.YtmobejhfajnbhaaDoor
/- (*reader).link in one law; (*reader).line. -/
namespace Go.Proofs.YtmobejhfajnbhaaDoor
open Go.RowKit

set_option maxHeartbeats 400000 in
set_option maxRecDepth 100000 in
theorem rdLink_one (B g : Nat) (s : Src.S) (ad : Addr) (c : Nat) (L lc : Nat) (lA : Option Addr) (rv zv : Value) (evs : List Value) (w : World) (hn : 1 ≤ c) (hc : c ≤ maxLen)
    (H : Src.Held B w g s rv zv (.slice lA L lc) evs) (hl : L ≠ 4096) :
    Calls Tryd.prog 96 #[.pointer (some ⟨g, 0, none⟩), .slice (some ad) 1 c] w (Src.Post B g zv w (.bad 1 5)) := by
  have h0 := Lib.hid (H.at_.cell 2 _ rfl)
  have hc0 : w.cell? ⟨g, 2, none⟩ = some (.slice lA L lc) := h0.out
  have hlt := H.at_.lt
  have hlt' := Nat.le_of_lt hlt
  unfold maxLen at hc
  have e1 : ((L : Int) == 4096) = false := by rw [beq_eq_false_iff_ne]; omega
  have q1 : (1 : Int) ≤ (c : Int) := by omega
  have hT : ∀ W, Ix.Tells 128 #[] Value.string wrongN [] W := by
    intro W W' x hx
    cases hx
  have HC := Lib.hid fun (A : Option Addr) c' => idx_str wrongN 128 #[] (enters_of Tryd.func128 (by kernel_rfl) rfl) A 0 c' [] w (by unfold maxLen; omega) rfl ⟨by simp, fun h => absurd h (by omega)⟩ (hT w)
  clear hT
  go_enter Tryd.func96, Tryd.ntmps96
  go_wp2_with fail
  all_goals
    refine (HC.out _ _).mono ?_
    rintro e W ⟨rfl, hD⟩
    have HD := Lib.hid hD
    clear hD
    unfold Ix.at_
    go_wp2
    go_ret2
    exact ⟨rfl, Src.kept_of HD.out hlt'⟩
/-- (*reader).link. -/
theorem rdLink_all (B g : Nat) (s : Src.S) (ad : Addr) (n c : Nat) (ts : List Src.Txt) (rv zv lv : Value) (evs : List Value) (w : World) (hn : n ≤ c) (hc : c ≤ maxLen) (h1 : 1 ≤ n)
    (hr : Reads w w.heap.size 1 (some ad) n ((ts.map Src.bts).map Value.string)) (hs : ∀ t ∈ ts, t.length ≤ 1000000) (hBw : B ≤ w.heap.size)
    (H : Src.Held B w g s rv zv lv evs) (hl : s.links.length ≤ 4096) :
    Calls Tryd.prog 96 #[.pointer (some ⟨g, 0, none⟩), .slice (some ad) n c] w (Src.Post B g zv w (Src.linkStep Src.own s ts)) := by
  have hlen : ts.length = n := by have := hr.1; simpa using this
  obtain ⟨lA, lc, e, _, _⟩ := own_slice_cap (show w.ownsRow B 89 2 lv s.links.length (s.links.flatMap fun k => [.string (Src.bts k.1), .string (Src.bts k.2)]) from H.many.own (Src.linkRow lv s) (by simp))
  subst e
  by_cases h4 : s.links.length = 4096
  · unfold Src.linkStep
    rw [if_pos h4]
    exact rdLink_full B g s (some ad) n c _ lc lA rv zv evs w H h4
  by_cases hn1 : n = 1
  · subst hn1
    unfold Src.linkStep
    rw [if_neg h4]
    have e0 : ts.drop 1 = [] := List.drop_eq_nil_of_le (by omega)
    rw [e0]
    exact rdLink_one B g s ad c _ lc lA rv zv evs w hn hc H h4
  exact rdLink_any B g s ad n c ts _ lc lA rv zv evs w hn hc (by omega) hr hs hBw rfl H (by omega)
theorem Src.last_le {R E : Type} (p : Src.P R E) (Re : E → Prop) (op : Bool) : ∀ zs : List (Src.Txt × List E), Src.ZonesOk p Re op zs → Src.lastEras zs ≤ 64
  | [], _ => by simp [Src.lastEras]
  | [z], h => h.1.2.1
  | z :: y :: l, h => Src.last_le p Re op (y :: l) h.2.2
abbrev Src.Fit (s : Src.S) : Prop := Src.Right Src.own (fun _ => True) (fun _ => True) s
set_option maxHeartbeats 2000000 in
set_option maxRecDepth 100000 in
theorem rdLine_open (B g : Nat) (s : Src.S) (ad : Addr) (n c : Nat) (ts : List Src.Txt) (rv zv lv : Value) (evs : List Value) (w : World) (hW : Wq w) (hn : n ≤ c) (hc : c ≤ maxLen) (hn6 : n ≤ 1048576)
    (hr : Reads w w.heap.size 1 (some ad) n ((ts.map Src.bts).map Value.string)) (hs : ∀ t ∈ ts, t.length ≤ 1000000) (hBw : B ≤ w.heap.size)
    (H : Src.Held B w g s rv zv lv evs) (hF : Src.Fit s) (ho : s.op = true) :
    Calls Tryd.prog 52 #[.pointer (some ⟨g, 0, none⟩), .slice (some ad) n c] w (Src.Post B g zv w (if Src.lastEras s.zones = 64 then .bad 0 6 else Src.eraStep Src.own s ts 0)) := by
  obtain ⟨o, hoo⟩ : ∃ o, (if Src.lastEras s.zones = 64 then .bad 0 6 else Src.eraStep Src.own s ts 0) = o := ⟨_, rfl⟩
  rw [hoo]
  have hlt := H.at_.lt
  have hzo := hF.zones.2
  rw [ho] at hzo
  have hz := Src.zones_ne _ _ _ hzo
  have hle := Src.last_le _ _ _ _ hzo
  have hzl := hF.zones.1
  have hEra := fun k (h6 : Src.lastEras s.zones ≠ 64) => rdEra_any B g s ad n c 0 ts rv zv lv evs (w.drewN k) ⟨⟨hW.p.p0, hW.p.p1, hW.p.p2, hW.p.maxl⟩, ⟨hW.a.a0, hW.a.a1, hW.a.maxl⟩⟩ hn hc (Nat.zero_le _) hn6 (hr.drewN k) hs hBw (H.drewN k) hz (by omega) hzl
  have HEra := Lib.hid hEra
  obtain ⟨zs, ⟨nm, es⟩, hzs⟩ := Src.last_of hz
  have hev : evs ≠ [] := by
    intro e
    have := H.evs_len
    rw [e, hzs] at this
    simp at this
  obtain ⟨evs0, ev, hevs⟩ := Src.last_of hev
  subst hevs
  obtain ⟨zb, zc, e, _, _⟩ := World.ownsRow.form (show w.ownsRow B 37 2 zv s.zones.length (Src.zoneCells s.zones (evs0 ++ [ev])) from H.many.own (Src.zoneRow zv (evs0 ++ [ev]) s) (by simp)) (by rw [hzs]; simp)
  subst e
  obtain ⟨eA, eR, e, _, _⟩ := own_slice_cap (H.own_era hzs).1
  subst e
  have hlast : Src.lastEras s.zones = es.length := by rw [hzs, Src.lastEras_last]
  obtain ⟨Z, hZ⟩ : ∃ Z, zs.length = Z := ⟨_, rfl⟩
  obtain ⟨E, hE⟩ : ∃ E, es.length = E := ⟨_, rfl⟩
  have hzn : s.zones.length = Z + 1 := by rw [hzs]; simp [hZ]
  have hEl : evs0.length = zs.length := by
    have := H.evs_len
    rw [hzs] at this
    simp at this
    omega
  have cz : w.cell? ⟨zb, Z * 2 + 1, none⟩ = some (.slice eA E eR) := by
    have hm := H.many.own (Src.zoneRow _ _ s) (List.mem_cons_of_mem _ List.mem_cons_self)
    have : w.ownsRow B 37 2 (.slice (some ⟨zb, 0, none⟩) s.zones.length zc) s.zones.length (Src.zoneCells s.zones (evs0 ++ [Value.slice eA es.length eR])) := hm
    rw [this.cellAt (Z * 2 + 1) (by omega), hzs, Src.zoneCells_app _ _ _ _ hEl, List.getElem?_append_right (by rw [Src.zoneCells_len _ _ hEl, hZ]; omega), Src.zoneCells_len _ _ hEl, hZ, show Z * 2 + 1 - 2 * Z = 1 by omega, hE]
    rfl
  have cg : w.cell? ⟨g, 1, none⟩ = some (.slice (some ⟨zb, 0, none⟩) (Z + 1) zc) := by
    rw [← hzn]
    exact H.at_.cell 1 _ rfl
  have co : w.cell? ⟨g, 3, none⟩ = some (.bool true) := by
    rw [← ho]
    exact H.at_.cell 3 _ rfl
  have hZb : Z < 1024 := by omega
  have wz : IntKind.i64.wrap (((Z + 1 : Nat) : Int) - 1) = (Z : Int) := by
    rw [show ((Z + 1 : Nat) : Int) - 1 = (Z : Int) by omega]
    exact IntWalk.i64_in _ (by omega)
  rw [hlast, hE] at hoo
  have HLast := Lib.hid (hlast.trans hE)
  have HOo0 := Lib.hid hoo
  have hlt' := Nat.le_of_lt hlt
  clear hoo hEra hW hr hs H hF hzo hz hle hzs hlast hEl hev hZ hE hzn ho
  by_cases h6 : E = 64
  · subst h6
    go_enter Tryd.func52, Tryd.ntmps52
    go_wp2_with fail
    go_quiet (fail)
    go_wp2
    go_ret2
    rw [← HOo0.out, if_pos trivial]
    exact ⟨rfl, Src.kept_of (below_drewN (Below.refl _ _) _) hlt'⟩
  · have e6 : ((E : Int) == 64) = false := by rw [beq_eq_false_iff_ne]; omega
    have HOo : Hid (Src.eraStep Src.own s ts 0 = o) := by
      show _ = _
      rw [← HOo0.out, if_neg h6]
    clear HOo0
    have HE6 : Hid (Src.lastEras s.zones ≠ 64) := by show _ ≠ _; rw [HLast.out]; exact h6
    clear h6
    go_enter Tryd.func52, Tryd.ntmps52
    go_wp2_with fail
    go_quiet (fail)
    go_wp2_with fail
    have HB5 := Lib.hid fun k => (below_drewN (Below.refl w.heap.size w) k)
    refine ((HEra.out _ HE6.out).mono ?_)
    rintro e w' hP
    rw [HOo.out] at hP
    have hP := hP.after0 (HB5.out _) hlt'
    cases o with
    | ok s' =>
      obtain ⟨rfl, hb, hh⟩ := hP
      go_wp2
      go_ret2
      exact ⟨rfl, hb, hh⟩
    | bad p y =>
      obtain ⟨rfl, hb⟩ := hP
      go_wp2
      go_ret2
      exact ⟨rfl, hb⟩
set_option maxHeartbeats 2000000 in
set_option maxRecDepth 100000 in
theorem rdLine_rule (B g : Nat) (s : Src.S) (ad : Addr) (n c : Nat) (t0 : ByteArray) (o : Src.Out Src.S) (rv zv lv : Value) (evs : List Value) (w : World) (hn1 : 1 ≤ n) (hs : t0.size ≤ maxLen) (hc0 : w.cell? ad = some (.string t0)) (hsk : Src.own.key (tl t0) = 1)
    (H : Src.Held B w g s rv zv lv evs) (ho : s.op = false)
    (hL : ∀ W, Below w.heap.size w W → Calls Tryd.prog 94 #[.pointer (some ⟨g, 0, none⟩), .slice (some ad) n c] W (Src.Post B g zv W o)) :
    Calls Tryd.prog 52 #[.pointer (some ⟨g, 0, none⟩), .slice (some ad) n c] w (Src.Post B g zv w o) := by
  have hlt := H.at_.lt
  have hlt' := Nat.le_of_lt hlt
  have co : w.cell? ⟨g, 3, none⟩ = some (.bool false) := by
    rw [← ho]
    exact H.at_.cell 3 _ rfl
  have hk := keyword_any t0 w hs
  rw [hsk] at hk
  have HK := Lib.hid hk
  have HL := Lib.hid hL
  have q1 : (0 : Int) < (n : Int) := by omega
  clear hk hL hsk H
  go_enter Tryd.func52, Tryd.ntmps52
  go_wp2_with fail
  refine HK.out.mono ?_
  rintro e W ⟨rfl, hD⟩
  have HB5 := Lib.hid (hD.mono hlt' : Below g w W)
  have HD := Lib.hid hD
  clear hD
  go_wp2_with fail
  refine (HL.out W HD.out).mono ?_
  rintro e w' hP
  have hP := hP.after0 HD.out hlt'
  cases o with
  | ok s' =>
    obtain ⟨rfl, hb, hh⟩ := hP
    go_wp2
    go_ret2
    exact ⟨rfl, hb, hh⟩
  | bad p y =>
    obtain ⟨rfl, hb⟩ := hP
    go_wp2
    go_ret2
    exact ⟨rfl, hb⟩
set_option maxHeartbeats 2000000 in
set_option maxRecDepth 100000 in
theorem rdLine_zone (B g : Nat) (s : Src.S) (ad : Addr) (n c : Nat) (t0 : ByteArray) (o : Src.Out Src.S) (rv zv lv : Value) (evs : List Value) (w : World) (hn1 : 1 ≤ n) (hs : t0.size ≤ maxLen) (hc0 : w.cell? ad = some (.string t0)) (hsk : Src.own.key (tl t0) = 2)
    (H : Src.Held B w g s rv zv lv evs) (ho : s.op = false)
    (hL : ∀ W, Below w.heap.size w W → Calls Tryd.prog 95 #[.pointer (some ⟨g, 0, none⟩), .slice (some ad) n c] W (Src.Post B g zv W o)) :
    Calls Tryd.prog 52 #[.pointer (some ⟨g, 0, none⟩), .slice (some ad) n c] w (Src.Post B g zv w o) := by
  have hlt := H.at_.lt
  have hlt' := Nat.le_of_lt hlt
  have co : w.cell? ⟨g, 3, none⟩ = some (.bool false) := by
    rw [← ho]
    exact H.at_.cell 3 _ rfl
  have hk := keyword_any t0 w hs
  rw [hsk] at hk
  have HK := Lib.hid hk
  have HL := Lib.hid hL
  have q1 : (0 : Int) < (n : Int) := by omega
  clear hk hL hsk H
  go_enter Tryd.func52, Tryd.ntmps52
  go_wp2_with fail
  refine HK.out.mono ?_
  rintro e W ⟨rfl, hD⟩
  have HB5 := Lib.hid (hD.mono hlt' : Below g w W)
  have HD := Lib.hid hD
  clear hD
  go_wp2_with fail
  refine (HL.out W HD.out).mono ?_
  rintro e w' hP
  have hP := hP.after0 HD.out hlt'
  cases o with
  | ok s' =>
    obtain ⟨rfl, hb, hh⟩ := hP
    go_wp2
    go_ret2
    exact ⟨rfl, hb, hh⟩
  | bad p y =>
    obtain ⟨rfl, hb⟩ := hP
    go_wp2
    go_ret2
    exact ⟨rfl, hb⟩
set_option maxHeartbeats 2000000 in
set_option maxRecDepth 100000 in
theorem rdLine_link (B g : Nat) (s : Src.S) (ad : Addr) (n c : Nat) (t0 : ByteArray) (o : Src.Out Src.S) (rv zv lv : Value) (evs : List Value) (w : World) (hn1 : 1 ≤ n) (hs : t0.size ≤ maxLen) (hc0 : w.cell? ad = some (.string t0)) (hsk : Src.own.key (tl t0) = 3)
    (H : Src.Held B w g s rv zv lv evs) (ho : s.op = false)
    (hL : ∀ W, Below w.heap.size w W → Calls Tryd.prog 96 #[.pointer (some ⟨g, 0, none⟩), .slice (some ad) n c] W (Src.Post B g zv W o)) :
    Calls Tryd.prog 52 #[.pointer (some ⟨g, 0, none⟩), .slice (some ad) n c] w (Src.Post B g zv w o) := by
  have hlt := H.at_.lt
  have hlt' := Nat.le_of_lt hlt
  have co : w.cell? ⟨g, 3, none⟩ = some (.bool false) := by
    rw [← ho]
    exact H.at_.cell 3 _ rfl
  have hk := keyword_any t0 w hs
  rw [hsk] at hk
  have HK := Lib.hid hk
  have HL := Lib.hid hL
  have q1 : (0 : Int) < (n : Int) := by omega
  clear hk hL hsk H
  go_enter Tryd.func52, Tryd.ntmps52
  go_wp2_with fail
  refine HK.out.mono ?_
  rintro e W ⟨rfl, hD⟩
  have HB5 := Lib.hid (hD.mono hlt' : Below g w W)
  have HD := Lib.hid hD
  clear hD
  go_wp2_with fail
  refine (HL.out W HD.out).mono ?_
  rintro e w' hP
  have hP := hP.after0 HD.out hlt'
  cases o with
  | ok s' =>
    obtain ⟨rfl, hb, hh⟩ := hP
    go_wp2
    go_ret2
    exact ⟨rfl, hb, hh⟩
  | bad p y =>
    obtain ⟨rfl, hb⟩ := hP
    go_wp2
    go_ret2
    exact ⟨rfl, hb⟩
set_option maxHeartbeats 2000000 in
set_option maxRecDepth 100000 in
theorem rdLine_no (B g : Nat) (s : Src.S) (ad : Addr) (n c : Nat) (t0 : ByteArray) (rv zv lv : Value) (evs : List Value) (w : World) (hn1 : 1 ≤ n) (hs : t0.size ≤ maxLen) (hc0 : w.cell? ad = some (.string t0)) (k : Int) (hsk : Src.own.key (tl t0) = k) (h1 : k ≠ 1) (h2 : k ≠ 2) (h3 : k ≠ 3)
    (H : Src.Held B w g s rv zv lv evs) (ho : s.op = false) :
    Calls Tryd.prog 52 #[.pointer (some ⟨g, 0, none⟩), .slice (some ad) n c] w (Src.Post B g zv w (.bad 0 7 : Src.Out Src.S)) := by
  have hlt := H.at_.lt
  have hlt' := Nat.le_of_lt hlt
  have co : w.cell? ⟨g, 3, none⟩ = some (.bool false) := by
    rw [← ho]
    exact H.at_.cell 3 _ rfl
  have hk := keyword_any t0 w hs
  rw [hsk] at hk
  have HK := Lib.hid hk
  have q1 : (0 : Int) < (n : Int) := by omega
  have e1 : (k == 1) = false := by rw [beq_eq_false_iff_ne]; exact h1
  have e2 : (k == 2) = false := by rw [beq_eq_false_iff_ne]; exact h2
  have e3 : (k == 3) = false := by rw [beq_eq_false_iff_ne]; exact h3
  clear hk hsk H h1 h2 h3
  go_enter Tryd.func52, Tryd.ntmps52
  go_wp2_with fail
  refine HK.out.mono ?_
  rintro e W ⟨rfl, hD⟩
  have HB5 := Lib.hid hD
  clear hD
  go_wp2
  go_ret2
  exact ⟨rfl, Src.kept_of HB5.out hlt'⟩
/-- (*reader).line. -/
theorem rdLine_any (B g : Nat) (s : Src.S) (ad : Addr) (n c : Nat) (ts : List Src.Txt) (rv zv lv : Value) (evs : List Value) (w : World) (hW : Wq w) (hn : n ≤ c) (hc : c ≤ maxLen) (hn6 : n ≤ 1048576) (hn1 : 1 ≤ n)
    (hr : Reads w w.heap.size 1 (some ad) n ((ts.map Src.bts).map Value.string)) (hs : ∀ t ∈ ts, t.length ≤ 1000000) (hBw : B ≤ w.heap.size) (hLo : Low g) (hBa : B ≤ ad.block) (hap : zv.ownBlock ≠ some ad.block)
    (H : Src.Held B w g s rv zv lv evs) (hF : Src.Fit s) :
    Calls Tryd.prog 52 #[.pointer (some ⟨g, 0, none⟩), .slice (some ad) n c] w (Src.Post B g zv w (Src.step Src.own s ts)) := by
  have hlen : ts.length = n := by have := hr.1; simpa using this
  have hb : ∀ W, Below w.heap.size w W → B ≤ W.heap.size := fun W h => Nat.le_trans hBw h.size
  have hrW : ∀ W, Below w.heap.size w W → Reads W W.heap.size 1 (some ad) n ((ts.map Src.bts).map Value.string) := fun W h => (hr.below h).more h.size
  unfold Src.step
  cases ho : s.op
  · rw [if_neg (by decide)]
    obtain ⟨t, ht⟩ : ∃ t, ts[0]? = some t := ⟨_, List.getElem?_eq_getElem (by omega)⟩
    have e1 : ts.getD 0 [] = t := by simp [List.getD, ht]
    rw [e1]
    obtain ⟨ad', e, _, hcells⟩ := hr.2 (by omega)
    injection e with e
    subst e
    have hc0 : w.cell? ad = some (.string (Src.bts t)) := hcells 0 _ (by simp [ht])
    have hst : (Src.bts t).size ≤ maxLen := by
      have := hs t (List.mem_of_getElem? ht)
      show t.length ≤ _
      unfold maxLen
      omega
    have htl : tl (Src.bts t) = t := tl_mk t
    by_cases h1 : Src.own.key t = 1
    · rw [if_pos h1]
      exact rdLine_rule B g s ad n c (Src.bts t) _ rv zv lv evs w hn1 hst hc0 (by rw [htl]; exact h1) H ho fun W h => rdRule_any B g s ad n c ts rv zv lv evs W (hW.below h).p hn hc hn1 (hrW W h) hs (hb W h) (H.call h) hF.rules.1
    rw [if_neg h1]
    by_cases h2 : Src.own.key t = 2
    · rw [if_pos h2]
      exact rdLine_zone B g s ad n c (Src.bts t) _ rv zv lv evs w hn1 hst hc0 (by rw [htl]; exact h2) H ho fun W h => rdZone_any B g s ad n c ts rv zv lv evs W (hW.below h) hn hc hn6 hn1 (hrW W h) hs (hb W h) hLo hBa hap (H.call h) hF.zones.1
    rw [if_neg h2]
    by_cases h3 : Src.own.key t = 3
    · rw [if_pos h3]
      exact rdLine_link B g s ad n c (Src.bts t) _ rv zv lv evs w hn1 hst hc0 (by rw [htl]; exact h3) H ho fun W h => rdLink_all B g s ad n c ts rv zv lv evs W hn hc hn1 (hrW W h) hs (hb W h) (H.call h) hF.links.1
    rw [if_neg h3]
    exact rdLine_no B g s ad n c (Src.bts t) rv zv lv evs w hn1 hst hc0 _ (by rw [htl]) h1 h2 h3 H ho
  · rw [if_pos rfl]
    exact rdLine_open B g s ad n c ts rv zv lv evs w hW hn hc hn6 hr hs hBw H hF ho
end Go.Proofs.YtmobejhfajnbhaaDoor
