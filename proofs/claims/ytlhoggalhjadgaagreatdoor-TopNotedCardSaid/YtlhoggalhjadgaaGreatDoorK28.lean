/- (*reader).link in one law; (*reader).line. -/
import Derived.Test.YtlhoggalhjadgaaGreatDoorK27
import Derived.Test.YtlhoggalhjadgaaGreatDoorK23

namespace Go.Proofs.YtlhoggalhjadgaaGreatDoor
open Go.RowKit

set_option maxHeartbeats 400000 in
set_option maxRecDepth 100000 in
theorem rdLink_one (B g : Nat) (s : Src.S) (ad : Addr) (c : Nat) (L lc : Nat) (lA : Option Addr) (rv zv : Value) (evs : List Value) (w : World) (hn : 1 ≤ c) (hc : c ≤ maxLen)
    (H : Src.Held B w g s rv zv (.slice lA L lc) evs) (hl : L ≠ 4096) :
    Calls Tryz.prog 55 #[.pointer (some ⟨g, 0, none⟩), .slice (some ad) 1 c] w (Src.Post B g zv w (.bad 1 5)) := by
  have h0 := Lib.hid (H.at_.cell 2 _ rfl)
  have hc0 : w.cell? ⟨g, 2, none⟩ = some (.slice lA L lc) := h0.out
  have hlt := H.at_.lt
  have hlt' := Nat.le_of_lt hlt
  unfold maxLen at hc
  have e1 : ((L : Int) == 4096) = false := by rw [beq_eq_false_iff_ne]; omega
  have q1 : (1 : Int) ≤ (c : Int) := by omega
  have hT : ∀ W, Ix.Tells 74 #[] Value.string wrongN [] W := by
    intro W W' x hx
    cases hx
  have HC := Lib.hid fun (A : Option Addr) c' => idx_str wrongN 74 #[] (enters_of Tryz.func74 (by kernel_rfl) rfl) A 0 c' [] w (by unfold maxLen; omega) rfl ⟨by simp, fun h => absurd h (by omega)⟩ (hT w)
  clear hT
  go_enter Tryz.func55, Tryz.ntmps55
  go_wp2_with fail
  all_goals
    refine (HC.out _ _).mono ?_
    rintro e W ⟨rfl, hD⟩
    have HD := Lib.hid hD
    clear hD
    unfold Ix.at_
    go_wp2
    go_ret2
    exact ⟨rfl, Src.kept_of HD.out hlt'⟩
/-- (*reader).link. -/
theorem rdLink_all (B g : Nat) (s : Src.S) (ad : Addr) (n c : Nat) (ts : List Src.Txt) (rv zv lv : Value) (evs : List Value) (w : World) (hn : n ≤ c) (hc : c ≤ maxLen) (h1 : 1 ≤ n)
    (hr : Reads w w.heap.size 1 (some ad) n ((ts.map Src.bts).map Value.string)) (hs : ∀ t ∈ ts, t.length ≤ 1000000) (hBw : B ≤ w.heap.size)
    (H : Src.Held B w g s rv zv lv evs) (hl : s.links.length ≤ 4096) :
    Calls Tryz.prog 55 #[.pointer (some ⟨g, 0, none⟩), .slice (some ad) n c] w (Src.Post B g zv w (Src.linkStep Src.own s ts)) := by
  have hlen : ts.length = n := by have := hr.1; simpa using this
  obtain ⟨lA, lc, e, _, _⟩ := own_slice_cap (show w.ownsRow B 56 2 lv s.links.length (s.links.flatMap fun k => [.string (Src.bts k.1), .string (Src.bts k.2)]) from H.many.own (Src.linkRow lv s) (by simp))
  subst e
  by_cases h4 : s.links.length = 4096
  · unfold Src.linkStep
    rw [if_pos h4]
    exact rdLink_full B g s (some ad) n c _ lc lA rv zv evs w H h4
  by_cases hn1 : n = 1
  · subst hn1
    unfold Src.linkStep
    rw [if_neg h4]
    have e0 : ts.drop 1 = [] := List.drop_eq_nil_of_le (by omega)
    rw [e0]
    exact rdLink_one B g s ad c _ lc lA rv zv evs w hn hc H h4
  exact rdLink_any B g s ad n c ts _ lc lA rv zv evs w hn hc (by omega) hr hs hBw rfl H (by omega)
theorem Src.last_le {R E : Type} (p : Src.P R E) (Re : E → Prop) (op : Bool) : ∀ zs : List (Src.Txt × List E), Src.ZonesOk p Re op zs → Src.lastEras zs ≤ 64
  | [], _ => by simp [Src.lastEras]
  | [z], h => h.1.2.1
  | z :: y :: l, h => Src.last_le p Re op (y :: l) h.2.2
abbrev Src.Fit (s : Src.S) : Prop := Src.Right Src.own (fun _ => True) (fun _ => True) s
set_option maxHeartbeats 2000000 in
set_option maxRecDepth 100000 in
theorem rdLine_open (B g : Nat) (s : Src.S) (ad : Addr) (n c : Nat) (ts : List Src.Txt) (rv zv lv : Value) (evs : List Value) (w : World) (hW : Wq w) (hn : n ≤ c) (hc : c ≤ maxLen) (hn6 : n ≤ 1048576)
    (hr : Reads w w.heap.size 1 (some ad) n ((ts.map Src.bts).map Value.string)) (hs : ∀ t ∈ ts, t.length ≤ 1000000) (hBw : B ≤ w.heap.size)
    (H : Src.Held B w g s rv zv lv evs) (hF : Src.Fit s) (ho : s.op = true) :
    Calls Tryz.prog 30 #[.pointer (some ⟨g, 0, none⟩), .slice (some ad) n c] w (Src.Post B g zv w (if Src.lastEras s.zones = 64 then .bad 0 6 else Src.eraStep Src.own s ts 0)) := by
  obtain ⟨o, hoo⟩ : ∃ o, (if Src.lastEras s.zones = 64 then .bad 0 6 else Src.eraStep Src.own s ts 0) = o := ⟨_, rfl⟩
  rw [hoo]
  have hlt := H.at_.lt
  have hzo := hF.zones.2
  rw [ho] at hzo
  have hz := Src.zones_ne _ _ _ hzo
  have hle := Src.last_le _ _ _ _ hzo
  have hzl := hF.zones.1
  have hEra := fun k (h6 : Src.lastEras s.zones ≠ 64) => rdEra_any B g s ad n c 0 ts rv zv lv evs (w.drewN k) ⟨⟨hW.p.p0, hW.p.p1, hW.p.p2, hW.p.maxl⟩, ⟨hW.a.a0, hW.a.a1, hW.a.maxl⟩⟩ hn hc (Nat.zero_le _) hn6 (hr.drewN k) hs hBw (H.drewN k) hz (by omega) hzl
  have HEra := Lib.hid hEra
  obtain ⟨zs, ⟨nm, es⟩, hzs⟩ := Src.last_of hz
  have hev : evs ≠ [] := by
    intro e
    have := H.evs_len
    rw [e, hzs] at this
    simp at this
  obtain ⟨evs0, ev, hevs⟩ := Src.last_of hev
  subst hevs
  obtain ⟨zb, zc, e, _, _⟩ := World.ownsRow.form (show w.ownsRow B 53 2 zv s.zones.length (Src.zoneCells s.zones (evs0 ++ [ev])) from H.many.own (Src.zoneRow zv (evs0 ++ [ev]) s) (by simp)) (by rw [hzs]; simp)
  subst e
  obtain ⟨eA, eR, e, _, _⟩ := own_slice_cap (H.own_era hzs).1
  subst e
  have hlast : Src.lastEras s.zones = es.length := by rw [hzs, Src.lastEras_last]
  obtain ⟨Z, hZ⟩ : ∃ Z, zs.length = Z := ⟨_, rfl⟩
  obtain ⟨E, hE⟩ : ∃ E, es.length = E := ⟨_, rfl⟩
  have hzn : s.zones.length = Z + 1 := by rw [hzs]; simp [hZ]
  have hEl : evs0.length = zs.length := by
    have := H.evs_len
    rw [hzs] at this
    simp at this
    omega
  have cz : w.cell? ⟨zb, Z * 2 + 1, none⟩ = some (.slice eA E eR) := by
    have hm := H.many.own (Src.zoneRow _ _ s) (List.mem_cons_of_mem _ List.mem_cons_self)
    have : w.ownsRow B 53 2 (.slice (some ⟨zb, 0, none⟩) s.zones.length zc) s.zones.length (Src.zoneCells s.zones (evs0 ++ [Value.slice eA es.length eR])) := hm
    rw [this.cellAt (Z * 2 + 1) (by omega), hzs, Src.zoneCells_app _ _ _ _ hEl, List.getElem?_append_right (by rw [Src.zoneCells_len _ _ hEl, hZ]; omega), Src.zoneCells_len _ _ hEl, hZ, show Z * 2 + 1 - 2 * Z = 1 by omega, hE]
    rfl
  have cg : w.cell? ⟨g, 1, none⟩ = some (.slice (some ⟨zb, 0, none⟩) (Z + 1) zc) := by
    rw [← hzn]
    exact H.at_.cell 1 _ rfl
  have co : w.cell? ⟨g, 3, none⟩ = some (.bool true) := by
    rw [← ho]
    exact H.at_.cell 3 _ rfl
  have hZb : Z < 1024 := by omega
  have wz : IntKind.i64.wrap (((Z + 1 : Nat) : Int) - 1) = (Z : Int) := by
    rw [show ((Z + 1 : Nat) : Int) - 1 = (Z : Int) by omega]
    exact IntWalk.i64_in _ (by omega)
  rw [hlast, hE] at hoo
  have HLast := Lib.hid (hlast.trans hE)
  have HOo0 := Lib.hid hoo
  have hlt' := Nat.le_of_lt hlt
  clear hoo hEra hW hr hs H hF hzo hz hle hzs hlast hEl hev hZ hE hzn ho
  by_cases h6 : E = 64
  · subst h6
    go_enter Tryz.func30, Tryz.ntmps30
    go_wp2_with fail
    go_quiet (fail)
    go_wp2
    go_ret2
    rw [← HOo0.out, if_pos trivial]
    exact ⟨rfl, Src.kept_of (below_drewN (Below.refl _ _) _) hlt'⟩
  · have e6 : ((E : Int) == 64) = false := by rw [beq_eq_false_iff_ne]; omega
    have HOo : Hid (Src.eraStep Src.own s ts 0 = o) := by
      show _ = _
      rw [← HOo0.out, if_neg h6]
    clear HOo0
    have HE6 : Hid (Src.lastEras s.zones ≠ 64) := by show _ ≠ _; rw [HLast.out]; exact h6
    clear h6
    go_enter Tryz.func30, Tryz.ntmps30
    go_wp2_with fail
    go_quiet (fail)
    go_wp2_with fail
    have HB5 := Lib.hid fun k => (below_drewN (Below.refl w.heap.size w) k)
    refine ((HEra.out _ HE6.out).mono ?_)
    rintro e w' hP
    rw [HOo.out] at hP
    have hP := hP.after0 (HB5.out _) hlt'
    cases o with
    | ok s' =>
      obtain ⟨rfl, hb, hh⟩ := hP
      go_wp2
      go_ret2
      exact ⟨rfl, hb, hh⟩
    | bad p y =>
      obtain ⟨rfl, hb⟩ := hP
      go_wp2
      go_ret2
      exact ⟨rfl, hb⟩
set_option maxHeartbeats 2000000 in
set_option maxRecDepth 100000 in
theorem rdLine_rule (B g : Nat) (s : Src.S) (ad : Addr) (n c : Nat) (t0 : ByteArray) (o : Src.Out Src.S) (rv zv lv : Value) (evs : List Value) (w : World) (hn1 : 1 ≤ n) (hs : t0.size ≤ maxLen) (hc0 : w.cell? ad = some (.string t0)) (hsk : Src.own.key (tl t0) = 1)
    (H : Src.Held B w g s rv zv lv evs) (ho : s.op = false)
    (hL : ∀ W, Below w.heap.size w W → Calls Tryz.prog 53 #[.pointer (some ⟨g, 0, none⟩), .slice (some ad) n c] W (Src.Post B g zv W o)) :
    Calls Tryz.prog 30 #[.pointer (some ⟨g, 0, none⟩), .slice (some ad) n c] w (Src.Post B g zv w o) := by
  have hlt := H.at_.lt
  have hlt' := Nat.le_of_lt hlt
  have co : w.cell? ⟨g, 3, none⟩ = some (.bool false) := by
    rw [← ho]
    exact H.at_.cell 3 _ rfl
  have hk := keyword_any t0 w hs
  rw [hsk] at hk
  have HK := Lib.hid hk
  have HL := Lib.hid hL
  have q1 : (0 : Int) < (n : Int) := by omega
  clear hk hL hsk H
  go_enter Tryz.func30, Tryz.ntmps30
  go_wp2_with fail
  refine HK.out.mono ?_
  rintro e W ⟨rfl, hD⟩
  have HB5 := Lib.hid (hD.mono hlt' : Below g w W)
  have HD := Lib.hid hD
  clear hD
  go_wp2_with fail
  refine (HL.out W HD.out).mono ?_
  rintro e w' hP
  have hP := hP.after0 HD.out hlt'
  cases o with
  | ok s' =>
    obtain ⟨rfl, hb, hh⟩ := hP
    go_wp2
    go_ret2
    exact ⟨rfl, hb, hh⟩
  | bad p y =>
    obtain ⟨rfl, hb⟩ := hP
    go_wp2
    go_ret2
    exact ⟨rfl, hb⟩
set_option maxHeartbeats 2000000 in
set_option maxRecDepth 100000 in
theorem rdLine_zone (B g : Nat) (s : Src.S) (ad : Addr) (n c : Nat) (t0 : ByteArray) (o : Src.Out Src.S) (rv zv lv : Value) (evs : List Value) (w : World) (hn1 : 1 ≤ n) (hs : t0.size ≤ maxLen) (hc0 : w.cell? ad = some (.string t0)) (hsk : Src.own.key (tl t0) = 2)
    (H : Src.Held B w g s rv zv lv evs) (ho : s.op = false)
    (hL : ∀ W, Below w.heap.size w W → Calls Tryz.prog 54 #[.pointer (some ⟨g, 0, none⟩), .slice (some ad) n c] W (Src.Post B g zv W o)) :
    Calls Tryz.prog 30 #[.pointer (some ⟨g, 0, none⟩), .slice (some ad) n c] w (Src.Post B g zv w o) := by
  have hlt := H.at_.lt
  have hlt' := Nat.le_of_lt hlt
  have co : w.cell? ⟨g, 3, none⟩ = some (.bool false) := by
    rw [← ho]
    exact H.at_.cell 3 _ rfl
  have hk := keyword_any t0 w hs
  rw [hsk] at hk
  have HK := Lib.hid hk
  have HL := Lib.hid hL
  have q1 : (0 : Int) < (n : Int) := by omega
  clear hk hL hsk H
  go_enter Tryz.func30, Tryz.ntmps30
  go_wp2_with fail
  refine HK.out.mono ?_
  rintro e W ⟨rfl, hD⟩
  have HB5 := Lib.hid (hD.mono hlt' : Below g w W)
  have HD := Lib.hid hD
  clear hD
  go_wp2_with fail
  refine (HL.out W HD.out).mono ?_
  rintro e w' hP
  have hP := hP.after0 HD.out hlt'
  cases o with
  | ok s' =>
    obtain ⟨rfl, hb, hh⟩ := hP
    go_wp2
    go_ret2
    exact ⟨rfl, hb, hh⟩
  | bad p y =>
    obtain ⟨rfl, hb⟩ := hP
    go_wp2
    go_ret2
    exact ⟨rfl, hb⟩
set_option maxHeartbeats 2000000 in
set_option maxRecDepth 100000 in
theorem rdLine_link (B g : Nat) (s : Src.S) (ad : Addr) (n c : Nat) (t0 : ByteArray) (o : Src.Out Src.S) (rv zv lv : Value) (evs : List Value) (w : World) (hn1 : 1 ≤ n) (hs : t0.size ≤ maxLen) (hc0 : w.cell? ad = some (.string t0)) (hsk : Src.own.key (tl t0) = 3)
    (H : Src.Held B w g s rv zv lv evs) (ho : s.op = false)
    (hL : ∀ W, Below w.heap.size w W → Calls Tryz.prog 55 #[.pointer (some ⟨g, 0, none⟩), .slice (some ad) n c] W (Src.Post B g zv W o)) :
    Calls Tryz.prog 30 #[.pointer (some ⟨g, 0, none⟩), .slice (some ad) n c] w (Src.Post B g zv w o) := by
  have hlt := H.at_.lt
  have hlt' := Nat.le_of_lt hlt
  have co : w.cell? ⟨g, 3, none⟩ = some (.bool false) := by
    rw [← ho]
    exact H.at_.cell 3 _ rfl
  have hk := keyword_any t0 w hs
  rw [hsk] at hk
  have HK := Lib.hid hk
  have HL := Lib.hid hL
  have q1 : (0 : Int) < (n : Int) := by omega
  clear hk hL hsk H
  go_enter Tryz.func30, Tryz.ntmps30
  go_wp2_with fail
  refine HK.out.mono ?_
  rintro e W ⟨rfl, hD⟩
  have HB5 := Lib.hid (hD.mono hlt' : Below g w W)
  have HD := Lib.hid hD
  clear hD
  go_wp2_with fail
  refine (HL.out W HD.out).mono ?_
  rintro e w' hP
  have hP := hP.after0 HD.out hlt'
  cases o with
  | ok s' =>
    obtain ⟨rfl, hb, hh⟩ := hP
    go_wp2
    go_ret2
    exact ⟨rfl, hb, hh⟩
  | bad p y =>
    obtain ⟨rfl, hb⟩ := hP
    go_wp2
    go_ret2
    exact ⟨rfl, hb⟩
set_option maxHeartbeats 2000000 in
set_option maxRecDepth 100000 in
theorem rdLine_no (B g : Nat) (s : Src.S) (ad : Addr) (n c : Nat) (t0 : ByteArray) (rv zv lv : Value) (evs : List Value) (w : World) (hn1 : 1 ≤ n) (hs : t0.size ≤ maxLen) (hc0 : w.cell? ad = some (.string t0)) (k : Int) (hsk : Src.own.key (tl t0) = k) (h1 : k ≠ 1) (h2 : k ≠ 2) (h3 : k ≠ 3)
    (H : Src.Held B w g s rv zv lv evs) (ho : s.op = false) :
    Calls Tryz.prog 30 #[.pointer (some ⟨g, 0, none⟩), .slice (some ad) n c] w (Src.Post B g zv w (.bad 0 7 : Src.Out Src.S)) := by
  have hlt := H.at_.lt
  have hlt' := Nat.le_of_lt hlt
  have co : w.cell? ⟨g, 3, none⟩ = some (.bool false) := by
    rw [← ho]
    exact H.at_.cell 3 _ rfl
  have hk := keyword_any t0 w hs
  rw [hsk] at hk
  have HK := Lib.hid hk
  have q1 : (0 : Int) < (n : Int) := by omega
  have e1 : (k == 1) = false := by rw [beq_eq_false_iff_ne]; exact h1
  have e2 : (k == 2) = false := by rw [beq_eq_false_iff_ne]; exact h2
  have e3 : (k == 3) = false := by rw [beq_eq_false_iff_ne]; exact h3
  clear hk hsk H h1 h2 h3
  go_enter Tryz.func30, Tryz.ntmps30
  go_wp2_with fail
  refine HK.out.mono ?_
  rintro e W ⟨rfl, hD⟩
  have HB5 := Lib.hid hD
  clear hD
  go_wp2
  go_ret2
  exact ⟨rfl, Src.kept_of HB5.out hlt'⟩
/-- (*reader).line. -/
theorem rdLine_any (B g : Nat) (s : Src.S) (ad : Addr) (n c : Nat) (ts : List Src.Txt) (rv zv lv : Value) (evs : List Value) (w : World) (hW : Wq w) (hn : n ≤ c) (hc : c ≤ maxLen) (hn6 : n ≤ 1048576) (hn1 : 1 ≤ n)
    (hr : Reads w w.heap.size 1 (some ad) n ((ts.map Src.bts).map Value.string)) (hs : ∀ t ∈ ts, t.length ≤ 1000000) (hBw : B ≤ w.heap.size) (hLo : Low g) (hBa : B ≤ ad.block) (hap : zv.ownBlock ≠ some ad.block)
    (H : Src.Held B w g s rv zv lv evs) (hF : Src.Fit s) :
    Calls Tryz.prog 30 #[.pointer (some ⟨g, 0, none⟩), .slice (some ad) n c] w (Src.Post B g zv w (Src.step Src.own s ts)) := by
  have hlen : ts.length = n := by have := hr.1; simpa using this
  have hb : ∀ W, Below w.heap.size w W → B ≤ W.heap.size := fun W h => Nat.le_trans hBw h.size
  have hrW : ∀ W, Below w.heap.size w W → Reads W W.heap.size 1 (some ad) n ((ts.map Src.bts).map Value.string) := fun W h => (hr.below h).more h.size
  unfold Src.step
  cases ho : s.op
  · rw [if_neg (by decide)]
    obtain ⟨t, ht⟩ : ∃ t, ts[0]? = some t := ⟨_, List.getElem?_eq_getElem (by omega)⟩
    have e1 : ts.getD 0 [] = t := by simp [List.getD, ht]
    rw [e1]
    obtain ⟨ad', e, _, hcells⟩ := hr.2 (by omega)
    injection e with e
    subst e
    have hc0 : w.cell? ad = some (.string (Src.bts t)) := hcells 0 _ (by simp [ht])
    have hst : (Src.bts t).size ≤ maxLen := by
      have := hs t (List.mem_of_getElem? ht)
      show t.length ≤ _
      unfold maxLen
      omega
    have htl : tl (Src.bts t) = t := tl_mk t
    by_cases h1 : Src.own.key t = 1
    · rw [if_pos h1]
      exact rdLine_rule B g s ad n c (Src.bts t) _ rv zv lv evs w hn1 hst hc0 (by rw [htl]; exact h1) H ho fun W h => rdRule_any B g s ad n c ts rv zv lv evs W (hW.below h).p hn hc hn1 (hrW W h) hs (hb W h) (H.call h) hF.rules.1
    rw [if_neg h1]
    by_cases h2 : Src.own.key t = 2
    · rw [if_pos h2]
      exact rdLine_zone B g s ad n c (Src.bts t) _ rv zv lv evs w hn1 hst hc0 (by rw [htl]; exact h2) H ho fun W h => rdZone_any B g s ad n c ts rv zv lv evs W (hW.below h) hn hc hn6 hn1 (hrW W h) hs (hb W h) hLo hBa hap (H.call h) hF.zones.1
    rw [if_neg h2]
    by_cases h3 : Src.own.key t = 3
    · rw [if_pos h3]
      exact rdLine_link B g s ad n c (Src.bts t) _ rv zv lv evs w hn1 hst hc0 (by rw [htl]; exact h3) H ho fun W h => rdLink_all B g s ad n c ts rv zv lv evs W hn hc hn1 (hrW W h) hs (hb W h) (H.call h) hF.links.1
    rw [if_neg h3]
    exact rdLine_no B g s ad n c (Src.bts t) rv zv lv evs w hn1 hst hc0 _ (by rw [htl]) h1 h2 h3 H ho
  · rw [if_pos rfl]
    exact rdLine_open B g s ad n c ts rv zv lv evs w hW hn hc hn6 hr hs hBw H hF ho
end Go.Proofs.YtlhoggalhjadgaaGreatDoor

/- What the lines of a text are bounded by; places are not negative; a source in memory as it is read. -/
namespace Go.Proofs.YtlhoggalhjadgaaGreatDoor
open Go.RowKit

namespace Src
def cur : Sc.Mode → Nat
  | .b => 0
  | .f _ t => t.length
  | .q _ _ t => t.length
theorem scan_small (N : Nat) : ∀ (l : Txt) (a : Int) (m : Sc.Mode) (acc f : List (Txt × Int)), (∀ x ∈ acc, x.1.length ≤ N) → cur m + l.length ≤ N → Sc.scan l a m acc = .ok f → ∀ x ∈ f, x.1.length ≤ N
  | [], a, .b, acc, f, ha, hc, h => by
    simp only [Sc.scan, Sc.Res.ok.injEq] at h
    subst h
    exact ha
  | [], a, .f b t, acc, f, ha, hc, h => by
    simp only [Sc.scan, Sc.Res.ok.injEq] at h
    subst h
    intro x hx
    rcases List.mem_append.1 hx with hx | hx
    · exact ha x hx
    · rw [List.mem_singleton] at hx
      subst hx
      simp [cur] at hc
      exact hc
  | [], a, .q q b t, acc, f, ha, hc, h => by simp [Sc.scan] at h
  | c :: l, a, .b, acc, f, ha, hc, h => by
    rw [Sc.scan] at h
    simp only [cur, List.length_cons] at hc
    split at h
    · exact scan_small N l _ _ _ f ha (by simp only [cur]; omega) h
    · split at h
      · simp only [Sc.Res.ok.injEq] at h; subst h; exact ha
      · split at h
        · cases h
        · split at h
          · cases h
          · split at h
            · exact scan_small N l _ _ _ f ha (by simp only [cur, List.length_nil]; omega) h
            · exact scan_small N l _ _ _ f ha (by simp only [cur, List.length_cons, List.length_nil]; omega) h
  | c :: l, a, .f b t, acc, f, ha, hc, h => by
    rw [Sc.scan] at h
    simp only [cur, List.length_cons] at hc
    have hb : ∀ x ∈ acc ++ [(t, b)], x.1.length ≤ N := by
      intro x hx
      rcases List.mem_append.1 hx with hx | hx
      · exact ha x hx
      · rw [List.mem_singleton] at hx
        subst hx
        show t.length ≤ N
        omega
    split at h
    · exact scan_small N l _ _ _ f hb (by simp only [cur]; omega) h
    · split at h
      · simp only [Sc.Res.ok.injEq] at h; subst h; exact hb
      · split at h
        · cases h
        · split at h
          · exact scan_small N l _ _ _ f ha (by simp only [cur]; omega) h
          · exact scan_small N l _ _ _ f ha (by simp only [cur, List.length_append, List.length_cons, List.length_nil]; omega) h
  | c :: l, a, .q q b t, acc, f, ha, hc, h => by
    rw [Sc.scan] at h
    simp only [cur, List.length_cons] at hc
    split at h
    · cases h
    · split at h
      · exact scan_small N l _ _ _ f ha (by simp only [cur]; omega) h
      · exact scan_small N l _ _ _ f ha (by simp only [cur, List.length_append, List.length_cons, List.length_nil]; omega) h
def LineFit (l : Ln) : Prop := l.2 ≠ [] ∧ l.2.length ≤ 1025 ∧ ∀ x ∈ l.2, x.1.length ≤ 2048
theorem fields_small (t : Txt) (f : List (Txt × Int)) (h : Sc.fields t = .ok f) : f.length ≤ 1025 ∧ ∀ x ∈ f, x.1.length ≤ 2048 := by
  have h2 := fields_count t f h
  unfold Sc.fields at h
  split at h
  · cases h
  · rename_i hl
    exact ⟨by omega, scan_small 2048 t 0 .b [] f (fun x hx => by cases hx) (by simp only [cur]; omega) h⟩
theorem linesGo_fit : ∀ (A : List Txt) (no : Int) (acc L : List Ln), (∀ l ∈ acc, LineFit l) → Sc.linesGo A no acc = .ok L → ∀ l ∈ L, LineFit l
  | [], no, acc, L, ha, h => by
    simp only [Sc.linesGo, Sc.LRes.ok.injEq] at h
    subst h
    exact ha
  | t :: A, no, acc, L, ha, h => by
    rw [Sc.linesGo] at h
    cases hf : Sc.fields t with
    | bad col why => rw [hf] at h; cases h
    | ok f =>
      rw [hf] at h
      simp only [] at h
      refine linesGo_fit A _ _ L ?_ h
      split
      · exact ha
      · rename_i hne
        intro l hl
        rcases List.mem_append.1 hl with hl | hl
        · exact ha l hl
        · rw [List.mem_singleton] at hl
          subst hl
          exact ⟨hne, fields_small t f hf⟩
theorem lines_fit (s : Txt) (L : List Ln) (h : Sc.lines s = .ok L) : ∀ l ∈ L, LineFit l := by
  unfold Sc.lines at h
  split at h
  · cases h
  · exact linesGo_fit _ _ _ L (fun l hl => by cases hl) h
theorem eraStep_place (s : S) (t : List Txt) (k : Nat) (place why : Int) (h : eraStep own s t k = .bad place why) : 0 ≤ place ∧ place ≤ k + t.length := by
  unfold eraStep at h
  have hown : own.era (t.drop k) = Er.parse ((t.drop k).map bts) := rfl
  rw [hown] at h
  split at h
  · cases h
  · injection h with h1 h2
    rename_i h0
    rcases Er.parse_ok ((t.drop k).map bts) with h | h
    · exact absurd h.1 h0
    · have h4 := h.2.2.2
      simp only [List.length_map, List.length_drop] at h4
      have h3 := h.2.2.1
      omega
theorem step_place (s : S) (t : List Txt) (place why : Int) (h : step own s t = .bad place why) : 0 ≤ place ∧ place ≤ 16 + t.length := by
  unfold step at h
  split at h
  · split at h
    · injection h with h1 h2; omega
    · have := eraStep_place s t 0 place why h; omega
  · split at h
    · unfold ruleStep at h
      split at h
      · injection h with h1 h2; omega
      · split at h
        · cases h
        · rename_i h0
          injection h with h1 h2
          have hown : own.rule (t.drop 1) = Ru.parse ((t.drop 1).map bts) := rfl
          rw [hown] at h0 h1
          rcases Ru.parse_ok ((t.drop 1).map bts) with h | h
          · exact absurd h.1 h0
          · have := h.2.2.1
            have := h.2.2.2.2
            omega
    · split at h
      · unfold zoneStep at h
        split at h
        · injection h with h1 h2; omega
        · split at h
          · injection h with h1 h2; omega
          · split at h
            · injection h with h1 h2; omega
            · have := eraStep_place _ t 2 place why h; omega
      · split at h
        · unfold linkStep at h
          split at h
          · injection h with h1 h2; omega
          · split at h
            · rename_i i hw
              injection h with h1 h2
              have h3 := wrong_ge _ _ _ _ hw
              have h4 := at_wrong ((t.drop 1).take 2) 0
              rw [hw] at h4
              have h5 := Ix.at_bd wrongN (((t.drop 1).take 2).map bts) 0
              have h6 : ((((t.drop 1).take 2).map bts).length : Int) ≤ 2 := by simp; omega
              simp only [Option.getD_some] at h4
              rcases h5 with h5 | h5 <;> omega
            · split at h
              · injection h with h1 h2
                have h6 : (((t.drop 1).take 2).length : Int) ≤ 2 := by simp; omega
                omega
              · split at h
                · injection h with h1 h2; omega
                · cases h
        · injection h with h1 h2; omega
/-- A slice that reads as a list of cells. -/
def RowR (w : World) (B size n : Nat) (v : Value) (xs : List Value) : Prop := ∃ A c, v = .slice A n c ∧ n ≤ c ∧ c ≤ maxLen ∧ Reads w B size A n xs
theorem RowR.below {w w' : World} {B size n : Nat} {v : Value} {xs : List Value} (h : RowR w B size n v xs) (hb : Below B w w') : RowR w' B size n v xs := by
  obtain ⟨A, c, e, h1, h2, h3⟩ := h
  exact ⟨A, c, e, h1, h2, h3.below hb⟩
theorem RowR.more {w : World} {B B' size n : Nat} {v : Value} {xs : List Value} (h : RowR w B size n v xs) (hb : B ≤ B') : RowR w B' size n v xs := by
  obtain ⟨A, c, e, h1, h2, h3⟩ := h
  exact ⟨A, c, e, h1, h2, h3.more hb⟩
theorem RowR.of_own {w : World} {base size n : Nat} {e : TypeId} {v : Value} {xs : List Value} (h : w.ownsRow base e size v n xs) : RowR w w.heap.size size n v xs := by
  obtain ⟨A, c, rfl, h1, h2⟩ := own_slice_cap h
  exact ⟨A, c, rfl, h1, h2, Reads.of_own h⟩
/-- A source as it is read: three slices, and one for each zone's eras. -/
structure SrcR (w : World) (B : Nat) (s : S) (rv zv lv : Value) (evs : List Value) : Prop where
  rules : RowR w B 11 s.rules.length rv (s.rules.flatMap Ru.R.cells)
  zones : RowR w B 2 s.zones.length zv ((s.zones.zip evs).flatMap zc)
  links : RowR w B 2 s.links.length lv (s.links.flatMap lc)
  len : evs.length = s.zones.length
  eras : ∀ p ∈ s.zones.zip evs, RowR w B 13 p.1.2.length p.2 (p.1.2.flatMap Er.E.cells)
theorem SrcR.below {w w' : World} {B : Nat} {s : S} {rv zv lv : Value} {evs : List Value} (h : SrcR w B s rv zv lv evs) (hb : Below B w w') : SrcR w' B s rv zv lv evs :=
  ⟨h.rules.below hb, h.zones.below hb, h.links.below hb, h.len, fun p hp => (h.eras p hp).below hb⟩
theorem SrcR.more {w : World} {B B' : Nat} {s : S} {rv zv lv : Value} {evs : List Value} (h : SrcR w B s rv zv lv evs) (hb : B ≤ B') : SrcR w B' s rv zv lv evs :=
  ⟨h.rules.more hb, h.zones.more hb, h.links.more hb, h.len, fun p hp => (h.eras p hp).more hb⟩
theorem SrcR.call {w w' : World} {s : S} {rv zv lv : Value} {evs : List Value} (h : SrcR w w.heap.size s rv zv lv evs) (hb : Below w.heap.size w w') : SrcR w' w'.heap.size s rv zv lv evs := (h.below hb).more hb.size
theorem zoneCells_zip : ∀ (a : List (Txt × List Er.E)) (vs : List Value), zoneCells a vs = (a.zip vs).flatMap zc
  | [], _ => by simp [zoneCells]
  | z :: a, [] => by simp [zoneCells]
  | z :: a, v :: vs => by simp [zoneCells, zc, zoneCells_zip a vs]
theorem eraRows_zip : ∀ (a : List (Txt × List Er.E)) (vs : List Value), eraRows a vs = (a.zip vs).map fun p => eraRow p.2 p.1.2
  | [], _ => by simp [eraRows]
  | z :: a, [] => by simp [eraRows]
  | z :: a, v :: vs => by simp [eraRows, eraRows_zip a vs]
/-- What is read is a source. -/
theorem Held.src {B : Nat} {w : World} {g : Nat} {s : S} {rv zv lv : Value} {evs : List Value} (h : Held B w g s rv zv lv evs) : SrcR w w.heap.size s rv zv lv evs := by
  refine ⟨RowR.of_own (h.many.own (ruleRow rv s) (by simp)), ?_, RowR.of_own (h.many.own (linkRow lv s) (by simp)), h.evs_len, fun p hp => ?_⟩
  · have := RowR.of_own (h.many.own (zoneRow zv evs s) (by simp))
    rw [show (zoneRow zv evs s).xs = (s.zones.zip evs).flatMap zc from zoneCells_zip _ _] at this
    exact this
  · refine RowR.of_own (h.many.own (eraRow p.2 p.1.2) ?_)
    rw [eraRows_zip]
    simp only [List.mem_cons, List.mem_map]
    exact .inr (.inr (.inr ⟨p, hp, rfl⟩))
/-- What source.Parse leaves. -/
def PRet (w : World) (X : Par S) (e : Ending) (w' : World) : Prop :=
  Below w.heap.size w w' ∧ match X with
  | .ok s => ∃ rv zv lv evs, e = .returned (.tuple #[.agg #[rv, zv, lv], .agg #[.int .i64 0, .int .i64 0, .int .i64 0]]) ∧ SrcR w' w'.heap.size s rv zv lv evs
  | .bad l c y => e = .returned (.tuple #[.agg #[.slice none 0 0, .slice none 0 0, .slice none 0 0], .agg #[.int .i64 l, .int .i64 c, .int .i64 y]])
end Src
end Go.Proofs.YtlhoggalhjadgaaGreatDoor
