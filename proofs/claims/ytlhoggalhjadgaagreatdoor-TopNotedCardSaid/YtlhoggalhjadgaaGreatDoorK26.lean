/- (*reader).rule: the way that reads. -/
import Derived.Test.YtlhoggalhjadgaaGreatDoorK25
import Derived.Deep.AppendLies
import Derived.Deep.RegionHeldLaw
import Derived.Test.YtlhoggalhjadgaaGreatDoorK19
import Derived.Deep.QuietTactic
import Derived.BigQuiet

namespace Go.Proofs.YtlhoggalhjadgaaGreatDoor
open Go.RowKit

theorem rule_info : (Tryz.prog.info? 47).map (fun i => (i.zero, i.size, i.bytes)) = some (some (.agg #[.string ⟨#[]⟩, .int .i64 0, .int .i64 0, .int .i64 0, .int .u8 0, .int .i64 0, .int .i64 0, .int .i64 0, .int .u8 0, .int .i64 0, .string ⟨#[]⟩]), 11, 104) := by kernel_rfl
theorem le_alloc_drew (W : World) (o : Obj) (k : Nat) : W.heap.size ≤ ((W.alloc o).drewN k).heap.size := by
  show W.heap.size ≤ (W.alloc o).heap.size
  rw [World.size_alloc]
  omega
theorem cells_new (w : World) (cs : Array Value) (t : TypeId) : ∀ j u, cs.toList[j]? = some u → (w.alloc (.cells cs t)).cell? ((⟨w.heap.size, 0, none⟩ : Addr).add j) = some u := fun j u hu => by
  have hadd : (⟨w.heap.size, 0, none⟩ : Addr).add j = ⟨w.heap.size, j, none⟩ := by unfold Addr.add; split <;> simp_all
  rw [hadd]
  exact (At.new w cs t).cell j u hu
set_option maxHeartbeats 800000 in
set_option maxRecDepth 100000 in
theorem rdRule_ok (B g : Nat) (s : Src.S) (ad : Addr) (n c : Nat) (ss : List ByteArray) (R : Nat) (rA : Option Addr) (zv lv : Value) (evs : List Value) (w : World) (hW : Wp w) (hn : n ≤ c) (hc : c ≤ maxLen) (h1 : 2 ≤ n)
    (hr : Reads w w.heap.size 1 (some ad) n (ss.map Value.string)) (hs : ∀ t ∈ ss, t.size ≤ 1000000) (hBw : B ≤ w.heap.size)
    (L : Nat) (hL : s.rules.length = L) (H : Src.Held B w g s (.slice rA L R) zv lv evs) (hl : L < 4096) (P : Ru.R × Int × Int) (hP : Ru.parse (ss.drop 1) = P) (hP2 : P.2.2 = 0) :
    Calls Tryz.prog 53 #[.pointer (some ⟨g, 0, none⟩), .slice (some ad) n c] w (Src.Post B g zv w (.ok { s with rules := s.rules ++ [P.1] })) := by
  unfold maxLen at hc
  obtain ⟨⟨nm, fr, tt, mo, k, nn, d, sc, cc, sv, lt⟩, pl, wy⟩ := P
  simp only at hP2
  subst hP2
  have h0 := Lib.hid (H.at_.cell 0 _ rfl)
  have hc0 : w.cell? ⟨g, 0, none⟩ = some (.slice rA L R) := h0.out
  have hlt := H.at_.lt
  have HH := Lib.hid H
  have HL := Lib.hid hL
  have e1 : ((L : Int) == 4096) = false := by rw [beq_eq_false_iff_ne]; omega
  have HW := Lib.hid hW
  have HR := Lib.hid (reads_from hr 1 (by omega))
  obtain ⟨i0, i1, i2, i3, i4⟩ := info_parts rule_info
  have HI := Lib.hid (And.intro i1 (And.intro i2 (And.intro i3 i4)))
  clear hL hW hr i1 i2 i3 i4 H
  go_enter Tryz.func53, Tryz.ntmps53
  go_wp2_with fail
  refine (ruParse_any (some (ad.add 1)) (n - 1) (c - 1) (ss.drop 1) _ HW.out (by omega) (by unfold maxLen; omega) HR.out (fun t ht => hs t (List.mem_of_mem_drop ht))).mono ?_
  rintro e w2 ⟨rfl, hD⟩
  rw [hP]
  have HD := Lib.hid hD
  have HH2 := Lib.hid ((HH.out.call hD).allocO (.cells #[.string nm, .int .i64 fr, .int .i64 tt, .int .i64 mo, .int .u8 k, .int .i64 nn, .int .i64 d, .int .i64 sc, .int .u8 cc, .int .i64 sv, .string lt] 47))
  have HA := Lib.hid (At.new w2 #[.string nm, .int .i64 fr, .int .i64 tt, .int .i64 mo, .int .u8 k, .int .i64 nn, .int .i64 d, .int .i64 sc, .int .u8 cc, .int .i64 sv, .string lt] 47)
  have HB2 := Lib.hid ((HD.out.mono (Nat.le_of_lt hlt) : Below g w w2).alloc (Nat.le_trans (Nat.le_of_lt hlt) HD.out.size) (.cells #[.string nm, .int .i64 fr, .int .i64 tt, .int .i64 mo, .int .u8 k, .int .i64 nn, .int .i64 d, .int .i64 sc, .int .u8 cc, .int .i64 sv, .string lt] 47))
  have hgw2 : g < w2.heap.size := Nat.lt_of_lt_of_le hlt hD.size
  have hBs := hD.size
  have hc2 : w2.cell? ⟨g, 0, none⟩ = some (.slice rA L R) := (HH.out.call hD).at_.cell 0 _ rfl
  clear hD hP h0 hc0
  simp only [Ru.R.v]
  go_wp2_with fail
  clear hc2
  obtain ⟨W, hWW⟩ : ∃ W, w2.alloc (.cells #[.string nm, .int .i64 fr, .int .i64 tt, .int .i64 mo, .int .u8 k, .int .i64 nn, .int .i64 d, .int .i64 sc, .int .u8 cc, .int .i64 sv, .string lt] 47) = W := ⟨_, rfl⟩
  have hWs : w2.heap.size < W.heap.size := by rw [← hWW]; simp
  rw [hWW] at HH2 HA HB2 ⊢
  obtain ⟨h6, hh6⟩ : ∃ h, w2.heap.size = h := ⟨_, rfl⟩
  rw [hh6] at HA hWs hgw2 hBs ⊢
  have a0 := HA.out.cell 0 _ rfl
  have a1 := HA.out.cell 1 _ rfl
  have a2 := HA.out.cell 2 _ rfl
  have a3 := HA.out.cell 3 _ rfl
  have a4 := HA.out.cell 4 _ rfl
  have a5 := HA.out.cell 5 _ rfl
  have a6 := HA.out.cell 6 _ rfl
  have a7 := HA.out.cell 7 _ rfl
  have a8 := HA.out.cell 8 _ rfl
  have a9 := HA.out.cell 9 _ rfl
  have a10 := HA.out.cell 10 _ rfl
  have c0 : W.cell? ⟨g, 0, none⟩ = some (.slice rA L R) := HH2.out.at_.cell 0 _ rfl
  have hgW : g < W.heap.size := by omega
  have HH3 := Lib.hid ((HH2.out.allocO (.cells #[.string nm, .int .i64 fr, .int .i64 tt, .int .i64 mo, .int .u8 k, .int .i64 nn, .int .i64 d, .int .i64 sc, .int .u8 cc, .int .i64 sv, .string lt] 47)).drewN 1)
  have HO : Hid (((W.alloc (.cells #[.string nm, .int .i64 fr, .int .i64 tt, .int .i64 mo, .int .u8 k, .int .i64 nn, .int .i64 d, .int .i64 sc, .int .u8 cc, .int .i64 sv, .string lt] 47)).drewN 1).ownsRow B 47 11 (.slice rA L R) L (s.rules.flatMap Ru.R.cells)) := by
    have := HH3.out.many.own (Src.ruleRow (.slice rA L R) s) List.mem_cons_self
    show World.ownsRow _ _ _ _ _ _ _
    have e : (Src.ruleRow (.slice rA L R) s).n = L := HL.out
    rw [e] at this
    exact this
  have HA3 : Hid (At ((W.alloc (.cells #[.string nm, .int .i64 fr, .int .i64 tt, .int .i64 mo, .int .u8 k, .int .i64 nn, .int .i64 d, .int .i64 sc, .int .u8 cc, .int .i64 sv, .string lt] 47)).drewN 1) g [.slice rA L R, zv, lv, .bool s.op]) := by
    exact HH3.out.at_
  have HN := Lib.hid (cells_new W #[.string nm, .int .i64 fr, .int .i64 tt, .int .i64 mo, .int .u8 k, .int .i64 nn, .int .i64 d, .int .i64 sc, .int .u8 cc, .int .i64 sv, .string lt] 47)
  have hap : Hid (∀ kk, (Value.slice rA L R).ownBlock = some kk → g ≠ kk) := by
    exact HH3.out.apart_g (r := Src.ruleRow (.slice rA L R) s) List.mem_cons_self
  go_region_law ((refine step_append_lies _ (by rfl) (.tmp 33) (.tmp 35) 22 (by rfl) B 47 i0 _ 11 104 Tryz.underlying22 HI.out.1 HI.out.2.1 HI.out.2.2.1 HI.out.2.2.2 (by rfl) (by decide) _ L _ (by rfl) HO.out _ 1 1 _ (by rfl) (by rfl) HN.out (by simp [Value.oneCell']) (by decide) (by unfold maxLen; omega) (by omega) (by simp; omega) _ rfl ?_; intro g9 cp9 w9 hown9 hg9 hat9 hlt9; have c9 : w9.cell? ⟨g, 0, none⟩ = some (.slice rA L R) := (Sc.At.grownO HA3.out hg9 hap.out).cell 0 _ rfl; have f9 : w9.frozen? ⟨g, 0, none⟩ = false := (Sc.At.grownO HA3.out hg9 hap.out).free 0 _ rfl))
  all_goals (have HF := Lib.hid hown9; have HG := Lib.hid hg9; have HT := Lib.hid hat9; clear hown9 hg9 hat9 c9 f9)
  all_goals go_wp2
  all_goals go_ret2
  all_goals
    refine ⟨rfl, ?_, .slice (some ⟨g9, 0, none⟩) (L + 1) cp9, zv, lv, evs, ?_⟩
    · refine Below.setCell (Below.grown (below_drewN (HB2.out.alloc (Nat.le_of_lt hgW) _) 1) HG.out (Nat.le_trans (Nat.le_of_lt hgW) (le_alloc_drew _ _ _)) (fun kk hk => ?_)) (Nat.le_refl _) _
      have h1 := (HO.out.lt kk hk).1
      have h2 := HH3.out.below
      omega
    · have hF := HF.out
      have hlen := HL.out
      refine HH3.out.rule1 ⟨nm, fr, tt, mo, k, nn, d, sc, cc, sv, lt⟩ ?_ HG.out ?_
      · rw [hlen]
        exact hF
      · rcases HT.out with h | h
        · exact .inl h.symm
        · exact .inr (congrArg some h)
end Go.Proofs.YtlhoggalhjadgaaGreatDoor

/- (*reader).rule: all its ways. -/
namespace Go.Proofs.YtlhoggalhjadgaaGreatDoor
open Go.RowKit

theorem ru_parse_nil : Ru.parse [] = (Ru.R.zero, 0, 5) := by rfl
set_option maxHeartbeats 400000 in
set_option maxRecDepth 100000 in
theorem rdRule_one (B g : Nat) (s : Src.S) (ad : Addr) (c : Nat) (L R : Nat) (rA : Option Addr) (zv lv : Value) (evs : List Value) (w : World) (hW : Wp w) (hn : 1 ≤ c) (hc : c ≤ maxLen)
    (H : Src.Held B w g s (.slice rA L R) zv lv evs) (hl : L ≠ 4096) :
    Calls Tryz.prog 53 #[.pointer (some ⟨g, 0, none⟩), .slice (some ad) 1 c] w (Src.Post B g zv w (.bad 1 5)) := by
  unfold maxLen at hc
  have h0 := Lib.hid (H.at_.cell 0 _ rfl)
  have hc0 : w.cell? ⟨g, 0, none⟩ = some (.slice rA L R) := h0.out
  have hlt := H.at_.lt
  have e1 : ((L : Int) == 4096) = false := by rw [beq_eq_false_iff_ne]; omega
  have HW := Lib.hid hW
  have q1 : (1 : Int) ≤ (c : Int) := by omega
  go_enter Tryz.func53, Tryz.ntmps53
  go_wp2_with fail
  all_goals
    refine (ruParse_any _ 0 _ [] _ HW.out (by omega) (by unfold maxLen; omega) ⟨by simp, fun h => absurd h (by omega)⟩ (fun t ht => by cases ht)).mono ?_
    rintro e w2 ⟨rfl, HD⟩
    rw [ru_parse_nil]
    replace HD := Lib.hid HD
    simp only [Ru.R.v]
    go_wp2_with fail
    go_ret2
    exact ⟨rfl, Src.kept_of (HD.out.alloc HD.out.size _) (Nat.le_of_lt hlt)⟩
theorem Src.map_bts_drop (ts : List Src.Txt) (k : Nat) : (ts.map Src.bts).drop k = (ts.drop k).map Src.bts := by rw [List.map_drop]
theorem own_len {w : World} {base : Nat} {e : TypeId} {size n : Nat} {v : Value} {xs : List Value} (h : w.ownsRow base e size v n xs) : ∃ A c, v = .slice A n c ∧ n ≤ c ∧ c ≤ maxLen := own_slice_cap h
/-- (*reader).rule. -/
theorem rdRule_any (B g : Nat) (s : Src.S) (ad : Addr) (n c : Nat) (ts : List Src.Txt) (rv zv lv : Value) (evs : List Value) (w : World) (hW : Wp w) (hn : n ≤ c) (hc : c ≤ maxLen) (h1 : 1 ≤ n)
    (hr : Reads w w.heap.size 1 (some ad) n ((ts.map Src.bts).map Value.string)) (hs : ∀ t ∈ ts, t.length ≤ 1000000) (hBw : B ≤ w.heap.size)
    (H : Src.Held B w g s rv zv lv evs) (hl : s.rules.length ≤ 4096) :
    Calls Tryz.prog 53 #[.pointer (some ⟨g, 0, none⟩), .slice (some ad) n c] w (Src.Post B g zv w (Src.ruleStep Src.own s ts)) := by
  have hlen : ts.length = n := by have := hr.1; simpa using this
  have hs' : ∀ t ∈ ts.map Src.bts, t.size ≤ 1000000 := by
    intro t ht
    rw [List.mem_map] at ht
    obtain ⟨x, hx, rfl⟩ := ht
    exact hs x hx
  obtain ⟨rA, R, e, _, _⟩ := own_slice_cap (show w.ownsRow B 47 11 rv s.rules.length (s.rules.flatMap Ru.R.cells) from H.many.own (Src.ruleRow rv s) List.mem_cons_self)
  subst e
  have H' : Src.Held B w g s (.slice rA s.rules.length R) zv lv evs := H
  unfold Src.ruleStep
  by_cases h4 : s.rules.length = 4096
  · rw [if_pos h4]
    exact rdRule_full B g s (some ad) n c R rA zv lv evs w H' h4
  rw [if_neg h4]
  have hown : ∀ l, Src.own.rule l = Ru.parse (l.map Src.bts) := fun _ => rfl
  rw [hown, ← Src.map_bts_drop]
  by_cases hn1 : n = 1
  · subst hn1
    have e0 : (ts.map Src.bts).drop 1 = [] := List.drop_eq_nil_of_le (by simp; omega)
    rw [e0, ru_parse_nil, if_neg (by decide)]
    exact rdRule_one B g s ad c _ R rA zv lv evs w hW hn hc H' h4
  by_cases hP2 : (Ru.parse ((ts.map Src.bts).drop 1)).2.2 = 0
  · rw [if_pos hP2]
    exact rdRule_ok B g s ad n c _ R rA zv lv evs w hW hn hc (by omega) hr hs' hBw _ rfl H' (by omega) _ rfl hP2
  · rw [if_neg hP2]
    have hb := Ru.parse_ok ((ts.map Src.bts).drop 1)
    exact rdRule_bad B g s ad n c _ R rA zv lv evs w hW hn hc (by omega) hr hs' H' h4 _ rfl (by rcases hb with h | h; exact absurd h.1 hP2; exact ⟨h.2.2.1, h.2.2.2.2⟩) hP2
end Go.Proofs.YtlhoggalhjadgaaGreatDoor

/- (*reader).era. -/
namespace Go.Proofs.YtlhoggalhjadgaaGreatDoor
open Go.RowKit

theorem era_info : (Tryz.prog.info? 62).map (fun i => (i.zero, i.size, i.bytes)) = some (some (.agg #[.int .i64 0, .int .u8 0, .int .i64 0, .string ⟨#[]⟩, .string ⟨#[]⟩, .bool false, .int .i64 0, .int .i64 0, .int .u8 0, .int .i64 0, .int .i64 0, .int .i64 0, .int .u8 0]), 13, 120) := by kernel_rfl
theorem apartV.ne' {a b : Value} (h : apartV a b) : a.ownBlock = none ∨ a.ownBlock ≠ b.ownBlock := h
theorem er_parse_nil : Er.parse [] = (Er.E.zero, 0, 5) := by rfl
set_option maxHeartbeats 400000 in
set_option maxRecDepth 100000 in
theorem rdEra_none (B g : Nat) (zv : Value) (ad : Addr) (n c : Nat) (w : World) (hW : Wp w) (hWa : Wa w) (hn : n ≤ c) (hc : c ≤ maxLen) (hg : g ≤ w.heap.size) :
    Calls Tryz.prog 51 #[.pointer (some ⟨g, 0, none⟩), .slice (some ad) n c, .int .i64 n] w (Src.Post B g zv w (.bad n 5 : Src.Out Src.S)) := by
  unfold maxLen at hc
  have HW := Lib.hid hW
  have HWa := Lib.hid hWa
  have q1 : (0 : Int) ≤ (n : Int) := by omega
  have q2 : (n : Int) ≤ (c : Int) := by omega
  have w1 : IntKind.i64.wrap ((n : Int) + 0) = (n : Int) := by rw [Int.add_zero]; exact IntWalk.i64_in _ (by omega)
  clear hW hWa
  go_enter Tryz.func51, Tryz.ntmps51
  go_wp2_with fail
  all_goals
    refine (erParse_any _ 0 _ [] _ HW.out HWa.out (by omega) (by unfold maxLen; omega) ⟨by simp, fun h => absurd h (by omega)⟩ (fun t ht => by cases ht)).mono ?_
    rintro e w2 ⟨rfl, HD⟩
    rw [er_parse_nil]
    replace HD := Lib.hid HD
    simp only [Er.E.v]
    go_wp2_with fail
    go_ret2
    exact ⟨rfl, Src.kept_of (HD.out.alloc HD.out.size _) hg⟩
set_option maxHeartbeats 400000 in
set_option maxRecDepth 100000 in
theorem rdEra_bad (B g : Nat) (zv : Value) (ad : Addr) (n c fr : Nat) (ss : List ByteArray) (w : World) (hW : Wp w) (hWa : Wa w) (hn : n ≤ c) (hc : c ≤ maxLen) (hfr : fr < n) (hn6 : n ≤ 1048576)
    (hr : Reads w w.heap.size 1 (some ad) n (ss.map Value.string)) (hs : ∀ t ∈ ss, t.size ≤ 1000000) (hg : g ≤ w.heap.size)
    (P : Er.E × Int × Int) (hP : Er.parse (ss.drop fr) = P) (hP1 : 0 ≤ P.2.1 ∧ P.2.1 ≤ 1048576) (hP2 : P.2.2 ≠ 0) :
    Calls Tryz.prog 51 #[.pointer (some ⟨g, 0, none⟩), .slice (some ad) n c, .int .i64 fr] w (Src.Post B g zv w (.bad (fr + P.2.1) P.2.2 : Src.Out Src.S)) := by
  unfold maxLen at hc
  obtain ⟨⟨std, k, sv, ru, fm, en, ⟨y, m, dk, dn, dd, sc, cc⟩⟩, pl, wy⟩ := P
  simp only at hP1 hP2
  have HW := Lib.hid hW
  have HWa := Lib.hid hWa
  have HR := Lib.hid (reads_from hr fr hfr)
  have e2 : (wy == 0) = false := by rw [beq_eq_false_iff_ne]; exact hP2
  have hwp : IntKind.i64.wrap ((fr : Int) + pl) = (fr : Int) + pl := by
    exact IntWalk.i64_in _ (by omega)
  have q1 : (0 : Int) ≤ (fr : Int) := by omega
  have q2 : (fr : Int) ≤ (n : Int) := by omega
  have q3 : (fr : Int) < (c : Int) := by omega
  clear hW hWa hr
  go_enter Tryz.func51, Tryz.ntmps51
  go_wp2_with fail
  refine (erParse_any _ (n - fr) (c - fr) (ss.drop fr) _ HW.out HWa.out (by omega) (by unfold maxLen; omega) HR.out (fun t ht => hs t (List.mem_of_mem_drop ht))).mono ?_
  rintro e w2 ⟨rfl, HD⟩
  rw [hP]
  replace HD := Lib.hid HD
  simp only [Er.E.v]
  go_wp2_with fail
  go_ret2
  exact ⟨rfl, Src.kept_of (HD.out.alloc HD.out.size _) hg⟩
set_option maxHeartbeats 2000000 in
set_option maxRecDepth 100000 in
theorem rdEra_ok (B g : Nat) (s : Src.S) (ad : Addr) (n c fr : Nat) (ss : List ByteArray) (w : World) (hW : Wp w) (hWa : Wa w) (hn : n ≤ c) (hc : c ≤ maxLen) (hfr : fr < n)
    (hr : Reads w w.heap.size 1 (some ad) n (ss.map Value.string)) (hs : ∀ t ∈ ss, t.size ≤ 1000000) (hBw : B ≤ w.heap.size)
    (zs : List (Src.Txt × List Er.E)) (nm : Src.Txt) (es : List Er.E) (evs0 : List Value) (rv lv : Value) (zb zc Z E eR : Nat) (eA : Option Addr) (hz : s.zones = zs ++ [(nm, es)]) (hZ : zs.length = Z) (hE : es.length = E)
    (H : Src.Held B w g s rv (.slice (some ⟨zb, 0, none⟩) (Z + 1) zc) lv (evs0 ++ [.slice eA E eR])) (hl : E < 64) (hZl : Z < 1024)
    (P : Er.E × Int × Int) (hP : Er.parse (ss.drop fr) = P) (hP2 : P.2.2 = 0) :
    Calls Tryz.prog 51 #[.pointer (some ⟨g, 0, none⟩), .slice (some ad) n c, .int .i64 fr] w (Src.Post B g (.slice (some ⟨zb, 0, none⟩) (Z + 1) zc) w (.ok { s with zones := Src.addEra P.1 s.zones, op := P.1.en })) := by
  unfold maxLen at hc
  obtain ⟨⟨std, k, sv, ru, fm, en, ⟨y, m, dk, dn, dd, sc, cc⟩⟩, pl, wy⟩ := P
  simp only at hP2
  subst hP2
  have hlt := H.at_.lt
  have HH := Lib.hid H
  have HZ0 := Lib.hid hz
  have HZ := Lib.hid hZ
  have HE := Lib.hid hE
  have HW := Lib.hid hW
  have HWa := Lib.hid hWa
  have HR := Lib.hid (reads_from hr fr hfr)
  obtain ⟨i0, i1, i2, i3, i4⟩ := info_parts era_info
  have HI := Lib.hid (And.intro i1 (And.intro i2 (And.intro i3 i4)))
  have q1 : (0 : Int) ≤ (fr : Int) := by omega
  have q2 : (fr : Int) ≤ (n : Int) := by omega
  have q3 : (fr : Int) < (c : Int) := by omega
  clear hW hWa hr i1 i2 i3 i4 H hz hZ hE
  go_enter Tryz.func51, Tryz.ntmps51
  go_wp2_with fail
  refine (erParse_any _ (n - fr) (c - fr) (ss.drop fr) _ HW.out HWa.out (by omega) (by unfold maxLen; omega) HR.out (fun t ht => hs t (List.mem_of_mem_drop ht))).mono ?_
  rintro e w2 ⟨rfl, hD⟩
  rw [hP]
  have HD := Lib.hid hD
  have HH2 := Lib.hid ((HH.out.call hD).allocO (.cells #[.int .i64 std, .int .u8 k, .int .i64 sv, .string ru, .string fm, .bool en, .int .i64 y, .int .i64 m, .int .u8 dk, .int .i64 dn, .int .i64 dd, .int .i64 sc, .int .u8 cc] 62))
  have HA := Lib.hid (At.new w2 #[.int .i64 std, .int .u8 k, .int .i64 sv, .string ru, .string fm, .bool en, .int .i64 y, .int .i64 m, .int .u8 dk, .int .i64 dn, .int .i64 dd, .int .i64 sc, .int .u8 cc] 62)
  have HB2 := Lib.hid ((HD.out.mono (Nat.le_of_lt hlt) : Below g w w2).alloc (Nat.le_trans (Nat.le_of_lt hlt) HD.out.size) (.cells #[.int .i64 std, .int .u8 k, .int .i64 sv, .string ru, .string fm, .bool en, .int .i64 y, .int .i64 m, .int .u8 dk, .int .i64 dn, .int .i64 dd, .int .i64 sc, .int .u8 cc] 62))
  have hgw2 : g < w2.heap.size := Nat.lt_of_lt_of_le hlt hD.size
  have hBs := hD.size
  have hzb : B ≤ zb ∧ zb < w2.heap.size := ((HH.out.call hD).many.own (Src.zoneRow (.slice (some ⟨zb, 0, none⟩) (Z + 1) zc) (evs0 ++ [.slice eA E eR]) s) (by simp)).lt zb rfl
  have HOL := Lib.hid ((HH.out.call hD).own_era HZ0.out).1
  clear hD hP
  simp only [Er.E.v]
  obtain ⟨W, hWW⟩ : ∃ W, w2.alloc (.cells #[.int .i64 std, .int .u8 k, .int .i64 sv, .string ru, .string fm, .bool en, .int .i64 y, .int .i64 m, .int .u8 dk, .int .i64 dn, .int .i64 dd, .int .i64 sc, .int .u8 cc] 62) = W := ⟨_, rfl⟩
  have hWs : w2.heap.size < W.heap.size := by rw [← hWW]; simp
  rw [hWW] at HH2 HA HB2
  obtain ⟨h8, hh8⟩ : ∃ h, w2.heap.size = h := ⟨_, rfl⟩
  have HWW := Lib.hid hWW
  have HH8 := Lib.hid hh8
  rw [hh8] at HA hWs hgw2 hBs hzb
  have hHZ : Hid (W.ownsRow B 53 2 (.slice (some ⟨zb, 0, none⟩) (Z + 1) zc) (Z + 1) (Src.zoneCells s.zones (evs0 ++ [.slice eA E eR]))) := by
    have := HH2.out.many.own (Src.zoneRow (.slice (some ⟨zb, 0, none⟩) (Z + 1) zc) (evs0 ++ [.slice eA E eR]) s) (by simp)
    have e : (Src.zoneRow (.slice (some ⟨zb, 0, none⟩) (Z + 1) zc) (evs0 ++ [.slice eA E eR]) s).n = Z + 1 := by
      show s.zones.length = _
      rw [HZ0.out]
      simp [HZ.out]
    show World.ownsRow _ _ _ _ _ _ _
    rw [e] at this
    exact this
  have hEl : evs0.length = zs.length := by
    have := HH2.out.evs_len
    rw [HZ0.out] at this
    simp at this
    omega
  have cz : W.cell? ⟨zb, Z * 2 + 1, none⟩ = some (.slice eA E eR) := by
    rw [hHZ.out.cellAt (Z * 2 + 1) (by omega), HZ0.out, Src.zoneCells_app _ _ _ _ hEl, List.getElem?_append_right (by rw [Src.zoneCells_len _ _ hEl, HZ.out]; omega), Src.zoneCells_len _ _ hEl, HZ.out, show Z * 2 + 1 - 2 * Z = 1 by omega]
    rfl
  have fz : W.frozen? ⟨zb, Z * 2 + 1, none⟩ = false := hHZ.out.frozenAt _
  have cg : W.cell? ⟨g, 1, none⟩ = some (.slice (some ⟨zb, 0, none⟩) (Z + 1) zc) := HH2.out.at_.cell 1 _ rfl
  have wz : IntKind.i64.wrap (((Z + 1 : Nat) : Int) - 1) = (Z : Int) := by
    rw [show ((Z + 1 : Nat) : Int) - 1 = (Z : Int) by omega]
    exact IntWalk.i64_in _ (by omega)
  go_wp2_with fail
  clear hWW hh8
  go_quiet (fail)
  go_wp2
  generalize hW1 : W.drewN _ = W1
  have HH3 := Lib.hid (show Src.Held B W1 g s rv (.slice (some ⟨zb, 0, none⟩) (Z + 1) zc) lv (evs0 ++ [.slice eA E eR]) by rw [← hW1]; exact HH2.out.drewN _)
  have HB3 := Lib.hid (show Below g w W1 by rw [← hW1]; exact below_drewN HB2.out _)
  have HA3 := Lib.hid (show At W1 h8 [.int .i64 std, .int .u8 k, .int .i64 sv, .string ru, .string fm, .bool en, .int .i64 y, .int .i64 m, .int .u8 dk, .int .i64 dn, .int .i64 dd, .int .i64 sc, .int .u8 cc] by rw [← hW1]; exact HA.out)
  have HOZ := Lib.hid (show W1.ownsRow B 53 2 (.slice (some ⟨zb, 0, none⟩) (Z + 1) zc) (Z + 1) (Src.zoneCells s.zones (evs0 ++ [.slice eA E eR])) by rw [← hW1]; exact hHZ.out)
  have d3 : W1.cell? ⟨zb, Z * 2 + 1, none⟩ = some (.slice eA E eR) := by rw [← hW1]; exact cz
  have hWs1 : h8 < W1.heap.size := by rw [← hW1]; exact hWs
  have hWz1 : zb < W1.heap.size := by omega
  have a0 := HA3.out.cell 0 _ rfl
  have a1 := HA3.out.cell 1 _ rfl
  have a2 := HA3.out.cell 2 _ rfl
  have a3 := HA3.out.cell 3 _ rfl
  have a4 := HA3.out.cell 4 _ rfl
  have a5 := HA3.out.cell 5 _ rfl
  have a6 := HA3.out.cell 6 _ rfl
  have a7 := HA3.out.cell 7 _ rfl
  have a8 := HA3.out.cell 8 _ rfl
  have a9 := HA3.out.cell 9 _ rfl
  have a10 := HA3.out.cell 10 _ rfl
  have a11 := HA3.out.cell 11 _ rfl
  have a12 := HA3.out.cell 12 _ rfl
  clear hW1 cz fz cg HH2 HA HB2 hHZ hWs
  have HH4 := Lib.hid ((HH3.out.allocO (.cells #[.int .i64 std, .int .u8 k, .int .i64 sv, .string ru, .string fm, .bool en, .int .i64 y, .int .i64 m, .int .u8 dk, .int .i64 dn, .int .i64 dd, .int .i64 sc, .int .u8 cc] 62)).drewN 1)
  have hE0 := HH4.out.own_era HZ0.out
  have HO : Hid (((W1.alloc (.cells #[.int .i64 std, .int .u8 k, .int .i64 sv, .string ru, .string fm, .bool en, .int .i64 y, .int .i64 m, .int .u8 dk, .int .i64 dn, .int .i64 dd, .int .i64 sc, .int .u8 cc] 62)).drewN 1).ownsRow B 62 13 (.slice eA E eR) E (es.flatMap Er.E.cells)) := by
    have := hE0.1
    rw [HE.out] at this
    exact this
  have HAP := Lib.hid (HH4.out.apart_era HZ0.out)
  have HGE := Lib.hid hE0.2
  have HOZ4 := Lib.hid (show ((W1.alloc (.cells #[.int .i64 std, .int .u8 k, .int .i64 sv, .string ru, .string fm, .bool en, .int .i64 y, .int .i64 m, .int .u8 dk, .int .i64 dn, .int .i64 dd, .int .i64 sc, .int .u8 cc] 62)).drewN 1).ownsRow B 53 2 (.slice (some ⟨zb, 0, none⟩) (Z + 1) zc) (Z + 1) (Src.zoneCells s.zones (evs0 ++ [.slice eA E eR])) from HOZ.out.alloc _)
  have HA4 := Lib.hid (show At ((W1.alloc (.cells #[.int .i64 std, .int .u8 k, .int .i64 sv, .string ru, .string fm, .bool en, .int .i64 y, .int .i64 m, .int .u8 dk, .int .i64 dn, .int .i64 dd, .int .i64 sc, .int .u8 cc] 62)).drewN 1) h8 [.int .i64 std, .int .u8 k, .int .i64 sv, .string ru, .string fm, .bool en, .int .i64 y, .int .i64 m, .int .u8 dk, .int .i64 dn, .int .i64 dd, .int .i64 sc, .int .u8 cc] from (HA3.out.allocO (.cells #[.int .i64 std, .int .u8 k, .int .i64 sv, .string ru, .string fm, .bool en, .int .i64 y, .int .i64 m, .int .u8 dk, .int .i64 dn, .int .i64 dd, .int .i64 sc, .int .u8 cc] 62)).drew ⟨1, rfl⟩)
  have HN := Lib.hid (cells_new W1 #[.int .i64 std, .int .u8 k, .int .i64 sv, .string ru, .string fm, .bool en, .int .i64 y, .int .i64 m, .int .u8 dk, .int .i64 dn, .int .i64 dd, .int .i64 sc, .int .u8 cc] 62)
  have HXZ : Hid ((Src.zoneCells s.zones (evs0 ++ [.slice eA E eR]))[Z * 2 + 1]? = some (.slice eA E eR)) := by
    show _ = _
    rw [← HOZ.out.cellAt (Z * 2 + 1) (by omega)]
    exact d3
  have HE8 : Hid (∀ kk, (Value.slice eA E eR).ownBlock = some kk → h8 ≠ kk) := by
    intro kk hk e
    have h1 := (HOL.out.lt kk hk).2
    have h2 := HH8.out
    omega
  have n1 : zb ≠ h8 := by omega
  have n2 : h8 ≠ zb := by omega
  have n3 : zb ≠ g := by have := HH3.out.below; omega
  have n4 : g ≠ zb := fun e => n3 e.symm
  have n5 : h8 ≠ g := by omega
  have n6 : g ≠ h8 := by omega
  have hBW : B ≤ W1.heap.size := by omega
  clear hE0
  go_region_law ((refine step_append_lies _ (by rfl) (.tmp 43) (.tmp 45) 51 (by rfl) B 62 i0 _ 13 120 Tryz.underlying51 HI.out.1 HI.out.2.1 HI.out.2.2.1 HI.out.2.2.2 (by rfl) (by decide) _ E _ (by rfl) HO.out _ 1 1 _ (by rfl) (by rfl) HN.out (by simp [Value.oneCell']) (by decide) (by unfold maxLen; omega) (by omega) (by simp; omega) _ rfl ?_; intro g9 cp9 w9 hown9 hg9 hat9 hlt9; have c9 : w9.cell? ⟨zb, Z * 2 + 1, none⟩ = some (.slice eA E eR) := ((HOZ4.out.kept hg9 HAP.out.ne').cellAt (Z * 2 + 1) (by omega)).trans HXZ.out; have f9 : w9.frozen? ⟨zb, Z * 2 + 1, none⟩ = false := (HOZ4.out.kept hg9 HAP.out.ne').frozenAt _; have b9 : w9.cell? ⟨h8, 5, none⟩ = some (.bool en) := (Sc.At.grownO HA4.out hg9 HE8.out).cell 5 _ rfl; have c3 : w9.cell? ⟨g, 3, none⟩ = some (.bool s.op) := (Sc.At.grownO HH4.out.at_ hg9 HGE.out).cell 3 _ rfl; have f3 : w9.frozen? ⟨g, 3, none⟩ = false := (Sc.At.grownO HH4.out.at_ hg9 HGE.out).free 3 _ rfl))
  all_goals (have HF := Lib.hid hown9; have HG := Lib.hid hg9; have HT := Lib.hid hat9; clear hown9 hg9 hat9)
  all_goals go_wp2
  all_goals go_ret2
  all_goals
    refine ⟨rfl, ?_, rv, .slice (some ⟨zb, 0, none⟩) (Z + 1) zc, lv, evs0 ++ [.slice (some ⟨g9, 0, none⟩) (E + 1) cp9], ?_⟩
    · refine Below.setCell (Below.setCell (Below.grown (below_drewN (HB3.out.alloc (by omega) _) 1) HG.out (Nat.le_trans (show g ≤ W1.heap.size by omega) (le_alloc_drew _ _ _)) (fun kk hk => ?_)) (show g ≤ zb by have := HH3.out.below; omega) _) (Nat.le_refl _) _
      have h1 := (HO.out.lt kk hk).1
      have h2 := HH3.out.below
      omega
    · have key := HH4.out.era1 (ev' := .slice (some ⟨g9, 0, none⟩) (E + 1) cp9) ⟨std, k, sv, ru, fm, en, ⟨y, m, dk, dn, dd, sc, cc⟩⟩ HZ0.out rfl (show Value.slice (some ⟨zb, 0, none⟩) (Z + 1) zc = .slice (some ⟨zb, 0, none⟩) s.zones.length zc by rw [HZ0.out]; simp [HZ.out]) (by rw [HE.out]; exact HF.out) HG.out (by
        rcases HT.out with h | h
        · exact .inl h.symm
        · exact .inr (congrArg some h))
      rw [show 2 * zs.length + 1 = Z * 2 + 1 by rw [HZ.out]; omega] at key
      exact key
end Go.Proofs.YtlhoggalhjadgaaGreatDoor

/- (*reader).era in one law; (*reader).zone. -/
namespace Go.Proofs.YtlhoggalhjadgaaGreatDoor
open Go.RowKit

/-- The tables lie below the block g. -/
def Low (g : Nat) : Prop := 0 < g ∧ 2 < g ∧ 1 < g
theorem Wq.low_of {w : World} (h : Wq w) : Low w.heap.size := by
  obtain ⟨m, hm⟩ := h.p.maxl
  exact ⟨block_lt_of_cell h.p.p0, block_lt_of_cell hm, block_lt_of_cell h.a.a0⟩
theorem Low.more {g g' : Nat} (h : Low g) (hg : g ≤ g') : Low g' := ⟨Nat.lt_of_lt_of_le h.1 hg, Nat.lt_of_lt_of_le h.2.1 hg, Nat.lt_of_lt_of_le h.2.2 hg⟩
theorem Wq.low {g : Nat} {w w' : World} (h : Wq w) (hl : Low g) (hb : Below g w w') : Wq w' := by
  obtain ⟨m, hm⟩ := h.p.maxl
  have hm' : w'.cell? ⟨2, 0, none⟩ = some (.int .i64 m) := (hb.cell (p := ⟨_, 0, none⟩) hl.2.1).trans hm
  exact ⟨⟨(hb.cell (p := ⟨_, 0, none⟩) hl.1).trans h.p.p0, (hb.cell (p := ⟨_, 1, none⟩) hl.1).trans h.p.p1, (hb.cell (p := ⟨_, 2, none⟩) hl.1).trans h.p.p2, ⟨m, hm'⟩⟩,
    ⟨(hb.cell (p := ⟨_, 0, none⟩) hl.2.2).trans h.a.a0, (hb.cell (p := ⟨_, 1, none⟩) hl.2.2).trans h.a.a1, ⟨m, hm'⟩⟩⟩
namespace Src
theorem Post.after {B g : Nat} {zv zv1 : Value} {w w1 w' : World} {o : Out S} {e : Ending} (h : Post B g zv1 w1 o e w') (hb : Below g w w1) (hk : Kept g zv w w1) (hs : w.heap.size ≤ w1.heap.size) (hz : ∀ k, k < w.heap.size → zv1.ownBlock = some k → zv.ownBlock = some k) : Post B g zv w o e w' := by
  cases o with
  | ok s => exact ⟨h.1, hb.trans h.2.1, h.2.2⟩
  | bad p y => exact ⟨h.1, hb.trans h.2.1, fun k hl hn hv => (h.2.2 k (Nat.lt_of_lt_of_le hl hs) hn (fun e => hv (hz k hl e))).trans (hk k hl hn hv)⟩
theorem Post.after0 {B g : Nat} {zv : Value} {w w1 w' : World} {o : Out S} {e : Ending} (h : Post B g zv w1 o e w') (hb : Below w.heap.size w w1) (hg : g ≤ w.heap.size) : Post B g zv w o e w' :=
  h.after (hb.mono hg) (kept_of hb hg).2 hb.size (fun _ _ e => e)
theorem last_of {α : Type} {l : List α} (h : l ≠ []) : ∃ a z, l = a ++ [z] := ⟨l.dropLast, l.getLast h, (List.dropLast_concat_getLast h).symm⟩
theorem small_bts {ts : List Txt} (hs : ∀ t ∈ ts, t.length ≤ 1000000) : ∀ t ∈ ts.map bts, t.size ≤ 1000000 := by
  intro t ht
  rw [List.mem_map] at ht
  obtain ⟨x, hx, rfl⟩ := ht
  exact hs x hx
end Src
/-- (*reader).era. -/
theorem rdEra_any (B g : Nat) (s : Src.S) (ad : Addr) (n c fr : Nat) (ts : List Src.Txt) (rv zv lv : Value) (evs : List Value) (w : World) (hW : Wq w) (hn : n ≤ c) (hc : c ≤ maxLen) (hfr : fr ≤ n) (hn6 : n ≤ 1048576)
    (hr : Reads w w.heap.size 1 (some ad) n ((ts.map Src.bts).map Value.string)) (hs : ∀ t ∈ ts, t.length ≤ 1000000) (hBw : B ≤ w.heap.size)
    (H : Src.Held B w g s rv zv lv evs) (hz : s.zones ≠ []) (hl : Src.lastEras s.zones < 64) (hzl : s.zones.length ≤ 1024) :
    Calls Tryz.prog 51 #[.pointer (some ⟨g, 0, none⟩), .slice (some ad) n c, .int .i64 fr] w (Src.Post B g zv w (Src.eraStep Src.own s ts fr)) := by
  have hlen : ts.length = n := by have := hr.1; simpa using this
  have hs' := Src.small_bts hs
  have hg := Nat.le_of_lt H.at_.lt
  unfold Src.eraStep
  have hown : ∀ l, Src.own.era l = Er.parse (l.map Src.bts) := fun _ => rfl
  rw [hown, ← Src.map_bts_drop]
  by_cases hfn : fr = n
  · subst hfn
    have e0 : (ts.map Src.bts).drop fr = [] := List.drop_eq_nil_of_le (by simp; omega)
    rw [e0, er_parse_nil, if_neg (by decide)]
    have := rdEra_none B g zv ad fr c w hW.p hW.a hn hc hg
    rw [show (fr : Int) + (Er.E.zero, (0 : Int), (5 : Int)).2.1 = (fr : Int) by simp]
    exact this
  have hb := Er.parse_ok ((ts.map Src.bts).drop fr)
  by_cases hP2 : (Er.parse ((ts.map Src.bts).drop fr)).2.2 = 0
  · rw [if_pos hP2]
    obtain ⟨zs, ⟨nm, es⟩, hzs⟩ := Src.last_of hz
    have hev : evs ≠ [] := by
      intro e
      have := H.evs_len
      rw [e, hzs] at this
      simp at this
    obtain ⟨evs0, ev, hevs⟩ := Src.last_of hev
    subst hevs
    obtain ⟨zb, zc, e, _, _⟩ := World.ownsRow.form (show w.ownsRow B 53 2 zv s.zones.length (Src.zoneCells s.zones (evs0 ++ [ev])) from H.many.own (Src.zoneRow zv (evs0 ++ [ev]) s) (by simp)) (by rw [hzs]; simp)
    subst e
    obtain ⟨eA, eR, e, _, _⟩ := own_slice_cap (H.own_era hzs).1
    subst e
    rw [hzs, Src.lastEras_last] at hl
    have hzn : s.zones.length = zs.length + 1 := by rw [hzs]; simp
    rw [hzn] at H hzl
    exact rdEra_ok B g s ad n c fr _ w hW.p hW.a hn hc (by omega) hr hs' hBw zs nm es evs0 rv lv zb zc _ _ eR eA hzs rfl rfl H hl (by omega) _ rfl hP2
  · rw [if_neg hP2]
    exact rdEra_bad B g zv ad n c fr _ w hW.p hW.a hn hc (by omega) hn6 hr hs' hg _ rfl (by rcases hb with h | h; exact absurd h.1 hP2; exact ⟨h.2.2.1, by have := h.2.2.2; simp at this; omega⟩) hP2
theorem heap_set_far (w : World) (p : Addr) (v : Value) (k : Nat) (h : k ≠ p.block) : (w.setCell p v).heap[k]? = w.heap[k]? := by
  simp [World.setCell, Array.getElem?_modify, Ne.symm h]
theorem heap_alloc_far (w : World) (o : Obj) (k : Nat) (h : k < w.heap.size) : (w.alloc o).heap[k]? = w.heap[k]? := by
  show (w.heap.push o)[k]? = _
  rw [Array.getElem?_push_lt h, Array.getElem?_eq_getElem h]
theorem zone_info : (Tryz.prog.info? 53).map (fun i => (i.zero, i.size, i.bytes)) = some (some (.agg #[.string ⟨#[]⟩, .slice none 0 0]), 2, 40) := by kernel_rfl
set_option maxHeartbeats 400000 in
set_option maxRecDepth 100000 in
theorem rdZone_full (B g : Nat) (s : Src.S) (A : Option Addr) (n c : Nat) (Z zc : Nat) (zA : Option Addr) (rv lv : Value) (evs : List Value) (w : World)
    (H : Src.Held B w g s rv (.slice zA Z zc) lv evs) (hl : Z = 1024) :
    Calls Tryz.prog 54 #[.pointer (some ⟨g, 0, none⟩), .slice A n c] w (Src.Post B g (.slice zA Z zc) w (.bad 0 6)) := by
  have h0 := Lib.hid (H.at_.cell 1 _ rfl)
  have hc0 : w.cell? ⟨g, 1, none⟩ = some (.slice zA Z zc) := h0.out
  have hlt := H.at_.lt
  subst hl
  go_enter Tryz.func54, Tryz.ntmps54
  go_wp2
  go_ret2
  exact ⟨rfl, Src.kept_of (Below.refl _ _) (Nat.le_of_lt hlt)⟩
set_option maxHeartbeats 400000 in
set_option maxRecDepth 100000 in
theorem rdZone_short (B g : Nat) (s : Src.S) (A : Option Addr) (n c : Nat) (Z zc : Nat) (zA : Option Addr) (rv lv : Value) (evs : List Value) (w : World)
    (H : Src.Held B w g s rv (.slice zA Z zc) lv evs) (hl : Z ≠ 1024) (hn : n < 2) :
    Calls Tryz.prog 54 #[.pointer (some ⟨g, 0, none⟩), .slice A n c] w (Src.Post B g (.slice zA Z zc) w (.bad 1 5)) := by
  have h0 := Lib.hid (H.at_.cell 1 _ rfl)
  have hc0 : w.cell? ⟨g, 1, none⟩ = some (.slice zA Z zc) := h0.out
  have hlt := H.at_.lt
  have e1 : ((Z : Int) == 1024) = false := by rw [beq_eq_false_iff_ne]; omega
  have q1 : (n : Int) < 2 := by omega
  go_enter Tryz.func54, Tryz.ntmps54
  go_wp2
  go_ret2
  exact ⟨rfl, Src.kept_of (Below.refl _ _) (Nat.le_of_lt hlt)⟩
set_option maxHeartbeats 400000 in
set_option maxRecDepth 100000 in
theorem rdZone_name (B g : Nat) (s : Src.S) (ad : Addr) (n c : Nat) (nm : ByteArray) (Z zc : Nat) (zA : Option Addr) (rv lv : Value) (evs : List Value) (w : World)
    (H : Src.Held B w g s rv (.slice zA Z zc) lv evs) (hl : Z ≠ 1024) (hn : 2 ≤ n) (hnm : w.cell? (ad.add 1) = some (.string nm)) (hsz : nm.size ≤ 1000000) (hN : Ru.name (tl nm) = false) :
    Calls Tryz.prog 54 #[.pointer (some ⟨g, 0, none⟩), .slice (some ad) n c] w (Src.Post B g (.slice zA Z zc) w (.bad 1 7)) := by
  have h0 := Lib.hid (H.at_.cell 1 _ rfl)
  have hc0 : w.cell? ⟨g, 1, none⟩ = some (.slice zA Z zc) := h0.out
  have hc1 : w.cell? ⟨ad.block, ad.off + 1, none⟩ = some (.string nm) := hnm
  have hlt := H.at_.lt
  have hlt' := Nat.le_of_lt hlt
  have e1 : ((Z : Int) == 1024) = false := by rw [beq_eq_false_iff_ne]; omega
  have q1 : ¬ (n : Int) < 2 := by omega
  have q2 : (1 : Int) < (n : Int) := by omega
  have HC := Lib.hid (calls_bool (name_any nm w hsz) hN)
  go_enter Tryz.func54, Tryz.ntmps54
  go_wp2_with fail
  refine HC.out.mono ?_
  rintro e w1 ⟨rfl, HD⟩
  replace HD := Lib.hid HD
  go_wp2
  go_ret2
  exact ⟨rfl, Src.kept_of HD.out hlt'⟩
set_option maxHeartbeats 2000000 in
set_option maxRecDepth 100000 in
theorem rdZone_ok (B g : Nat) (s : Src.S) (ad : Addr) (n c : Nat) (ts : List Src.Txt) (t : Src.Txt) (Z zc : Nat) (zA : Option Addr) (rv lv : Value) (evs : List Value) (w : World) (hW : Wq w) (hn : n ≤ c) (hc : c ≤ maxLen) (hn2 : 2 ≤ n) (hn6 : n ≤ 1048576)
    (hr : Reads w w.heap.size 1 (some ad) n ((ts.map Src.bts).map Value.string)) (hs : ∀ t ∈ ts, t.length ≤ 1000000) (hBw : B ≤ w.heap.size) (hLo : Low g) (hBa : B ≤ ad.block) (hap : (Value.slice zA Z zc).ownBlock ≠ some ad.block)
    (hZ : s.zones.length = Z) (H : Src.Held B w g s rv (.slice zA Z zc) lv evs) (hl : Z < 1024) (hnt : ts[1]? = some t) (hN : Ru.name t = true) :
    Calls Tryz.prog 54 #[.pointer (some ⟨g, 0, none⟩), .slice (some ad) n c] w (Src.Post B g (.slice zA Z zc) w (Src.eraStep Src.own { s with zones := s.zones ++ [(t, [])] } ts 2)) := by
  obtain ⟨o, ho⟩ : ∃ o, Src.eraStep Src.own { s with zones := s.zones ++ [(t, [])] } ts 2 = o := ⟨_, rfl⟩
  rw [ho]
  have HOo := Lib.hid ho
  have hlt := H.at_.lt
  obtain ⟨ad', e, hadb, hcells⟩ := hr.2 (by omega)
  injection e with e
  subst e
  obtain ⟨nm, hnm⟩ : ∃ nm, Src.bts t = nm := ⟨_, rfl⟩
  have hc1 : w.cell? ⟨ad.block, ad.off + 1, none⟩ = some (.string nm) := by
    rw [← hnm]
    exact hcells 1 _ (by simp [hnt])
  have hsz : nm.size ≤ 1000000 := by rw [← hnm]; exact hs t (List.mem_of_getElem? hnt)
  have hN' : Ru.name (tl nm) = true := by rw [← hnm, show tl (Src.bts t) = t from tl_mk t]; exact hN
  have HC := Lib.hid (calls_bool (name_any nm w hsz) hN')
  have HNM := Lib.hid hnm
  have HCC := Lib.hid hcells
  unfold maxLen at hc
  have hc0 : w.cell? ⟨g, 1, none⟩ = some (.slice zA Z zc) := H.at_.cell 1 _ rfl
  have HH := Lib.hid H
  have HZ := Lib.hid hZ
  have HW := Lib.hid hW
  have HR := Lib.hid hr
  have HS := Lib.hid hs
  have HAPP := Lib.hid hap
  have e1 : ((Z : Int) == 1024) = false := by rw [beq_eq_false_iff_ne]; omega
  have q1 : ¬ (n : Int) < 2 := by omega
  have q2 : (1 : Int) < (n : Int) := by omega
  obtain ⟨i0, i1, i2, i3, i4⟩ := info_parts zone_info
  have HI := Lib.hid (And.intro i1 (And.intro i2 (And.intro i3 i4)))
  clear ho hW hr i1 i2 i3 i4 H hZ hs hap hcells hnm hnt hN hN' hsz
  go_enter Tryz.func54, Tryz.ntmps54
  go_wp2_with fail
  refine HC.out.mono ?_
  rintro e W ⟨rfl, hD⟩
  have HD := Lib.hid hD
  have HH2 := Lib.hid (HH.out.call hD)
  have hhs : w.heap.size ≤ W.heap.size := hD.size
  have c0 : W.cell? ⟨g, 1, none⟩ = some (.slice zA Z zc) := HH2.out.at_.cell 1 _ rfl
  have c1 : W.cell? ⟨ad.block, ad.off + 1, none⟩ = some (.string nm) := (hD.cell (p := ⟨ad.block, ad.off + 1, none⟩) hadb).trans hc1
  have hgW : g < W.heap.size := by omega
  have haW : ad.block < W.heap.size := by omega
  have hBW : B ≤ W.heap.size := by omega
  have HR2 := Lib.hid (HR.out.below hD)
  have HB2 := Lib.hid (hD.mono (Nat.le_of_lt hlt) : Below g w W)
  have HDD := Lib.hid hD
  clear hD hc0 hc1
  have HH4 := Lib.hid ((HH2.out.allocO (.cells #[.string nm, .slice none 0 0] 53)).drewN 1)
  have HO : Hid (((W.alloc (.cells #[.string nm, .slice none 0 0] 53)).drewN 1).ownsRow B 53 2 (.slice zA Z zc) Z (Src.zoneCells s.zones evs)) := by
    have := HH4.out.many.own (Src.zoneRow (.slice zA Z zc) evs s) (by simp)
    show World.ownsRow _ _ _ _ _ _ _
    have e : (Src.zoneRow (.slice zA Z zc) evs s).n = Z := HZ.out
    rw [e] at this
    exact this
  have HN := Lib.hid (cells_new W #[.string nm, .slice none 0 0] 53)
  have HGE := Lib.hid (HH4.out.apart_g (r := Src.zoneRow (.slice zA Z zc) evs s) (by simp))
  have HR4 : Hid (Reads ((W.alloc (.cells #[.string nm, .slice none 0 0] 53)).drewN 1) w.heap.size 1 (some ad) n ((ts.map Src.bts).map Value.string)) := by
    show Reads _ _ _ _ _ _
    refine Reads.drewN (Reads.keep HR2.out fun p hp => ?_) 1
    exact World.cell?_alloc_lt W _ p (by omega)
  have HAN := Lib.hid (And.intro hlt haW)
  go_wp2_with fail
  go_region_law ((refine step_append_lies _ (by rfl) (.tmp 26) (.tmp 31) 23 (by rfl) B 53 i0 _ 2 40 Tryz.underlying23 HI.out.1 HI.out.2.1 HI.out.2.2.1 HI.out.2.2.2 (by rfl) (by decide) _ Z _ (by rfl) HO.out _ 1 1 _ (by rfl) (by rfl) HN.out (by simp [Value.oneCell']) (by decide) (by unfold maxLen; omega) (by omega) (by simp; omega) _ rfl ?_; intro g9 cp9 w9 hown9 hg9 hat9 hlt9; have c9 : w9.cell? ⟨g, 1, none⟩ = some (.slice zA Z zc) := (Sc.At.grownO HH4.out.at_ hg9 HGE.out).cell 1 _ rfl; have f9 : w9.frozen? ⟨g, 1, none⟩ = false := (Sc.At.grownO HH4.out.at_ hg9 HGE.out).free 1 _ rfl))
  all_goals (have HF := Lib.hid hown9; have HG := Lib.hid hg9; have HT := Lib.hid hat9; clear hown9 hg9 hat9)
  all_goals go_wp2_with fail
  all_goals
    have HH5 := Lib.hid (HH4.out.zone1 (zv' := .slice (some ⟨g9, 0, none⟩) (Z + 1) cp9) t (by rw [HZ.out, HNM.out]; exact HF.out) HG.out (by
      rcases HT.out with h | h
      · exact .inl h.symm
      · exact .inr (congrArg some h)))
    have HB5 : Hid (Below g w (w9.setCell ⟨g, 1, none⟩ (.slice (some ⟨g9, 0, none⟩) (Z + 1) cp9))) := by
      refine Below.setCell (Below.grown (below_drewN (HB2.out.alloc (Nat.le_of_lt hgW) _) 1) HG.out (Nat.le_trans (Nat.le_of_lt hgW) (le_alloc_drew _ _ _)) (fun kk hk => ?_)) (Nat.le_refl _) _
      have h1 := (HO.out.lt kk hk).1
      have h2 := HH2.out.below
      omega
    have hs8 : W.heap.size ≤ w9.heap.size := Nat.le_trans (le_alloc_drew W (.cells #[.string nm, .slice none 0 0] 53) 1) HG.out.size
    have HK5 : Hid (Src.Kept g (.slice zA Z zc) w (w9.setCell ⟨g, 1, none⟩ (.slice (some ⟨g9, 0, none⟩) (Z + 1) cp9))) := by
      intro k hl hn hv
      rw [heap_set_far _ _ _ k (fun e => hn e)]
      rw [HG.out.block k (Nat.lt_of_lt_of_le (Nat.lt_of_lt_of_le hl hhs) (le_alloc_drew W (.cells #[.string nm, .slice none 0 0] 53) 1)) (fun e => hv e.symm)]
      show (W.alloc (.cells #[.string nm, .slice none 0 0] 53)).heap[k]? = _
      rw [heap_alloc_far W (.cells #[.string nm, .slice none 0 0] 53) k (Nat.lt_of_lt_of_le hl hhs)]
      exact HDD.out.block k hl
    have hsz5 : w.heap.size ≤ (w9.setCell ⟨g, 1, none⟩ (.slice (some ⟨g9, 0, none⟩) (Z + 1) cp9)).heap.size := by
      rw [heap_set]
      omega
    have hz5 : ∀ k, k < w.heap.size → (Value.slice (some ⟨g9, 0, none⟩) (Z + 1) cp9).ownBlock = some k → (Value.slice zA Z zc).ownBlock = some k := by
      intro k hl e
      rcases HT.out with h | h
      · exact h.trans e
      · exfalso
        have e : some g9 = some k := e
        injection e with e
        have h' : g9 = (W.alloc (.cells #[.string nm, .slice none 0 0] 53)).heap.size := h
        rw [World.size_alloc] at h'
        omega
    have hs9 : ((w9.setCell ⟨g, 1, none⟩ (.slice (some ⟨g9, 0, none⟩) (Z + 1) cp9))).heap.size = w9.heap.size := heap_set _ _ _
    refine ((rdEra_any B g _ ad n c 2 ts rv _ lv _ _ (HW.out.low hLo HB5.out) hn (by unfold maxLen; omega) hn2 hn6 ?_ HS.out (by omega) HH5.out (by simp) ?_ (by simp [HZ.out]; omega)).mono ?_)
    · refine (Reads.set_far (Reads.far HR4.out HG.out (Nat.lt_of_lt_of_le HAN.out.2 (le_alloc_drew _ _ _)) HAPP.out) ?_ _).more (Nat.le_of_eq hs9.symm)
      show ad.block ≠ g
      have := HH2.out.below
      omega
    · rw [Src.lastEras_last]
      decide
    · rintro e w' hP
      rw [HOo.out] at hP
      have hP := hP.after HB5.out HK5.out hsz5 hz5
      cases o with
      | ok s' =>
        obtain ⟨rfl, hb, hh⟩ := hP
        go_wp2
        go_ret2
        exact ⟨rfl, hb, hh⟩
      | bad p y =>
        obtain ⟨rfl, hb⟩ := hP
        go_wp2
        go_ret2
        exact ⟨rfl, hb⟩
end Go.Proofs.YtlhoggalhjadgaaGreatDoor
