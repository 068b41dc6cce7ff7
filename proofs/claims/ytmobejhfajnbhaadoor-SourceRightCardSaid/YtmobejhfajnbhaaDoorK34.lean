/- (*reader).era. -/
import Derived.Test.YtmobejhfajnbhaaDoorK33
import Derived.Test.YtmobejhfajnbhaaDoorK32
import Derived.Deep.QuietTactic
import Derived.BigQuiet
namespace Go.Proofs.YtmobejhfajnbhaaDoor
open Go.RowKit

theorem era_info : (Tryd.prog.info? 50).map (fun i => (i.zero, i.size, i.bytes)) = some (some (.agg #[.int .i64 0, .int .u8 0, .int .i64 0, .string ⟨#[]⟩, .string ⟨#[]⟩, .bool false, .int .i64 0, .int .i64 0, .int .u8 0, .int .i64 0, .int .i64 0, .int .i64 0, .int .u8 0]), 13, 120) := by kernel_rfl
theorem apartV.ne' {a b : Value} (h : apartV a b) : a.ownBlock = none ∨ a.ownBlock ≠ b.ownBlock := h
theorem er_parse_nil : Er.parse [] = (Er.E.zero, 0, 5) := by rfl
set_option maxHeartbeats 400000 in
set_option maxRecDepth 100000 in
theorem rdEra_none (B g : Nat) (zv : Value) (ad : Addr) (n c : Nat) (w : World) (hW : Wp w) (hWa : Wa w) (hn : n ≤ c) (hc : c ≤ maxLen) (hg : g ≤ w.heap.size) :
    Calls Tryd.prog 92 #[.pointer (some ⟨g, 0, none⟩), .slice (some ad) n c, .int .i64 n] w (Src.Post B g zv w (.bad n 5 : Src.Out Src.S)) := by
  unfold maxLen at hc
  have HW := Lib.hid hW
  have HWa := Lib.hid hWa
  have q1 : (0 : Int) ≤ (n : Int) := by omega
  have q2 : (n : Int) ≤ (c : Int) := by omega
  have w1 : IntKind.i64.wrap ((n : Int) + 0) = (n : Int) := by rw [Int.add_zero]; exact IntWalk.i64_in _ (by omega)
  clear hW hWa
  go_enter Tryd.func92, Tryd.ntmps92
  go_wp2_with fail
  all_goals
    refine (erParse_any _ 0 _ [] _ HW.out HWa.out (by omega) (by unfold maxLen; omega) ⟨by simp, fun h => absurd h (by omega)⟩ (fun t ht => by cases ht)).mono ?_
    rintro e w2 ⟨rfl, HD⟩
    rw [er_parse_nil]
    replace HD := Lib.hid HD
    simp only [Er.E.v]
    go_wp2_with fail
    go_ret2
    exact ⟨rfl, Src.kept_of (HD.out.alloc HD.out.size _) hg⟩
set_option maxHeartbeats 400000 in
set_option maxRecDepth 100000 in
theorem rdEra_bad (B g : Nat) (zv : Value) (ad : Addr) (n c fr : Nat) (ss : List ByteArray) (w : World) (hW : Wp w) (hWa : Wa w) (hn : n ≤ c) (hc : c ≤ maxLen) (hfr : fr < n) (hn6 : n ≤ 1048576)
    (hr : Reads w w.heap.size 1 (some ad) n (ss.map Value.string)) (hs : ∀ t ∈ ss, t.size ≤ 1000000) (hg : g ≤ w.heap.size)
    (P : Er.E × Int × Int) (hP : Er.parse (ss.drop fr) = P) (hP1 : 0 ≤ P.2.1 ∧ P.2.1 ≤ 1048576) (hP2 : P.2.2 ≠ 0) :
    Calls Tryd.prog 92 #[.pointer (some ⟨g, 0, none⟩), .slice (some ad) n c, .int .i64 fr] w (Src.Post B g zv w (.bad (fr + P.2.1) P.2.2 : Src.Out Src.S)) := by
  unfold maxLen at hc
  obtain ⟨⟨std, k, sv, ru, fm, en, ⟨y, m, dk, dn, dd, sc, cc⟩⟩, pl, wy⟩ := P
  simp only at hP1 hP2
  have HW := Lib.hid hW
  have HWa := Lib.hid hWa
  have HR := Lib.hid (reads_from hr fr hfr)
  have e2 : (wy == 0) = false := by rw [beq_eq_false_iff_ne]; exact hP2
  have hwp : IntKind.i64.wrap ((fr : Int) + pl) = (fr : Int) + pl := by
    exact IntWalk.i64_in _ (by omega)
  have q1 : (0 : Int) ≤ (fr : Int) := by omega
  have q2 : (fr : Int) ≤ (n : Int) := by omega
  have q3 : (fr : Int) < (c : Int) := by omega
  clear hW hWa hr
  go_enter Tryd.func92, Tryd.ntmps92
  go_wp2_with fail
  refine (erParse_any _ (n - fr) (c - fr) (ss.drop fr) _ HW.out HWa.out (by omega) (by unfold maxLen; omega) HR.out (fun t ht => hs t (List.mem_of_mem_drop ht))).mono ?_
  rintro e w2 ⟨rfl, HD⟩
  rw [hP]
  replace HD := Lib.hid HD
  simp only [Er.E.v]
  go_wp2_with fail
  go_ret2
  exact ⟨rfl, Src.kept_of (HD.out.alloc HD.out.size _) hg⟩
set_option maxHeartbeats 2000000 in
set_option maxRecDepth 100000 in
theorem rdEra_ok (B g : Nat) (s : Src.S) (ad : Addr) (n c fr : Nat) (ss : List ByteArray) (w : World) (hW : Wp w) (hWa : Wa w) (hn : n ≤ c) (hc : c ≤ maxLen) (hfr : fr < n)
    (hr : Reads w w.heap.size 1 (some ad) n (ss.map Value.string)) (hs : ∀ t ∈ ss, t.size ≤ 1000000) (hBw : B ≤ w.heap.size)
    (zs : List (Src.Txt × List Er.E)) (nm : Src.Txt) (es : List Er.E) (evs0 : List Value) (rv lv : Value) (zb zc Z E eR : Nat) (eA : Option Addr) (hz : s.zones = zs ++ [(nm, es)]) (hZ : zs.length = Z) (hE : es.length = E)
    (H : Src.Held B w g s rv (.slice (some ⟨zb, 0, none⟩) (Z + 1) zc) lv (evs0 ++ [.slice eA E eR])) (hl : E < 64) (hZl : Z < 1024)
    (P : Er.E × Int × Int) (hP : Er.parse (ss.drop fr) = P) (hP2 : P.2.2 = 0) :
    Calls Tryd.prog 92 #[.pointer (some ⟨g, 0, none⟩), .slice (some ad) n c, .int .i64 fr] w (Src.Post B g (.slice (some ⟨zb, 0, none⟩) (Z + 1) zc) w (.ok { s with zones := Src.addEra P.1 s.zones, op := P.1.en })) := by
  unfold maxLen at hc
  obtain ⟨⟨std, k, sv, ru, fm, en, ⟨y, m, dk, dn, dd, sc, cc⟩⟩, pl, wy⟩ := P
  simp only at hP2
  subst hP2
  have hlt := H.at_.lt
  have HH := Lib.hid H
  have HZ0 := Lib.hid hz
  have HZ := Lib.hid hZ
  have HE := Lib.hid hE
  have HW := Lib.hid hW
  have HWa := Lib.hid hWa
  have HR := Lib.hid (reads_from hr fr hfr)
  obtain ⟨i0, i1, i2, i3, i4⟩ := info_parts era_info
  have HI := Lib.hid (And.intro i1 (And.intro i2 (And.intro i3 i4)))
  have q1 : (0 : Int) ≤ (fr : Int) := by omega
  have q2 : (fr : Int) ≤ (n : Int) := by omega
  have q3 : (fr : Int) < (c : Int) := by omega
  clear hW hWa hr i1 i2 i3 i4 H hz hZ hE
  go_enter Tryd.func92, Tryd.ntmps92
  go_wp2_with fail
  refine (erParse_any _ (n - fr) (c - fr) (ss.drop fr) _ HW.out HWa.out (by omega) (by unfold maxLen; omega) HR.out (fun t ht => hs t (List.mem_of_mem_drop ht))).mono ?_
  rintro e w2 ⟨rfl, hD⟩
  rw [hP]
  have HD := Lib.hid hD
  have HH2 := Lib.hid ((HH.out.call hD).allocO (.cells #[.int .i64 std, .int .u8 k, .int .i64 sv, .string ru, .string fm, .bool en, .int .i64 y, .int .i64 m, .int .u8 dk, .int .i64 dn, .int .i64 dd, .int .i64 sc, .int .u8 cc] 50))
  have HA := Lib.hid (At.new w2 #[.int .i64 std, .int .u8 k, .int .i64 sv, .string ru, .string fm, .bool en, .int .i64 y, .int .i64 m, .int .u8 dk, .int .i64 dn, .int .i64 dd, .int .i64 sc, .int .u8 cc] 50)
  have HB2 := Lib.hid ((HD.out.mono (Nat.le_of_lt hlt) : Below g w w2).alloc (Nat.le_trans (Nat.le_of_lt hlt) HD.out.size) (.cells #[.int .i64 std, .int .u8 k, .int .i64 sv, .string ru, .string fm, .bool en, .int .i64 y, .int .i64 m, .int .u8 dk, .int .i64 dn, .int .i64 dd, .int .i64 sc, .int .u8 cc] 50))
  have hgw2 : g < w2.heap.size := Nat.lt_of_lt_of_le hlt hD.size
  have hBs := hD.size
  have hzb : B ≤ zb ∧ zb < w2.heap.size := ((HH.out.call hD).many.own (Src.zoneRow (.slice (some ⟨zb, 0, none⟩) (Z + 1) zc) (evs0 ++ [.slice eA E eR]) s) (by simp)).lt zb rfl
  have HOL := Lib.hid ((HH.out.call hD).own_era HZ0.out).1
  clear hD hP
  simp only [Er.E.v]
  obtain ⟨W, hWW⟩ : ∃ W, w2.alloc (.cells #[.int .i64 std, .int .u8 k, .int .i64 sv, .string ru, .string fm, .bool en, .int .i64 y, .int .i64 m, .int .u8 dk, .int .i64 dn, .int .i64 dd, .int .i64 sc, .int .u8 cc] 50) = W := ⟨_, rfl⟩
  have hWs : w2.heap.size < W.heap.size := by rw [← hWW]; simp
  rw [hWW] at HH2 HA HB2
  obtain ⟨h8, hh8⟩ : ∃ h, w2.heap.size = h := ⟨_, rfl⟩
  have HWW := Lib.hid hWW
  have HH8 := Lib.hid hh8
  rw [hh8] at HA hWs hgw2 hBs hzb
  have hHZ : Hid (W.ownsRow B 37 2 (.slice (some ⟨zb, 0, none⟩) (Z + 1) zc) (Z + 1) (Src.zoneCells s.zones (evs0 ++ [.slice eA E eR]))) := by
    have := HH2.out.many.own (Src.zoneRow (.slice (some ⟨zb, 0, none⟩) (Z + 1) zc) (evs0 ++ [.slice eA E eR]) s) (by simp)
    have e : (Src.zoneRow (.slice (some ⟨zb, 0, none⟩) (Z + 1) zc) (evs0 ++ [.slice eA E eR]) s).n = Z + 1 := by
      show s.zones.length = _
      rw [HZ0.out]
      simp [HZ.out]
    show World.ownsRow _ _ _ _ _ _ _
    rw [e] at this
    exact this
  have hEl : evs0.length = zs.length := by
    have := HH2.out.evs_len
    rw [HZ0.out] at this
    simp at this
    omega
  have cz : W.cell? ⟨zb, Z * 2 + 1, none⟩ = some (.slice eA E eR) := by
    rw [hHZ.out.cellAt (Z * 2 + 1) (by omega), HZ0.out, Src.zoneCells_app _ _ _ _ hEl, List.getElem?_append_right (by rw [Src.zoneCells_len _ _ hEl, HZ.out]; omega), Src.zoneCells_len _ _ hEl, HZ.out, show Z * 2 + 1 - 2 * Z = 1 by omega]
    rfl
  have fz : W.frozen? ⟨zb, Z * 2 + 1, none⟩ = false := hHZ.out.frozenAt _
  have cg : W.cell? ⟨g, 1, none⟩ = some (.slice (some ⟨zb, 0, none⟩) (Z + 1) zc) := HH2.out.at_.cell 1 _ rfl
  have wz : IntKind.i64.wrap (((Z + 1 : Nat) : Int) - 1) = (Z : Int) := by
    rw [show ((Z + 1 : Nat) : Int) - 1 = (Z : Int) by omega]
    exact IntWalk.i64_in _ (by omega)
  go_wp2_with fail
  clear hWW hh8
  go_quiet (fail)
  go_wp2
  generalize hW1 : W.drewN _ = W1
  have HH3 := Lib.hid (show Src.Held B W1 g s rv (.slice (some ⟨zb, 0, none⟩) (Z + 1) zc) lv (evs0 ++ [.slice eA E eR]) by rw [← hW1]; exact HH2.out.drewN _)
  have HB3 := Lib.hid (show Below g w W1 by rw [← hW1]; exact below_drewN HB2.out _)
  have HA3 := Lib.hid (show At W1 h8 [.int .i64 std, .int .u8 k, .int .i64 sv, .string ru, .string fm, .bool en, .int .i64 y, .int .i64 m, .int .u8 dk, .int .i64 dn, .int .i64 dd, .int .i64 sc, .int .u8 cc] by rw [← hW1]; exact HA.out)
  have HOZ := Lib.hid (show W1.ownsRow B 37 2 (.slice (some ⟨zb, 0, none⟩) (Z + 1) zc) (Z + 1) (Src.zoneCells s.zones (evs0 ++ [.slice eA E eR])) by rw [← hW1]; exact hHZ.out)
  have d3 : W1.cell? ⟨zb, Z * 2 + 1, none⟩ = some (.slice eA E eR) := by rw [← hW1]; exact cz
  have hWs1 : h8 < W1.heap.size := by rw [← hW1]; exact hWs
  have hWz1 : zb < W1.heap.size := by omega
  have a0 := HA3.out.cell 0 _ rfl
  have a1 := HA3.out.cell 1 _ rfl
  have a2 := HA3.out.cell 2 _ rfl
  have a3 := HA3.out.cell 3 _ rfl
  have a4 := HA3.out.cell 4 _ rfl
  have a5 := HA3.out.cell 5 _ rfl
  have a6 := HA3.out.cell 6 _ rfl
  have a7 := HA3.out.cell 7 _ rfl
  have a8 := HA3.out.cell 8 _ rfl
  have a9 := HA3.out.cell 9 _ rfl
  have a10 := HA3.out.cell 10 _ rfl
  have a11 := HA3.out.cell 11 _ rfl
  have a12 := HA3.out.cell 12 _ rfl
  clear hW1 cz fz cg HH2 HA HB2 hHZ hWs
  have HH4 := Lib.hid ((HH3.out.allocO (.cells #[.int .i64 std, .int .u8 k, .int .i64 sv, .string ru, .string fm, .bool en, .int .i64 y, .int .i64 m, .int .u8 dk, .int .i64 dn, .int .i64 dd, .int .i64 sc, .int .u8 cc] 50)).drewN 1)
  have hE0 := HH4.out.own_era HZ0.out
  have HO : Hid (((W1.alloc (.cells #[.int .i64 std, .int .u8 k, .int .i64 sv, .string ru, .string fm, .bool en, .int .i64 y, .int .i64 m, .int .u8 dk, .int .i64 dn, .int .i64 dd, .int .i64 sc, .int .u8 cc] 50)).drewN 1).ownsRow B 50 13 (.slice eA E eR) E (es.flatMap Er.E.cells)) := by
    have := hE0.1
    rw [HE.out] at this
    exact this
  have HAP := Lib.hid (HH4.out.apart_era HZ0.out)
  have HGE := Lib.hid hE0.2
  have HOZ4 := Lib.hid (show ((W1.alloc (.cells #[.int .i64 std, .int .u8 k, .int .i64 sv, .string ru, .string fm, .bool en, .int .i64 y, .int .i64 m, .int .u8 dk, .int .i64 dn, .int .i64 dd, .int .i64 sc, .int .u8 cc] 50)).drewN 1).ownsRow B 37 2 (.slice (some ⟨zb, 0, none⟩) (Z + 1) zc) (Z + 1) (Src.zoneCells s.zones (evs0 ++ [.slice eA E eR])) from HOZ.out.alloc _)
  have HA4 := Lib.hid (show At ((W1.alloc (.cells #[.int .i64 std, .int .u8 k, .int .i64 sv, .string ru, .string fm, .bool en, .int .i64 y, .int .i64 m, .int .u8 dk, .int .i64 dn, .int .i64 dd, .int .i64 sc, .int .u8 cc] 50)).drewN 1) h8 [.int .i64 std, .int .u8 k, .int .i64 sv, .string ru, .string fm, .bool en, .int .i64 y, .int .i64 m, .int .u8 dk, .int .i64 dn, .int .i64 dd, .int .i64 sc, .int .u8 cc] from (HA3.out.allocO (.cells #[.int .i64 std, .int .u8 k, .int .i64 sv, .string ru, .string fm, .bool en, .int .i64 y, .int .i64 m, .int .u8 dk, .int .i64 dn, .int .i64 dd, .int .i64 sc, .int .u8 cc] 50)).drew ⟨1, rfl⟩)
  have HN := Lib.hid (cells_new W1 #[.int .i64 std, .int .u8 k, .int .i64 sv, .string ru, .string fm, .bool en, .int .i64 y, .int .i64 m, .int .u8 dk, .int .i64 dn, .int .i64 dd, .int .i64 sc, .int .u8 cc] 50)
  have HXZ : Hid ((Src.zoneCells s.zones (evs0 ++ [.slice eA E eR]))[Z * 2 + 1]? = some (.slice eA E eR)) := by
    show _ = _
    rw [← HOZ.out.cellAt (Z * 2 + 1) (by omega)]
    exact d3
  have HE8 : Hid (∀ kk, (Value.slice eA E eR).ownBlock = some kk → h8 ≠ kk) := by
    intro kk hk e
    have h1 := (HOL.out.lt kk hk).2
    have h2 := HH8.out
    omega
  have n1 : zb ≠ h8 := by omega
  have n2 : h8 ≠ zb := by omega
  have n3 : zb ≠ g := by have := HH3.out.below; omega
  have n4 : g ≠ zb := fun e => n3 e.symm
  have n5 : h8 ≠ g := by omega
  have n6 : g ≠ h8 := by omega
  have hBW : B ≤ W1.heap.size := by omega
  clear hE0
  go_region_law ((refine step_append_lies _ (by rfl) (.tmp 43) (.tmp 45) 35 (by rfl) B 50 i0 _ 13 120 Tryd.underlying35 HI.out.1 HI.out.2.1 HI.out.2.2.1 HI.out.2.2.2 (by rfl) (by decide) _ E _ (by rfl) HO.out _ 1 1 _ (by rfl) (by rfl) HN.out (by simp [Value.oneCell']) (by decide) (by unfold maxLen; omega) (by omega) (by simp; omega) _ rfl ?_; intro g9 cp9 w9 hown9 hg9 hat9 hlt9; have c9 : w9.cell? ⟨zb, Z * 2 + 1, none⟩ = some (.slice eA E eR) := ((HOZ4.out.kept hg9 HAP.out.ne').cellAt (Z * 2 + 1) (by omega)).trans HXZ.out; have f9 : w9.frozen? ⟨zb, Z * 2 + 1, none⟩ = false := (HOZ4.out.kept hg9 HAP.out.ne').frozenAt _; have b9 : w9.cell? ⟨h8, 5, none⟩ = some (.bool en) := (Sc.At.grownO HA4.out hg9 HE8.out).cell 5 _ rfl; have c3 : w9.cell? ⟨g, 3, none⟩ = some (.bool s.op) := (Sc.At.grownO HH4.out.at_ hg9 HGE.out).cell 3 _ rfl; have f3 : w9.frozen? ⟨g, 3, none⟩ = false := (Sc.At.grownO HH4.out.at_ hg9 HGE.out).free 3 _ rfl))
  all_goals (have HF := Lib.hid hown9; have HG := Lib.hid hg9; have HT := Lib.hid hat9; clear hown9 hg9 hat9)
  all_goals go_wp2
  all_goals go_ret2
  all_goals
    refine ⟨rfl, ?_, rv, .slice (some ⟨zb, 0, none⟩) (Z + 1) zc, lv, evs0 ++ [.slice (some ⟨g9, 0, none⟩) (E + 1) cp9], ?_⟩
    · refine Below.setCell (Below.setCell (Below.grown (below_drewN (HB3.out.alloc (by omega) _) 1) HG.out (Nat.le_trans (show g ≤ W1.heap.size by omega) (le_alloc_drew _ _ _)) (fun kk hk => ?_)) (show g ≤ zb by have := HH3.out.below; omega) _) (Nat.le_refl _) _
      have h1 := (HO.out.lt kk hk).1
      have h2 := HH3.out.below
      omega
    · have key := HH4.out.era1 (ev' := .slice (some ⟨g9, 0, none⟩) (E + 1) cp9) ⟨std, k, sv, ru, fm, en, ⟨y, m, dk, dn, dd, sc, cc⟩⟩ HZ0.out rfl (show Value.slice (some ⟨zb, 0, none⟩) (Z + 1) zc = .slice (some ⟨zb, 0, none⟩) s.zones.length zc by rw [HZ0.out]; simp [HZ.out]) (by rw [HE.out]; exact HF.out) HG.out (by
        rcases HT.out with h | h
        · exact .inl h.symm
        · exact .inr (congrArg some h))
      rw [show 2 * zs.length + 1 = Z * 2 + 1 by rw [HZ.out]; omega] at key
      exact key
end Go.Proofs.YtmobejhfajnbhaaDoor
