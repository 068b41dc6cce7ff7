/- The contract of era.Text. -/
import Derived.Test.YtlhoggalhjadgaaGreatDoorK18
import Derived.Test.YtlhoggalhjadgaaGreatDoorK19
import Derived.Test.YtlhoggalhjadgaaGreatDoorK15

namespace Go.Proofs.YtlhoggalhjadgaaGreatDoor
open Go.RowKit Go.Sort

/-- What stands in the program's variables: what eras ask, to be read and written. -/
structure We (w : World) : Prop where
  c : Wc w
  a : Wa w
theorem We.below {w w' : World} (h : We w) (hb : Below w.heap.size w w') : We w' := ⟨h.c.below hb, h.a.below hb⟩
/-- The same: to be read. -/
structure Wq (w : World) : Prop where
  p : Wp w
  a : Wa w
theorem Wq.below {w w' : World} (h : Wq w) (hb : Below w.heap.size w w') : Wq w' := ⟨h.p.below hb, h.a.below hb⟩
theorem own_below {w w' : World} {base : Nat} {e : TypeId} {size : Nat} {v : Value} {n : Nat} {xs : List Value} (h : w.ownsRow base e size v n xs) (hb : Below w.heap.size w w') : w'.ownsRow base e size v n xs := by
  refine ⟨h.1, ?_⟩
  rcases h.2 with hn | ⟨g, cap, cur, hv, hbase, hg, rest⟩
  · exact .inl hn
  · have hl : g < w.heap.size := (Array.getElem?_eq_some_iff.1 hg).1
    exact .inr ⟨g, cap, cur, hv, hbase, (hb.block g hl).trans hg, rest⟩
theorem own_slice_cap {w : World} {base : Nat} {e : TypeId} {size n : Nat} {v : Value} {xs : List Value} (h : w.ownsRow base e size v n xs) : ∃ A c, v = .slice A n c ∧ n ≤ c ∧ c ≤ maxLen := by
  rcases h.2 with ⟨rfl, rfl⟩ | ⟨g, cap, cur, rfl, _, _, h1, h2, _⟩
  · exact ⟨none, 0, rfl, Nat.le_refl _, Nat.zero_le _⟩
  · exact ⟨_, cap, rfl, h1, h2⟩
theorem str_info : (Tryz.prog.info? 9).map (fun i => (i.zero, i.size, i.bytes)) = some (some (.string ⟨#[]⟩), 1, 16) := by kernel_rfl
theorem er_reads (w : World) (g : Nat) (l : List ByteArray) (t : TypeId) (hg : g = w.heap.size) : Reads (w.alloc (.cells (strCells l) t)) (w.alloc (.cells (strCells l) t)).heap.size 1 (some ⟨g, 0, none⟩) l.length (l.map Value.string) := by
  subst hg
  exact reads_new w l t
theorem erText_bad (e : Er.E) (w : World) (hWa : Wa w) (h : ¬ e.Ok) (hs1 : e.fm.size ≤ maxLen) (hs2 : e.ru.size ≤ maxLen) :
    Calls Tryz.prog 38 #[e.v] w fun r w' => r = .returned (.tuple #[.slice none 0 0, .int .i64 2]) ∧ Below w.heap.size w w' := by
  have HC := Lib.hid fun W hw => eraCheck_bad e W hw h hs1 hs2
  have HWa := Lib.hid hWa
  obtain ⟨std, k, sv, ru, fm, en, ⟨y, m, dk, dn, dd, s, c⟩⟩ := e
  unfold Er.E.v at HC ⊢
  simp only at HC ⊢
  clear h hs1 hs2 hWa
  have HB := Lib.hid (Below.refl w.heap.size w)
  go_enter Tryz.func38, Tryz.ntmps38
  go_wp2_with fail
  refine (HC.out _ (HWa.out.below (HB.out.alloc (by have := HB.out.size; first | exact this | (simp; omega)) _))).mono ?_
  rintro e w1 ⟨rfl, hb⟩
  have hbz := below_then (HB.out.alloc (by have := HB.out.size; first | exact this | (simp; omega)) _) hb
  have Rr := Lib.hid ((At.new w #[.int .i64 std, .int .u8 k, .int .i64 sv, .string ru, .string fm, .bool en, .int .i64 y, .int .i64 m, .int .u8 dk, .int .i64 dn, .int .i64 dd, .int .i64 s, .int .u8 c] 62).call hb)
  replace HB := Lib.hid hbz
  clear hb hbz
  go_wp2
  go_ret2
  exact ⟨rfl, HB.out⟩
set_option maxHeartbeats 4000000 in
set_option maxRecDepth 100000 in
theorem erText_0_false (std sv : Int) (ru fm : ByteArray) (y m dk dn dd s c : Int) (w : World) (hW : Wc w) (hWa : Wa w) (h : Er.E.Ok ⟨std, 0, sv, ru, fm, false, ⟨y, m, dk, dn, dd, s, c⟩⟩) (_hc : 0 ≤ c) (hs1 : fm.size ≤ 1000000) (hs2 : ru.size ≤ 1000000) :
    Calls Tryz.prog 38 #[.agg #[.int .i64 std, .int .u8 0, .int .i64 sv, .string ru, .string fm, .bool false, .int .i64 y, .int .i64 m, .int .u8 dk, .int .i64 dn, .int .i64 dd, .int .i64 s, .int .u8 c]] w (StrsRet (Er.E.texts ⟨std, 0, sv, ru, fm, false, ⟨y, m, dk, dn, dd, s, c⟩⟩) w) := by
  have hC := fun W hw => eraCheck_ok ⟨std, 0, sv, ru, fm, false, ⟨y, m, dk, dn, dd, s, c⟩⟩ W hw h hs1 hs2
  unfold Er.E.v at hC
  simp only at hC
  have HC := Lib.hid hC
  obtain ⟨xs, hxs⟩ : ∃ x : ByteArray, ⟨(Ck.text std).toArray⟩ = x := ⟨_, rfl⟩
  obtain ⟨xv, hxv⟩ : ∃ x : ByteArray, ⟨(Ck.text sv).toArray⟩ = x := ⟨_, rfl⟩
  have hS := fun W hw => calls_str (clockText_any std W hw) hxs
  have HS := Lib.hid hS
  have hT : Er.E.texts ⟨std, 0, sv, ru, fm, false, ⟨y, m, dk, dn, dd, s, c⟩⟩ = [xs, ⟨#[45]⟩, fm] := by
    unfold Er.E.texts Er.E.front Er.E.mid
    simp only [hxs, hxv]
    rfl
  obtain ⟨T, hTT⟩ : ∃ T, Er.E.texts ⟨std, 0, sv, ru, fm, false, ⟨y, m, dk, dn, dd, s, c⟩⟩ = T := ⟨_, rfl⟩
  rw [hTT] at hT ⊢
  have HT := Lib.hid hT
  have HW := Lib.hid hW
  have HWa := Lib.hid hWa
  have HB := Lib.hid (Below.refl w.heap.size w)
  clear hC h hxs hxv hS hT hTT hW hWa hs1 hs2
  go_enter Tryz.func38, Tryz.ntmps38
  go_wp2_with fail
  refine (HC.out _ (HWa.out.below (HB.out.alloc (by have := HB.out.size; first | exact this | (simp; omega)) _))).mono ?_
  rintro e w1 ⟨rfl, hb⟩
  have hbz := below_then (HB.out.alloc (by have := HB.out.size; first | exact this | (simp; omega)) _) hb
  have Rr := Lib.hid ((At.new w #[.int .i64 std, .int .u8 0, .int .i64 sv, .string ru, .string fm, .bool false, .int .i64 y, .int .i64 m, .int .u8 dk, .int .i64 dn, .int .i64 dd, .int .i64 s, .int .u8 c] 62).call hb)
  replace HB := Lib.hid hbz
  clear hb hbz
  have zRr := Rr.out.lt
  have Rrc0 := Rr.out.cell 0 _ rfl
  have Rrc1 := Rr.out.cell 1 _ rfl
  have Rrc2 := Rr.out.cell 2 _ rfl
  have Rrc3 := Rr.out.cell 3 _ rfl
  have Rrc4 := Rr.out.cell 4 _ rfl
  have Rrc5 := Rr.out.cell 5 _ rfl
  have Rrc6 := Rr.out.cell 6 _ rfl
  have Rrc7 := Rr.out.cell 7 _ rfl
  have Rrc8 := Rr.out.cell 8 _ rfl
  have Rrc9 := Rr.out.cell 9 _ rfl
  have Rrc10 := Rr.out.cell 10 _ rfl
  have Rrc11 := Rr.out.cell 11 _ rfl
  have Rrc12 := Rr.out.cell 12 _ rfl
  have k0 := cell_regrown Rrc0
  have k4 := cell_regrown Rrc4
  have cS : ∀ dd os, Calls Tryz.prog 60 #[.int .i64 std] (grow (redrawn w1 dd) os) fun e w'' => e = .returned (.string xs) ∧ ∃ p : Regrown, w'' = grow (redrawn w1 p.d) p.os := fun dd os => Calls.regrown_of (HS.out _ (HW.out.below (below_then HB.out (below_regrown w1 dd os))))
  go_upto_region 10 with fail
  refine wp_region_tail 6 (by kernel_rfl) (by kernel_rfl) ?_
  repeat (quiet_step (exact cS _ _))
  refine wpQuiet_nil ?_
  intro wz hwz
  obtain ⟨⟨dq, osq⟩, hwz⟩ := hwz
  have hbz : Below w1.heap.size w1 wz := by rw [hwz]; exact below_regrown _ _ _
  have Rz := Lib.hid (Rr.out.call hbz)
  have HBz := Lib.hid (below_then HB.out hbz)
  clear hwz hbz k0 k4 cS zRr Rrc0 Rrc1 Rrc2 Rrc3 Rrc4 Rrc5 Rrc6 Rrc7 Rrc8 Rrc9 Rrc10 Rrc11 Rrc12
  have zRz := Rz.out.lt
  have Rzc0 := Rz.out.cell 0 _ rfl
  have Rzc1 := Rz.out.cell 1 _ rfl
  have Rzc2 := Rz.out.cell 2 _ rfl
  have Rzc3 := Rz.out.cell 3 _ rfl
  have Rzc4 := Rz.out.cell 4 _ rfl
  have Rzc5 := Rz.out.cell 5 _ rfl
  have Rzc6 := Rz.out.cell 6 _ rfl
  have Rzc7 := Rz.out.cell 7 _ rfl
  have Rzc8 := Rz.out.cell 8 _ rfl
  have Rzc9 := Rz.out.cell 9 _ rfl
  have Rzc10 := Rz.out.cell 10 _ rfl
  have Rzc11 := Rz.out.cell 11 _ rfl
  have Rzc12 := Rz.out.cell 12 _ rfl
  show wpList _ _ _ (_ :: _) _ _
  go_wp2
  have hl3 : T.length = 3 := by rw [HT.out]; rfl
  refine bodyPost_ret (v := .tuple #[.slice (some ⟨wz.heap.size, 0, none⟩) 3 3, .int .i64 0]) (by simp [results, Tryz.results38, go_sem]) rfl ⟨some ⟨wz.heap.size, 0, none⟩, 3, ⟨by rw [hl3]; exact Nat.le_refl _, by decide⟩, by rw [hl3], ?_, HBz.out.alloc HBz.out.size _⟩
  rw [HT.out]
  exact er_reads wz wz.heap.size [xs, ⟨#[45]⟩, fm] 9 rfl
set_option maxHeartbeats 4000000 in
set_option maxRecDepth 100000 in
theorem erText_0_true (std sv : Int) (ru fm : ByteArray) (y m dk dn dd s c : Int) (w : World) (hW : Wc w) (hWa : Wa w) (h : Er.E.Ok ⟨std, 0, sv, ru, fm, true, ⟨y, m, dk, dn, dd, s, c⟩⟩) (hc : 0 ≤ c) (hs1 : fm.size ≤ 1000000) (hs2 : ru.size ≤ 1000000) :
    Calls Tryz.prog 38 #[.agg #[.int .i64 std, .int .u8 0, .int .i64 sv, .string ru, .string fm, .bool true, .int .i64 y, .int .i64 m, .int .u8 dk, .int .i64 dn, .int .i64 dd, .int .i64 s, .int .u8 c]] w (StrsRet (Er.E.texts ⟨std, 0, sv, ru, fm, true, ⟨y, m, dk, dn, dd, s, c⟩⟩) w) := by
  have hC := fun W hw => eraCheck_ok ⟨std, 0, sv, ru, fm, true, ⟨y, m, dk, dn, dd, s, c⟩⟩ W hw h hs1 hs2
  unfold Er.E.v at hC
  simp only at hC
  have HC := Lib.hid hC
  obtain ⟨xs, hxs⟩ : ∃ x : ByteArray, ⟨(Ck.text std).toArray⟩ = x := ⟨_, rfl⟩
  obtain ⟨xv, hxv⟩ : ∃ x : ByteArray, ⟨(Ck.text sv).toArray⟩ = x := ⟨_, rfl⟩
  have hS := fun W hw => calls_str (clockText_any std W hw) hxs
  have HS := Lib.hid hS
  have hTU := fun W hw => textUntil_ok ⟨y, m, dk, dn, dd, s, c⟩ W hw (h.2.2.2.1 rfl) hc
  unfold Mo.U.v at hTU
  simp only at hTU
  obtain ⟨UT, hUT⟩ : ∃ l, Mo.U.texts ⟨y, m, dk, dn, dd, s, c⟩ = l := ⟨_, rfl⟩
  rw [hUT] at hTU
  have hul : 1 ≤ UT.length ∧ UT.length ≤ 4 := by
    rw [← hUT, Mo.texts_len]
    exact Mo.count_bd _
  obtain ⟨hul1, hul2⟩ := hul
  have hT : Er.E.texts ⟨std, 0, sv, ru, fm, true, ⟨y, m, dk, dn, dd, s, c⟩⟩ = [xs, ⟨#[45]⟩, fm] ++ UT := by
    unfold Er.E.texts Er.E.front Er.E.mid
    simp only [hxs, hxv, hUT]
    rfl
  have HTU := Lib.hid hTU
  obtain ⟨i0, hi0, hz0, hz1, hz2⟩ := info_parts str_info
  have HI := Lib.hid (And.intro hi0 (And.intro hz0 (And.intro hz1 hz2)))
  clear hTU hUT hi0 hz0 hz1 hz2
  obtain ⟨T, hTT⟩ : ∃ T, Er.E.texts ⟨std, 0, sv, ru, fm, true, ⟨y, m, dk, dn, dd, s, c⟩⟩ = T := ⟨_, rfl⟩
  rw [hTT] at hT ⊢
  have HT := Lib.hid hT
  have HW := Lib.hid hW
  have HWa := Lib.hid hWa
  have HB := Lib.hid (Below.refl w.heap.size w)
  clear hC h hxs hxv hS hT hTT hW hWa hs1 hs2
  go_enter Tryz.func38, Tryz.ntmps38
  go_wp2_with fail
  refine (HC.out _ (HWa.out.below (HB.out.alloc (by have := HB.out.size; first | exact this | (simp; omega)) _))).mono ?_
  rintro e w1 ⟨rfl, hb⟩
  have hbz := below_then (HB.out.alloc (by have := HB.out.size; first | exact this | (simp; omega)) _) hb
  have Rr := Lib.hid ((At.new w #[.int .i64 std, .int .u8 0, .int .i64 sv, .string ru, .string fm, .bool true, .int .i64 y, .int .i64 m, .int .u8 dk, .int .i64 dn, .int .i64 dd, .int .i64 s, .int .u8 c] 62).call hb)
  replace HB := Lib.hid hbz
  clear hb hbz
  have zRr := Rr.out.lt
  have Rrc0 := Rr.out.cell 0 _ rfl
  have Rrc1 := Rr.out.cell 1 _ rfl
  have Rrc2 := Rr.out.cell 2 _ rfl
  have Rrc3 := Rr.out.cell 3 _ rfl
  have Rrc4 := Rr.out.cell 4 _ rfl
  have Rrc5 := Rr.out.cell 5 _ rfl
  have Rrc6 := Rr.out.cell 6 _ rfl
  have Rrc7 := Rr.out.cell 7 _ rfl
  have Rrc8 := Rr.out.cell 8 _ rfl
  have Rrc9 := Rr.out.cell 9 _ rfl
  have Rrc10 := Rr.out.cell 10 _ rfl
  have Rrc11 := Rr.out.cell 11 _ rfl
  have Rrc12 := Rr.out.cell 12 _ rfl
  have k0 := cell_regrown Rrc0
  have k4 := cell_regrown Rrc4
  have cS : ∀ dd os, Calls Tryz.prog 60 #[.int .i64 std] (grow (redrawn w1 dd) os) fun e w'' => e = .returned (.string xs) ∧ ∃ p : Regrown, w'' = grow (redrawn w1 p.d) p.os := fun dd os => Calls.regrown_of (HS.out _ (HW.out.below (below_then HB.out (below_regrown w1 dd os))))
  go_upto_region 10 with fail
  refine wp_region_tail 6 (by kernel_rfl) (by kernel_rfl) ?_
  repeat (quiet_step (exact cS _ _))
  refine wpQuiet_nil ?_
  intro wz hwz
  obtain ⟨⟨dq, osq⟩, hwz⟩ := hwz
  have hbz : Below w1.heap.size w1 wz := by rw [hwz]; exact below_regrown _ _ _
  have Rz := Lib.hid (Rr.out.call hbz)
  have HBz := Lib.hid (below_then HB.out hbz)
  clear hwz hbz k0 k4 cS zRr Rrc0 Rrc1 Rrc2 Rrc3 Rrc4 Rrc5 Rrc6 Rrc7 Rrc8 Rrc9 Rrc10 Rrc11 Rrc12
  have zRz := Rz.out.lt
  have Rzc0 := Rz.out.cell 0 _ rfl
  have Rzc1 := Rz.out.cell 1 _ rfl
  have Rzc2 := Rz.out.cell 2 _ rfl
  have Rzc3 := Rz.out.cell 3 _ rfl
  have Rzc4 := Rz.out.cell 4 _ rfl
  have Rzc5 := Rz.out.cell 5 _ rfl
  have Rzc6 := Rz.out.cell 6 _ rfl
  have Rzc7 := Rz.out.cell 7 _ rfl
  have Rzc8 := Rz.out.cell 8 _ rfl
  have Rzc9 := Rz.out.cell 9 _ rfl
  have Rzc10 := Rz.out.cell 10 _ rfl
  have Rzc11 := Rz.out.cell 11 _ rfl
  have Rzc12 := Rz.out.cell 12 _ rfl
  show wpList _ _ _ (_ :: _) _ _
  have HO := Lib.hid (World.ownsRow_lit (base := w.heap.size) (e := 9) (size := 1) wz #[.string xs, .string ⟨#[45]⟩, .string fm] 3 HBz.out.size (by decide) (by simp))
  have HBy := Lib.hid (HBz.out.alloc HBz.out.size (.cells #[.string xs, .string ⟨#[45]⟩, .string fm] 9))
  go_wp2_with fail
  refine (HTU.out _ (HW.out.below HBy.out)).mono ?_
  rintro e w8 ⟨AU, cU, hcap, rfl, hrU, hb⟩
  have HO8 := Lib.hid (own_below HO.out hb)
  have HB8 := Lib.hid (below_then HBy.out hb)
  have HRU := Lib.hid hrU
  clear hrU hb hcap
  go_wp2_with (at_builtin; refine wpList_append_any _ rfl (.tmp 45) (.tmp 46) _ rfl w.heap.size 9 i0 _ 1 16 Tryz.underlying48 HI.out.1 HI.out.2.1 HI.out.2.2.1 HI.out.2.2.2 rfl (by omega) _ _ _ rfl HO8.out _ _ _ _ _ rfl HRU.out (by intro u hu; rw [List.mem_map] at hu; obtain ⟨t, _, rfl⟩ := hu; rfl) (by unfold maxLen; omega) (by omega) HB8.out.size ?_; intro v9 w9 hown9 hg9 hat9)
  have hb9 : Below w.heap.size w w9 := HB8.out.grown hg9 HB8.out.size (fun k hk => by have hk' : wz.heap.size = k := Option.some.inj hk; have := HBz.out.size; omega)
  obtain ⟨A9, c9, hv9, hn9, hm9⟩ := own_slice_cap hown9
  have hlT : T.length = 3 + UT.length := by rw [HT.out]; simp; omega
  rw [hv9] at hown9
  have hr9 := Reads.of_own hown9
  refine bodyPost_ret (v := .tuple #[v9, .int .i64 0]) (by simp [results, Tryz.results38, go_sem]) rfl ⟨A9, c9, ⟨by rw [hlT]; exact hn9, hm9⟩, by rw [hv9, hlT], ?_, hb9⟩
  rw [hlT, HT.out]
  simpa using hr9
set_option maxHeartbeats 4000000 in
set_option maxRecDepth 100000 in
theorem erText_1_false (std sv : Int) (ru fm : ByteArray) (y m dk dn dd s c : Int) (w : World) (hW : Wc w) (hWa : Wa w) (h : Er.E.Ok ⟨std, 1, sv, ru, fm, false, ⟨y, m, dk, dn, dd, s, c⟩⟩) (_hc : 0 ≤ c) (hs1 : fm.size ≤ 1000000) (hs2 : ru.size ≤ 1000000) :
    Calls Tryz.prog 38 #[.agg #[.int .i64 std, .int .u8 1, .int .i64 sv, .string ru, .string fm, .bool false, .int .i64 y, .int .i64 m, .int .u8 dk, .int .i64 dn, .int .i64 dd, .int .i64 s, .int .u8 c]] w (StrsRet (Er.E.texts ⟨std, 1, sv, ru, fm, false, ⟨y, m, dk, dn, dd, s, c⟩⟩) w) := by
  have hC := fun W hw => eraCheck_ok ⟨std, 1, sv, ru, fm, false, ⟨y, m, dk, dn, dd, s, c⟩⟩ W hw h hs1 hs2
  unfold Er.E.v at hC
  simp only at hC
  have HC := Lib.hid hC
  obtain ⟨xs, hxs⟩ : ∃ x : ByteArray, ⟨(Ck.text std).toArray⟩ = x := ⟨_, rfl⟩
  obtain ⟨xv, hxv⟩ : ∃ x : ByteArray, ⟨(Ck.text sv).toArray⟩ = x := ⟨_, rfl⟩
  have hS := fun W hw => calls_str (clockText_any std W hw) hxs
  have HS := Lib.hid hS
  have hV := fun W hw => calls_str (clockText_any sv W hw) hxv
  have HV := Lib.hid hV
  clear hV
  have hT : Er.E.texts ⟨std, 1, sv, ru, fm, false, ⟨y, m, dk, dn, dd, s, c⟩⟩ = [xs, xv, fm] := by
    unfold Er.E.texts Er.E.front Er.E.mid
    simp only [hxs, hxv]
    rfl
  obtain ⟨T, hTT⟩ : ∃ T, Er.E.texts ⟨std, 1, sv, ru, fm, false, ⟨y, m, dk, dn, dd, s, c⟩⟩ = T := ⟨_, rfl⟩
  rw [hTT] at hT ⊢
  have HT := Lib.hid hT
  have HW := Lib.hid hW
  have HWa := Lib.hid hWa
  have HB := Lib.hid (Below.refl w.heap.size w)
  clear hC h hxs hxv hS hT hTT hW hWa hs1 hs2
  go_enter Tryz.func38, Tryz.ntmps38
  go_wp2_with fail
  refine (HC.out _ (HWa.out.below (HB.out.alloc (by have := HB.out.size; first | exact this | (simp; omega)) _))).mono ?_
  rintro e w1 ⟨rfl, hb⟩
  have hbz := below_then (HB.out.alloc (by have := HB.out.size; first | exact this | (simp; omega)) _) hb
  have Rr := Lib.hid ((At.new w #[.int .i64 std, .int .u8 1, .int .i64 sv, .string ru, .string fm, .bool false, .int .i64 y, .int .i64 m, .int .u8 dk, .int .i64 dn, .int .i64 dd, .int .i64 s, .int .u8 c] 62).call hb)
  replace HB := Lib.hid hbz
  clear hb hbz
  have zRr := Rr.out.lt
  have Rrc0 := Rr.out.cell 0 _ rfl
  have Rrc1 := Rr.out.cell 1 _ rfl
  have Rrc2 := Rr.out.cell 2 _ rfl
  have Rrc3 := Rr.out.cell 3 _ rfl
  have Rrc4 := Rr.out.cell 4 _ rfl
  have Rrc5 := Rr.out.cell 5 _ rfl
  have Rrc6 := Rr.out.cell 6 _ rfl
  have Rrc7 := Rr.out.cell 7 _ rfl
  have Rrc8 := Rr.out.cell 8 _ rfl
  have Rrc9 := Rr.out.cell 9 _ rfl
  have Rrc10 := Rr.out.cell 10 _ rfl
  have Rrc11 := Rr.out.cell 11 _ rfl
  have Rrc12 := Rr.out.cell 12 _ rfl
  go_wp2_with fail
  refine (HV.out _ (HW.out.below HB.out)).mono ?_
  rintro e w2 ⟨rfl, hb⟩
  have hbz := below_then HB.out hb
  have Rr' := Rr.out.call hb
  clear Rr
  have Rr := Lib.hid Rr'
  clear Rr'
  replace HB := Lib.hid hbz
  clear hb hbz
  clear zRr Rrc0 Rrc1 Rrc2 Rrc3 Rrc4 Rrc5 Rrc6 Rrc7 Rrc8 Rrc9 Rrc10 Rrc11 Rrc12
  have zRr := Rr.out.lt
  have Rrc0 := Rr.out.cell 0 _ rfl
  have Rrc1 := Rr.out.cell 1 _ rfl
  have Rrc2 := Rr.out.cell 2 _ rfl
  have Rrc3 := Rr.out.cell 3 _ rfl
  have Rrc4 := Rr.out.cell 4 _ rfl
  have Rrc5 := Rr.out.cell 5 _ rfl
  have Rrc6 := Rr.out.cell 6 _ rfl
  have Rrc7 := Rr.out.cell 7 _ rfl
  have Rrc8 := Rr.out.cell 8 _ rfl
  have Rrc9 := Rr.out.cell 9 _ rfl
  have Rrc10 := Rr.out.cell 10 _ rfl
  have Rrc11 := Rr.out.cell 11 _ rfl
  have Rrc12 := Rr.out.cell 12 _ rfl
  have k0 := cell_regrown Rrc0
  have k4 := cell_regrown Rrc4
  have cS : ∀ dd os, Calls Tryz.prog 60 #[.int .i64 std] (grow (redrawn w2 dd) os) fun e w'' => e = .returned (.string xs) ∧ ∃ p : Regrown, w'' = grow (redrawn w2 p.d) p.os := fun dd os => Calls.regrown_of (HS.out _ (HW.out.below (below_then HB.out (below_regrown w2 dd os))))
  go_upto_region 10 with fail
  refine wp_region_tail 6 (by kernel_rfl) (by kernel_rfl) ?_
  repeat (quiet_step (exact cS _ _))
  refine wpQuiet_nil ?_
  intro wz hwz
  obtain ⟨⟨dq, osq⟩, hwz⟩ := hwz
  have hbz : Below w2.heap.size w2 wz := by rw [hwz]; exact below_regrown _ _ _
  have Rz := Lib.hid (Rr.out.call hbz)
  have HBz := Lib.hid (below_then HB.out hbz)
  clear hwz hbz k0 k4 cS zRr Rrc0 Rrc1 Rrc2 Rrc3 Rrc4 Rrc5 Rrc6 Rrc7 Rrc8 Rrc9 Rrc10 Rrc11 Rrc12
  have zRz := Rz.out.lt
  have Rzc0 := Rz.out.cell 0 _ rfl
  have Rzc1 := Rz.out.cell 1 _ rfl
  have Rzc2 := Rz.out.cell 2 _ rfl
  have Rzc3 := Rz.out.cell 3 _ rfl
  have Rzc4 := Rz.out.cell 4 _ rfl
  have Rzc5 := Rz.out.cell 5 _ rfl
  have Rzc6 := Rz.out.cell 6 _ rfl
  have Rzc7 := Rz.out.cell 7 _ rfl
  have Rzc8 := Rz.out.cell 8 _ rfl
  have Rzc9 := Rz.out.cell 9 _ rfl
  have Rzc10 := Rz.out.cell 10 _ rfl
  have Rzc11 := Rz.out.cell 11 _ rfl
  have Rzc12 := Rz.out.cell 12 _ rfl
  show wpList _ _ _ (_ :: _) _ _
  go_wp2
  have hl3 : T.length = 3 := by rw [HT.out]; rfl
  refine bodyPost_ret (v := .tuple #[.slice (some ⟨wz.heap.size, 0, none⟩) 3 3, .int .i64 0]) (by simp [results, Tryz.results38, go_sem]) rfl ⟨some ⟨wz.heap.size, 0, none⟩, 3, ⟨by rw [hl3]; exact Nat.le_refl _, by decide⟩, by rw [hl3], ?_, HBz.out.alloc HBz.out.size _⟩
  rw [HT.out]
  exact er_reads wz wz.heap.size [xs, xv, fm] 9 rfl
set_option maxHeartbeats 4000000 in
set_option maxRecDepth 100000 in
theorem erText_1_true (std sv : Int) (ru fm : ByteArray) (y m dk dn dd s c : Int) (w : World) (hW : Wc w) (hWa : Wa w) (h : Er.E.Ok ⟨std, 1, sv, ru, fm, true, ⟨y, m, dk, dn, dd, s, c⟩⟩) (hc : 0 ≤ c) (hs1 : fm.size ≤ 1000000) (hs2 : ru.size ≤ 1000000) :
    Calls Tryz.prog 38 #[.agg #[.int .i64 std, .int .u8 1, .int .i64 sv, .string ru, .string fm, .bool true, .int .i64 y, .int .i64 m, .int .u8 dk, .int .i64 dn, .int .i64 dd, .int .i64 s, .int .u8 c]] w (StrsRet (Er.E.texts ⟨std, 1, sv, ru, fm, true, ⟨y, m, dk, dn, dd, s, c⟩⟩) w) := by
  have hC := fun W hw => eraCheck_ok ⟨std, 1, sv, ru, fm, true, ⟨y, m, dk, dn, dd, s, c⟩⟩ W hw h hs1 hs2
  unfold Er.E.v at hC
  simp only at hC
  have HC := Lib.hid hC
  obtain ⟨xs, hxs⟩ : ∃ x : ByteArray, ⟨(Ck.text std).toArray⟩ = x := ⟨_, rfl⟩
  obtain ⟨xv, hxv⟩ : ∃ x : ByteArray, ⟨(Ck.text sv).toArray⟩ = x := ⟨_, rfl⟩
  have hS := fun W hw => calls_str (clockText_any std W hw) hxs
  have HS := Lib.hid hS
  have hV := fun W hw => calls_str (clockText_any sv W hw) hxv
  have HV := Lib.hid hV
  clear hV
  have hTU := fun W hw => textUntil_ok ⟨y, m, dk, dn, dd, s, c⟩ W hw (h.2.2.2.1 rfl) hc
  unfold Mo.U.v at hTU
  simp only at hTU
  obtain ⟨UT, hUT⟩ : ∃ l, Mo.U.texts ⟨y, m, dk, dn, dd, s, c⟩ = l := ⟨_, rfl⟩
  rw [hUT] at hTU
  have hul : 1 ≤ UT.length ∧ UT.length ≤ 4 := by
    rw [← hUT, Mo.texts_len]
    exact Mo.count_bd _
  obtain ⟨hul1, hul2⟩ := hul
  have hT : Er.E.texts ⟨std, 1, sv, ru, fm, true, ⟨y, m, dk, dn, dd, s, c⟩⟩ = [xs, xv, fm] ++ UT := by
    unfold Er.E.texts Er.E.front Er.E.mid
    simp only [hxs, hxv, hUT]
    rfl
  have HTU := Lib.hid hTU
  obtain ⟨i0, hi0, hz0, hz1, hz2⟩ := info_parts str_info
  have HI := Lib.hid (And.intro hi0 (And.intro hz0 (And.intro hz1 hz2)))
  clear hTU hUT hi0 hz0 hz1 hz2
  obtain ⟨T, hTT⟩ : ∃ T, Er.E.texts ⟨std, 1, sv, ru, fm, true, ⟨y, m, dk, dn, dd, s, c⟩⟩ = T := ⟨_, rfl⟩
  rw [hTT] at hT ⊢
  have HT := Lib.hid hT
  have HW := Lib.hid hW
  have HWa := Lib.hid hWa
  have HB := Lib.hid (Below.refl w.heap.size w)
  clear hC h hxs hxv hS hT hTT hW hWa hs1 hs2
  go_enter Tryz.func38, Tryz.ntmps38
  go_wp2_with fail
  refine (HC.out _ (HWa.out.below (HB.out.alloc (by have := HB.out.size; first | exact this | (simp; omega)) _))).mono ?_
  rintro e w1 ⟨rfl, hb⟩
  have hbz := below_then (HB.out.alloc (by have := HB.out.size; first | exact this | (simp; omega)) _) hb
  have Rr := Lib.hid ((At.new w #[.int .i64 std, .int .u8 1, .int .i64 sv, .string ru, .string fm, .bool true, .int .i64 y, .int .i64 m, .int .u8 dk, .int .i64 dn, .int .i64 dd, .int .i64 s, .int .u8 c] 62).call hb)
  replace HB := Lib.hid hbz
  clear hb hbz
  have zRr := Rr.out.lt
  have Rrc0 := Rr.out.cell 0 _ rfl
  have Rrc1 := Rr.out.cell 1 _ rfl
  have Rrc2 := Rr.out.cell 2 _ rfl
  have Rrc3 := Rr.out.cell 3 _ rfl
  have Rrc4 := Rr.out.cell 4 _ rfl
  have Rrc5 := Rr.out.cell 5 _ rfl
  have Rrc6 := Rr.out.cell 6 _ rfl
  have Rrc7 := Rr.out.cell 7 _ rfl
  have Rrc8 := Rr.out.cell 8 _ rfl
  have Rrc9 := Rr.out.cell 9 _ rfl
  have Rrc10 := Rr.out.cell 10 _ rfl
  have Rrc11 := Rr.out.cell 11 _ rfl
  have Rrc12 := Rr.out.cell 12 _ rfl
  go_wp2_with fail
  refine (HV.out _ (HW.out.below HB.out)).mono ?_
  rintro e w2 ⟨rfl, hb⟩
  have hbz := below_then HB.out hb
  have Rr' := Rr.out.call hb
  clear Rr
  have Rr := Lib.hid Rr'
  clear Rr'
  replace HB := Lib.hid hbz
  clear hb hbz
  clear zRr Rrc0 Rrc1 Rrc2 Rrc3 Rrc4 Rrc5 Rrc6 Rrc7 Rrc8 Rrc9 Rrc10 Rrc11 Rrc12
  have zRr := Rr.out.lt
  have Rrc0 := Rr.out.cell 0 _ rfl
  have Rrc1 := Rr.out.cell 1 _ rfl
  have Rrc2 := Rr.out.cell 2 _ rfl
  have Rrc3 := Rr.out.cell 3 _ rfl
  have Rrc4 := Rr.out.cell 4 _ rfl
  have Rrc5 := Rr.out.cell 5 _ rfl
  have Rrc6 := Rr.out.cell 6 _ rfl
  have Rrc7 := Rr.out.cell 7 _ rfl
  have Rrc8 := Rr.out.cell 8 _ rfl
  have Rrc9 := Rr.out.cell 9 _ rfl
  have Rrc10 := Rr.out.cell 10 _ rfl
  have Rrc11 := Rr.out.cell 11 _ rfl
  have Rrc12 := Rr.out.cell 12 _ rfl
  have k0 := cell_regrown Rrc0
  have k4 := cell_regrown Rrc4
  have cS : ∀ dd os, Calls Tryz.prog 60 #[.int .i64 std] (grow (redrawn w2 dd) os) fun e w'' => e = .returned (.string xs) ∧ ∃ p : Regrown, w'' = grow (redrawn w2 p.d) p.os := fun dd os => Calls.regrown_of (HS.out _ (HW.out.below (below_then HB.out (below_regrown w2 dd os))))
  go_upto_region 10 with fail
  refine wp_region_tail 6 (by kernel_rfl) (by kernel_rfl) ?_
  repeat (quiet_step (exact cS _ _))
  refine wpQuiet_nil ?_
  intro wz hwz
  obtain ⟨⟨dq, osq⟩, hwz⟩ := hwz
  have hbz : Below w2.heap.size w2 wz := by rw [hwz]; exact below_regrown _ _ _
  have Rz := Lib.hid (Rr.out.call hbz)
  have HBz := Lib.hid (below_then HB.out hbz)
  clear hwz hbz k0 k4 cS zRr Rrc0 Rrc1 Rrc2 Rrc3 Rrc4 Rrc5 Rrc6 Rrc7 Rrc8 Rrc9 Rrc10 Rrc11 Rrc12
  have zRz := Rz.out.lt
  have Rzc0 := Rz.out.cell 0 _ rfl
  have Rzc1 := Rz.out.cell 1 _ rfl
  have Rzc2 := Rz.out.cell 2 _ rfl
  have Rzc3 := Rz.out.cell 3 _ rfl
  have Rzc4 := Rz.out.cell 4 _ rfl
  have Rzc5 := Rz.out.cell 5 _ rfl
  have Rzc6 := Rz.out.cell 6 _ rfl
  have Rzc7 := Rz.out.cell 7 _ rfl
  have Rzc8 := Rz.out.cell 8 _ rfl
  have Rzc9 := Rz.out.cell 9 _ rfl
  have Rzc10 := Rz.out.cell 10 _ rfl
  have Rzc11 := Rz.out.cell 11 _ rfl
  have Rzc12 := Rz.out.cell 12 _ rfl
  show wpList _ _ _ (_ :: _) _ _
  have HO := Lib.hid (World.ownsRow_lit (base := w.heap.size) (e := 9) (size := 1) wz #[.string xs, .string xv, .string fm] 3 HBz.out.size (by decide) (by simp))
  have HBy := Lib.hid (HBz.out.alloc HBz.out.size (.cells #[.string xs, .string xv, .string fm] 9))
  go_wp2_with fail
  refine (HTU.out _ (HW.out.below HBy.out)).mono ?_
  rintro e w8 ⟨AU, cU, hcap, rfl, hrU, hb⟩
  have HO8 := Lib.hid (own_below HO.out hb)
  have HB8 := Lib.hid (below_then HBy.out hb)
  have HRU := Lib.hid hrU
  clear hrU hb hcap
  go_wp2_with (at_builtin; refine wpList_append_any _ rfl (.tmp 45) (.tmp 46) _ rfl w.heap.size 9 i0 _ 1 16 Tryz.underlying48 HI.out.1 HI.out.2.1 HI.out.2.2.1 HI.out.2.2.2 rfl (by omega) _ _ _ rfl HO8.out _ _ _ _ _ rfl HRU.out (by intro u hu; rw [List.mem_map] at hu; obtain ⟨t, _, rfl⟩ := hu; rfl) (by unfold maxLen; omega) (by omega) HB8.out.size ?_; intro v9 w9 hown9 hg9 hat9)
  have hb9 : Below w.heap.size w w9 := HB8.out.grown hg9 HB8.out.size (fun k hk => by have hk' : wz.heap.size = k := Option.some.inj hk; have := HBz.out.size; omega)
  obtain ⟨A9, c9, hv9, hn9, hm9⟩ := own_slice_cap hown9
  have hlT : T.length = 3 + UT.length := by rw [HT.out]; simp; omega
  rw [hv9] at hown9
  have hr9 := Reads.of_own hown9
  refine bodyPost_ret (v := .tuple #[v9, .int .i64 0]) (by simp [results, Tryz.results38, go_sem]) rfl ⟨A9, c9, ⟨by rw [hlT]; exact hn9, hm9⟩, by rw [hv9, hlT], ?_, hb9⟩
  rw [hlT, HT.out]
  simpa using hr9
set_option maxHeartbeats 4000000 in
set_option maxRecDepth 100000 in
theorem erText_2_false (std sv : Int) (ru fm : ByteArray) (y m dk dn dd s c : Int) (w : World) (hW : Wc w) (hWa : Wa w) (h : Er.E.Ok ⟨std, 2, sv, ru, fm, false, ⟨y, m, dk, dn, dd, s, c⟩⟩) (_hc : 0 ≤ c) (hs1 : fm.size ≤ 1000000) (hs2 : ru.size ≤ 1000000) :
    Calls Tryz.prog 38 #[.agg #[.int .i64 std, .int .u8 2, .int .i64 sv, .string ru, .string fm, .bool false, .int .i64 y, .int .i64 m, .int .u8 dk, .int .i64 dn, .int .i64 dd, .int .i64 s, .int .u8 c]] w (StrsRet (Er.E.texts ⟨std, 2, sv, ru, fm, false, ⟨y, m, dk, dn, dd, s, c⟩⟩) w) := by
  have hC := fun W hw => eraCheck_ok ⟨std, 2, sv, ru, fm, false, ⟨y, m, dk, dn, dd, s, c⟩⟩ W hw h hs1 hs2
  unfold Er.E.v at hC
  simp only at hC
  have HC := Lib.hid hC
  obtain ⟨xs, hxs⟩ : ∃ x : ByteArray, ⟨(Ck.text std).toArray⟩ = x := ⟨_, rfl⟩
  obtain ⟨xv, hxv⟩ : ∃ x : ByteArray, ⟨(Ck.text sv).toArray⟩ = x := ⟨_, rfl⟩
  have hS := fun W hw => calls_str (clockText_any std W hw) hxs
  have HS := Lib.hid hS
  have hT : Er.E.texts ⟨std, 2, sv, ru, fm, false, ⟨y, m, dk, dn, dd, s, c⟩⟩ = [xs, ru, fm] := by
    unfold Er.E.texts Er.E.front Er.E.mid
    simp only [hxs, hxv]
    rfl
  obtain ⟨T, hTT⟩ : ∃ T, Er.E.texts ⟨std, 2, sv, ru, fm, false, ⟨y, m, dk, dn, dd, s, c⟩⟩ = T := ⟨_, rfl⟩
  rw [hTT] at hT ⊢
  have HT := Lib.hid hT
  have HW := Lib.hid hW
  have HWa := Lib.hid hWa
  have HB := Lib.hid (Below.refl w.heap.size w)
  clear hC h hxs hxv hS hT hTT hW hWa hs1 hs2
  go_enter Tryz.func38, Tryz.ntmps38
  go_wp2_with fail
  refine (HC.out _ (HWa.out.below (HB.out.alloc (by have := HB.out.size; first | exact this | (simp; omega)) _))).mono ?_
  rintro e w1 ⟨rfl, hb⟩
  have hbz := below_then (HB.out.alloc (by have := HB.out.size; first | exact this | (simp; omega)) _) hb
  have Rr := Lib.hid ((At.new w #[.int .i64 std, .int .u8 2, .int .i64 sv, .string ru, .string fm, .bool false, .int .i64 y, .int .i64 m, .int .u8 dk, .int .i64 dn, .int .i64 dd, .int .i64 s, .int .u8 c] 62).call hb)
  replace HB := Lib.hid hbz
  clear hb hbz
  have zRr := Rr.out.lt
  have Rrc0 := Rr.out.cell 0 _ rfl
  have Rrc1 := Rr.out.cell 1 _ rfl
  have Rrc2 := Rr.out.cell 2 _ rfl
  have Rrc3 := Rr.out.cell 3 _ rfl
  have Rrc4 := Rr.out.cell 4 _ rfl
  have Rrc5 := Rr.out.cell 5 _ rfl
  have Rrc6 := Rr.out.cell 6 _ rfl
  have Rrc7 := Rr.out.cell 7 _ rfl
  have Rrc8 := Rr.out.cell 8 _ rfl
  have Rrc9 := Rr.out.cell 9 _ rfl
  have Rrc10 := Rr.out.cell 10 _ rfl
  have Rrc11 := Rr.out.cell 11 _ rfl
  have Rrc12 := Rr.out.cell 12 _ rfl
  have k0 := cell_regrown Rrc0
  have k4 := cell_regrown Rrc4
  have cS : ∀ dd os, Calls Tryz.prog 60 #[.int .i64 std] (grow (redrawn w1 dd) os) fun e w'' => e = .returned (.string xs) ∧ ∃ p : Regrown, w'' = grow (redrawn w1 p.d) p.os := fun dd os => Calls.regrown_of (HS.out _ (HW.out.below (below_then HB.out (below_regrown w1 dd os))))
  go_upto_region 10 with fail
  refine wp_region_tail 6 (by kernel_rfl) (by kernel_rfl) ?_
  repeat (quiet_step (exact cS _ _))
  refine wpQuiet_nil ?_
  intro wz hwz
  obtain ⟨⟨dq, osq⟩, hwz⟩ := hwz
  have hbz : Below w1.heap.size w1 wz := by rw [hwz]; exact below_regrown _ _ _
  have Rz := Lib.hid (Rr.out.call hbz)
  have HBz := Lib.hid (below_then HB.out hbz)
  clear hwz hbz k0 k4 cS zRr Rrc0 Rrc1 Rrc2 Rrc3 Rrc4 Rrc5 Rrc6 Rrc7 Rrc8 Rrc9 Rrc10 Rrc11 Rrc12
  have zRz := Rz.out.lt
  have Rzc0 := Rz.out.cell 0 _ rfl
  have Rzc1 := Rz.out.cell 1 _ rfl
  have Rzc2 := Rz.out.cell 2 _ rfl
  have Rzc3 := Rz.out.cell 3 _ rfl
  have Rzc4 := Rz.out.cell 4 _ rfl
  have Rzc5 := Rz.out.cell 5 _ rfl
  have Rzc6 := Rz.out.cell 6 _ rfl
  have Rzc7 := Rz.out.cell 7 _ rfl
  have Rzc8 := Rz.out.cell 8 _ rfl
  have Rzc9 := Rz.out.cell 9 _ rfl
  have Rzc10 := Rz.out.cell 10 _ rfl
  have Rzc11 := Rz.out.cell 11 _ rfl
  have Rzc12 := Rz.out.cell 12 _ rfl
  show wpList _ _ _ (_ :: _) _ _
  go_wp2
  have hl3 : T.length = 3 := by rw [HT.out]; rfl
  refine bodyPost_ret (v := .tuple #[.slice (some ⟨wz.heap.size, 0, none⟩) 3 3, .int .i64 0]) (by simp [results, Tryz.results38, go_sem]) rfl ⟨some ⟨wz.heap.size, 0, none⟩, 3, ⟨by rw [hl3]; exact Nat.le_refl _, by decide⟩, by rw [hl3], ?_, HBz.out.alloc HBz.out.size _⟩
  rw [HT.out]
  exact er_reads wz wz.heap.size [xs, ru, fm] 9 rfl
set_option maxHeartbeats 4000000 in
set_option maxRecDepth 100000 in
theorem erText_2_true (std sv : Int) (ru fm : ByteArray) (y m dk dn dd s c : Int) (w : World) (hW : Wc w) (hWa : Wa w) (h : Er.E.Ok ⟨std, 2, sv, ru, fm, true, ⟨y, m, dk, dn, dd, s, c⟩⟩) (hc : 0 ≤ c) (hs1 : fm.size ≤ 1000000) (hs2 : ru.size ≤ 1000000) :
    Calls Tryz.prog 38 #[.agg #[.int .i64 std, .int .u8 2, .int .i64 sv, .string ru, .string fm, .bool true, .int .i64 y, .int .i64 m, .int .u8 dk, .int .i64 dn, .int .i64 dd, .int .i64 s, .int .u8 c]] w (StrsRet (Er.E.texts ⟨std, 2, sv, ru, fm, true, ⟨y, m, dk, dn, dd, s, c⟩⟩) w) := by
  have hC := fun W hw => eraCheck_ok ⟨std, 2, sv, ru, fm, true, ⟨y, m, dk, dn, dd, s, c⟩⟩ W hw h hs1 hs2
  unfold Er.E.v at hC
  simp only at hC
  have HC := Lib.hid hC
  obtain ⟨xs, hxs⟩ : ∃ x : ByteArray, ⟨(Ck.text std).toArray⟩ = x := ⟨_, rfl⟩
  obtain ⟨xv, hxv⟩ : ∃ x : ByteArray, ⟨(Ck.text sv).toArray⟩ = x := ⟨_, rfl⟩
  have hS := fun W hw => calls_str (clockText_any std W hw) hxs
  have HS := Lib.hid hS
  have hTU := fun W hw => textUntil_ok ⟨y, m, dk, dn, dd, s, c⟩ W hw (h.2.2.2.1 rfl) hc
  unfold Mo.U.v at hTU
  simp only at hTU
  obtain ⟨UT, hUT⟩ : ∃ l, Mo.U.texts ⟨y, m, dk, dn, dd, s, c⟩ = l := ⟨_, rfl⟩
  rw [hUT] at hTU
  have hul : 1 ≤ UT.length ∧ UT.length ≤ 4 := by
    rw [← hUT, Mo.texts_len]
    exact Mo.count_bd _
  obtain ⟨hul1, hul2⟩ := hul
  have hT : Er.E.texts ⟨std, 2, sv, ru, fm, true, ⟨y, m, dk, dn, dd, s, c⟩⟩ = [xs, ru, fm] ++ UT := by
    unfold Er.E.texts Er.E.front Er.E.mid
    simp only [hxs, hxv, hUT]
    rfl
  have HTU := Lib.hid hTU
  obtain ⟨i0, hi0, hz0, hz1, hz2⟩ := info_parts str_info
  have HI := Lib.hid (And.intro hi0 (And.intro hz0 (And.intro hz1 hz2)))
  clear hTU hUT hi0 hz0 hz1 hz2
  obtain ⟨T, hTT⟩ : ∃ T, Er.E.texts ⟨std, 2, sv, ru, fm, true, ⟨y, m, dk, dn, dd, s, c⟩⟩ = T := ⟨_, rfl⟩
  rw [hTT] at hT ⊢
  have HT := Lib.hid hT
  have HW := Lib.hid hW
  have HWa := Lib.hid hWa
  have HB := Lib.hid (Below.refl w.heap.size w)
  clear hC h hxs hxv hS hT hTT hW hWa hs1 hs2
  go_enter Tryz.func38, Tryz.ntmps38
  go_wp2_with fail
  refine (HC.out _ (HWa.out.below (HB.out.alloc (by have := HB.out.size; first | exact this | (simp; omega)) _))).mono ?_
  rintro e w1 ⟨rfl, hb⟩
  have hbz := below_then (HB.out.alloc (by have := HB.out.size; first | exact this | (simp; omega)) _) hb
  have Rr := Lib.hid ((At.new w #[.int .i64 std, .int .u8 2, .int .i64 sv, .string ru, .string fm, .bool true, .int .i64 y, .int .i64 m, .int .u8 dk, .int .i64 dn, .int .i64 dd, .int .i64 s, .int .u8 c] 62).call hb)
  replace HB := Lib.hid hbz
  clear hb hbz
  have zRr := Rr.out.lt
  have Rrc0 := Rr.out.cell 0 _ rfl
  have Rrc1 := Rr.out.cell 1 _ rfl
  have Rrc2 := Rr.out.cell 2 _ rfl
  have Rrc3 := Rr.out.cell 3 _ rfl
  have Rrc4 := Rr.out.cell 4 _ rfl
  have Rrc5 := Rr.out.cell 5 _ rfl
  have Rrc6 := Rr.out.cell 6 _ rfl
  have Rrc7 := Rr.out.cell 7 _ rfl
  have Rrc8 := Rr.out.cell 8 _ rfl
  have Rrc9 := Rr.out.cell 9 _ rfl
  have Rrc10 := Rr.out.cell 10 _ rfl
  have Rrc11 := Rr.out.cell 11 _ rfl
  have Rrc12 := Rr.out.cell 12 _ rfl
  have k0 := cell_regrown Rrc0
  have k4 := cell_regrown Rrc4
  have cS : ∀ dd os, Calls Tryz.prog 60 #[.int .i64 std] (grow (redrawn w1 dd) os) fun e w'' => e = .returned (.string xs) ∧ ∃ p : Regrown, w'' = grow (redrawn w1 p.d) p.os := fun dd os => Calls.regrown_of (HS.out _ (HW.out.below (below_then HB.out (below_regrown w1 dd os))))
  go_upto_region 10 with fail
  refine wp_region_tail 6 (by kernel_rfl) (by kernel_rfl) ?_
  repeat (quiet_step (exact cS _ _))
  refine wpQuiet_nil ?_
  intro wz hwz
  obtain ⟨⟨dq, osq⟩, hwz⟩ := hwz
  have hbz : Below w1.heap.size w1 wz := by rw [hwz]; exact below_regrown _ _ _
  have Rz := Lib.hid (Rr.out.call hbz)
  have HBz := Lib.hid (below_then HB.out hbz)
  clear hwz hbz k0 k4 cS zRr Rrc0 Rrc1 Rrc2 Rrc3 Rrc4 Rrc5 Rrc6 Rrc7 Rrc8 Rrc9 Rrc10 Rrc11 Rrc12
  have zRz := Rz.out.lt
  have Rzc0 := Rz.out.cell 0 _ rfl
  have Rzc1 := Rz.out.cell 1 _ rfl
  have Rzc2 := Rz.out.cell 2 _ rfl
  have Rzc3 := Rz.out.cell 3 _ rfl
  have Rzc4 := Rz.out.cell 4 _ rfl
  have Rzc5 := Rz.out.cell 5 _ rfl
  have Rzc6 := Rz.out.cell 6 _ rfl
  have Rzc7 := Rz.out.cell 7 _ rfl
  have Rzc8 := Rz.out.cell 8 _ rfl
  have Rzc9 := Rz.out.cell 9 _ rfl
  have Rzc10 := Rz.out.cell 10 _ rfl
  have Rzc11 := Rz.out.cell 11 _ rfl
  have Rzc12 := Rz.out.cell 12 _ rfl
  show wpList _ _ _ (_ :: _) _ _
  have HO := Lib.hid (World.ownsRow_lit (base := w.heap.size) (e := 9) (size := 1) wz #[.string xs, .string ru, .string fm] 3 HBz.out.size (by decide) (by simp))
  have HBy := Lib.hid (HBz.out.alloc HBz.out.size (.cells #[.string xs, .string ru, .string fm] 9))
  go_wp2_with fail
  refine (HTU.out _ (HW.out.below HBy.out)).mono ?_
  rintro e w8 ⟨AU, cU, hcap, rfl, hrU, hb⟩
  have HO8 := Lib.hid (own_below HO.out hb)
  have HB8 := Lib.hid (below_then HBy.out hb)
  have HRU := Lib.hid hrU
  clear hrU hb hcap
  go_wp2_with (at_builtin; refine wpList_append_any _ rfl (.tmp 45) (.tmp 46) _ rfl w.heap.size 9 i0 _ 1 16 Tryz.underlying48 HI.out.1 HI.out.2.1 HI.out.2.2.1 HI.out.2.2.2 rfl (by omega) _ _ _ rfl HO8.out _ _ _ _ _ rfl HRU.out (by intro u hu; rw [List.mem_map] at hu; obtain ⟨t, _, rfl⟩ := hu; rfl) (by unfold maxLen; omega) (by omega) HB8.out.size ?_; intro v9 w9 hown9 hg9 hat9)
  have hb9 : Below w.heap.size w w9 := HB8.out.grown hg9 HB8.out.size (fun k hk => by have hk' : wz.heap.size = k := Option.some.inj hk; have := HBz.out.size; omega)
  obtain ⟨A9, c9, hv9, hn9, hm9⟩ := own_slice_cap hown9
  have hlT : T.length = 3 + UT.length := by rw [HT.out]; simp; omega
  rw [hv9] at hown9
  have hr9 := Reads.of_own hown9
  refine bodyPost_ret (v := .tuple #[v9, .int .i64 0]) (by simp [results, Tryz.results38, go_sem]) rfl ⟨A9, c9, ⟨by rw [hlT]; exact hn9, hm9⟩, by rw [hv9, hlT], ?_, hb9⟩
  rw [hlT, HT.out]
  simpa using hr9
theorem erText_ok (e : Er.E) (w : World) (hW : Wc w) (hWa : Wa w) (h : e.Ok) (hc : 0 ≤ e.u.c) (hs1 : e.fm.size ≤ 1000000) (hs2 : e.ru.size ≤ 1000000) :
    Calls Tryz.prog 38 #[e.v] w (StrsRet e.texts w) := by
  obtain ⟨std, k, sv, ru, fm, en, ⟨y, m, dk, dn, dd, s, c⟩⟩ := e
  have hk : k = 0 ∨ k = 1 ∨ k = 2 := by
    rcases h.2.2.1 with ⟨a, _⟩ | ⟨a, _⟩ | ⟨a, _⟩
    · exact .inl a
    · exact .inr (.inl a)
    · exact .inr (.inr a)
  rcases hk with rfl | rfl | rfl
  · cases en
    · exact erText_0_false std sv ru fm y m dk dn dd s c w hW hWa h hc hs1 hs2
    · exact erText_0_true std sv ru fm y m dk dn dd s c w hW hWa h hc hs1 hs2
  · cases en
    · exact erText_1_false std sv ru fm y m dk dn dd s c w hW hWa h hc hs1 hs2
    · exact erText_1_true std sv ru fm y m dk dn dd s c w hW hWa h hc hs1 hs2
  · cases en
    · exact erText_2_false std sv ru fm y m dk dn dd s c w hW hWa h hc hs1 hs2
    · exact erText_2_true std sv ru fm y m dk dn dd s c w hW hWa h hc hs1 hs2
end Go.Proofs.YtlhoggalhjadgaaGreatDoor
