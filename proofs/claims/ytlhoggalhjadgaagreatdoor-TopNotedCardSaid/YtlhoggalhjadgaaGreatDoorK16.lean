/- The contract of rule.Text. -/
import Derived.Test.YtlhoggalhjadgaaGreatDoorK14
import Derived.Test.YtlhoggalhjadgaaGreatDoorK15

namespace Go.Proofs.YtlhoggalhjadgaaGreatDoor
open Go.RowKit Go.Sort

namespace Ru
def R.last (r : R) : ByteArray := if r.tt = r.fr then only else if r.tt = 9999 then ⟨#[109, 97, 120]⟩ else ⟨(Lib.itoa r.tt).toArray⟩
def R.lett (r : R) : ByteArray := if r.lt = ⟨#[]⟩ then ⟨#[45]⟩ else r.lt
/-- The nine texts of a rule. -/
def R.texts (r : R) : List ByteArray := [r.nm, ⟨(Lib.itoa r.fr).toArray⟩, r.last, ⟨#[45]⟩, textOf Months (r.mo - 1), ⟨(Dy.text r.k r.n r.d).toArray⟩, ⟨(Mo.text r.s r.c).toArray⟩, ⟨(Ck.text r.sv).toArray⟩, r.lett]
end Ru
theorem ru_reads (w : World) (g : Nat) (l : List ByteArray) (t : TypeId) (hg : g = w.heap.size) : Reads (w.alloc (.cells (strCells l) t)) (w.alloc (.cells (strCells l) t)).heap.size 1 (some ⟨g, 0, none⟩) l.length (l.map Value.string) := by
  subst hg
  exact reads_new w l t
theorem empty_no (s : ByteArray) (h : ¬ s = ⟨#[]⟩) : s.toList.isEmpty = false := by
  rw [ByteArray.toList_eq]
  cases e : s.data.toList with
  | nil =>
    exfalso
    apply h
    apply ByteArray.ext
    apply Array.ext'
    rw [e]
  | cons a l => rfl
theorem ruText_bad (r : Ru.R) (w : World) (h : ¬ r.Ok) (hs1 : r.nm.size ≤ 1000000) (hs2 : r.lt.size ≤ 1000000) :
    Calls Tryz.prog 36 #[r.v] w fun e w' => e = .returned (.tuple #[.slice none 0 0, .int .i64 2]) ∧ Below w.heap.size w w' := by
  have HC := Lib.hid fun W => ruleCheck_bad r W h hs1 hs2
  obtain ⟨nm, fr, tt, mo, k, n, d, s, c, sv, lt⟩ := r
  unfold Ru.R.v at HC ⊢
  clear h hs1 hs2
  have HB := Lib.hid (Below.refl w.heap.size w)
  go_enter Tryz.func36, Tryz.ntmps36
  go_wp2_with fail
  refine (HC.out _).mono ?_
  rintro e w1 ⟨rfl, hb⟩
  have hbz := below_then (HB.out.alloc (by have := HB.out.size; first | exact this | (simp; omega)) _) hb
  have Rr := Lib.hid ((At.new w #[.string nm, .int .i64 fr, .int .i64 tt, .int .i64 mo, .int .u8 k, .int .i64 n, .int .i64 d, .int .i64 s, .int .u8 c, .int .i64 sv, .string lt] 47).call hb)
  replace HB := Lib.hid hbz
  clear hb hbz
  go_wp2
  go_ret2
  exact ⟨rfl, HB.out⟩
set_option maxHeartbeats 4000000 in
set_option maxRecDepth 100000 in
theorem ruText_ok (r : Ru.R) (w : World) (hW : Wc w) (h : r.Ok) (hc : 0 ≤ r.c) (hs1 : r.nm.size ≤ 1000000) (hs2 : r.lt.size ≤ 1000000) :
    Calls Tryz.prog 36 #[r.v] w (StrsRet r.texts w) := by
  have HC := Lib.hid fun W => ruleCheck_ok r W h hs1 hs2
  obtain ⟨h1, ⟨h2, h3, h4⟩, h5, hd, hm, hv, hl⟩ := h
  have hI := fun W hw => itoa_below r.fr W hw (by omega) (by omega)
  have hJ := fun W hw => itoa_below r.tt W hw (by omega) (by omega)
  have hM := fun W => monthText_any r.mo W
  have hD := fun W => dayText_ok r.k r.n r.d W hd
  have hS := fun W hw => momText_ok r.s r.c W hw hm hc
  have hV := fun W hw => clockText_any r.sv W hw
  have hLast : r.last = if r.tt = r.fr then ⟨#[111, 110, 108, 121]⟩ else if r.tt = 9999 then ⟨#[109, 97, 120]⟩ else ⟨(Lib.itoa r.tt).toArray⟩ := rfl
  have hLett : r.lett = if r.lt = ⟨#[]⟩ then ⟨#[45]⟩ else r.lt := rfl
  have hT : r.texts = [r.nm, ⟨(Lib.itoa r.fr).toArray⟩, r.last, ⟨#[45]⟩, textOf Months (r.mo - 1), ⟨(Dy.text r.k r.n r.d).toArray⟩, ⟨(Mo.text r.s r.c).toArray⟩, ⟨(Ck.text r.sv).toArray⟩, r.lett] := rfl
  obtain ⟨x1, hx1⟩ : ∃ x : ByteArray, ⟨(Lib.itoa r.fr).toArray⟩ = x := ⟨_, rfl⟩
  obtain ⟨xt, hxt⟩ : ∃ x : ByteArray, ⟨(Lib.itoa r.tt).toArray⟩ = x := ⟨_, rfl⟩
  obtain ⟨x4, hx4⟩ : ∃ x : ByteArray, textOf Months (r.mo - 1) = x := ⟨_, rfl⟩
  obtain ⟨x5, hx5⟩ : ∃ x : ByteArray, ⟨(Dy.text r.k r.n r.d).toArray⟩ = x := ⟨_, rfl⟩
  obtain ⟨x6, hx6⟩ : ∃ x : ByteArray, ⟨(Mo.text r.s r.c).toArray⟩ = x := ⟨_, rfl⟩
  obtain ⟨x7, hx7⟩ : ∃ x : ByteArray, ⟨(Ck.text r.sv).toArray⟩ = x := ⟨_, rfl⟩
  rw [hx1, hx4, hx5, hx6, hx7] at hT
  rw [hxt] at hLast
  simp only [hx1] at hI
  simp only [hxt] at hJ
  simp only [hx4] at hM
  simp only [hx5] at hD
  simp only [hx6] at hS
  simp only [hx7] at hV
  obtain ⟨T, hTT⟩ : ∃ T, r.texts = T := ⟨_, rfl⟩
  obtain ⟨La, hLa⟩ : ∃ x, r.last = x := ⟨_, rfl⟩
  obtain ⟨Le, hLe⟩ : ∃ x, r.lett = x := ⟨_, rfl⟩
  rw [hTT, hLa, hLe] at hT
  rw [hLa] at hLast
  rw [hLe] at hLett
  rw [hTT]
  have HI := Lib.hid hI
  have HJ := Lib.hid hJ
  have HM := Lib.hid hM
  have HD := Lib.hid hD
  have HS := Lib.hid hS
  have HV := Lib.hid hV
  have HT := Lib.hid hT
  have HW := Lib.hid hW
  obtain ⟨nm, fr, tt, mo, k, n, d, s, c, sv, lt⟩ := r
  simp only at HC HI HJ HM HD HS HV hLast hLett HT
  unfold Ru.R.v at HC ⊢
  have HB := Lib.hid (Below.refl w.heap.size w)
  clear hI hJ hM hD hS hV hT hTT hLa hLe hx1 hxt hx4 hx5 hx6 hx7 h1 h2 h3 h4 h5 hd hm hv hl hc hs1 hs2 hW
  by_cases ha : tt = fr
  · have HLa : Hid (La = ⟨#[111, 110, 108, 121]⟩) := by show _ = _; rw [hLast, if_pos ha]
    have qa : (tt == fr) = true := by rw [ha]; simp
    clear hLast ha
    by_cases hL : lt = ⟨#[]⟩
    · have HLe : Hid (Le = ⟨#[45]⟩) := by show _ = _; rw [hLett, if_pos hL]
      have ql : lt.toList.isEmpty = true := by rw [hL, ByteArray.toList_eq]; rfl
      clear hLett hL
      go_enter Tryz.func36, Tryz.ntmps36
      go_wp2_with fail
      refine (HC.out _).mono ?_
      rintro e w1 ⟨rfl, hb⟩
      have hbz := below_then (HB.out.alloc (by have := HB.out.size; first | exact this | (simp; omega)) _) hb
      have Rr := Lib.hid ((At.new w #[.string nm, .int .i64 fr, .int .i64 tt, .int .i64 mo, .int .u8 k, .int .i64 n, .int .i64 d, .int .i64 s, .int .u8 c, .int .i64 sv, .string lt] 47).call hb)
      replace HB := Lib.hid hbz
      clear hb hbz
      have zRr := Rr.out.lt
      have Rrc0 := Rr.out.cell 0 _ rfl
      have Rrc1 := Rr.out.cell 1 _ rfl
      have Rrc2 := Rr.out.cell 2 _ rfl
      have Rrc3 := Rr.out.cell 3 _ rfl
      have Rrc4 := Rr.out.cell 4 _ rfl
      have Rrc5 := Rr.out.cell 5 _ rfl
      have Rrc6 := Rr.out.cell 6 _ rfl
      have Rrc7 := Rr.out.cell 7 _ rfl
      have Rrc8 := Rr.out.cell 8 _ rfl
      have Rrc9 := Rr.out.cell 9 _ rfl
      have Rrc10 := Rr.out.cell 10 _ rfl
      go_wp2_with fail
      refine (HJ.out _ (HW.out.below (HB.out))).mono ?_
      rintro e w2 ⟨rfl, hb⟩
      have hbz := below_then HB.out hb
      have Rr' := Rr.out.call hb
      clear Rr
      have Rr := Lib.hid Rr'
      clear Rr'
      replace HB := Lib.hid hbz
      clear hb hbz
      clear zRr Rrc0 Rrc1 Rrc2 Rrc3 Rrc4 Rrc5 Rrc6 Rrc7 Rrc8 Rrc9 Rrc10
      have zRr := Rr.out.lt
      have Rrc0 := Rr.out.cell 0 _ rfl
      have Rrc1 := Rr.out.cell 1 _ rfl
      have Rrc2 := Rr.out.cell 2 _ rfl
      have Rrc3 := Rr.out.cell 3 _ rfl
      have Rrc4 := Rr.out.cell 4 _ rfl
      have Rrc5 := Rr.out.cell 5 _ rfl
      have Rrc6 := Rr.out.cell 6 _ rfl
      have Rrc7 := Rr.out.cell 7 _ rfl
      have Rrc8 := Rr.out.cell 8 _ rfl
      have Rrc9 := Rr.out.cell 9 _ rfl
      have Rrc10 := Rr.out.cell 10 _ rfl
      go_wp2_with fail
      refine (HD.out _).mono ?_
      rintro e w3 ⟨rfl, hb⟩
      have hbz := below_then HB.out hb
      have Rr' := Rr.out.call hb
      clear Rr
      have Rr := Lib.hid Rr'
      clear Rr'
      replace HB := Lib.hid hbz
      clear hb hbz
      clear zRr Rrc0 Rrc1 Rrc2 Rrc3 Rrc4 Rrc5 Rrc6 Rrc7 Rrc8 Rrc9 Rrc10
      have zRr := Rr.out.lt
      have Rrc0 := Rr.out.cell 0 _ rfl
      have Rrc1 := Rr.out.cell 1 _ rfl
      have Rrc2 := Rr.out.cell 2 _ rfl
      have Rrc3 := Rr.out.cell 3 _ rfl
      have Rrc4 := Rr.out.cell 4 _ rfl
      have Rrc5 := Rr.out.cell 5 _ rfl
      have Rrc6 := Rr.out.cell 6 _ rfl
      have Rrc7 := Rr.out.cell 7 _ rfl
      have Rrc8 := Rr.out.cell 8 _ rfl
      have Rrc9 := Rr.out.cell 9 _ rfl
      have Rrc10 := Rr.out.cell 10 _ rfl
      go_wp2_with fail
      refine (HS.out _ (HW.out.below (HB.out))).mono ?_
      rintro e w4 ⟨rfl, hb⟩
      have hbz := below_then HB.out hb
      have Rr' := Rr.out.call hb
      clear Rr
      have Rr := Lib.hid Rr'
      clear Rr'
      replace HB := Lib.hid hbz
      clear hb hbz
      clear zRr Rrc0 Rrc1 Rrc2 Rrc3 Rrc4 Rrc5 Rrc6 Rrc7 Rrc8 Rrc9 Rrc10
      have zRr := Rr.out.lt
      have Rrc0 := Rr.out.cell 0 _ rfl
      have Rrc1 := Rr.out.cell 1 _ rfl
      have Rrc2 := Rr.out.cell 2 _ rfl
      have Rrc3 := Rr.out.cell 3 _ rfl
      have Rrc4 := Rr.out.cell 4 _ rfl
      have Rrc5 := Rr.out.cell 5 _ rfl
      have Rrc6 := Rr.out.cell 6 _ rfl
      have Rrc7 := Rr.out.cell 7 _ rfl
      have Rrc8 := Rr.out.cell 8 _ rfl
      have Rrc9 := Rr.out.cell 9 _ rfl
      have Rrc10 := Rr.out.cell 10 _ rfl
      have k0 := cell_regrown Rrc0
      have k1 := cell_regrown Rrc1
      have k3 := cell_regrown Rrc3
      have k9 := cell_regrown Rrc9
      have cI : ∀ dd os, Calls Tryz.prog 56 #[.int .i64 fr] (grow (redrawn w4 dd) os) fun e w'' => e = .returned (.string x1) ∧ ∃ p : Regrown, w'' = grow (redrawn w4 p.d) p.os := fun dd os => Calls.regrown_of (HI.out _ (HW.out.below (below_then HB.out (below_regrown w4 dd os))))
      have cM : ∀ dd os, Calls Tryz.prog 59 #[.int .i64 mo] (grow (redrawn w4 dd) os) fun e w'' => e = .returned (.string x4) ∧ ∃ p : Regrown, w'' = grow (redrawn w4 p.d) p.os := fun dd os => Calls.regrown_of (HM.out _)
      have cV : ∀ dd os, Calls Tryz.prog 60 #[.int .i64 sv] (grow (redrawn w4 dd) os) fun e w'' => e = .returned (.string x7) ∧ ∃ p : Regrown, w'' = grow (redrawn w4 p.d) p.os := fun dd os => Calls.regrown_of (HV.out _ (HW.out.below (below_then HB.out (below_regrown w4 dd os))))
      go_upto_region 19 with fail
      refine wp_region_tail 15 (by kernel_rfl) (by kernel_rfl) ?_
      repeat (quiet_step (first | exact cI _ _ | exact cM _ _ | exact cV _ _))
      refine wpQuiet_nil ?_
      intro wz hwz
      obtain ⟨⟨dq, osq⟩, hwz⟩ := hwz
      have hbz : Below w4.heap.size w4 wz := by rw [hwz]; exact below_regrown _ _ _
      have HBz := Lib.hid (below_then HB.out hbz)
      clear hwz hbz k0 k1 k3 k9 cI cM cV
      show wpList _ _ _ (_ :: _) _ _
      go_wp2
      have hl9 : T.length = 9 := by rw [HT.out]; rfl
      refine bodyPost_ret (v := .tuple #[.slice (some ⟨wz.heap.size, 0, none⟩) 9 9, .int .i64 0]) (by simp [results, Tryz.results36, go_sem]) rfl ⟨some ⟨wz.heap.size, 0, none⟩, 9, ⟨by rw [hl9]; exact Nat.le_refl _, by decide⟩, by rw [hl9], ?_, HBz.out.alloc HBz.out.size _⟩
      rw [HT.out, HLa.out, HLe.out]
      exact ru_reads wz wz.heap.size [nm, x1, ⟨#[111, 110, 108, 121]⟩, ⟨#[45]⟩, x4, x5, x6, x7, ⟨#[45]⟩] 9 rfl
    · have HLe : Hid (Le = lt) := by show _ = _; rw [hLett, if_neg hL]
      have ql : lt.toList.isEmpty = false := empty_no lt hL
      clear hLett hL
      go_enter Tryz.func36, Tryz.ntmps36
      go_wp2_with fail
      refine (HC.out _).mono ?_
      rintro e w1 ⟨rfl, hb⟩
      have hbz := below_then (HB.out.alloc (by have := HB.out.size; first | exact this | (simp; omega)) _) hb
      have Rr := Lib.hid ((At.new w #[.string nm, .int .i64 fr, .int .i64 tt, .int .i64 mo, .int .u8 k, .int .i64 n, .int .i64 d, .int .i64 s, .int .u8 c, .int .i64 sv, .string lt] 47).call hb)
      replace HB := Lib.hid hbz
      clear hb hbz
      have zRr := Rr.out.lt
      have Rrc0 := Rr.out.cell 0 _ rfl
      have Rrc1 := Rr.out.cell 1 _ rfl
      have Rrc2 := Rr.out.cell 2 _ rfl
      have Rrc3 := Rr.out.cell 3 _ rfl
      have Rrc4 := Rr.out.cell 4 _ rfl
      have Rrc5 := Rr.out.cell 5 _ rfl
      have Rrc6 := Rr.out.cell 6 _ rfl
      have Rrc7 := Rr.out.cell 7 _ rfl
      have Rrc8 := Rr.out.cell 8 _ rfl
      have Rrc9 := Rr.out.cell 9 _ rfl
      have Rrc10 := Rr.out.cell 10 _ rfl
      go_wp2_with fail
      refine (HJ.out _ (HW.out.below (HB.out))).mono ?_
      rintro e w2 ⟨rfl, hb⟩
      have hbz := below_then HB.out hb
      have Rr' := Rr.out.call hb
      clear Rr
      have Rr := Lib.hid Rr'
      clear Rr'
      replace HB := Lib.hid hbz
      clear hb hbz
      clear zRr Rrc0 Rrc1 Rrc2 Rrc3 Rrc4 Rrc5 Rrc6 Rrc7 Rrc8 Rrc9 Rrc10
      have zRr := Rr.out.lt
      have Rrc0 := Rr.out.cell 0 _ rfl
      have Rrc1 := Rr.out.cell 1 _ rfl
      have Rrc2 := Rr.out.cell 2 _ rfl
      have Rrc3 := Rr.out.cell 3 _ rfl
      have Rrc4 := Rr.out.cell 4 _ rfl
      have Rrc5 := Rr.out.cell 5 _ rfl
      have Rrc6 := Rr.out.cell 6 _ rfl
      have Rrc7 := Rr.out.cell 7 _ rfl
      have Rrc8 := Rr.out.cell 8 _ rfl
      have Rrc9 := Rr.out.cell 9 _ rfl
      have Rrc10 := Rr.out.cell 10 _ rfl
      go_wp2_with fail
      refine (HD.out _).mono ?_
      rintro e w3 ⟨rfl, hb⟩
      have hbz := below_then HB.out hb
      have Rr' := Rr.out.call hb
      clear Rr
      have Rr := Lib.hid Rr'
      clear Rr'
      replace HB := Lib.hid hbz
      clear hb hbz
      clear zRr Rrc0 Rrc1 Rrc2 Rrc3 Rrc4 Rrc5 Rrc6 Rrc7 Rrc8 Rrc9 Rrc10
      have zRr := Rr.out.lt
      have Rrc0 := Rr.out.cell 0 _ rfl
      have Rrc1 := Rr.out.cell 1 _ rfl
      have Rrc2 := Rr.out.cell 2 _ rfl
      have Rrc3 := Rr.out.cell 3 _ rfl
      have Rrc4 := Rr.out.cell 4 _ rfl
      have Rrc5 := Rr.out.cell 5 _ rfl
      have Rrc6 := Rr.out.cell 6 _ rfl
      have Rrc7 := Rr.out.cell 7 _ rfl
      have Rrc8 := Rr.out.cell 8 _ rfl
      have Rrc9 := Rr.out.cell 9 _ rfl
      have Rrc10 := Rr.out.cell 10 _ rfl
      go_wp2_with fail
      refine (HS.out _ (HW.out.below (HB.out))).mono ?_
      rintro e w4 ⟨rfl, hb⟩
      have hbz := below_then HB.out hb
      have Rr' := Rr.out.call hb
      clear Rr
      have Rr := Lib.hid Rr'
      clear Rr'
      replace HB := Lib.hid hbz
      clear hb hbz
      clear zRr Rrc0 Rrc1 Rrc2 Rrc3 Rrc4 Rrc5 Rrc6 Rrc7 Rrc8 Rrc9 Rrc10
      have zRr := Rr.out.lt
      have Rrc0 := Rr.out.cell 0 _ rfl
      have Rrc1 := Rr.out.cell 1 _ rfl
      have Rrc2 := Rr.out.cell 2 _ rfl
      have Rrc3 := Rr.out.cell 3 _ rfl
      have Rrc4 := Rr.out.cell 4 _ rfl
      have Rrc5 := Rr.out.cell 5 _ rfl
      have Rrc6 := Rr.out.cell 6 _ rfl
      have Rrc7 := Rr.out.cell 7 _ rfl
      have Rrc8 := Rr.out.cell 8 _ rfl
      have Rrc9 := Rr.out.cell 9 _ rfl
      have Rrc10 := Rr.out.cell 10 _ rfl
      have k0 := cell_regrown Rrc0
      have k1 := cell_regrown Rrc1
      have k3 := cell_regrown Rrc3
      have k9 := cell_regrown Rrc9
      have cI : ∀ dd os, Calls Tryz.prog 56 #[.int .i64 fr] (grow (redrawn w4 dd) os) fun e w'' => e = .returned (.string x1) ∧ ∃ p : Regrown, w'' = grow (redrawn w4 p.d) p.os := fun dd os => Calls.regrown_of (HI.out _ (HW.out.below (below_then HB.out (below_regrown w4 dd os))))
      have cM : ∀ dd os, Calls Tryz.prog 59 #[.int .i64 mo] (grow (redrawn w4 dd) os) fun e w'' => e = .returned (.string x4) ∧ ∃ p : Regrown, w'' = grow (redrawn w4 p.d) p.os := fun dd os => Calls.regrown_of (HM.out _)
      have cV : ∀ dd os, Calls Tryz.prog 60 #[.int .i64 sv] (grow (redrawn w4 dd) os) fun e w'' => e = .returned (.string x7) ∧ ∃ p : Regrown, w'' = grow (redrawn w4 p.d) p.os := fun dd os => Calls.regrown_of (HV.out _ (HW.out.below (below_then HB.out (below_regrown w4 dd os))))
      go_upto_region 19 with fail
      refine wp_region_tail 15 (by kernel_rfl) (by kernel_rfl) ?_
      repeat (quiet_step (first | exact cI _ _ | exact cM _ _ | exact cV _ _))
      refine wpQuiet_nil ?_
      intro wz hwz
      obtain ⟨⟨dq, osq⟩, hwz⟩ := hwz
      have hbz : Below w4.heap.size w4 wz := by rw [hwz]; exact below_regrown _ _ _
      have HBz := Lib.hid (below_then HB.out hbz)
      clear hwz hbz k0 k1 k3 k9 cI cM cV
      show wpList _ _ _ (_ :: _) _ _
      go_wp2
      have hl9 : T.length = 9 := by rw [HT.out]; rfl
      refine bodyPost_ret (v := .tuple #[.slice (some ⟨wz.heap.size, 0, none⟩) 9 9, .int .i64 0]) (by simp [results, Tryz.results36, go_sem]) rfl ⟨some ⟨wz.heap.size, 0, none⟩, 9, ⟨by rw [hl9]; exact Nat.le_refl _, by decide⟩, by rw [hl9], ?_, HBz.out.alloc HBz.out.size _⟩
      rw [HT.out, HLa.out, HLe.out]
      exact ru_reads wz wz.heap.size [nm, x1, ⟨#[111, 110, 108, 121]⟩, ⟨#[45]⟩, x4, x5, x6, x7, lt] 9 rfl
  have qa : (tt == fr) = false := by rw [beq_eq_false_iff_ne]; exact ha
  by_cases hb : tt = 9999
  · have HLa : Hid (La = ⟨#[109, 97, 120]⟩) := by show _ = _; rw [hLast, if_neg ha, if_pos hb]
    have qb : (tt == 9999) = true := by rw [hb]; rfl
    clear hLast ha hb
    by_cases hL : lt = ⟨#[]⟩
    · have HLe : Hid (Le = ⟨#[45]⟩) := by show _ = _; rw [hLett, if_pos hL]
      have ql : lt.toList.isEmpty = true := by rw [hL, ByteArray.toList_eq]; rfl
      clear hLett hL
      go_enter Tryz.func36, Tryz.ntmps36
      go_wp2_with fail
      refine (HC.out _).mono ?_
      rintro e w1 ⟨rfl, hb⟩
      have hbz := below_then (HB.out.alloc (by have := HB.out.size; first | exact this | (simp; omega)) _) hb
      have Rr := Lib.hid ((At.new w #[.string nm, .int .i64 fr, .int .i64 tt, .int .i64 mo, .int .u8 k, .int .i64 n, .int .i64 d, .int .i64 s, .int .u8 c, .int .i64 sv, .string lt] 47).call hb)
      replace HB := Lib.hid hbz
      clear hb hbz
      have zRr := Rr.out.lt
      have Rrc0 := Rr.out.cell 0 _ rfl
      have Rrc1 := Rr.out.cell 1 _ rfl
      have Rrc2 := Rr.out.cell 2 _ rfl
      have Rrc3 := Rr.out.cell 3 _ rfl
      have Rrc4 := Rr.out.cell 4 _ rfl
      have Rrc5 := Rr.out.cell 5 _ rfl
      have Rrc6 := Rr.out.cell 6 _ rfl
      have Rrc7 := Rr.out.cell 7 _ rfl
      have Rrc8 := Rr.out.cell 8 _ rfl
      have Rrc9 := Rr.out.cell 9 _ rfl
      have Rrc10 := Rr.out.cell 10 _ rfl
      go_wp2_with fail
      refine (HJ.out _ (HW.out.below (HB.out))).mono ?_
      rintro e w2 ⟨rfl, hb⟩
      have hbz := below_then HB.out hb
      have Rr' := Rr.out.call hb
      clear Rr
      have Rr := Lib.hid Rr'
      clear Rr'
      replace HB := Lib.hid hbz
      clear hb hbz
      clear zRr Rrc0 Rrc1 Rrc2 Rrc3 Rrc4 Rrc5 Rrc6 Rrc7 Rrc8 Rrc9 Rrc10
      have zRr := Rr.out.lt
      have Rrc0 := Rr.out.cell 0 _ rfl
      have Rrc1 := Rr.out.cell 1 _ rfl
      have Rrc2 := Rr.out.cell 2 _ rfl
      have Rrc3 := Rr.out.cell 3 _ rfl
      have Rrc4 := Rr.out.cell 4 _ rfl
      have Rrc5 := Rr.out.cell 5 _ rfl
      have Rrc6 := Rr.out.cell 6 _ rfl
      have Rrc7 := Rr.out.cell 7 _ rfl
      have Rrc8 := Rr.out.cell 8 _ rfl
      have Rrc9 := Rr.out.cell 9 _ rfl
      have Rrc10 := Rr.out.cell 10 _ rfl
      go_wp2_with fail
      refine (HD.out _).mono ?_
      rintro e w3 ⟨rfl, hb⟩
      have hbz := below_then HB.out hb
      have Rr' := Rr.out.call hb
      clear Rr
      have Rr := Lib.hid Rr'
      clear Rr'
      replace HB := Lib.hid hbz
      clear hb hbz
      clear zRr Rrc0 Rrc1 Rrc2 Rrc3 Rrc4 Rrc5 Rrc6 Rrc7 Rrc8 Rrc9 Rrc10
      have zRr := Rr.out.lt
      have Rrc0 := Rr.out.cell 0 _ rfl
      have Rrc1 := Rr.out.cell 1 _ rfl
      have Rrc2 := Rr.out.cell 2 _ rfl
      have Rrc3 := Rr.out.cell 3 _ rfl
      have Rrc4 := Rr.out.cell 4 _ rfl
      have Rrc5 := Rr.out.cell 5 _ rfl
      have Rrc6 := Rr.out.cell 6 _ rfl
      have Rrc7 := Rr.out.cell 7 _ rfl
      have Rrc8 := Rr.out.cell 8 _ rfl
      have Rrc9 := Rr.out.cell 9 _ rfl
      have Rrc10 := Rr.out.cell 10 _ rfl
      go_wp2_with fail
      refine (HS.out _ (HW.out.below (HB.out))).mono ?_
      rintro e w4 ⟨rfl, hb⟩
      have hbz := below_then HB.out hb
      have Rr' := Rr.out.call hb
      clear Rr
      have Rr := Lib.hid Rr'
      clear Rr'
      replace HB := Lib.hid hbz
      clear hb hbz
      clear zRr Rrc0 Rrc1 Rrc2 Rrc3 Rrc4 Rrc5 Rrc6 Rrc7 Rrc8 Rrc9 Rrc10
      have zRr := Rr.out.lt
      have Rrc0 := Rr.out.cell 0 _ rfl
      have Rrc1 := Rr.out.cell 1 _ rfl
      have Rrc2 := Rr.out.cell 2 _ rfl
      have Rrc3 := Rr.out.cell 3 _ rfl
      have Rrc4 := Rr.out.cell 4 _ rfl
      have Rrc5 := Rr.out.cell 5 _ rfl
      have Rrc6 := Rr.out.cell 6 _ rfl
      have Rrc7 := Rr.out.cell 7 _ rfl
      have Rrc8 := Rr.out.cell 8 _ rfl
      have Rrc9 := Rr.out.cell 9 _ rfl
      have Rrc10 := Rr.out.cell 10 _ rfl
      have k0 := cell_regrown Rrc0
      have k1 := cell_regrown Rrc1
      have k3 := cell_regrown Rrc3
      have k9 := cell_regrown Rrc9
      have cI : ∀ dd os, Calls Tryz.prog 56 #[.int .i64 fr] (grow (redrawn w4 dd) os) fun e w'' => e = .returned (.string x1) ∧ ∃ p : Regrown, w'' = grow (redrawn w4 p.d) p.os := fun dd os => Calls.regrown_of (HI.out _ (HW.out.below (below_then HB.out (below_regrown w4 dd os))))
      have cM : ∀ dd os, Calls Tryz.prog 59 #[.int .i64 mo] (grow (redrawn w4 dd) os) fun e w'' => e = .returned (.string x4) ∧ ∃ p : Regrown, w'' = grow (redrawn w4 p.d) p.os := fun dd os => Calls.regrown_of (HM.out _)
      have cV : ∀ dd os, Calls Tryz.prog 60 #[.int .i64 sv] (grow (redrawn w4 dd) os) fun e w'' => e = .returned (.string x7) ∧ ∃ p : Regrown, w'' = grow (redrawn w4 p.d) p.os := fun dd os => Calls.regrown_of (HV.out _ (HW.out.below (below_then HB.out (below_regrown w4 dd os))))
      go_upto_region 19 with fail
      refine wp_region_tail 15 (by kernel_rfl) (by kernel_rfl) ?_
      repeat (quiet_step (first | exact cI _ _ | exact cM _ _ | exact cV _ _))
      refine wpQuiet_nil ?_
      intro wz hwz
      obtain ⟨⟨dq, osq⟩, hwz⟩ := hwz
      have hbz : Below w4.heap.size w4 wz := by rw [hwz]; exact below_regrown _ _ _
      have HBz := Lib.hid (below_then HB.out hbz)
      clear hwz hbz k0 k1 k3 k9 cI cM cV
      show wpList _ _ _ (_ :: _) _ _
      go_wp2
      have hl9 : T.length = 9 := by rw [HT.out]; rfl
      refine bodyPost_ret (v := .tuple #[.slice (some ⟨wz.heap.size, 0, none⟩) 9 9, .int .i64 0]) (by simp [results, Tryz.results36, go_sem]) rfl ⟨some ⟨wz.heap.size, 0, none⟩, 9, ⟨by rw [hl9]; exact Nat.le_refl _, by decide⟩, by rw [hl9], ?_, HBz.out.alloc HBz.out.size _⟩
      rw [HT.out, HLa.out, HLe.out]
      exact ru_reads wz wz.heap.size [nm, x1, ⟨#[109, 97, 120]⟩, ⟨#[45]⟩, x4, x5, x6, x7, ⟨#[45]⟩] 9 rfl
    · have HLe : Hid (Le = lt) := by show _ = _; rw [hLett, if_neg hL]
      have ql : lt.toList.isEmpty = false := empty_no lt hL
      clear hLett hL
      go_enter Tryz.func36, Tryz.ntmps36
      go_wp2_with fail
      refine (HC.out _).mono ?_
      rintro e w1 ⟨rfl, hb⟩
      have hbz := below_then (HB.out.alloc (by have := HB.out.size; first | exact this | (simp; omega)) _) hb
      have Rr := Lib.hid ((At.new w #[.string nm, .int .i64 fr, .int .i64 tt, .int .i64 mo, .int .u8 k, .int .i64 n, .int .i64 d, .int .i64 s, .int .u8 c, .int .i64 sv, .string lt] 47).call hb)
      replace HB := Lib.hid hbz
      clear hb hbz
      have zRr := Rr.out.lt
      have Rrc0 := Rr.out.cell 0 _ rfl
      have Rrc1 := Rr.out.cell 1 _ rfl
      have Rrc2 := Rr.out.cell 2 _ rfl
      have Rrc3 := Rr.out.cell 3 _ rfl
      have Rrc4 := Rr.out.cell 4 _ rfl
      have Rrc5 := Rr.out.cell 5 _ rfl
      have Rrc6 := Rr.out.cell 6 _ rfl
      have Rrc7 := Rr.out.cell 7 _ rfl
      have Rrc8 := Rr.out.cell 8 _ rfl
      have Rrc9 := Rr.out.cell 9 _ rfl
      have Rrc10 := Rr.out.cell 10 _ rfl
      go_wp2_with fail
      refine (HJ.out _ (HW.out.below (HB.out))).mono ?_
      rintro e w2 ⟨rfl, hb⟩
      have hbz := below_then HB.out hb
      have Rr' := Rr.out.call hb
      clear Rr
      have Rr := Lib.hid Rr'
      clear Rr'
      replace HB := Lib.hid hbz
      clear hb hbz
      clear zRr Rrc0 Rrc1 Rrc2 Rrc3 Rrc4 Rrc5 Rrc6 Rrc7 Rrc8 Rrc9 Rrc10
      have zRr := Rr.out.lt
      have Rrc0 := Rr.out.cell 0 _ rfl
      have Rrc1 := Rr.out.cell 1 _ rfl
      have Rrc2 := Rr.out.cell 2 _ rfl
      have Rrc3 := Rr.out.cell 3 _ rfl
      have Rrc4 := Rr.out.cell 4 _ rfl
      have Rrc5 := Rr.out.cell 5 _ rfl
      have Rrc6 := Rr.out.cell 6 _ rfl
      have Rrc7 := Rr.out.cell 7 _ rfl
      have Rrc8 := Rr.out.cell 8 _ rfl
      have Rrc9 := Rr.out.cell 9 _ rfl
      have Rrc10 := Rr.out.cell 10 _ rfl
      go_wp2_with fail
      refine (HD.out _).mono ?_
      rintro e w3 ⟨rfl, hb⟩
      have hbz := below_then HB.out hb
      have Rr' := Rr.out.call hb
      clear Rr
      have Rr := Lib.hid Rr'
      clear Rr'
      replace HB := Lib.hid hbz
      clear hb hbz
      clear zRr Rrc0 Rrc1 Rrc2 Rrc3 Rrc4 Rrc5 Rrc6 Rrc7 Rrc8 Rrc9 Rrc10
      have zRr := Rr.out.lt
      have Rrc0 := Rr.out.cell 0 _ rfl
      have Rrc1 := Rr.out.cell 1 _ rfl
      have Rrc2 := Rr.out.cell 2 _ rfl
      have Rrc3 := Rr.out.cell 3 _ rfl
      have Rrc4 := Rr.out.cell 4 _ rfl
      have Rrc5 := Rr.out.cell 5 _ rfl
      have Rrc6 := Rr.out.cell 6 _ rfl
      have Rrc7 := Rr.out.cell 7 _ rfl
      have Rrc8 := Rr.out.cell 8 _ rfl
      have Rrc9 := Rr.out.cell 9 _ rfl
      have Rrc10 := Rr.out.cell 10 _ rfl
      go_wp2_with fail
      refine (HS.out _ (HW.out.below (HB.out))).mono ?_
      rintro e w4 ⟨rfl, hb⟩
      have hbz := below_then HB.out hb
      have Rr' := Rr.out.call hb
      clear Rr
      have Rr := Lib.hid Rr'
      clear Rr'
      replace HB := Lib.hid hbz
      clear hb hbz
      clear zRr Rrc0 Rrc1 Rrc2 Rrc3 Rrc4 Rrc5 Rrc6 Rrc7 Rrc8 Rrc9 Rrc10
      have zRr := Rr.out.lt
      have Rrc0 := Rr.out.cell 0 _ rfl
      have Rrc1 := Rr.out.cell 1 _ rfl
      have Rrc2 := Rr.out.cell 2 _ rfl
      have Rrc3 := Rr.out.cell 3 _ rfl
      have Rrc4 := Rr.out.cell 4 _ rfl
      have Rrc5 := Rr.out.cell 5 _ rfl
      have Rrc6 := Rr.out.cell 6 _ rfl
      have Rrc7 := Rr.out.cell 7 _ rfl
      have Rrc8 := Rr.out.cell 8 _ rfl
      have Rrc9 := Rr.out.cell 9 _ rfl
      have Rrc10 := Rr.out.cell 10 _ rfl
      have k0 := cell_regrown Rrc0
      have k1 := cell_regrown Rrc1
      have k3 := cell_regrown Rrc3
      have k9 := cell_regrown Rrc9
      have cI : ∀ dd os, Calls Tryz.prog 56 #[.int .i64 fr] (grow (redrawn w4 dd) os) fun e w'' => e = .returned (.string x1) ∧ ∃ p : Regrown, w'' = grow (redrawn w4 p.d) p.os := fun dd os => Calls.regrown_of (HI.out _ (HW.out.below (below_then HB.out (below_regrown w4 dd os))))
      have cM : ∀ dd os, Calls Tryz.prog 59 #[.int .i64 mo] (grow (redrawn w4 dd) os) fun e w'' => e = .returned (.string x4) ∧ ∃ p : Regrown, w'' = grow (redrawn w4 p.d) p.os := fun dd os => Calls.regrown_of (HM.out _)
      have cV : ∀ dd os, Calls Tryz.prog 60 #[.int .i64 sv] (grow (redrawn w4 dd) os) fun e w'' => e = .returned (.string x7) ∧ ∃ p : Regrown, w'' = grow (redrawn w4 p.d) p.os := fun dd os => Calls.regrown_of (HV.out _ (HW.out.below (below_then HB.out (below_regrown w4 dd os))))
      go_upto_region 19 with fail
      refine wp_region_tail 15 (by kernel_rfl) (by kernel_rfl) ?_
      repeat (quiet_step (first | exact cI _ _ | exact cM _ _ | exact cV _ _))
      refine wpQuiet_nil ?_
      intro wz hwz
      obtain ⟨⟨dq, osq⟩, hwz⟩ := hwz
      have hbz : Below w4.heap.size w4 wz := by rw [hwz]; exact below_regrown _ _ _
      have HBz := Lib.hid (below_then HB.out hbz)
      clear hwz hbz k0 k1 k3 k9 cI cM cV
      show wpList _ _ _ (_ :: _) _ _
      go_wp2
      have hl9 : T.length = 9 := by rw [HT.out]; rfl
      refine bodyPost_ret (v := .tuple #[.slice (some ⟨wz.heap.size, 0, none⟩) 9 9, .int .i64 0]) (by simp [results, Tryz.results36, go_sem]) rfl ⟨some ⟨wz.heap.size, 0, none⟩, 9, ⟨by rw [hl9]; exact Nat.le_refl _, by decide⟩, by rw [hl9], ?_, HBz.out.alloc HBz.out.size _⟩
      rw [HT.out, HLa.out, HLe.out]
      exact ru_reads wz wz.heap.size [nm, x1, ⟨#[109, 97, 120]⟩, ⟨#[45]⟩, x4, x5, x6, x7, lt] 9 rfl
  · have HLa : Hid (La = xt) := by show _ = _; rw [hLast, if_neg ha, if_neg hb]
    have qb : (tt == 9999) = false := by rw [beq_eq_false_iff_ne]; exact hb
    clear hLast ha hb
    by_cases hL : lt = ⟨#[]⟩
    · have HLe : Hid (Le = ⟨#[45]⟩) := by show _ = _; rw [hLett, if_pos hL]
      have ql : lt.toList.isEmpty = true := by rw [hL, ByteArray.toList_eq]; rfl
      clear hLett hL
      go_enter Tryz.func36, Tryz.ntmps36
      go_wp2_with fail
      refine (HC.out _).mono ?_
      rintro e w1 ⟨rfl, hb⟩
      have hbz := below_then (HB.out.alloc (by have := HB.out.size; first | exact this | (simp; omega)) _) hb
      have Rr := Lib.hid ((At.new w #[.string nm, .int .i64 fr, .int .i64 tt, .int .i64 mo, .int .u8 k, .int .i64 n, .int .i64 d, .int .i64 s, .int .u8 c, .int .i64 sv, .string lt] 47).call hb)
      replace HB := Lib.hid hbz
      clear hb hbz
      have zRr := Rr.out.lt
      have Rrc0 := Rr.out.cell 0 _ rfl
      have Rrc1 := Rr.out.cell 1 _ rfl
      have Rrc2 := Rr.out.cell 2 _ rfl
      have Rrc3 := Rr.out.cell 3 _ rfl
      have Rrc4 := Rr.out.cell 4 _ rfl
      have Rrc5 := Rr.out.cell 5 _ rfl
      have Rrc6 := Rr.out.cell 6 _ rfl
      have Rrc7 := Rr.out.cell 7 _ rfl
      have Rrc8 := Rr.out.cell 8 _ rfl
      have Rrc9 := Rr.out.cell 9 _ rfl
      have Rrc10 := Rr.out.cell 10 _ rfl
      go_wp2_with fail
      refine (HJ.out _ (HW.out.below (HB.out))).mono ?_
      rintro e w2 ⟨rfl, hb⟩
      have hbz := below_then HB.out hb
      have Rr' := Rr.out.call hb
      clear Rr
      have Rr := Lib.hid Rr'
      clear Rr'
      replace HB := Lib.hid hbz
      clear hb hbz
      clear zRr Rrc0 Rrc1 Rrc2 Rrc3 Rrc4 Rrc5 Rrc6 Rrc7 Rrc8 Rrc9 Rrc10
      have zRr := Rr.out.lt
      have Rrc0 := Rr.out.cell 0 _ rfl
      have Rrc1 := Rr.out.cell 1 _ rfl
      have Rrc2 := Rr.out.cell 2 _ rfl
      have Rrc3 := Rr.out.cell 3 _ rfl
      have Rrc4 := Rr.out.cell 4 _ rfl
      have Rrc5 := Rr.out.cell 5 _ rfl
      have Rrc6 := Rr.out.cell 6 _ rfl
      have Rrc7 := Rr.out.cell 7 _ rfl
      have Rrc8 := Rr.out.cell 8 _ rfl
      have Rrc9 := Rr.out.cell 9 _ rfl
      have Rrc10 := Rr.out.cell 10 _ rfl
      go_wp2_with fail
      refine (HD.out _).mono ?_
      rintro e w3 ⟨rfl, hb⟩
      have hbz := below_then HB.out hb
      have Rr' := Rr.out.call hb
      clear Rr
      have Rr := Lib.hid Rr'
      clear Rr'
      replace HB := Lib.hid hbz
      clear hb hbz
      clear zRr Rrc0 Rrc1 Rrc2 Rrc3 Rrc4 Rrc5 Rrc6 Rrc7 Rrc8 Rrc9 Rrc10
      have zRr := Rr.out.lt
      have Rrc0 := Rr.out.cell 0 _ rfl
      have Rrc1 := Rr.out.cell 1 _ rfl
      have Rrc2 := Rr.out.cell 2 _ rfl
      have Rrc3 := Rr.out.cell 3 _ rfl
      have Rrc4 := Rr.out.cell 4 _ rfl
      have Rrc5 := Rr.out.cell 5 _ rfl
      have Rrc6 := Rr.out.cell 6 _ rfl
      have Rrc7 := Rr.out.cell 7 _ rfl
      have Rrc8 := Rr.out.cell 8 _ rfl
      have Rrc9 := Rr.out.cell 9 _ rfl
      have Rrc10 := Rr.out.cell 10 _ rfl
      go_wp2_with fail
      refine (HS.out _ (HW.out.below (HB.out))).mono ?_
      rintro e w4 ⟨rfl, hb⟩
      have hbz := below_then HB.out hb
      have Rr' := Rr.out.call hb
      clear Rr
      have Rr := Lib.hid Rr'
      clear Rr'
      replace HB := Lib.hid hbz
      clear hb hbz
      clear zRr Rrc0 Rrc1 Rrc2 Rrc3 Rrc4 Rrc5 Rrc6 Rrc7 Rrc8 Rrc9 Rrc10
      have zRr := Rr.out.lt
      have Rrc0 := Rr.out.cell 0 _ rfl
      have Rrc1 := Rr.out.cell 1 _ rfl
      have Rrc2 := Rr.out.cell 2 _ rfl
      have Rrc3 := Rr.out.cell 3 _ rfl
      have Rrc4 := Rr.out.cell 4 _ rfl
      have Rrc5 := Rr.out.cell 5 _ rfl
      have Rrc6 := Rr.out.cell 6 _ rfl
      have Rrc7 := Rr.out.cell 7 _ rfl
      have Rrc8 := Rr.out.cell 8 _ rfl
      have Rrc9 := Rr.out.cell 9 _ rfl
      have Rrc10 := Rr.out.cell 10 _ rfl
      have k0 := cell_regrown Rrc0
      have k1 := cell_regrown Rrc1
      have k3 := cell_regrown Rrc3
      have k9 := cell_regrown Rrc9
      have cI : ∀ dd os, Calls Tryz.prog 56 #[.int .i64 fr] (grow (redrawn w4 dd) os) fun e w'' => e = .returned (.string x1) ∧ ∃ p : Regrown, w'' = grow (redrawn w4 p.d) p.os := fun dd os => Calls.regrown_of (HI.out _ (HW.out.below (below_then HB.out (below_regrown w4 dd os))))
      have cM : ∀ dd os, Calls Tryz.prog 59 #[.int .i64 mo] (grow (redrawn w4 dd) os) fun e w'' => e = .returned (.string x4) ∧ ∃ p : Regrown, w'' = grow (redrawn w4 p.d) p.os := fun dd os => Calls.regrown_of (HM.out _)
      have cV : ∀ dd os, Calls Tryz.prog 60 #[.int .i64 sv] (grow (redrawn w4 dd) os) fun e w'' => e = .returned (.string x7) ∧ ∃ p : Regrown, w'' = grow (redrawn w4 p.d) p.os := fun dd os => Calls.regrown_of (HV.out _ (HW.out.below (below_then HB.out (below_regrown w4 dd os))))
      go_upto_region 19 with fail
      refine wp_region_tail 15 (by kernel_rfl) (by kernel_rfl) ?_
      repeat (quiet_step (first | exact cI _ _ | exact cM _ _ | exact cV _ _))
      refine wpQuiet_nil ?_
      intro wz hwz
      obtain ⟨⟨dq, osq⟩, hwz⟩ := hwz
      have hbz : Below w4.heap.size w4 wz := by rw [hwz]; exact below_regrown _ _ _
      have HBz := Lib.hid (below_then HB.out hbz)
      clear hwz hbz k0 k1 k3 k9 cI cM cV
      show wpList _ _ _ (_ :: _) _ _
      go_wp2
      have hl9 : T.length = 9 := by rw [HT.out]; rfl
      refine bodyPost_ret (v := .tuple #[.slice (some ⟨wz.heap.size, 0, none⟩) 9 9, .int .i64 0]) (by simp [results, Tryz.results36, go_sem]) rfl ⟨some ⟨wz.heap.size, 0, none⟩, 9, ⟨by rw [hl9]; exact Nat.le_refl _, by decide⟩, by rw [hl9], ?_, HBz.out.alloc HBz.out.size _⟩
      rw [HT.out, HLa.out, HLe.out]
      exact ru_reads wz wz.heap.size [nm, x1, xt, ⟨#[45]⟩, x4, x5, x6, x7, ⟨#[45]⟩] 9 rfl
    · have HLe : Hid (Le = lt) := by show _ = _; rw [hLett, if_neg hL]
      have ql : lt.toList.isEmpty = false := empty_no lt hL
      clear hLett hL
      go_enter Tryz.func36, Tryz.ntmps36
      go_wp2_with fail
      refine (HC.out _).mono ?_
      rintro e w1 ⟨rfl, hb⟩
      have hbz := below_then (HB.out.alloc (by have := HB.out.size; first | exact this | (simp; omega)) _) hb
      have Rr := Lib.hid ((At.new w #[.string nm, .int .i64 fr, .int .i64 tt, .int .i64 mo, .int .u8 k, .int .i64 n, .int .i64 d, .int .i64 s, .int .u8 c, .int .i64 sv, .string lt] 47).call hb)
      replace HB := Lib.hid hbz
      clear hb hbz
      have zRr := Rr.out.lt
      have Rrc0 := Rr.out.cell 0 _ rfl
      have Rrc1 := Rr.out.cell 1 _ rfl
      have Rrc2 := Rr.out.cell 2 _ rfl
      have Rrc3 := Rr.out.cell 3 _ rfl
      have Rrc4 := Rr.out.cell 4 _ rfl
      have Rrc5 := Rr.out.cell 5 _ rfl
      have Rrc6 := Rr.out.cell 6 _ rfl
      have Rrc7 := Rr.out.cell 7 _ rfl
      have Rrc8 := Rr.out.cell 8 _ rfl
      have Rrc9 := Rr.out.cell 9 _ rfl
      have Rrc10 := Rr.out.cell 10 _ rfl
      go_wp2_with fail
      refine (HJ.out _ (HW.out.below (HB.out))).mono ?_
      rintro e w2 ⟨rfl, hb⟩
      have hbz := below_then HB.out hb
      have Rr' := Rr.out.call hb
      clear Rr
      have Rr := Lib.hid Rr'
      clear Rr'
      replace HB := Lib.hid hbz
      clear hb hbz
      clear zRr Rrc0 Rrc1 Rrc2 Rrc3 Rrc4 Rrc5 Rrc6 Rrc7 Rrc8 Rrc9 Rrc10
      have zRr := Rr.out.lt
      have Rrc0 := Rr.out.cell 0 _ rfl
      have Rrc1 := Rr.out.cell 1 _ rfl
      have Rrc2 := Rr.out.cell 2 _ rfl
      have Rrc3 := Rr.out.cell 3 _ rfl
      have Rrc4 := Rr.out.cell 4 _ rfl
      have Rrc5 := Rr.out.cell 5 _ rfl
      have Rrc6 := Rr.out.cell 6 _ rfl
      have Rrc7 := Rr.out.cell 7 _ rfl
      have Rrc8 := Rr.out.cell 8 _ rfl
      have Rrc9 := Rr.out.cell 9 _ rfl
      have Rrc10 := Rr.out.cell 10 _ rfl
      go_wp2_with fail
      refine (HD.out _).mono ?_
      rintro e w3 ⟨rfl, hb⟩
      have hbz := below_then HB.out hb
      have Rr' := Rr.out.call hb
      clear Rr
      have Rr := Lib.hid Rr'
      clear Rr'
      replace HB := Lib.hid hbz
      clear hb hbz
      clear zRr Rrc0 Rrc1 Rrc2 Rrc3 Rrc4 Rrc5 Rrc6 Rrc7 Rrc8 Rrc9 Rrc10
      have zRr := Rr.out.lt
      have Rrc0 := Rr.out.cell 0 _ rfl
      have Rrc1 := Rr.out.cell 1 _ rfl
      have Rrc2 := Rr.out.cell 2 _ rfl
      have Rrc3 := Rr.out.cell 3 _ rfl
      have Rrc4 := Rr.out.cell 4 _ rfl
      have Rrc5 := Rr.out.cell 5 _ rfl
      have Rrc6 := Rr.out.cell 6 _ rfl
      have Rrc7 := Rr.out.cell 7 _ rfl
      have Rrc8 := Rr.out.cell 8 _ rfl
      have Rrc9 := Rr.out.cell 9 _ rfl
      have Rrc10 := Rr.out.cell 10 _ rfl
      go_wp2_with fail
      refine (HS.out _ (HW.out.below (HB.out))).mono ?_
      rintro e w4 ⟨rfl, hb⟩
      have hbz := below_then HB.out hb
      have Rr' := Rr.out.call hb
      clear Rr
      have Rr := Lib.hid Rr'
      clear Rr'
      replace HB := Lib.hid hbz
      clear hb hbz
      clear zRr Rrc0 Rrc1 Rrc2 Rrc3 Rrc4 Rrc5 Rrc6 Rrc7 Rrc8 Rrc9 Rrc10
      have zRr := Rr.out.lt
      have Rrc0 := Rr.out.cell 0 _ rfl
      have Rrc1 := Rr.out.cell 1 _ rfl
      have Rrc2 := Rr.out.cell 2 _ rfl
      have Rrc3 := Rr.out.cell 3 _ rfl
      have Rrc4 := Rr.out.cell 4 _ rfl
      have Rrc5 := Rr.out.cell 5 _ rfl
      have Rrc6 := Rr.out.cell 6 _ rfl
      have Rrc7 := Rr.out.cell 7 _ rfl
      have Rrc8 := Rr.out.cell 8 _ rfl
      have Rrc9 := Rr.out.cell 9 _ rfl
      have Rrc10 := Rr.out.cell 10 _ rfl
      have k0 := cell_regrown Rrc0
      have k1 := cell_regrown Rrc1
      have k3 := cell_regrown Rrc3
      have k9 := cell_regrown Rrc9
      have cI : ∀ dd os, Calls Tryz.prog 56 #[.int .i64 fr] (grow (redrawn w4 dd) os) fun e w'' => e = .returned (.string x1) ∧ ∃ p : Regrown, w'' = grow (redrawn w4 p.d) p.os := fun dd os => Calls.regrown_of (HI.out _ (HW.out.below (below_then HB.out (below_regrown w4 dd os))))
      have cM : ∀ dd os, Calls Tryz.prog 59 #[.int .i64 mo] (grow (redrawn w4 dd) os) fun e w'' => e = .returned (.string x4) ∧ ∃ p : Regrown, w'' = grow (redrawn w4 p.d) p.os := fun dd os => Calls.regrown_of (HM.out _)
      have cV : ∀ dd os, Calls Tryz.prog 60 #[.int .i64 sv] (grow (redrawn w4 dd) os) fun e w'' => e = .returned (.string x7) ∧ ∃ p : Regrown, w'' = grow (redrawn w4 p.d) p.os := fun dd os => Calls.regrown_of (HV.out _ (HW.out.below (below_then HB.out (below_regrown w4 dd os))))
      go_upto_region 19 with fail
      refine wp_region_tail 15 (by kernel_rfl) (by kernel_rfl) ?_
      repeat (quiet_step (first | exact cI _ _ | exact cM _ _ | exact cV _ _))
      refine wpQuiet_nil ?_
      intro wz hwz
      obtain ⟨⟨dq, osq⟩, hwz⟩ := hwz
      have hbz : Below w4.heap.size w4 wz := by rw [hwz]; exact below_regrown _ _ _
      have HBz := Lib.hid (below_then HB.out hbz)
      clear hwz hbz k0 k1 k3 k9 cI cM cV
      show wpList _ _ _ (_ :: _) _ _
      go_wp2
      have hl9 : T.length = 9 := by rw [HT.out]; rfl
      refine bodyPost_ret (v := .tuple #[.slice (some ⟨wz.heap.size, 0, none⟩) 9 9, .int .i64 0]) (by simp [results, Tryz.results36, go_sem]) rfl ⟨some ⟨wz.heap.size, 0, none⟩, 9, ⟨by rw [hl9]; exact Nat.le_refl _, by decide⟩, by rw [hl9], ?_, HBz.out.alloc HBz.out.size _⟩
      rw [HT.out, HLa.out, HLe.out]
      exact ru_reads wz wz.heap.size [nm, x1, xt, ⟨#[45]⟩, x4, x5, x6, x7, lt] 9 rfl
end Go.Proofs.YtlhoggalhjadgaaGreatDoor
