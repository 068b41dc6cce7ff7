/- The contract of package moment: TextUntil. -/
import Derived.Test.YtlhoggalhjadgaaGreatDoorK10
import Derived.Deep.RegionWith

namespace Go.Proofs.YtlhoggalhjadgaaGreatDoor
open Go.RowKit

namespace Mo
def u0 : ByteArray := ⟨#[]⟩
def u1 : ByteArray := ⟨#[74, 97, 110]⟩
def u2 : ByteArray := ⟨#[49]⟩
def u3 : ByteArray := ⟨#[48, 58, 48, 48]⟩
/-- The four texts of an until. -/
def U.full (u : U) : List ByteArray := [⟨(Lib.itoa u.y).toArray⟩, textOf Months (u.m - 1), ⟨(Dy.text u.k u.n u.d).toArray⟩, ⟨(text u.s u.c).toArray⟩]
/-- How many of them are written. -/
def U.count (u : U) : Nat :=
  if (⟨(text u.s u.c).toArray⟩ : ByteArray) = u3 then (if (⟨(Dy.text u.k u.n u.d).toArray⟩ : ByteArray) = u2 then (if textOf Months (u.m - 1) = u1 then 1 else 2) else 3) else 4
def U.texts (u : U) : List ByteArray := u.full.take u.count
end Mo
/-- A list of texts was returned, and no error. -/
def StrsRet (l : List ByteArray) (w : World) (e : Ending) (w' : World) : Prop :=
  ∃ A c, (l.length ≤ c ∧ c ≤ maxLen) ∧ e = .returned (.tuple #[.slice A l.length c, .int .i64 0]) ∧ Reads w' w'.heap.size 1 A l.length (l.map Value.string) ∧ Below w.heap.size w w'
theorem itoa_below (n : Int) (w : World) (hW : Wc w) (h0 : -9223372036854775808 ≤ n) (h1 : n ≤ 9223372036854775807) :
    Calls Tryz.prog 56 #[.int .i64 n] w fun e w' => e = .returned (.string ⟨(Lib.itoa n).toArray⟩) ∧ Below w.heap.size w w' :=
  (Tryz.strconv_Itoa n h0 h1 w hW.pow).mono fun _ _ ⟨he, k, os, hw⟩ => ⟨he, hw ▸ Lib.below_grow _ _ (Nat.le_refl _) k os⟩

theorem textUntil_bad (u : Mo.U) (w : World) (h : ¬ u.Ok) :
    Calls Tryz.prog 63 #[u.v] w fun e w' => e = .returned (.tuple #[.slice none 0 0, .int .i64 2]) ∧ Below w.heap.size w w' := by
  have HC := Lib.hid fun W => checkUntil_bad u W h
  obtain ⟨y, m, k, n, d, s, c⟩ := u
  unfold Mo.U.v at HC ⊢
  clear h
  go_enter Tryz.func63, Tryz.ntmps63
  go_wp2_with fail
  refine (HC.out _).mono ?_
  rintro e w1 ⟨rfl, hb1⟩
  have HB := Lib.hid (((Below.refl w.heap.size w).alloc (Nat.le_refl _) (.cells #[.int .i64 y, .int .i64 m, .int .u8 k, .int .i64 n, .int .i64 d, .int .i64 s, .int .u8 c] 60)).trans (hb1.mono (by simp)))
  clear hb1
  go_wp2
  go_ret2
  exact ⟨rfl, HB.out⟩

def Mo.TRel (w2 : World) (C : Nat → Nat) (N : Nat) (v : Value) (wr : World) : Prop := ∃ k : Nat, 1 ≤ k ∧ k ≤ 4 ∧ v = .int .i64 k ∧ Drew w2 wr ∧ Hid (C k = N)
/-- How many are left, ahead of a look at the last of k. -/
def Mo.cnt (a b c : ByteArray) (k : Nat) : Nat := if k = 4 then (if c = Mo.u3 then (if b = Mo.u2 then (if a = Mo.u1 then 1 else 2) else 3) else 4) else if k = 3 then (if b = Mo.u2 then (if a = Mo.u1 then 1 else 2) else 3) else if k = 2 then (if a = Mo.u1 then 1 else 2) else 1
/-- A slice of the first ones. -/
theorem reads_first {w : World} {g B : Nat} {l : List ByteArray} (h : At w g (l.map Value.string)) (hg : g < B) (k : Nat) (hk : k ≤ l.length) : Reads w B 1 (some ⟨g, 0, none⟩) k ((l.take k).map Value.string) := by
  refine ⟨by simp; omega, fun _ => ⟨_, rfl, hg, fun j v hj => ?_⟩⟩
  have e : (⟨g, 0, none⟩ : Addr).add j = ⟨g, j, none⟩ := by
    unfold Addr.add
    split
    · subst_vars; rfl
    · simp
  rw [e]
  refine h.cell j v ?_
  have hl := (List.getElem?_eq_some_iff.1 hj).1
  simp only [List.length_map, List.length_take] at hl
  rw [List.map_take, List.getElem?_take] at hj
  split at hj
  · exact hj
  · simp at hj
theorem four {w : World} {g : Nat} {a b c d : Value} (h : At w g [a, b, c, d]) : w.cell? ⟨g, 0, none⟩ = some a ∧ w.cell? ⟨g, 1, none⟩ = some b ∧ w.cell? ⟨g, 2, none⟩ = some c ∧ w.cell? ⟨g, 3, none⟩ = some d :=
  ⟨h.cell 0 a rfl, h.cell 1 b rfl, h.cell 2 c rfl, h.cell 3 d rfl⟩
set_option maxHeartbeats 4000000 in
set_option maxRecDepth 100000 in
theorem textUntil_ok (u : Mo.U) (w : World) (hW : Wc w) (h : u.Ok) (hc : 0 ≤ u.c) :
    Calls Tryz.prog 63 #[u.v] w (StrsRet u.texts w) := by
  have HC := Lib.hid fun W => checkUntil_ok u W h
  have hTx : u.texts = u.full.take u.count := rfl
  have hFull : u.full = [⟨(Lib.itoa u.y).toArray⟩, textOf Months (u.m - 1), ⟨(Dy.text u.k u.n u.d).toArray⟩, ⟨(Mo.text u.s u.c).toArray⟩] := rfl
  have hCnt : u.count = Mo.cnt (textOf Months (u.m - 1)) ⟨(Dy.text u.k u.n u.d).toArray⟩ ⟨(Mo.text u.s u.c).toArray⟩ 4 := rfl
  obtain ⟨⟨h1, h2, h3, h4⟩, hd, hm⟩ := h
  have hI := fun W hw => itoa_below u.y W hw (by omega) (by omega)
  have hM := fun W => monthText_any u.m W
  have hD := fun W => dayText_ok u.k u.n u.d W hd
  have hS := fun W hw => momText_ok u.s u.c W hw hm hc
  obtain ⟨F, hF⟩ : ∃ F, u.full = F := ⟨_, rfl⟩
  obtain ⟨K, hK⟩ : ∃ K, u.count = K := ⟨_, rfl⟩
  obtain ⟨x0, hx0⟩ : ∃ x : ByteArray, ⟨(Lib.itoa u.y).toArray⟩ = x := ⟨_, rfl⟩
  obtain ⟨x1, hx1⟩ : ∃ x : ByteArray, textOf Months (u.m - 1) = x := ⟨_, rfl⟩
  obtain ⟨x2, hx2⟩ : ∃ x : ByteArray, ⟨(Dy.text u.k u.n u.d).toArray⟩ = x := ⟨_, rfl⟩
  obtain ⟨x3, hx3⟩ : ∃ x : ByteArray, ⟨(Mo.text u.s u.c).toArray⟩ = x := ⟨_, rfl⟩
  rw [hF, hK] at hTx
  rw [hF, hx0, hx1, hx2, hx3] at hFull
  rw [hK, hx1, hx2, hx3] at hCnt
  simp only [hx0] at hI
  simp only [hx1] at hM
  simp only [hx2] at hD
  simp only [hx3] at hS
  have HI := Lib.hid hI
  have HM := Lib.hid hM
  have HD := Lib.hid hD
  have HS := Lib.hid hS
  have HTx := Lib.hid hTx
  have HFull := Lib.hid hFull
  have HCnt := Lib.hid hCnt
  have HW := Lib.hid hW
  obtain ⟨T, hT⟩ : ∃ T, u.texts = T := ⟨_, rfl⟩
  rw [hT] at HTx ⊢
  obtain ⟨y, m, k, n, d, s, c⟩ := u
  simp only at HC HI HM HD HS h1 h2 h3 h4
  unfold Mo.U.v at HC ⊢
  clear hTx hFull hCnt hI hM hD hS hx0 hx1 hx2 hx3 hF hK hT hd hm hc hW
  go_enter Tryz.func63, Tryz.ntmps63
  go_wp2_with fail
  refine (HC.out _).mono ?_
  rintro e w1 ⟨rfl, hb1⟩
  have A1 := Lib.hid ((At.new w #[.int .i64 y, .int .i64 m, .int .u8 k, .int .i64 n, .int .i64 d, .int .i64 s, .int .u8 c] 60).call hb1)
  have HB := Lib.hid (((Below.refl w.heap.size w).alloc (Nat.le_refl _) (.cells #[.int .i64 y, .int .i64 m, .int .u8 k, .int .i64 n, .int .i64 d, .int .i64 s, .int .u8 c] 60)).trans (hb1.mono (by simp)))
  have z1 : w.heap.size < w1.heap.size := A1.out.lt
  obtain ⟨⟨c0, c1, c2, c3, c4, c5, c6⟩, ⟨f0, f1, f2, f3, f4, f5, f6⟩⟩ := A1.out.seven
  clear hb1
  go_wp2_with fail
  refine (HD.out _).mono ?_
  rintro e w2 ⟨rfl, hb2⟩
  have A2 := Lib.hid (A1.out.call hb2)
  have z2 : w.heap.size < w2.heap.size := A2.out.lt
  replace HB := Lib.hid (below_then HB.out hb2)
  clear hb2 c0 c1 c2 c3 c4 c5 c6 f0 f1 f2 f3 f4 f5 f6
  obtain ⟨⟨c0, c1, c2, c3, c4, c5, c6⟩, ⟨f0, f1, f2, f3, f4, f5, f6⟩⟩ := A2.out.seven
  go_wp2_with fail
  refine (HS.out _ (HW.out.below HB.out)).mono ?_
  rintro e w3 ⟨rfl, hb3⟩
  have A3 := Lib.hid (A2.out.call hb3)
  have z3 : w.heap.size < w3.heap.size := A3.out.lt
  replace HB := Lib.hid (below_then HB.out hb3)
  clear hb3 c0 c1 c2 c3 c4 c5 c6 f0 f1 f2 f3 f4 f5 f6
  obtain ⟨⟨c0, c1, c2, c3, c4, c5, c6⟩, ⟨f0, f1, f2, f3, f4, f5, f6⟩⟩ := A3.out.seven
  go_upto_region 10 with fail
  go_cut [8] (fun v wx => ∃ W : World, v = .slice (some ⟨W.heap.size, 0, none⟩) 4 4 ∧ Hid (Below w.heap.size w W) ∧ W.alloc (.cells #[.string x0, .string x1, .string x2, .string x3] 9) = wx)
  case first =>
    have HWd : Hid (Wc w3.drew) := by show Wc w3.drew; exact HW.out.below HB.out.drew
    have AD : Hid (At w3.drew w.heap.size [.int .i64 y, .int .i64 m, .int .u8 k, .int .i64 n, .int .i64 d, .int .i64 s, .int .u8 c]) := by show At w3.drew w.heap.size _; exact A3.out.drew ⟨1, rfl⟩
    have BD : Hid (Below w.heap.size w w3.drew) := by show Below w.heap.size w w3.drew; exact HB.out.drew
    go_region_with (first | (go_at_call 56; (first | (refine (HI.out _ HWd.out).mono ?_; rintro e wi ⟨rfl, hbi⟩; have Ai := Lib.hid (AD.out.call hbi); have Bi := Lib.hid (below_then BD.out hbi)) | (refine (HI.out _ (HWd.out.below hbm)).mono ?_; rintro e wi ⟨rfl, hbi⟩; have Ai := Lib.hid (Am.out.call hbi); have Bi := Lib.hid (below_then Bm.out hbi))); obtain ⟨⟨i0, i1, _, _, _, _, _⟩, _⟩ := Ai.out.seven) | (go_at_call 59; refine (HM.out _).mono ?_; rintro e wm ⟨rfl, hbm⟩; (first | (have Am := Lib.hid (AD.out.call hbm); have Bm := Lib.hid (below_then BD.out hbm)) | (have Am := Lib.hid (Ai.out.call hbm); have Bm := Lib.hid (below_then Bi.out hbm))); obtain ⟨⟨m0, m1, _, _, _, _, _⟩, _⟩ := Am.out.seven))
    all_goals (go_wp2_with fail; go_meet; first | exact ⟨wm, rfl, Bm, rfl⟩ | exact ⟨wi, rfl, Bi, rfl⟩)
  case rest =>
    obtain ⟨W, rfl, HBW, rfl⟩ := hcut
    obtain ⟨N, hN⟩ : ∃ N, Mo.cnt x1 x2 x3 4 = N := ⟨_, rfl⟩
    have HN := Lib.hid hN
    have hA1 : At ((W.alloc (.cells #[.string x0, .string x1, .string x2, .string x3] 9)).alloc (.cells #[.string ⟨#[]⟩, .string ⟨#[74, 97, 110]⟩, .string ⟨#[49]⟩, .string ⟨#[48, 58, 48, 48]⟩] 145)) W.heap.size [.string x0, .string x1, .string x2, .string x3] := (At.new W _ _).alloc _ _
    have hA2 : At ((W.alloc (.cells #[.string x0, .string x1, .string x2, .string x3] 9)).alloc (.cells #[.string ⟨#[]⟩, .string ⟨#[74, 97, 110]⟩, .string ⟨#[49]⟩, .string ⟨#[48, 58, 48, 48]⟩] 145)) (W.heap.size + 1) [.string ⟨#[]⟩, .string ⟨#[74, 97, 110]⟩, .string ⟨#[49]⟩, .string ⟨#[48, 58, 48, 48]⟩] := by
      have := At.new (W.alloc (.cells #[.string x0, .string x1, .string x2, .string x3] 9)) #[.string ⟨#[]⟩, .string ⟨#[74, 97, 110]⟩, .string ⟨#[49]⟩, .string ⟨#[48, 58, 48, 48]⟩] 145
      simpa using this
    have hA3 := (HBW.out.alloc HBW.out.size (.cells #[.string x0, .string x1, .string x2, .string x3] 9)).alloc (by have := HBW.out.size; simp; omega) (.cells #[.string ⟨#[]⟩, .string ⟨#[74, 97, 110]⟩, .string ⟨#[49]⟩, .string ⟨#[48, 58, 48, 48]⟩] 145)
    have HA1 := Lib.hid hA1
    have HA2 := Lib.hid hA2
    have HA3 := Lib.hid hA3
    clear hN hA1 hA2 hA3 c0 c1 c2 c3 c4 c5 c6 f0 f1 f2 f3 f4 f5 f6
    go_wp2
    go_loopw [10] (Mo.TRel ((W.alloc (.cells #[.string x0, .string x1, .string x2, .string x3] 9)).alloc (.cells #[.string ⟨#[]⟩, .string ⟨#[74, 97, 110]⟩, .string ⟨#[49]⟩, .string ⟨#[48, 58, 48, 48]⟩] 145)) (Mo.cnt x1 x2 x3) N) (fun v _ => (intOf v).toNat)
    case atStart => exact ⟨4, by omega, by omega, rfl, Drew.refl _, HN.out⟩
    case round =>
      obtain ⟨k, k1, k4, rfl, hdr, HK⟩ := hrel
      obtain ⟨a0, a1, a2, a3⟩ := four (HA1.out.drew hdr)
      obtain ⟨p0, p1, p2, p3⟩ := four (HA2.out.drew hdr)
      have hkk : k = 1 ∨ k = 2 ∨ k = 3 ∨ k = 4 := by omega
      rcases hkk with rfl | rfl | rfl | rfl
      · have HNk : Hid (1 = N) := by show 1 = N; rw [← HK.out]; rfl
        skip
        have HE : Hid (T = F.take 1) := by show T = F.take 1; rw [HTx.out, HCnt.out, HN.out, ← HNk.out]
        go_wp2_with fail
        go_quiet (fail)
        go_wp2
        have hl : T.length = 1 := by rw [HE.out, HFull.out]; rfl
        refine bodyPost_ret (v := .tuple #[.slice (some ⟨W.heap.size, 0, none⟩) 1 1, .int .i64 0]) (by simp [results, Tryz.results63, go_sem]) rfl ⟨some ⟨W.heap.size, 0, none⟩, 1, ⟨by rw [hl]; exact Nat.le_refl _, by decide⟩, by rw [hl], ?_, ?_⟩
        · rw [hl, HE.out]
          refine reads_first (l := F) ?_ ?_ 1 (by rw [HFull.out]; simp)
          · rw [HFull.out]; first | exact HA1.out.drew hdr | exact HA1.out.drew (hdr.drewN _)
          · first | exact (HA1.out.drew hdr).lt | exact (HA1.out.drew (hdr.drewN _)).lt
        · first | exact HA3.out.trans (hdr.below _) | exact HA3.out.trans ((hdr.drewN _).below _)
      · by_cases hx : x1 = Mo.u1
        · have HK2 : Hid (Mo.cnt x1 x2 x3 1 = N) := by
            show Mo.cnt x1 x2 x3 1 = N
            rw [← HK.out]
            unfold Mo.cnt
            simp [hx]
          have qx : (x1.toList == [74, 97, 110]) = true := by rw [hx, ByteArray.toList_eq]; rfl
          clear hx
          go_wp2_with fail
          go_quiet (fail)
          go_wp2
          go_roundw
          case rel => exact ⟨1, by omega, by omega, rfl, by first | exact hdr.drewN _ | exact hdr, HK2⟩
          case measure => simp [intOf]
        have HNk : Hid (2 = N) := by
          show 2 = N
          rw [← HK.out]
          unfold Mo.cnt
          simp [hx]
        have qx : (x1.toList == [74, 97, 110]) = false := ba_ne x1 [74, 97, 110] hx
        clear hx
        have HE : Hid (T = F.take 2) := by show T = F.take 2; rw [HTx.out, HCnt.out, HN.out, ← HNk.out]
        go_wp2_with fail
        go_quiet (fail)
        go_wp2
        have hl : T.length = 2 := by rw [HE.out, HFull.out]; rfl
        refine bodyPost_ret (v := .tuple #[.slice (some ⟨W.heap.size, 0, none⟩) 2 2, .int .i64 0]) (by simp [results, Tryz.results63, go_sem]) rfl ⟨some ⟨W.heap.size, 0, none⟩, 2, ⟨by rw [hl]; exact Nat.le_refl _, by decide⟩, by rw [hl], ?_, ?_⟩
        · rw [hl, HE.out]
          refine reads_first (l := F) ?_ ?_ 2 (by rw [HFull.out]; simp)
          · rw [HFull.out]; first | exact HA1.out.drew hdr | exact HA1.out.drew (hdr.drewN _)
          · first | exact (HA1.out.drew hdr).lt | exact (HA1.out.drew (hdr.drewN _)).lt
        · first | exact HA3.out.trans (hdr.below _) | exact HA3.out.trans ((hdr.drewN _).below _)
      · by_cases hx : x2 = Mo.u2
        · have HK2 : Hid (Mo.cnt x1 x2 x3 2 = N) := by
            show Mo.cnt x1 x2 x3 2 = N
            rw [← HK.out]
            unfold Mo.cnt
            simp [hx]
          have qx : (x2.toList == [49]) = true := by rw [hx, ByteArray.toList_eq]; rfl
          clear hx
          go_wp2_with fail
          go_quiet (fail)
          go_wp2
          go_roundw
          case rel => exact ⟨2, by omega, by omega, rfl, by first | exact hdr.drewN _ | exact hdr, HK2⟩
          case measure => simp [intOf]
        have HNk : Hid (3 = N) := by
          show 3 = N
          rw [← HK.out]
          unfold Mo.cnt
          simp [hx]
        have qx : (x2.toList == [49]) = false := ba_ne x2 [49] hx
        clear hx
        have HE : Hid (T = F.take 3) := by show T = F.take 3; rw [HTx.out, HCnt.out, HN.out, ← HNk.out]
        go_wp2_with fail
        go_quiet (fail)
        go_wp2
        have hl : T.length = 3 := by rw [HE.out, HFull.out]; rfl
        refine bodyPost_ret (v := .tuple #[.slice (some ⟨W.heap.size, 0, none⟩) 3 3, .int .i64 0]) (by simp [results, Tryz.results63, go_sem]) rfl ⟨some ⟨W.heap.size, 0, none⟩, 3, ⟨by rw [hl]; exact Nat.le_refl _, by decide⟩, by rw [hl], ?_, ?_⟩
        · rw [hl, HE.out]
          refine reads_first (l := F) ?_ ?_ 3 (by rw [HFull.out]; simp)
          · rw [HFull.out]; first | exact HA1.out.drew hdr | exact HA1.out.drew (hdr.drewN _)
          · first | exact (HA1.out.drew hdr).lt | exact (HA1.out.drew (hdr.drewN _)).lt
        · first | exact HA3.out.trans (hdr.below _) | exact HA3.out.trans ((hdr.drewN _).below _)
      · by_cases hx : x3 = Mo.u3
        · have HK2 : Hid (Mo.cnt x1 x2 x3 3 = N) := by
            show Mo.cnt x1 x2 x3 3 = N
            rw [← HK.out]
            unfold Mo.cnt
            simp [hx]
          have qx : (x3.toList == [48, 58, 48, 48]) = true := by rw [hx, ByteArray.toList_eq]; rfl
          clear hx
          go_wp2_with fail
          go_quiet (fail)
          go_wp2
          go_roundw
          case rel => exact ⟨3, by omega, by omega, rfl, by first | exact hdr.drewN _ | exact hdr, HK2⟩
          case measure => simp [intOf]
        have HNk : Hid (4 = N) := by
          show 4 = N
          rw [← HK.out]
          unfold Mo.cnt
          simp [hx]
        have qx : (x3.toList == [48, 58, 48, 48]) = false := ba_ne x3 [48, 58, 48, 48] hx
        clear hx
        have HE : Hid (T = F.take 4) := by show T = F.take 4; rw [HTx.out, HCnt.out, HN.out, ← HNk.out]
        go_wp2_with fail
        go_quiet (fail)
        go_wp2
        have hl : T.length = 4 := by rw [HE.out, HFull.out]; rfl
        refine bodyPost_ret (v := .tuple #[.slice (some ⟨W.heap.size, 0, none⟩) 4 4, .int .i64 0]) (by simp [results, Tryz.results63, go_sem]) rfl ⟨some ⟨W.heap.size, 0, none⟩, 4, ⟨by rw [hl]; exact Nat.le_refl _, by decide⟩, by rw [hl], ?_, ?_⟩
        · rw [hl, HE.out]
          refine reads_first (l := F) ?_ ?_ 4 (by rw [HFull.out]; simp)
          · rw [HFull.out]; first | exact HA1.out.drew hdr | exact HA1.out.drew (hdr.drewN _)
          · first | exact (HA1.out.drew hdr).lt | exact (HA1.out.drew (hdr.drewN _)).lt
        · first | exact HA3.out.trans (hdr.below _) | exact HA3.out.trans ((hdr.drewN _).below _)
end Go.Proofs.YtlhoggalhjadgaaGreatDoor
