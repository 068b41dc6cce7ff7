/- The contracts of package word: the months. -/
import Derived.Test.YtlhoggalhjadgaaGreatDoorK02
import Derived.Test.YtlhoggalhjadgaaGreatDoorK09

namespace Go.Proofs.YtlhoggalhjadgaaGreatDoor
open Go.RowKit

def Months : List ByteArray := [⟨#[74, 97, 110, 117, 97, 114, 121]⟩, ⟨#[70, 101, 98, 114, 117, 97, 114, 121]⟩, ⟨#[77, 97, 114, 99, 104]⟩, ⟨#[65, 112, 114, 105, 108]⟩, ⟨#[77, 97, 121]⟩, ⟨#[74, 117, 110, 101]⟩, ⟨#[74, 117, 108, 121]⟩, ⟨#[65, 117, 103, 117, 115, 116]⟩, ⟨#[83, 101, 112, 116, 101, 109, 98, 101, 114]⟩, ⟨#[79, 99, 116, 111, 98, 101, 114]⟩, ⟨#[78, 111, 118, 101, 109, 98, 101, 114]⟩, ⟨#[68, 101, 99, 101, 109, 98, 101, 114]⟩]

theorem months_any (w : World) :
    Calls Tryz.prog 78 #[] w fun e w' => e = .returned (.slice (some ⟨w.heap.size, 0, none⟩) 12 12) ∧ w' = w.alloc (.cells (strCells Months) 9) := by
  go_enter Tryz.func78, Tryz.ntmps78
  go_wp2
  go_ret
  exact ⟨rfl, rfl⟩

theorem month_any (s : ByteArray) (w : World) (hs : s.size ≤ maxLen) :
    Calls Tryz.prog 102 #[.string s] w fun e w' => e = .returned (.int .i64 (Wd.pick (tl s) (Months.map tl) + 1)) ∧ Below w.heap.size w w' := by
  have hb := Wd.pick_bd (tl s) (Months.map tl) (by decide)
  go_enter Tryz.func102, Tryz.ntmps102
  go_wp2_with fail
  refine (months_any _).mono ?_
  rintro e w1 ⟨rfl, rfl⟩
  go_wp2_with fail
  refine (pick_any s _ 12 12 Months _ hs (by unfold maxLen; omega) (reads_new w Months 9)).mono ?_
  rintro e w2 ⟨rfl, HD⟩
  go_wp2
  go_ret
  exact ⟨rfl, ((Below.refl _ _).alloc (Nat.le_refl _) _).trans (HD.below _)⟩

theorem months_len (k : Nat) (hk : k < 12) : ∃ nm, Months[k]? = some nm ∧ 3 ≤ nm.size ∧ textOf Months (k : Int) = nm.extract 0 3 := by
  have : k = 0 ∨ k = 1 ∨ k = 2 ∨ k = 3 ∨ k = 4 ∨ k = 5 ∨ k = 6 ∨ k = 7 ∨ k = 8 ∨ k = 9 ∨ k = 10 ∨ k = 11 := by omega
  rcases this with rfl | rfl | rfl | rfl | rfl | rfl | rfl | rfl | rfl | rfl | rfl | rfl <;> exact ⟨_, rfl, by decide, rfl⟩

theorem monthText_any (m : Int) (w : World) :
    Calls Tryz.prog 59 #[.int .i64 m] w fun e w' => e = .returned (.string (textOf Months (m - 1))) ∧ Below w.heap.size w w' := by
  by_cases h1 : m < 1
  · have HE := Lib.hid (textOf_out Months (m - 1) (by omega))
    go_enter Tryz.func59, Tryz.ntmps59
    go_wp2
    go_ret
    exact ⟨by rw [HE.out]; rfl, Below.refl _ _⟩
  · by_cases h2 : 12 < m
    · have HE := Lib.hid (textOf_out Months (m - 1) (by simp [Months]; omega))
      go_enter Tryz.func59, Tryz.ntmps59
      go_wp2
      go_ret
      exact ⟨by rw [HE.out]; rfl, Below.refl _ _⟩
    · obtain ⟨k, hk⟩ : ∃ k : Nat, m - 1 = (k : Int) := ⟨(m - 1).toNat, by omega⟩
      obtain ⟨nm, h3, h4, h5⟩ := months_len k (by omega)
      have hc := cell_new w Months 9 k nm h3
      rw [← hk] at h5
      have H5 := Lib.hid h5
      have q1 : (0 : Int) ≤ (k : Int) := by omega
      have q2 : (k : Int) < 12 := by omega
      obtain rfl : m = (k : Int) + 1 := by omega
      clear h5 h3 hk h1 h2
      go_enter Tryz.func59, Tryz.ntmps59
      go_wp2_with fail
      refine (months_any _).mono ?_
      rintro e w1 ⟨rfl, rfl⟩
      go_wp2
      go_ret
      exact ⟨ret_str H5.out.symm, (Below.refl _ _).alloc (Nat.le_refl _) _⟩
end Go.Proofs.YtlhoggalhjadgaaGreatDoor

/- The contracts of package moment: CheckUntil, ParseUntil. -/
namespace Go.Proofs.YtlhoggalhjadgaaGreatDoor
open Go.RowKit

namespace Mo
/-- An until: year, month, day (kind, number, day of the week), seconds, clock. -/
structure U where
  y : Int
  m : Int
  k : Int
  n : Int
  d : Int
  s : Int
  c : Int
def U.v (u : U) : Value := .agg #[.int .i64 u.y, .int .i64 u.m, .int .u8 u.k, .int .i64 u.n, .int .i64 u.d, .int .i64 u.s, .int .u8 u.c]
def U.cells (u : U) : List Value := [.int .i64 u.y, .int .i64 u.m, .int .u8 u.k, .int .i64 u.n, .int .i64 u.d, .int .i64 u.s, .int .u8 u.c]
def U.Ok (u : U) : Prop := InCal u.y u.m ∧ Dy.Ok u.k u.n u.d ∧ Mo.Ok u.s u.c
def U.zero : U := ⟨0, 0, 0, 0, 0, 0, 0⟩
def U.one : U := ⟨0, 1, 0, 1, 0, 0, 0⟩
/-- What the text at place k makes of an until, and why it does not. -/
def yearSt (u : U) (N : Int) : U × Int := (⟨yearV N, u.m, u.k, u.n, u.d, u.s, u.c⟩, if yearB N = true then 0 else 4)
def monthSt (u : U) (p : Int) : U × Int := (⟨u.y, p + 1, u.k, u.n, u.d, u.s, u.c⟩, if p + 1 = 0 then 7 else 0)
def daySt (u : U) (t : Int × Int × Int) : U × Int := if Dy.Ok t.1 t.2.1 t.2.2 then (⟨u.y, u.m, t.1, t.2.1, t.2.2, u.s, u.c⟩, 0) else (⟨u.y, u.m, 0, 0, 0, u.s, u.c⟩, 4)
def momSt (u : U) (p : (Int × Int) × Int) : U × Int := (⟨u.y, u.m, u.k, u.n, u.d, p.1.1, p.1.2⟩, p.2)
def step (k : Nat) (u : U) (t : ByteArray) : U × Int :=
  if k = 0 then yearSt u (yearN (tl t)) else if k = 1 then monthSt u (Wd.pick (tl t) (Months.map tl)) else if k = 2 then daySt u (Dy.told (tl t)) else momSt u (parse t)
def run : List ByteArray → Nat → U → U × Int × Int
  | [], _, u => (u, 0, 0)
  | t :: r, k, u => if (step k u t).2 = 0 then run r (k + 1) (step k u t).1 else (U.zero, k, (step k u t).2)
def uParse (l : List ByteArray) : U × Int × Int := if l.length = 0 then (U.zero, 0, 5) else if 4 < l.length then (U.zero, 4, 6) else run l 0 U.one
theorem run_bad (l : List ByteArray) (k : Nat) (u : U) (t : ByteArray) (P : U × Int × Int) (h : P = run (l.drop k) k u) (ht : l[k]? = some t) (e : Int) (hs : (step k u t).2 = e) (he : e ≠ 0) : P = (U.zero, (k : Int), e) := by
  rw [h, drop_of ht, run, if_neg (by rw [hs]; exact he), hs]
theorem run_next (l : List ByteArray) (k : Nat) (u : U) (t : ByteArray) (P : U × Int × Int) (h : P = run (l.drop k) k u) (ht : l[k]? = some t) (u' : U) (hs : step k u t = (u', 0)) : P = run (l.drop (k + 1)) (k + 1) u' := by
  rw [h, drop_of ht, run, if_pos (by rw [hs]), hs]
theorem run_end (l : List ByteArray) (k : Nat) (u : U) (P : U × Int × Int) (h : P = run (l.drop k) k u) (hk : l.length = k) : P = (u, 0, 0) := by
  rw [h, List.drop_eq_nil_of_le (by omega)]; rfl
end Mo
theorem Wp.l {w : World} (h : Wp w) : Wl w := ⟨h.maxl⟩
set_option maxHeartbeats 1000000 in
theorem checkUntil_ok (u : Mo.U) (w : World) (h : u.Ok) :
    Calls Tryz.prog 68 #[u.v] w fun e w' => e = .returned (.int .i64 0) ∧ Below w.heap.size w w' := by
  obtain ⟨⟨h1, h2, h3, h4⟩, hd, hm⟩ := h
  have HD := Lib.hid fun W => dayCheck_ok u.k u.n u.d W hd
  have HM := Lib.hid fun W => momCheck_ok u.s u.c W hm
  obtain ⟨y, m, k, n, d, s, c⟩ := u
  simp only at h1 h2 h3 h4 HD HM
  unfold Mo.U.v
  clear hd hm
  go_enter Tryz.func68, Tryz.ntmps68
  go_wp2_with fail
  refine (HD.out _).mono ?_
  rintro e w1 ⟨rfl, hb1⟩
  obtain ⟨c1, f1⟩ := bcell hb1
  have HB := Lib.hid ((((Below.refl w.heap.size w).alloc (Nat.le_refl _) (.cells #[.int .i64 y, .int .i64 m, .int .u8 k, .int .i64 n, .int .i64 d, .int .i64 s, .int .u8 c] 60))).trans (hb1.mono (by simp)))
  clear hb1
  go_wp2_with fail
  refine (HM.out _).mono ?_
  rintro e w2 ⟨rfl, hb2⟩
  replace HB := Lib.hid (below_then HB.out hb2)
  clear hb2
  go_wp2
  go_ret
  exact ⟨rfl, HB.out⟩
set_option maxHeartbeats 1000000 in
theorem checkUntil_bad (u : Mo.U) (w : World) (h : ¬ u.Ok) :
    Calls Tryz.prog 68 #[u.v] w fun e w' => e = .returned (.int .i64 2) ∧ Below w.heap.size w w' := by
  by_cases hc : InCal u.y u.m
  · by_cases hd : Dy.Ok u.k u.n u.d
    · have HD := Lib.hid fun W => dayCheck_ok u.k u.n u.d W hd
      have HM := Lib.hid fun W => momCheck_bad u.s u.c W (fun x => h ⟨hc, hd, x⟩)
      obtain ⟨h1, h2, h3, h4⟩ := hc
      clear h hd
      obtain ⟨y, m, k, n, d, s, c⟩ := u
      simp only at h1 h2 h3 h4 HD HM
      unfold Mo.U.v
      go_enter Tryz.func68, Tryz.ntmps68
      go_wp2_with fail
      refine (HD.out _).mono ?_
      rintro e w1 ⟨rfl, hb1⟩
      obtain ⟨c1, f1⟩ := bcell hb1
      have HB := Lib.hid ((((Below.refl w.heap.size w).alloc (Nat.le_refl _) (.cells #[.int .i64 y, .int .i64 m, .int .u8 k, .int .i64 n, .int .i64 d, .int .i64 s, .int .u8 c] 60))).trans (hb1.mono (by simp)))
      clear hb1
      go_wp2_with fail
      refine (HM.out _).mono ?_
      rintro e w2 ⟨rfl, hb2⟩
      replace HB := Lib.hid (below_then HB.out hb2)
      clear hb2
      go_wp2
      go_ret
      exact ⟨rfl, HB.out⟩
    · have HD := Lib.hid fun W => dayCheck_bad u.k u.n u.d W hd
      obtain ⟨h1, h2, h3, h4⟩ := hc
      clear h hd
      obtain ⟨y, m, k, n, d, s, c⟩ := u
      simp only at h1 h2 h3 h4 HD
      unfold Mo.U.v
      go_enter Tryz.func68, Tryz.ntmps68
      go_wp2_with fail
      refine (HD.out _).mono ?_
      rintro e w1 ⟨rfl, hb1⟩
      have HB := Lib.hid ((((Below.refl w.heap.size w).alloc (Nat.le_refl _) (.cells #[.int .i64 y, .int .i64 m, .int .u8 k, .int .i64 n, .int .i64 d, .int .i64 s, .int .u8 c] 60))).trans (hb1.mono (by simp)))
      clear hb1
      go_wp2
      go_ret
      exact ⟨rfl, HB.out⟩
  · obtain ⟨y, m, k, n, d, s, c⟩ := u
    have h' : y < 1 ∨ 9999 < y ∨ m < 1 ∨ 12 < m := by unfold InCal at hc; simp only at hc; omega
    clear h hc
    unfold Mo.U.v
    by_cases h1 : y < 1
    · clear h'
      go_enter Tryz.func68, Tryz.ntmps68
      go_wp2
      go_ret
      exact ⟨rfl, (Below.refl _ _).alloc (Nat.le_refl _) _⟩
    by_cases h2 : 9999 < y
    · clear h'
      go_enter Tryz.func68, Tryz.ntmps68
      go_wp2
      go_ret
      exact ⟨rfl, (Below.refl _ _).alloc (Nat.le_refl _) _⟩
    by_cases h3 : m < 1
    · clear h'
      go_enter Tryz.func68, Tryz.ntmps68
      go_wp2
      go_ret
      exact ⟨rfl, (Below.refl _ _).alloc (Nat.le_refl _) _⟩
    have h4 : 12 < m := by omega
    clear h'
    go_enter Tryz.func68, Tryz.ntmps68
    go_wp2
    go_ret
    exact ⟨rfl, (Below.refl _ _).alloc (Nat.le_refl _) _⟩

def Mo.URel (w : World) (n : Nat) (ss : List ByteArray) (P : Mo.U × Int × Int) (i : Value) (wr : World) : Prop :=
  ∃ (k : Nat) (u : Mo.U), k ≤ n ∧ i = .int .i64 k ∧ Hid (At wr (w.heap.size + 1) u.cells) ∧ Hid (At wr w.heap.size Mo.U.zero.cells) ∧ Hid (Below w.heap.size w wr) ∧ Hid (P = Mo.run (ss.drop k) k u)
set_option maxHeartbeats 4000000 in
set_option maxRecDepth 100000 in
theorem parseUntil_any (A : Option Addr) (n c : Nat) (ss : List ByteArray) (w : World) (hW : Wp w) (hn : n ≤ maxLen) (hr : Reads w w.heap.size 1 A n (ss.map Value.string)) (hs : ∀ t ∈ ss, t.size ≤ 1000000) :
    Calls Tryz.prog 88 #[.slice A n c] w fun e w' => e = .returned (.tuple #[(Mo.uParse ss).1.v, .int .i64 (Mo.uParse ss).2.1, .int .i64 (Mo.uParse ss).2.2]) ∧ Below w.heap.size w w' := by
  unfold maxLen at hn
  have hlen : ss.length = n := by have := hr.1; simpa using this
  by_cases h0 : n = 0
  · have HX : Hid (Mo.uParse ss = (Mo.U.zero, 0, 5)) := by show Mo.uParse ss = _; unfold Mo.uParse; rw [if_pos (by omega)]
    subst h0
    clear hr hs hn hlen hW
    go_enter Tryz.func88, Tryz.ntmps88
    go_wp2
    refine bodyPost_ret (v := .tuple #[Mo.U.zero.v, .int .i64 0, .int .i64 5]) (by simp [results, Tryz.results88, go_sem, Mo.U.v, Mo.U.zero]) rfl ⟨?_, ?_⟩
    · rw [HX.out]
    · exact (Below.refl _ _).alloc (Nat.le_refl _) _
  by_cases h4 : 4 < n
  · have HX : Hid (Mo.uParse ss = (Mo.U.zero, 4, 6)) := by show Mo.uParse ss = _; unfold Mo.uParse; rw [if_neg (by omega), if_pos (by omega)]
    have q0 : ((n : Int) == 0) = false := by rw [beq_eq_false_iff_ne]; omega
    have q1 : (4 : Int) < (n : Int) := by omega
    clear hr hs hn hlen hW h0
    go_enter Tryz.func88, Tryz.ntmps88
    go_wp2
    refine bodyPost_ret (v := .tuple #[Mo.U.zero.v, .int .i64 4, .int .i64 6]) (by simp [results, Tryz.results88, go_sem, Mo.U.v, Mo.U.zero]) rfl ⟨?_, ?_⟩
    · rw [HX.out]
    · exact (Below.refl _ _).alloc (Nat.le_refl _) _
  obtain ⟨P, hP⟩ : ∃ P, Mo.uParse ss = P := ⟨_, rfl⟩
  have hP2 : P = Mo.run (ss.drop 0) 0 Mo.U.one := by rw [← hP]; unfold Mo.uParse; rw [if_neg (by omega), if_neg (by omega)]; rfl
  rw [hP]
  have HP := Lib.hid hP2
  have HR := Lib.hid hr
  have HS := Lib.hid hs
  have HW := Lib.hid hW
  have HLen := Lib.hid hlen
  have q0 : ((n : Int) == 0) = false := by rw [beq_eq_false_iff_ne]; omega
  have q1 : ¬ (4 : Int) < (n : Int) := by omega
  have hA0 : At ((w.alloc (.cells (Mo.U.zero.cells.toArray) 60)).alloc (.cells (Mo.U.one.cells.toArray) 60)) w.heap.size Mo.U.zero.cells := (At.new w _ _).alloc _ _
  have hA1 : At ((w.alloc (.cells (Mo.U.zero.cells.toArray) 60)).alloc (.cells (Mo.U.one.cells.toArray) 60)) (w.heap.size + 1) Mo.U.one.cells := by
    have := At.new (w.alloc (.cells (Mo.U.zero.cells.toArray) 60)) (Mo.U.one.cells.toArray) 60
    simpa using this
  have hBB : Below w.heap.size w ((w.alloc (.cells (Mo.U.zero.cells.toArray) 60)).alloc (.cells (Mo.U.one.cells.toArray) 60)) := ((Below.refl _ _).alloc (Nat.le_refl _) _).alloc (by simp) _
  have HA0 := Lib.hid hA0
  have HA1 := Lib.hid hA1
  have HBB := Lib.hid hBB
  clear hP hP2 hr hs hW h0 hlen hA0 hA1 hBB
  go_enter Tryz.func88, Tryz.ntmps88
  go_wp2
  go_loopw [22] (Mo.URel w n ss P) (fun i _ => n - (intOf i).toNat)
  case atStart => exact ⟨0, Mo.U.one, by omega, rfl, HA1.out, HA0.out, HBB.out, HP.out⟩
  case round =>
    obtain ⟨k, u, hk, rfl, HU, HZ, HB, HK⟩ := hrel
    have hzz := HZ.out.lt
    have huz := HU.out.lt
    by_cases hlt : k < n
    · obtain ⟨ad, nm, rfl, hnm, hcell⟩ : ∃ ad nm, A = some ad ∧ Hid (ss[k]? = some nm) ∧ wr.cell? (ad.add k) = some (.string nm) := reads_str (HR.out.below HB.out) hlt
      have q2 : (0 : Int) ≤ (k : Int) := by omega
      have q3 : (k : Int) < (n : Int) := by omega
      have hsz : nm.size ≤ 1000000 := HS.out nm (List.mem_iff_getElem?.2 ⟨k, hnm.out⟩)
      have hmx : nm.size ≤ maxLen := by unfold maxLen; omega
      have hkk : k = 0 ∨ k = 1 ∨ k = 2 ∨ k = 3 := by omega
      obtain ⟨u0, u1, u2, u3, u4, u5, u6⟩ := u
      rcases hkk with rfl | rfl | rfl | rfl
      · skip
        have hcell0 : wr.cell? ad = some (.string nm) := hcell
        obtain ⟨N, hN⟩ : ∃ N, Mo.yearN (tl nm) = N := ⟨_, rfl⟩
        have hY := fun W => momYear_any nm W hsz
        simp only [hN] at hY
        have hst : Mo.step 0 ⟨u0, u1, u2, u3, u4, u5, u6⟩ nm = (⟨Mo.yearV N, u1, u2, u3, u4, u5, u6⟩, if Mo.yearB N = true then 0 else 4) := by unfold Mo.step Mo.yearSt; rw [if_pos rfl, hN]
        cases hB : Mo.yearB N
        · have HX := Lib.hid (Mo.run_bad ss 0 _ nm P HK.out hnm.out 4 (by rw [hst, hB]; rfl) (by omega))
          simp only [hB] at hY
          have HY := Lib.hid hY
          clear hY hst hN hB HK
          go_wp2_with fail
          refine (HY.out _).mono ?_
          rintro e w1 ⟨rfl, rfl⟩
          have HU2 := HU
          have HZ2 := HZ
          have HB2 := HB
          obtain ⟨⟨c0, c1, c2, c3, c4, c5, c6⟩, ⟨f0, f1, f2, f3, f4, f5, f6⟩⟩ := HU2.out.seven
          obtain ⟨⟨d0, d1, d2, d3, d4, d5, d6⟩, ⟨e0, e1, e2, e3, e4, e5, e6⟩⟩ := HZ2.out.seven
          simp only at c0 c1 c2 c3 c4 c5 c6
          go_wp2
          refine bodyPost_ret (v := .tuple #[Mo.U.zero.v, .int .i64 0, .int .i64 4]) (by simp [results, Tryz.results88, go_sem, Mo.U.v, Mo.U.zero, *]) rfl ⟨?_, ?_⟩
          · rw [HX.out]; rfl
          · exact ((((((((HB2.out).setCell (p := ⟨w.heap.size + 1, _, none⟩) (Nat.le_succ _) _).setCell (p := ⟨w.heap.size, _, none⟩) (Nat.le_refl _) _).setCell (p := ⟨w.heap.size, _, none⟩) (Nat.le_refl _) _).setCell (p := ⟨w.heap.size, _, none⟩) (Nat.le_refl _) _).setCell (p := ⟨w.heap.size, _, none⟩) (Nat.le_refl _) _).setCell (p := ⟨w.heap.size, _, none⟩) (Nat.le_refl _) _).setCell (p := ⟨w.heap.size, _, none⟩) (Nat.le_refl _) _).setCell (p := ⟨w.heap.size, _, none⟩) (Nat.le_refl _) _
        · have HN := Mo.run_next ss 0 _ nm P HK.out hnm.out ⟨Mo.yearV N, u1, u2, u3, u4, u5, u6⟩ (by rw [hst, hB]; rfl)
          replace HN := Lib.hid HN
          simp only [hB] at hY
          have HY := Lib.hid hY
          clear hY hst hN hB HK
          go_wp2_with fail
          refine (HY.out _).mono ?_
          rintro e w1 ⟨rfl, rfl⟩
          have HU2 := HU
          have HZ2 := HZ
          have HB2 := HB
          obtain ⟨⟨c0, c1, c2, c3, c4, c5, c6⟩, ⟨f0, f1, f2, f3, f4, f5, f6⟩⟩ := HU2.out.seven
          obtain ⟨⟨d0, d1, d2, d3, d4, d5, d6⟩, ⟨e0, e1, e2, e3, e4, e5, e6⟩⟩ := HZ2.out.seven
          simp only at c0 c1 c2 c3 c4 c5 c6
          go_wp2
          go_roundw
          case rel => exact ⟨1, ⟨Mo.yearV N, u1, u2, u3, u4, u5, u6⟩, by omega, rfl, (HU2.out).set 0 (.int .i64 (Mo.yearV N)), (HZ2.out).set_other ⟨w.heap.size + 1, 0, none⟩ _ (by simp), (HB2.out).setCell (p := ⟨w.heap.size + 1, _, none⟩) (Nat.le_succ _) _, HN⟩
          case measure => simp [intOf]; omega
      · skip
        have hcell1 : wr.cell? ⟨ad.block, ad.off + 1, none⟩ = some (.string nm) := hcell
        obtain ⟨p, hp⟩ : ∃ p, Wd.pick (tl nm) (Months.map tl) = p := ⟨_, rfl⟩
        have hY := fun W => month_any nm W hmx
        simp only [hp] at hY
        have HY := Lib.hid hY
        have hst : Mo.step 1 ⟨u0, u1, u2, u3, u4, u5, u6⟩ nm = (⟨u0, p + 1, u2, u3, u4, u5, u6⟩, if p + 1 = 0 then 7 else 0) := by unfold Mo.step Mo.monthSt; rw [if_neg (by omega), if_pos rfl, hp]
        by_cases hz : p + 1 = 0
        · have HX := Lib.hid (Mo.run_bad ss 1 _ nm P HK.out hnm.out 7 (by rw [hst]; exact if_pos hz) (by omega))
          rw [hz] at HY
          clear hY hst hp HK hz
          go_wp2_with fail
          refine (HY.out _).mono ?_
          rintro e w1 ⟨rfl, hb1⟩
          have HU2 := Lib.hid (HU.out.call hb1)
          have HZ2 := Lib.hid (HZ.out.call hb1)
          have z1 : w.heap.size + 1 < w1.heap.size := by have := HU2.out.lt; omega
          have HB2 := Lib.hid (below_then HB.out hb1)
          clear hb1
          obtain ⟨⟨c0, c1, c2, c3, c4, c5, c6⟩, ⟨f0, f1, f2, f3, f4, f5, f6⟩⟩ := HU2.out.seven
          obtain ⟨⟨d0, d1, d2, d3, d4, d5, d6⟩, ⟨e0, e1, e2, e3, e4, e5, e6⟩⟩ := HZ2.out.seven
          simp only at c0 c1 c2 c3 c4 c5 c6
          go_wp2
          refine bodyPost_ret (v := .tuple #[Mo.U.zero.v, .int .i64 1, .int .i64 7]) (by simp [results, Tryz.results88, go_sem, Mo.U.v, Mo.U.zero, *]) rfl ⟨?_, ?_⟩
          · rw [HX.out]; rfl
          · exact ((((((((HB2.out).setCell (p := ⟨w.heap.size + 1, _, none⟩) (Nat.le_succ _) _).setCell (p := ⟨w.heap.size, _, none⟩) (Nat.le_refl _) _).setCell (p := ⟨w.heap.size, _, none⟩) (Nat.le_refl _) _).setCell (p := ⟨w.heap.size, _, none⟩) (Nat.le_refl _) _).setCell (p := ⟨w.heap.size, _, none⟩) (Nat.le_refl _) _).setCell (p := ⟨w.heap.size, _, none⟩) (Nat.le_refl _) _).setCell (p := ⟨w.heap.size, _, none⟩) (Nat.le_refl _) _).setCell (p := ⟨w.heap.size, _, none⟩) (Nat.le_refl _) _
        · have HN := Lib.hid (Mo.run_next ss 1 _ nm P HK.out hnm.out ⟨u0, p + 1, u2, u3, u4, u5, u6⟩ (by rw [hst, if_neg hz]))
          obtain ⟨q, hq⟩ : ∃ q, p + 1 = q := ⟨_, rfl⟩
          rw [hq] at HY HN hz
          have qb : (q == 0) = false := by rw [beq_eq_false_iff_ne]; exact hz
          clear hY hst hp HK hz hq
          go_wp2_with fail
          refine (HY.out _).mono ?_
          rintro e w1 ⟨rfl, hb1⟩
          have HU2 := Lib.hid (HU.out.call hb1)
          have HZ2 := Lib.hid (HZ.out.call hb1)
          have z1 : w.heap.size + 1 < w1.heap.size := by have := HU2.out.lt; omega
          have HB2 := Lib.hid (below_then HB.out hb1)
          clear hb1
          obtain ⟨⟨c0, c1, c2, c3, c4, c5, c6⟩, ⟨f0, f1, f2, f3, f4, f5, f6⟩⟩ := HU2.out.seven
          obtain ⟨⟨d0, d1, d2, d3, d4, d5, d6⟩, ⟨e0, e1, e2, e3, e4, e5, e6⟩⟩ := HZ2.out.seven
          simp only at c0 c1 c2 c3 c4 c5 c6
          go_wp2
          go_roundw
          case rel => exact ⟨2, ⟨u0, q, u2, u3, u4, u5, u6⟩, by omega, rfl, (HU2.out).set 1 (.int .i64 q), (HZ2.out).set_other ⟨w.heap.size + 1, 1, none⟩ _ (by simp), (HB2.out).setCell (p := ⟨w.heap.size + 1, _, none⟩) (Nat.le_succ _) _, HN⟩
          case measure => simp [intOf]; omega
      · skip
        have hcell2 : wr.cell? ⟨ad.block, ad.off + 2, none⟩ = some (.string nm) := hcell
        obtain ⟨a, b, d, hT⟩ : ∃ a b d, Dy.told (tl nm) = (a, b, d) := ⟨_, _, _, rfl⟩
        have hst : Mo.step 2 ⟨u0, u1, u2, u3, u4, u5, u6⟩ nm = Mo.daySt ⟨u0, u1, u2, u3, u4, u5, u6⟩ (a, b, d) := by unfold Mo.step; rw [if_neg (by omega), if_neg (by omega), if_pos rfl, hT]
        by_cases hok : Dy.Ok a b d
        · have HN := Lib.hid (Mo.run_next ss 2 _ nm P HK.out hnm.out ⟨u0, u1, a, b, d, u5, u6⟩ (by rw [hst]; unfold Mo.daySt; rw [if_pos hok]))
          have HY := Lib.hid fun W hw => parse_is nm W hw hsz a b d hT hok
          clear hst hT HK hok
          go_wp2_with fail
          refine (HY.out _ (HW.out.below HB.out).l).mono ?_
          rintro e w1 ⟨rfl, hb1⟩
          have HU2 := Lib.hid (HU.out.call hb1)
          have HZ2 := Lib.hid (HZ.out.call hb1)
          have z1 : w.heap.size + 1 < w1.heap.size := by have := HU2.out.lt; omega
          have HB2 := Lib.hid (below_then HB.out hb1)
          clear hb1
          obtain ⟨⟨c0, c1, c2, c3, c4, c5, c6⟩, ⟨f0, f1, f2, f3, f4, f5, f6⟩⟩ := HU2.out.seven
          obtain ⟨⟨d0, d1, d2, d3, d4, d5, d6⟩, ⟨e0, e1, e2, e3, e4, e5, e6⟩⟩ := HZ2.out.seven
          simp only at c0 c1 c2 c3 c4 c5 c6
          go_wp2
          go_roundw
          case rel => exact ⟨3, ⟨u0, u1, a, b, d, u5, u6⟩, by omega, rfl, (((HU2.out).set 2 (.int .u8 a)).set 3 (.int .i64 b)).set 4 (.int .i64 d), (((HZ2.out).set_other ⟨w.heap.size + 1, 2, none⟩ _ (by simp)).set_other ⟨w.heap.size + 1, 3, none⟩ _ (by simp)).set_other ⟨w.heap.size + 1, 4, none⟩ _ (by simp), (((HB2.out).setCell (p := ⟨w.heap.size + 1, _, none⟩) (Nat.le_succ _) _).setCell (p := ⟨w.heap.size + 1, _, none⟩) (Nat.le_succ _) _).setCell (p := ⟨w.heap.size + 1, _, none⟩) (Nat.le_succ _) _, HN⟩
          case measure => simp [intOf]; omega
        · have HX := Lib.hid (Mo.run_bad ss 2 _ nm P HK.out hnm.out 4 (by rw [hst]; unfold Mo.daySt; rw [if_neg hok]) (by omega))
          have HY := Lib.hid fun W hw => parse_no nm W hw hsz a b d hT hok
          clear hst hT HK hok
          go_wp2_with fail
          refine (HY.out _ (HW.out.below HB.out).l).mono ?_
          rintro e w1 ⟨rfl, hb1⟩
          have HU2 := Lib.hid (HU.out.call hb1)
          have HZ2 := Lib.hid (HZ.out.call hb1)
          have z1 : w.heap.size + 1 < w1.heap.size := by have := HU2.out.lt; omega
          have HB2 := Lib.hid (below_then HB.out hb1)
          clear hb1
          obtain ⟨⟨c0, c1, c2, c3, c4, c5, c6⟩, ⟨f0, f1, f2, f3, f4, f5, f6⟩⟩ := HU2.out.seven
          obtain ⟨⟨d0, d1, d2, d3, d4, d5, d6⟩, ⟨e0, e1, e2, e3, e4, e5, e6⟩⟩ := HZ2.out.seven
          simp only at c0 c1 c2 c3 c4 c5 c6
          go_wp2
          refine bodyPost_ret (v := .tuple #[Mo.U.zero.v, .int .i64 2, .int .i64 4]) (by simp [results, Tryz.results88, go_sem, Mo.U.v, Mo.U.zero, *]) rfl ⟨?_, ?_⟩
          · rw [HX.out]; rfl
          · exact ((((((((((HB2.out).setCell (p := ⟨w.heap.size + 1, _, none⟩) (Nat.le_succ _) _).setCell (p := ⟨w.heap.size + 1, _, none⟩) (Nat.le_succ _) _).setCell (p := ⟨w.heap.size + 1, _, none⟩) (Nat.le_succ _) _).setCell (p := ⟨w.heap.size, _, none⟩) (Nat.le_refl _) _).setCell (p := ⟨w.heap.size, _, none⟩) (Nat.le_refl _) _).setCell (p := ⟨w.heap.size, _, none⟩) (Nat.le_refl _) _).setCell (p := ⟨w.heap.size, _, none⟩) (Nat.le_refl _) _).setCell (p := ⟨w.heap.size, _, none⟩) (Nat.le_refl _) _).setCell (p := ⟨w.heap.size, _, none⟩) (Nat.le_refl _) _).setCell (p := ⟨w.heap.size, _, none⟩) (Nat.le_refl _) _
      · skip
        have hcell3 : wr.cell? ⟨ad.block, ad.off + 3, none⟩ = some (.string nm) := hcell
        obtain ⟨a, b, d, hT⟩ : ∃ a b d, Mo.parse nm = ((a, b), d) := ⟨_, _, _, rfl⟩
        have hst : Mo.step 3 ⟨u0, u1, u2, u3, u4, u5, u6⟩ nm = (⟨u0, u1, u2, u3, u4, a, b⟩, d) := by unfold Mo.step Mo.momSt; rw [if_neg (by omega), if_neg (by omega), if_neg (by omega), hT]
        have hY := fun W hw => momParse_any nm W hw hsz
        simp only [hT] at hY
        by_cases hd : d = 0
        · subst hd
          have HN := Lib.hid (Mo.run_next ss 3 _ nm P HK.out hnm.out ⟨u0, u1, u2, u3, u4, a, b⟩ hst)
          have HY := Lib.hid hY
          clear hst hT HK hY
          go_wp2_with fail
          refine (HY.out _ (HW.out.below HB.out)).mono ?_
          rintro e w1 ⟨rfl, hb1⟩
          have HU2 := Lib.hid (HU.out.call hb1)
          have HZ2 := Lib.hid (HZ.out.call hb1)
          have z1 : w.heap.size + 1 < w1.heap.size := by have := HU2.out.lt; omega
          have HB2 := Lib.hid (below_then HB.out hb1)
          clear hb1
          obtain ⟨⟨c0, c1, c2, c3, c4, c5, c6⟩, ⟨f0, f1, f2, f3, f4, f5, f6⟩⟩ := HU2.out.seven
          obtain ⟨⟨d0, d1, d2, d3, d4, d5, d6⟩, ⟨e0, e1, e2, e3, e4, e5, e6⟩⟩ := HZ2.out.seven
          simp only at c0 c1 c2 c3 c4 c5 c6
          go_wp2
          go_roundw
          case rel => exact ⟨4, ⟨u0, u1, u2, u3, u4, a, b⟩, by omega, rfl, ((HU2.out).set 5 (.int .i64 a)).set 6 (.int .u8 b), ((HZ2.out).set_other ⟨w.heap.size + 1, 5, none⟩ _ (by simp)).set_other ⟨w.heap.size + 1, 6, none⟩ _ (by simp), ((HB2.out).setCell (p := ⟨w.heap.size + 1, _, none⟩) (Nat.le_succ _) _).setCell (p := ⟨w.heap.size + 1, _, none⟩) (Nat.le_succ _) _, HN⟩
          case measure => simp [intOf]; omega
        · have HX := Lib.hid (Mo.run_bad ss 3 _ nm P HK.out hnm.out d (by rw [hst]) hd)
          have HY := Lib.hid hY
          have qb : (d != 0) = true := by simpa using hd
          have qb' : (d == 0) = false := by simpa using hd
          clear hst hT HK hd hY
          go_wp2_with fail
          refine (HY.out _ (HW.out.below HB.out)).mono ?_
          rintro e w1 ⟨rfl, hb1⟩
          have HU2 := Lib.hid (HU.out.call hb1)
          have HZ2 := Lib.hid (HZ.out.call hb1)
          have z1 : w.heap.size + 1 < w1.heap.size := by have := HU2.out.lt; omega
          have HB2 := Lib.hid (below_then HB.out hb1)
          clear hb1
          obtain ⟨⟨c0, c1, c2, c3, c4, c5, c6⟩, ⟨f0, f1, f2, f3, f4, f5, f6⟩⟩ := HU2.out.seven
          obtain ⟨⟨d0, d1, d2, d3, d4, d5, d6⟩, ⟨e0, e1, e2, e3, e4, e5, e6⟩⟩ := HZ2.out.seven
          simp only at c0 c1 c2 c3 c4 c5 c6
          go_wp2
          refine bodyPost_ret (v := .tuple #[Mo.U.zero.v, .int .i64 3, .int .i64 d]) (by simp [results, Tryz.results88, go_sem, Mo.U.v, Mo.U.zero, *]) rfl ⟨?_, ?_⟩
          · rw [HX.out]; rfl
          · exact (((((((((HB2.out).setCell (p := ⟨w.heap.size + 1, _, none⟩) (Nat.le_succ _) _).setCell (p := ⟨w.heap.size + 1, _, none⟩) (Nat.le_succ _) _).setCell (p := ⟨w.heap.size, _, none⟩) (Nat.le_refl _) _).setCell (p := ⟨w.heap.size, _, none⟩) (Nat.le_refl _) _).setCell (p := ⟨w.heap.size, _, none⟩) (Nat.le_refl _) _).setCell (p := ⟨w.heap.size, _, none⟩) (Nat.le_refl _) _).setCell (p := ⟨w.heap.size, _, none⟩) (Nat.le_refl _) _).setCell (p := ⟨w.heap.size, _, none⟩) (Nat.le_refl _) _).setCell (p := ⟨w.heap.size, _, none⟩) (Nat.le_refl _) _
    · obtain rfl : k = n := by omega
      have hE := Mo.run_end ss k u P HK.out HLen.out
      have HX := Lib.hid hE
      obtain ⟨u0, u1, u2, u3, u4, u5, u6⟩ := u
      obtain ⟨⟨c0, c1, c2, c3, c4, c5, c6⟩, ⟨f0, f1, f2, f3, f4, f5, f6⟩⟩ := HU.out.seven
      obtain ⟨⟨d0, d1, d2, d3, d4, d5, d6⟩, ⟨e0, e1, e2, e3, e4, e5, e6⟩⟩ := HZ.out.seven
      simp only at c0 c1 c2 c3 c4 c5 c6
      clear hE
      go_wp2
      refine bodyPost_ret (v := .tuple #[(Mo.U.mk u0 u1 u2 u3 u4 u5 u6).v, .int .i64 0, .int .i64 0]) (by simp [results, Tryz.results88, go_sem, Mo.U.v, *]) rfl ⟨?_, ?_⟩
      · rw [HX.out]
      · exact (((((((HB.out).setCell (p := ⟨w.heap.size, _, none⟩) (Nat.le_refl _) _).setCell (p := ⟨w.heap.size, _, none⟩) (Nat.le_refl _) _).setCell (p := ⟨w.heap.size, _, none⟩) (Nat.le_refl _) _).setCell (p := ⟨w.heap.size, _, none⟩) (Nat.le_refl _) _).setCell (p := ⟨w.heap.size, _, none⟩) (Nat.le_refl _) _).setCell (p := ⟨w.heap.size, _, none⟩) (Nat.le_refl _) _).setCell (p := ⟨w.heap.size, _, none⟩) (Nat.le_refl _) _
end Go.Proofs.YtlhoggalhjadgaaGreatDoor
