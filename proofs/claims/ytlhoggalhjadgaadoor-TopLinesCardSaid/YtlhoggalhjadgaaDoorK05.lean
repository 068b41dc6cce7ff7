/- Plain law of digits: what a text of digits tells. -/
import Derived.Test.YtlhoggalhjadgaaDoorK03
import Derived.Test.YtlhoggalhjadgaaDoorK04
import Derived.Test.YtlhoggalhjadgaaDoorK02
import Derived.Deep.RegionHeld3
import Derived.Deep.QuietTactic
import Derived.BigQuiet
namespace Go.Proofs.YtlhoggalhjadgaaDoor.Dy
open Go.RowKit

def numLoop : List UInt8 → Int → Int
  | [], a => a
  | c :: r, a => if (c.toNat : Int) < 48 ∨ 57 < (c.toNat : Int) then -1 else numLoop r (a * 10 + ((c.toNat : Int) - 48))

theorem numLoop_bad (l : List UInt8) (k : Nat) (c : UInt8) (a : Int) (N : Int) (hN : N = numLoop (l.drop k) a) (hc : l[k]? = some c) (h : (c.toNat : Int) < 48 ∨ 57 < (c.toNat : Int)) : N = -1 := by
  obtain ⟨hk, e⟩ := List.getElem?_eq_some_iff.1 hc
  rw [hN, List.drop_eq_getElem_cons hk, e]
  simp only [numLoop]
  rw [if_pos h]
theorem numLoop_next (l : List UInt8) (k : Nat) (c : UInt8) (a : Int) (N : Int) (hN : N = numLoop (l.drop k) a) (hc : l[k]? = some c) (h : ¬ ((c.toNat : Int) < 48 ∨ 57 < (c.toNat : Int))) : N = numLoop (l.drop (k + 1)) (a * 10 + ((c.toNat : Int) - 48)) := by
  obtain ⟨hk, e⟩ := List.getElem?_eq_some_iff.1 hc
  rw [hN, List.drop_eq_getElem_cons hk, e]
  simp only [numLoop]
  rw [if_neg h]
theorem numLoop_end (l : List UInt8) (k : Nat) (a : Int) (N : Int) (hN : N = numLoop (l.drop k) a) (h : l.length = k) : N = a := by
  rw [hN, List.drop_eq_nil_of_le (by omega)]; rfl
theorem tl_get (s : ByteArray) (k : Nat) (h : k < s.size) : (tl s)[k]? = some s[k] := by
  unfold tl
  rw [List.getElem?_eq_getElem (by simpa using h), Array.getElem_toList]
  rfl
end Go.Proofs.YtlhoggalhjadgaaDoor.Dy
/- Plain law of the days of a month: what is read of a text, and how one is written. -/
namespace Go.Proofs.YtlhoggalhjadgaaDoor.Dy
open Go.RowKit

/-- Whether a day is right: 0, or 2. -/
def Ok (k n w : Int) : Prop := (k = 0 ∧ 1 ≤ n ∧ n ≤ 31 ∧ w = 0) ∨ (k = 1 ∧ n = 0 ∧ 0 ≤ w ∧ w ≤ 6) ∨ ((k = 2 ∨ k = 3) ∧ 1 ≤ n ∧ n ≤ 31 ∧ 0 ≤ w ∧ w ≤ 6)
instance (k n w : Int) : Decidable (Ok k n w) := by unfold Ok; exact inferInstance

def numD (l : List UInt8) : Int := if l.length < 1 ∨ 2 < l.length then -1 else numLoop l 0

theorem numLoop_bd : ∀ (l : List UInt8) (a : Int), 0 ≤ a → a < 100000 → l.length ≤ 2 → -1 ≤ numLoop l a ∧ numLoop l a < 100000000 := by
  intro l a h0 h1 hl
  match l, hl with
  | [], _ => simp only [numLoop]; omega
  | [c], _ =>
    simp only [numLoop]
    split <;> omega
  | [c, d], _ =>
    simp only [numLoop]
    split
    · omega
    · split <;> omega
theorem numD_bd (l : List UInt8) : -1 ≤ numD l ∧ numD l < 100000000 := by
  unfold numD
  split
  · omega
  · exact numLoop_bd l 0 (by omega) (by omega) (by omega)

def lastL : List UInt8 := [108, 97, 115, 116]
def fromL : List UInt8 := [62, 61]
def uptoL : List UInt8 := [60, 61]
def told (l : List UInt8) : Int × Int × Int :=
  if 0 ≤ numD l then (0, numD l, 0)
  else if 4 ≤ l.length ∧ Wd.same (l.take 4) lastL = true then (1, 0, Wd.pick (l.drop 4) (Days.map tl))
  else if (Lib.cut l fromL).2.2 = true then (2, numD (Lib.cut l fromL).2.1, Wd.pick (Lib.cut l fromL).1 (Days.map tl))
  else if (Lib.cut l uptoL).2.2 = true then (3, numD (Lib.cut l uptoL).2.1, Wd.pick (Lib.cut l uptoL).1 (Days.map tl))
  else (4, 0, 0)
def dec (n : Int) : List UInt8 := if n < 10 then [UInt8.ofNat (48 + n.toNat)] else [UInt8.ofNat (48 + n.toNat / 10), UInt8.ofNat (48 + n.toNat % 10)]
theorem dec_eq (n : Nat) (h : n < 100) : Lib.decDigits n = dec (n : Int) := by
  unfold dec Lib.decDigits
  by_cases h1 : n < 10
  · rw [dif_pos h1, if_pos (by omega), Int.toNat_natCast]
  · rw [dif_neg h1, if_neg (by omega), Int.toNat_natCast]
    unfold Lib.decDigits
    rw [dif_pos (by omega)]; rfl
def text (k n w : Int) : List UInt8 :=
  if k = 1 then lastL ++ tl (textOf Days w) else if k = 2 then tl (textOf Days w) ++ fromL ++ dec n else if k = 3 then tl (textOf Days w) ++ uptoL ++ dec n else dec n

def backOk (k n w : Int) : Bool := decide (told (text k n w) = (k, n, w))
theorem back0 : ∀ n : Nat, n < 31 → backOk 0 ((n : Int) + 1) 0 = true := by decide +kernel
theorem back1 : ∀ w : Nat, w < 7 → backOk 1 0 (w : Int) = true := by decide +kernel
theorem back2 : ∀ n : Nat, n < 31 → ∀ w : Nat, w < 7 → backOk 2 ((n : Int) + 1) (w : Int) = true := by decide +kernel
theorem back3 : ∀ n : Nat, n < 31 → ∀ w : Nat, w < 7 → backOk 3 ((n : Int) + 1) (w : Int) = true := by decide +kernel
/-- A right day is read from its text. -/
theorem told_text (k n w : Int) (h : Ok k n w) : told (text k n w) = (k, n, w) := by
  rcases h with ⟨rfl, h1, h2, rfl⟩ | ⟨rfl, rfl, h1, h2⟩ | ⟨hk, h1, h2, h3, h4⟩
  · have := back0 (n - 1).toNat (by omega)
    rw [show (((n - 1).toNat : Nat) : Int) + 1 = n by omega] at this
    exact of_decide_eq_true this
  · have := back1 w.toNat (by omega)
    rw [show ((w.toNat : Nat) : Int) = w by omega] at this
    exact of_decide_eq_true this
  · rcases hk with rfl | rfl
    · have := back2 (n - 1).toNat (by omega) w.toNat (by omega)
      rw [show (((n - 1).toNat : Nat) : Int) + 1 = n by omega, show ((w.toNat : Nat) : Int) = w by omega] at this
      exact of_decide_eq_true this
    · have := back3 (n - 1).toNat (by omega) w.toNat (by omega)
      rw [show (((n - 1).toNat : Nat) : Int) + 1 = n by omega, show ((w.toNat : Nat) : Int) = w by omega] at this
      exact of_decide_eq_true this
end Go.Proofs.YtlhoggalhjadgaaDoor.Dy
/- The contracts of package day. -/
namespace Go.Proofs.YtlhoggalhjadgaaDoor
open Go.RowKit

set_option maxHeartbeats 1000000 in
theorem dayCheck_ok (k n d : Int) (w : World) (h : Dy.Ok k n d) :
    Calls Tryd.prog 29 #[.agg #[.int .u8 k, .int .i64 n, .int .i64 d]] w fun e w' => e = .returned (.int .i64 0) ∧ Below w.heap.size w w' := by
  rcases h with ⟨rfl, h1, h2, rfl⟩ | ⟨rfl, rfl, h1, h2⟩ | ⟨rfl | rfl, h1, h2, h3, h4⟩
  all_goals
    go_enter Tryd.func29, Tryd.ntmps29
    go_wp2
    go_ret
    exact ⟨rfl, (Below.refl _ _).alloc (Nat.le_refl _) _⟩

set_option maxHeartbeats 2000000 in
theorem dayCheck_bad (k n d : Int) (w : World) (h : ¬ Dy.Ok k n d) :
    Calls Tryd.prog 29 #[.agg #[.int .u8 k, .int .i64 n, .int .i64 d]] w fun e w' => e = .returned (.int .i64 2) ∧ Below w.heap.size w w' := by
  have H := Lib.hid h
  clear h
  by_cases k0 : k = 0
  · subst k0
    go_enter Tryd.func29, Tryd.ntmps29
    go_wp2
    all_goals first
      | (exfalso; refine H.out ?_; unfold Dy.Ok; omega)
      | (go_ret; exact ⟨rfl, (Below.refl _ _).alloc (Nat.le_refl _) _⟩)
  by_cases k1 : k = 1
  · subst k1
    go_enter Tryd.func29, Tryd.ntmps29
    go_wp2
    all_goals first
      | (exfalso; refine H.out ?_; unfold Dy.Ok; omega)
      | (go_ret; exact ⟨rfl, (Below.refl _ _).alloc (Nat.le_refl _) _⟩)
  by_cases k2 : k = 2
  · subst k2
    go_enter Tryd.func29, Tryd.ntmps29
    go_wp2
    all_goals first
      | (exfalso; refine H.out ?_; unfold Dy.Ok; omega)
      | (go_ret; exact ⟨rfl, (Below.refl _ _).alloc (Nat.le_refl _) _⟩)
  by_cases k3 : k = 3
  · subst k3
    go_enter Tryd.func29, Tryd.ntmps29
    go_wp2
    all_goals first
      | (exfalso; refine H.out ?_; unfold Dy.Ok; omega)
      | (go_ret; exact ⟨rfl, (Below.refl _ _).alloc (Nat.le_refl _) _⟩)
  have e0 : (k == 0) = false := by simp [k0]
  have e1 : (k == 1) = false := by simp [k1]
  have e2 : (k == 2) = false := by simp [k2]
  have e3 : (k == 3) = false := by simp [k3]
  clear k0 k1 k2 k3
  go_enter Tryd.func29, Tryd.ntmps29
  go_wp2
  go_ret
  exact ⟨rfl, (Below.refl _ _).alloc (Nat.le_refl _) _⟩

set_option maxHeartbeats 1000000 in
theorem dayNumber_any (s : ByteArray) (w : World) (hs : s.size ≤ maxLen) :
    Calls Tryd.prog 71 #[.string s] w fun e w' => e = .returned (.int .i64 (Dy.numD (tl s))) ∧ w = w' := by
  unfold maxLen at hs
  by_cases h1 : s.size < 1
  · have HE : Hid (Dy.numD (tl s) = -1) := by show Dy.numD (tl s) = -1; unfold Dy.numD; rw [tl_length, if_pos (.inl h1)]
    go_enter Tryd.func71, Tryd.ntmps71
    go_wp2
    go_ret
    exact ⟨ret_int HE.out.symm, rfl⟩
  by_cases h2 : 2 < s.size
  · have HE : Hid (Dy.numD (tl s) = -1) := by show Dy.numD (tl s) = -1; unfold Dy.numD; rw [tl_length, if_pos (.inr h2)]
    go_enter Tryd.func71, Tryd.ntmps71
    go_wp2
    go_ret
    exact ⟨ret_int HE.out.symm, rfl⟩
  have HE : Hid (Dy.numD (tl s) = Dy.numLoop ((tl s).drop 0) 0) := by show Dy.numD (tl s) = _; unfold Dy.numD; rw [tl_length, if_neg (by omega)]; rfl
  obtain ⟨N, hN⟩ : ∃ N, Dy.numD (tl s) = N := ⟨_, rfl⟩
  rw [hN] at HE ⊢
  clear hN
  go_enter Tryd.func71, Tryd.ntmps71
  go_wp2
  go_loop [3, 15] (fun t i => ∃ (k : Nat) (a : Int), k ≤ s.size ∧ i = .int .i64 k ∧ t = .int .i64 a ∧ 0 ≤ a ∧ a ≤ 99 ∧ Hid (k ≤ 1 → a ≤ 9) ∧ Hid (k = 0 → a = 0) ∧ Hid (N = Dy.numLoop ((tl s).drop k) a)) (fun _ i => s.size - (intOf i).toNat)
  case atStart => exact ⟨0, 0, by omega, rfl, rfl, by omega, by omega, fun _ => by omega, fun _ => rfl, HE.out⟩
  case round =>
    obtain ⟨k, a, hk, rfl, rfl, a0, a1, HA1, HA0, HN⟩ := hrel
    by_cases hlt : k < s.size
    · have q1 : (0 : Int) ≤ (k : Int) := by omega
      have q2 : (k : Int) < (s.size : Int) := by omega
      have b1 := u8_bd s[k]
      have a2 : a ≤ 9 := HA1.out (by omega)
      by_cases hc : (s[k].toNat : Int) < 48 ∨ 57 < (s[k].toNat : Int)
      · have HB := Lib.hid (Dy.numLoop_bad (tl s) k s[k] a N HN.out (Dy.tl_get s k hlt) hc)
        by_cases hc1 : (s[k].toNat : Int) < 48
        · clear hc
          go_wp2
          go_ret
          exact ⟨ret_int HB.out.symm, rfl⟩
        · have hc2 : 57 < (s[k].toNat : Int) := by omega
          clear hc
          go_wp2
          go_ret
          exact ⟨ret_int HB.out.symm, rfl⟩
      · have HB := Lib.hid (Dy.numLoop_next (tl s) k s[k] a N HN.out (Dy.tl_get s k hlt) hc)
        have c1 : 48 ≤ (s[k].toNat : Int) := by omega
        have c2 : (s[k].toNat : Int) ≤ 57 := by omega
        have HA0' := HA0.out
        have HZ : Hid (k + 1 ≤ 1 → a * 10 + ((s[k].toNat : Int) - 48) ≤ 9) := by intro h; have := HA0' (by omega); omega
        clear hc HA0'
        go_wp2
        go_round
        case rel => exact ⟨k + 1, a * 10 + ((s[k].toNat : Int) - 48), by omega, by go_num, rfl, by omega, by omega, HZ, fun h => absurd h (by omega), HB⟩
        case measure => simp [intOf]; omega
    · obtain rfl : k = s.size := by omega
      have HB := Lib.hid (Dy.numLoop_end (tl s) s.size a N HN.out (tl_length s))
      go_wp2
      go_ret
      exact ⟨ret_int HB.out.symm, rfl⟩
end Go.Proofs.YtlhoggalhjadgaaDoor
/- The contracts of package day: what a text tells, and a day's text. -/
namespace Go.Proofs.YtlhoggalhjadgaaDoor
open Go.RowKit


theorem tl_take (s : ByteArray) (k : Nat) : tl (s.extract 0 k) = (tl s).take k := by simp [tl]
/-- The library's bound alone. -/
structure Wl (w : World) : Prop where
  maxl : ∃ m, w.cell? ⟨3, 0, none⟩ = some (.int .i64 m)
theorem Wl.below {w w' : World} (h : Wl w) (hb : Below w.heap.size w w') : Wl w' := by
  obtain ⟨m, hm⟩ := h.maxl
  exact ⟨m, (hb.cell (p := ⟨_, 0, none⟩) (block_lt_of_cell hm)).trans hm⟩
/-- A day as a value. -/
def dayV (x : Int × Int × Int) : Value := .agg #[.int .u8 x.1, .int .i64 x.2.1, .int .i64 x.2.2]
theorem tl_mk (l : List UInt8) : tl ⟨l.toArray⟩ = l := by simp [tl]
theorem size_mk (l : List UInt8) : (⟨l.toArray⟩ : ByteArray).size = l.length := rfl
theorem cut_len (s sep : List UInt8) : (Lib.cut s sep).1.length ≤ s.length ∧ (Lib.cut s sep).2.1.length ≤ s.length := by
  unfold Lib.cut
  split
  · simp only [List.length_take, List.length_drop]; omega
  · simp
theorem tl_drop (s : ByteArray) (k : Nat) : tl (s.extract k s.size) = (tl s).drop k := by
  have h : (s.extract k s.size).data.toList = (s.data.toList.drop k) := by
    simp [ByteArray.data_extract, Array.toList_extract]
    exact List.take_of_length_le (by rw [List.length_drop]; exact Nat.le_refl _)
  exact h

/-- A block of three cells, behind what a callee did. -/
theorem new3 {w w1 : World} {a b c : Value} {t : TypeId} (hb : Below (w.heap.size + 1) (w.alloc (.cells #[a, b, c] t)) w1) :
    w1.cell? ⟨w.heap.size, 0, none⟩ = some a ∧ w1.cell? ⟨w.heap.size, 1, none⟩ = some b ∧ w1.cell? ⟨w.heap.size, 2, none⟩ = some c ∧
    w1.frozen? ⟨w.heap.size, 0, none⟩ = false ∧ w1.frozen? ⟨w.heap.size, 1, none⟩ = false ∧ w1.frozen? ⟨w.heap.size, 2, none⟩ = false := by
  have h : ∀ i, w1.cell? ⟨w.heap.size, i, none⟩ = #[a, b, c][i]? := fun i => (hb.cell (p := ⟨w.heap.size, i, none⟩) (Nat.lt_succ_self _)).trans (cell_of_row _ w.heap.size i _ _ _ (heap_alloc_new w _))
  have hf : ∀ i, w1.frozen? ⟨w.heap.size, i, none⟩ = false := fun i => (hb.frozen (p := ⟨w.heap.size, i, none⟩) (Nat.lt_succ_self _)).trans (by have e := heap_alloc_new w (.cells #[a, b, c] t); unfold World.frozen?; simp only [e]; simp)
  exact ⟨h 0, h 1, h 2, hf 0, hf 1, hf 2⟩
theorem below_new {w w1 : World} {o : Obj} (hb : Below (w.heap.size + 1) (w.alloc o) w1) : Below w.heap.size w w1 := ((Below.refl _ _).alloc (Nat.le_refl _) _).trans (hb.mono (Nat.le_succ _))

set_option maxHeartbeats 1000000 in
theorem told_any (s : ByteArray) (w : World) (hW : Wl w) (hs : s.size ≤ 1000000) :
    Calls Tryd.prog 57 #[.string s] w fun e w' => e = .returned (dayV (Dy.told (tl s))) ∧ Below w.heap.size w w' := by
  have hmx : s.size ≤ maxLen := by unfold maxLen; omega
  obtain ⟨n0, n1⟩ := Dy.numD_bd (tl s)
  obtain ⟨N, hN⟩ : ∃ N, Dy.numD (tl s) = N := ⟨_, rfl⟩
  have A0 := fun W => calls_int (dayNumber_any s W hmx) hN
  have AN := Lib.hid A0
  rw [hN] at n0 n1
  have HN := Lib.hid hN
  clear hN A0
  by_cases h0 : 0 ≤ N
  · have HE : Hid (Dy.told (tl s) = (0, N, 0)) := by show Dy.told (tl s) = _; unfold Dy.told; rw [HN.out, if_pos h0]
    go_enter Tryd.func57, Tryd.ntmps57
    go_wp2_with fail
    refine (AN.out _).mono ?_
    rintro e w1 ⟨rfl, rfl⟩
    go_wp2
    refine bodyPost_ret (v := .agg #[.int .u8 0, .int .i64 N, .int .i64 0]) (by simp [results, Tryd.results57, go_sem]) rfl ⟨?_, ?_⟩
    · rw [HE.out]; rfl
    · exact (Below.refl _ _).alloc (Nat.le_refl _) _
  by_cases hlast : 4 ≤ s.size ∧ Wd.same ((tl s).take 4) Dy.lastL = true
  · have HE : Hid (Dy.told (tl s) = (1, 0, Wd.pick ((tl s).drop 4) (Days.map tl))) := by
      show Dy.told (tl s) = _
      unfold Dy.told
      rw [HN.out, if_neg h0, tl_length, if_pos hlast]
    obtain ⟨hl1, hl2⟩ := hlast
    have q1 : (4 : Int) ≤ (s.size : Int) := by omega
    have hx : (s.extract 0 4).size ≤ maxLen := by simp only [ByteArray.size_extract, maxLen]; omega
    have hy : (s.extract 4 s.size).size ≤ maxLen := by simp only [ByteArray.size_extract, maxLen]; omega
    have AS := Lib.hid fun W => calls_bool (same_any (s.extract 0 4) ⟨#[108, 97, 115, 116]⟩ W hx) (show Wd.same (s.extract 0 4).data.toList [108, 97, 115, 116] = true by rw [← tl_take] at hl2; exact hl2)
    have AW := Lib.hid fun W => calls_int (weekday_any (s.extract 4 s.size) W hy) (show _ = Wd.pick ((tl s).drop 4) (Days.map tl) by rw [tl_drop])
    obtain ⟨P, hP⟩ : ∃ P, Wd.pick ((tl s).drop 4) (Days.map tl) = P := ⟨_, rfl⟩
    rw [hP] at HE AW
    clear hl2 hx hy hP
    go_enter Tryd.func57, Tryd.ntmps57
    go_wp2_with fail
    refine (AN.out _).mono ?_
    rintro e w1 ⟨rfl, rfl⟩
    go_wp2_with fail
    refine (AS.out _).mono ?_
    rintro e w2 ⟨rfl, hb2⟩
    have hb := Lib.hid (hb2.below (w.heap.size + 1))
    clear hb2
    go_wp2_with fail
    refine (AW.out _).mono ?_
    rintro e w3 ⟨rfl, hb3⟩
    have hb' := hb.out.trans (hb3.mono (by have := hb.out.size; simpa using this))
    clear hb hb3
    obtain ⟨c0, c1, c2, f0, f1, f2⟩ := new3 hb'
    have HB := Lib.hid (below_new hb')
    clear hb'
    go_wp2
    refine bodyPost_ret (v := .agg #[.int .u8 1, .int .i64 0, .int .i64 P]) (by simp [results, Tryd.results57, go_sem, *]) rfl ⟨?_, ?_⟩
    · rw [HE.out]; rfl
    · exact ((HB.out.setCell (p := ⟨w.heap.size, _, none⟩) (Nat.le_refl _) _).setCell (p := ⟨w.heap.size, _, none⟩) (Nat.le_refl _) _).setCell (p := ⟨w.heap.size, _, none⟩) (Nat.le_refl _) _
  have hno : 4 ≤ s.size → Wd.same ((tl s).take 4) Dy.lastL = false := by
    intro h4
    cases hx : Wd.same ((tl s).take 4) Dy.lastL
    · rfl
    · exact absurd ⟨h4, hx⟩ hlast
  have HNo := Lib.hid hno
  have HE1 : Hid (Dy.told (tl s) = if (Lib.cut (tl s) Dy.fromL).2.2 = true then (2, Dy.numD (Lib.cut (tl s) Dy.fromL).2.1, Wd.pick (Lib.cut (tl s) Dy.fromL).1 (Days.map tl))
      else if (Lib.cut (tl s) Dy.uptoL).2.2 = true then (3, Dy.numD (Lib.cut (tl s) Dy.uptoL).2.1, Wd.pick (Lib.cut (tl s) Dy.uptoL).1 (Days.map tl)) else (4, 0, 0)) := by
    show Dy.told (tl s) = _
    unfold Dy.told
    rw [HN.out, if_neg h0, tl_length, if_neg hlast]
  clear hlast hno
  go_enter Tryd.func57, Tryd.ntmps57
  go_upto_region 4 with (go_at_call 71; refine (AN.out _).mono ?_; rintro e w1 ⟨rfl, rfl⟩)
  go_cut [23] (fun t wx => t = .bool false ∧ Drew (w.alloc (.cells #[.int .u8 0, .int .i64 0, .int .i64 0] 24)) wx)
  case first =>
    by_cases h4 : 4 ≤ s.size
    · have hx : (s.extract 0 4).size ≤ maxLen := by simp only [ByteArray.size_extract, maxLen]; omega
      have q1 : (4 : Int) ≤ (s.size : Int) := by omega
      have AS := Lib.hid fun W => calls_bool (same_any (s.extract 0 4) ⟨#[108, 97, 115, 116]⟩ W hx) (show Wd.same (s.extract 0 4).data.toList [108, 97, 115, 116] = false by have := HNo.out h4; rw [← tl_take] at this; exact this)
      go_wp2_with (go_at_call 70; refine (AS.out _).mono ?_; rintro e w2 ⟨rfl, hb2⟩)
      go_meet
      exact ⟨rfl, hb2⟩
    · have q1 : (s.size : Int) < 4 := by omega
      go_wp2_with fail
      go_meet
      exact ⟨rfl, Drew.refl _⟩
  case rest =>
    obtain ⟨rfl, hd⟩ := hcut
    have hWc : Wl wc := (hW.below ((Below.refl _ _).alloc (Nat.le_refl _) (.cells #[.int .u8 0, .int .i64 0, .int .i64 0] 24))).below (hd.below _)
    obtain ⟨m, hm⟩ := hWc.maxl
    have C1 := Tryd.strings_Cut s ⟨#[62, 61]⟩ m wc (by omega) hm
    obtain ⟨b1, b2, ok, hc⟩ : ∃ b1 b2 ok, Lib.cut s.data.toList [62, 61] = (b1, b2, ok) := ⟨_, _, _, rfl⟩
    have hcl := cut_len s.data.toList [62, 61]
    rw [hc] at C1 hcl
    have HC := Lib.hid hc
    have hsz : s.data.toList.length = s.size := tl_length s
    obtain ⟨l1, l2⟩ := hcl
    rw [hsz] at l1 l2
    simp only at l1 l2
    have HC1 := Lib.hid C1
    clear C1 hc hsz hm
    go_wp2_with fail
    refine HC1.out.mono ?_
    rintro e w3 ⟨rfl, hd3⟩
    have hd3' : Drew wc w3 := hd3
    have hdd := hd.trans hd3'
    have hW3 : Wl w3 := hWc.below (hd3'.below _)
    clear hd hd3 hd3'
    cases ok
    · obtain ⟨m, hm⟩ := hW3.maxl
      have C1 := Tryd.strings_Cut s ⟨#[60, 61]⟩ m w3 (by omega) hm
      obtain ⟨e1, e2, ok, hc⟩ : ∃ b1 b2 ok, Lib.cut s.data.toList [60, 61] = (b1, b2, ok) := ⟨_, _, _, rfl⟩
      have hcl := cut_len s.data.toList [60, 61]
      rw [hc] at C1 hcl
      have HC2 := Lib.hid hc
      have hsz : s.data.toList.length = s.size := tl_length s
      obtain ⟨l3, l4⟩ := hcl
      rw [hsz] at l3 l4
      simp only at l3 l4
      have HC3 := Lib.hid C1
      clear C1 hc hsz hm
      go_wp2_with fail
      refine HC3.out.mono ?_
      rintro e w5 ⟨rfl, hd5⟩
      have hd5' : Drew w3 w5 := hd5
      have hdd := hdd.trans hd5'
      clear hd5 hd5'
      cases ok
      · have HE : Hid (Dy.told (tl s) = (4, 0, 0)) := by
          show Dy.told (tl s) = _
          rw [HE1.out, show Lib.cut (tl s) Dy.fromL = (b1, b2, false) from HC.out, show Lib.cut (tl s) Dy.uptoL = (e1, e2, false) from HC2.out]
          rfl
        obtain ⟨c0, c1, c2, f0, f1, f2⟩ := new3 (hdd.below (w.heap.size + 1))
        have HB := Lib.hid (below_new (hdd.below (w.heap.size + 1)))
        clear hdd
        go_wp2
        refine bodyPost_ret (v := .agg #[.int .u8 4, .int .i64 0, .int .i64 0]) (by simp [results, Tryd.results57, go_sem, *]) rfl ⟨?_, ?_⟩
        · rw [HE.out]; rfl
        · exact ((HB.out.setCell (p := ⟨w.heap.size, _, none⟩) (Nat.le_refl _) _).setCell (p := ⟨w.heap.size, _, none⟩) (Nat.le_refl _) _).setCell (p := ⟨w.heap.size, _, none⟩) (Nat.le_refl _) _
      · have HE : Hid (Dy.told (tl s) = (3, Dy.numD e2, Wd.pick e1 (Days.map tl))) := by
          show Dy.told (tl s) = _
          rw [HE1.out, show Lib.cut (tl s) Dy.fromL = (b1, b2, false) from HC.out, show Lib.cut (tl s) Dy.uptoL = (e1, e2, true) from HC2.out]
          rfl
        have n1 := Dy.numD_bd e2
        have hm1 : (⟨e1.toArray⟩ : ByteArray).size ≤ maxLen := by rw [size_mk]; unfold maxLen; omega
        have hm2 : (⟨e2.toArray⟩ : ByteArray).size ≤ maxLen := by rw [size_mk]; unfold maxLen; omega
        have A1 := fun W => dayNumber_any ⟨e2.toArray⟩ W hm2
        have A2 := fun W => weekday_any ⟨e1.toArray⟩ W hm1
        rw [tl_mk] at A1 A2
        obtain ⟨X, hX⟩ : ∃ X, Dy.numD e2 = X := ⟨_, rfl⟩
        obtain ⟨Y, hY⟩ : ∃ Y, Wd.pick e1 (Days.map tl) = Y := ⟨_, rfl⟩
        rw [hX] at HE A1 n1
        rw [hY] at HE A2
        have HA1 := Lib.hid A1
        have HA2 := Lib.hid A2
        clear A1 A2 hX hY hm1 hm2
        go_wp2_with fail
        refine (HA1.out _).mono ?_
        rintro e w4 ⟨rfl, rfl⟩
        go_wp2_with fail
        refine (HA2.out _).mono ?_
        rintro e w4 ⟨rfl, hb4⟩
        have hb' := (hdd.below (w.heap.size + 1)).trans (hb4.mono (by rw [hdd.heap]; simp))
        clear hb4 hdd
        obtain ⟨c0, c1, c2, f0, f1, f2⟩ := new3 hb'
        have HB := Lib.hid (below_new hb')
        clear hb'
        go_wp2
        refine bodyPost_ret (v := .agg #[.int .u8 3, .int .i64 X, .int .i64 Y]) (by simp [results, Tryd.results57, go_sem, *]) rfl ⟨?_, ?_⟩
        · rw [HE.out]; rfl
        · exact ((HB.out.setCell (p := ⟨w.heap.size, _, none⟩) (Nat.le_refl _) _).setCell (p := ⟨w.heap.size, _, none⟩) (Nat.le_refl _) _).setCell (p := ⟨w.heap.size, _, none⟩) (Nat.le_refl _) _
    · have HE : Hid (Dy.told (tl s) = (2, Dy.numD b2, Wd.pick b1 (Days.map tl))) := by
        show Dy.told (tl s) = _
        rw [HE1.out, show Lib.cut (tl s) Dy.fromL = (b1, b2, true) from HC.out, if_pos rfl]
      have n1 := Dy.numD_bd b2
      have hm1 : (⟨b1.toArray⟩ : ByteArray).size ≤ maxLen := by rw [size_mk]; unfold maxLen; omega
      have hm2 : (⟨b2.toArray⟩ : ByteArray).size ≤ maxLen := by rw [size_mk]; unfold maxLen; omega
      have A1 := fun W => dayNumber_any ⟨b2.toArray⟩ W hm2
      have A2 := fun W => weekday_any ⟨b1.toArray⟩ W hm1
      rw [tl_mk] at A1 A2
      obtain ⟨X, hX⟩ : ∃ X, Dy.numD b2 = X := ⟨_, rfl⟩
      obtain ⟨Y, hY⟩ : ∃ Y, Wd.pick b1 (Days.map tl) = Y := ⟨_, rfl⟩
      rw [hX] at HE A1 n1
      rw [hY] at HE A2
      have HA1 := Lib.hid A1
      have HA2 := Lib.hid A2
      clear A1 A2 hX hY hm1 hm2
      go_wp2_with fail
      refine (HA1.out _).mono ?_
      rintro e w4 ⟨rfl, rfl⟩
      go_wp2_with fail
      refine (HA2.out _).mono ?_
      rintro e w4 ⟨rfl, hb4⟩
      have hb' := (hdd.below (w.heap.size + 1)).trans (hb4.mono (by rw [hdd.heap]; simp))
      clear hb4 hdd
      obtain ⟨c0, c1, c2, f0, f1, f2⟩ := new3 hb'
      have HB := Lib.hid (below_new hb')
      clear hb'
      go_wp2
      refine bodyPost_ret (v := .agg #[.int .u8 2, .int .i64 X, .int .i64 Y]) (by simp [results, Tryd.results57, go_sem, *]) rfl ⟨?_, ?_⟩
      · rw [HE.out]; rfl
      · exact ((HB.out.setCell (p := ⟨w.heap.size, _, none⟩) (Nat.le_refl _) _).setCell (p := ⟨w.heap.size, _, none⟩) (Nat.le_refl _) _).setCell (p := ⟨w.heap.size, _, none⟩) (Nat.le_refl _) _
end Go.Proofs.YtlhoggalhjadgaaDoor
