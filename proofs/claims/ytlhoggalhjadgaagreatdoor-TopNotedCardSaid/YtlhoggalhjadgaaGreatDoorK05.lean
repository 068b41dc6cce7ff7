/- Plain law of digits: what a text of digits tells. -/
import Derived.Test.YtlhoggalhjadgaaGreatDoorK03
import Derived.Test.YtlhoggalhjadgaaGreatDoorK04
import Derived.Test.YtlhoggalhjadgaaGreatDoorK02
import Derived.Deep.RegionHeld3
import Derived.Deep.QuietTactic
import Derived.BigQuiet
import Derived.WideShapes

namespace Go.Proofs.YtlhoggalhjadgaaGreatDoor.Dy
open Go.RowKit

def numLoop : List UInt8 → Int → Int
  | [], a => a
  | c :: r, a => if (c.toNat : Int) < 48 ∨ 57 < (c.toNat : Int) then -1 else numLoop r (a * 10 + ((c.toNat : Int) - 48))

theorem numLoop_bad (l : List UInt8) (k : Nat) (c : UInt8) (a : Int) (N : Int) (hN : N = numLoop (l.drop k) a) (hc : l[k]? = some c) (h : (c.toNat : Int) < 48 ∨ 57 < (c.toNat : Int)) : N = -1 := by
  obtain ⟨hk, e⟩ := List.getElem?_eq_some_iff.1 hc
  rw [hN, List.drop_eq_getElem_cons hk, e]
  simp only [numLoop]
  rw [if_pos h]
theorem numLoop_next (l : List UInt8) (k : Nat) (c : UInt8) (a : Int) (N : Int) (hN : N = numLoop (l.drop k) a) (hc : l[k]? = some c) (h : ¬ ((c.toNat : Int) < 48 ∨ 57 < (c.toNat : Int))) : N = numLoop (l.drop (k + 1)) (a * 10 + ((c.toNat : Int) - 48)) := by
  obtain ⟨hk, e⟩ := List.getElem?_eq_some_iff.1 hc
  rw [hN, List.drop_eq_getElem_cons hk, e]
  simp only [numLoop]
  rw [if_neg h]
theorem numLoop_end (l : List UInt8) (k : Nat) (a : Int) (N : Int) (hN : N = numLoop (l.drop k) a) (h : l.length = k) : N = a := by
  rw [hN, List.drop_eq_nil_of_le (by omega)]; rfl
theorem tl_get (s : ByteArray) (k : Nat) (h : k < s.size) : (tl s)[k]? = some s[k] := by
  unfold tl
  rw [List.getElem?_eq_getElem (by simpa using h), Array.getElem_toList]
  rfl
end Go.Proofs.YtlhoggalhjadgaaGreatDoor.Dy

/- Plain law of the days of a month: what is read of a text, and how one is written. -/
namespace Go.Proofs.YtlhoggalhjadgaaGreatDoor.Dy
open Go.RowKit

/-- Whether a day is right: 0, or 2. -/
def Ok (k n w : Int) : Prop := (k = 0 ∧ 1 ≤ n ∧ n ≤ 31 ∧ w = 0) ∨ (k = 1 ∧ n = 0 ∧ 0 ≤ w ∧ w ≤ 6) ∨ ((k = 2 ∨ k = 3) ∧ 1 ≤ n ∧ n ≤ 31 ∧ 0 ≤ w ∧ w ≤ 6)
instance (k n w : Int) : Decidable (Ok k n w) := by unfold Ok; exact inferInstance

def numD (l : List UInt8) : Int := if l.length < 1 ∨ 2 < l.length then -1 else numLoop l 0

theorem numLoop_bd : ∀ (l : List UInt8) (a : Int), 0 ≤ a → a < 100000 → l.length ≤ 2 → -1 ≤ numLoop l a ∧ numLoop l a < 100000000 := by
  intro l a h0 h1 hl
  match l, hl with
  | [], _ => simp only [numLoop]; omega
  | [c], _ =>
    simp only [numLoop]
    split <;> omega
  | [c, d], _ =>
    simp only [numLoop]
    split
    · omega
    · split <;> omega
theorem numD_bd (l : List UInt8) : -1 ≤ numD l ∧ numD l < 100000000 := by
  unfold numD
  split
  · omega
  · exact numLoop_bd l 0 (by omega) (by omega) (by omega)

def lastL : List UInt8 := [108, 97, 115, 116]
def fromL : List UInt8 := [62, 61]
def uptoL : List UInt8 := [60, 61]
def told (l : List UInt8) : Int × Int × Int :=
  if 0 ≤ numD l then (0, numD l, 0)
  else if 4 ≤ l.length ∧ Wd.same (l.take 4) lastL = true then (1, 0, Wd.pick (l.drop 4) (Days.map tl))
  else if (Lib.cut l fromL).2.2 = true then (2, numD (Lib.cut l fromL).2.1, Wd.pick (Lib.cut l fromL).1 (Days.map tl))
  else if (Lib.cut l uptoL).2.2 = true then (3, numD (Lib.cut l uptoL).2.1, Wd.pick (Lib.cut l uptoL).1 (Days.map tl))
  else (4, 0, 0)
def dec (n : Int) : List UInt8 := if n < 10 then [UInt8.ofNat (48 + n.toNat)] else [UInt8.ofNat (48 + n.toNat / 10), UInt8.ofNat (48 + n.toNat % 10)]
theorem dec_eq (n : Nat) (h : n < 100) : Lib.decDigits n = dec (n : Int) := by
  unfold dec Lib.decDigits
  by_cases h1 : n < 10
  · rw [dif_pos h1, if_pos (by omega), Int.toNat_natCast]
  · rw [dif_neg h1, if_neg (by omega), Int.toNat_natCast]
    unfold Lib.decDigits
    rw [dif_pos (by omega)]; rfl
def text (k n w : Int) : List UInt8 :=
  if k = 1 then lastL ++ tl (textOf Days w) else if k = 2 then tl (textOf Days w) ++ fromL ++ dec n else if k = 3 then tl (textOf Days w) ++ uptoL ++ dec n else dec n

def backOk (k n w : Int) : Bool := decide (told (text k n w) = (k, n, w))
theorem back0 : ∀ n : Nat, n < 31 → backOk 0 ((n : Int) + 1) 0 = true := by decide +kernel
theorem back1 : ∀ w : Nat, w < 7 → backOk 1 0 (w : Int) = true := by decide +kernel
theorem back2 : ∀ n : Nat, n < 31 → ∀ w : Nat, w < 7 → backOk 2 ((n : Int) + 1) (w : Int) = true := by decide +kernel
theorem back3 : ∀ n : Nat, n < 31 → ∀ w : Nat, w < 7 → backOk 3 ((n : Int) + 1) (w : Int) = true := by decide +kernel
/-- A right day is read from its text. -/
theorem told_text (k n w : Int) (h : Ok k n w) : told (text k n w) = (k, n, w) := by
  rcases h with ⟨rfl, h1, h2, rfl⟩ | ⟨rfl, rfl, h1, h2⟩ | ⟨hk, h1, h2, h3, h4⟩
  · have := back0 (n - 1).toNat (by omega)
    rw [show (((n - 1).toNat : Nat) : Int) + 1 = n by omega] at this
    exact of_decide_eq_true this
  · have := back1 w.toNat (by omega)
    rw [show ((w.toNat : Nat) : Int) = w by omega] at this
    exact of_decide_eq_true this
  · rcases hk with rfl | rfl
    · have := back2 (n - 1).toNat (by omega) w.toNat (by omega)
      rw [show (((n - 1).toNat : Nat) : Int) + 1 = n by omega, show ((w.toNat : Nat) : Int) = w by omega] at this
      exact of_decide_eq_true this
    · have := back3 (n - 1).toNat (by omega) w.toNat (by omega)
      rw [show (((n - 1).toNat : Nat) : Int) + 1 = n by omega, show ((w.toNat : Nat) : Int) = w by omega] at this
      exact of_decide_eq_true this
end Go.Proofs.YtlhoggalhjadgaaGreatDoor.Dy

/- The contracts of package day. -/
namespace Go.Proofs.YtlhoggalhjadgaaGreatDoor
open Go.RowKit

set_option maxHeartbeats 1000000 in
theorem dayCheck_ok (k n d : Int) (w : World) (h : Dy.Ok k n d) :
    Calls Tryz.prog 42 #[.agg #[.int .u8 k, .int .i64 n, .int .i64 d]] w fun e w' => e = .returned (.int .i64 0) ∧ Below w.heap.size w w' := by
  rcases h with ⟨rfl, h1, h2, rfl⟩ | ⟨rfl, rfl, h1, h2⟩ | ⟨rfl | rfl, h1, h2, h3, h4⟩
  all_goals
    go_enter Tryz.func42, Tryz.ntmps42
    go_wp2
    go_ret
    exact ⟨rfl, (Below.refl _ _).alloc (Nat.le_refl _) _⟩

set_option maxHeartbeats 2000000 in
theorem dayCheck_bad (k n d : Int) (w : World) (h : ¬ Dy.Ok k n d) :
    Calls Tryz.prog 42 #[.agg #[.int .u8 k, .int .i64 n, .int .i64 d]] w fun e w' => e = .returned (.int .i64 2) ∧ Below w.heap.size w w' := by
  have H := Lib.hid h
  clear h
  by_cases k0 : k = 0
  · subst k0
    go_enter Tryz.func42, Tryz.ntmps42
    go_wp2
    all_goals first
      | (exfalso; refine H.out ?_; unfold Dy.Ok; omega)
      | (go_ret; exact ⟨rfl, (Below.refl _ _).alloc (Nat.le_refl _) _⟩)
  by_cases k1 : k = 1
  · subst k1
    go_enter Tryz.func42, Tryz.ntmps42
    go_wp2
    all_goals first
      | (exfalso; refine H.out ?_; unfold Dy.Ok; omega)
      | (go_ret; exact ⟨rfl, (Below.refl _ _).alloc (Nat.le_refl _) _⟩)
  by_cases k2 : k = 2
  · subst k2
    go_enter Tryz.func42, Tryz.ntmps42
    go_wp2
    all_goals first
      | (exfalso; refine H.out ?_; unfold Dy.Ok; omega)
      | (go_ret; exact ⟨rfl, (Below.refl _ _).alloc (Nat.le_refl _) _⟩)
  by_cases k3 : k = 3
  · subst k3
    go_enter Tryz.func42, Tryz.ntmps42
    go_wp2
    all_goals first
      | (exfalso; refine H.out ?_; unfold Dy.Ok; omega)
      | (go_ret; exact ⟨rfl, (Below.refl _ _).alloc (Nat.le_refl _) _⟩)
  have e0 : (k == 0) = false := by simp [k0]
  have e1 : (k == 1) = false := by simp [k1]
  have e2 : (k == 2) = false := by simp [k2]
  have e3 : (k == 3) = false := by simp [k3]
  clear k0 k1 k2 k3
  go_enter Tryz.func42, Tryz.ntmps42
  go_wp2
  go_ret
  exact ⟨rfl, (Below.refl _ _).alloc (Nat.le_refl _) _⟩

set_option maxHeartbeats 1000000 in
theorem dayNumber_any (s : ByteArray) (w : World) (hs : s.size ≤ maxLen) :
    Calls Tryz.prog 129 #[.string s] w fun e w' => e = .returned (.int .i64 (Dy.numD (tl s))) ∧ w = w' := by
  unfold maxLen at hs
  by_cases h1 : s.size < 1
  · have HE : Hid (Dy.numD (tl s) = -1) := by show Dy.numD (tl s) = -1; unfold Dy.numD; rw [tl_length, if_pos (.inl h1)]
    go_enter Tryz.func129, Tryz.ntmps129
    go_wp2
    go_ret
    exact ⟨ret_int HE.out.symm, rfl⟩
  by_cases h2 : 2 < s.size
  · have HE : Hid (Dy.numD (tl s) = -1) := by show Dy.numD (tl s) = -1; unfold Dy.numD; rw [tl_length, if_pos (.inr h2)]
    go_enter Tryz.func129, Tryz.ntmps129
    go_wp2
    go_ret
    exact ⟨ret_int HE.out.symm, rfl⟩
  have HE : Hid (Dy.numD (tl s) = Dy.numLoop ((tl s).drop 0) 0) := by show Dy.numD (tl s) = _; unfold Dy.numD; rw [tl_length, if_neg (by omega)]; rfl
  obtain ⟨N, hN⟩ : ∃ N, Dy.numD (tl s) = N := ⟨_, rfl⟩
  rw [hN] at HE ⊢
  clear hN
  go_enter Tryz.func129, Tryz.ntmps129
  go_wp2
  go_loop [3, 15] (fun t i => ∃ (k : Nat) (a : Int), k ≤ s.size ∧ i = .int .i64 k ∧ t = .int .i64 a ∧ 0 ≤ a ∧ a ≤ 99 ∧ Hid (k ≤ 1 → a ≤ 9) ∧ Hid (k = 0 → a = 0) ∧ Hid (N = Dy.numLoop ((tl s).drop k) a)) (fun _ i => s.size - (intOf i).toNat)
  case atStart => exact ⟨0, 0, by omega, rfl, rfl, by omega, by omega, fun _ => by omega, fun _ => rfl, HE.out⟩
  case round =>
    obtain ⟨k, a, hk, rfl, rfl, a0, a1, HA1, HA0, HN⟩ := hrel
    by_cases hlt : k < s.size
    · have q1 : (0 : Int) ≤ (k : Int) := by omega
      have q2 : (k : Int) < (s.size : Int) := by omega
      have b1 := u8_bd s[k]
      have a2 : a ≤ 9 := HA1.out (by omega)
      by_cases hc : (s[k].toNat : Int) < 48 ∨ 57 < (s[k].toNat : Int)
      · have HB := Lib.hid (Dy.numLoop_bad (tl s) k s[k] a N HN.out (Dy.tl_get s k hlt) hc)
        by_cases hc1 : (s[k].toNat : Int) < 48
        · clear hc
          go_wp2
          go_ret
          exact ⟨ret_int HB.out.symm, rfl⟩
        · have hc2 : 57 < (s[k].toNat : Int) := by omega
          clear hc
          go_wp2
          go_ret
          exact ⟨ret_int HB.out.symm, rfl⟩
      · have HB := Lib.hid (Dy.numLoop_next (tl s) k s[k] a N HN.out (Dy.tl_get s k hlt) hc)
        have c1 : 48 ≤ (s[k].toNat : Int) := by omega
        have c2 : (s[k].toNat : Int) ≤ 57 := by omega
        have HA0' := HA0.out
        have HZ : Hid (k + 1 ≤ 1 → a * 10 + ((s[k].toNat : Int) - 48) ≤ 9) := by intro h; have := HA0' (by omega); omega
        clear hc HA0'
        go_wp2
        go_round
        case rel => exact ⟨k + 1, a * 10 + ((s[k].toNat : Int) - 48), by omega, by go_num, rfl, by omega, by omega, HZ, fun h => absurd h (by omega), HB⟩
        case measure => simp [intOf]; omega
    · obtain rfl : k = s.size := by omega
      have HB := Lib.hid (Dy.numLoop_end (tl s) s.size a N HN.out (tl_length s))
      go_wp2
      go_ret
      exact ⟨ret_int HB.out.symm, rfl⟩
end Go.Proofs.YtlhoggalhjadgaaGreatDoor

/- The contracts of package day: what a text tells, and a day's text. -/
namespace Go.Proofs.YtlhoggalhjadgaaGreatDoor
open Go.RowKit


theorem tl_take (s : ByteArray) (k : Nat) : tl (s.extract 0 k) = (tl s).take k := by simp [tl]
/-- The library's bound alone. -/
structure Wl (w : World) : Prop where
  maxl : ∃ m, w.cell? ⟨2, 0, none⟩ = some (.int .i64 m)
theorem Wl.below {w w' : World} (h : Wl w) (hb : Below w.heap.size w w') : Wl w' := by
  obtain ⟨m, hm⟩ := h.maxl
  exact ⟨m, (hb.cell (p := ⟨_, 0, none⟩) (block_lt_of_cell hm)).trans hm⟩
/-- A day as a value. -/
def dayV (x : Int × Int × Int) : Value := .agg #[.int .u8 x.1, .int .i64 x.2.1, .int .i64 x.2.2]
theorem tl_mk (l : List UInt8) : tl ⟨l.toArray⟩ = l := by simp [tl]
theorem size_mk (l : List UInt8) : (⟨l.toArray⟩ : ByteArray).size = l.length := rfl
theorem cut_len (s sep : List UInt8) : (Lib.cut s sep).1.length ≤ s.length ∧ (Lib.cut s sep).2.1.length ≤ s.length := by
  unfold Lib.cut
  split
  · simp only [List.length_take, List.length_drop]; omega
  · simp
theorem tl_drop (s : ByteArray) (k : Nat) : tl (s.extract k s.size) = (tl s).drop k := by
  have h : (s.extract k s.size).data.toList = (s.data.toList.drop k) := by
    simp [ByteArray.data_extract, Array.toList_extract]
    exact List.take_of_length_le (by rw [List.length_drop]; exact Nat.le_refl _)
  exact h

/-- A block of three cells, behind what a callee did. -/
theorem new3 {w w1 : World} {a b c : Value} {t : TypeId} (hb : Below (w.heap.size + 1) (w.alloc (.cells #[a, b, c] t)) w1) :
    w1.cell? ⟨w.heap.size, 0, none⟩ = some a ∧ w1.cell? ⟨w.heap.size, 1, none⟩ = some b ∧ w1.cell? ⟨w.heap.size, 2, none⟩ = some c ∧
    w1.frozen? ⟨w.heap.size, 0, none⟩ = false ∧ w1.frozen? ⟨w.heap.size, 1, none⟩ = false ∧ w1.frozen? ⟨w.heap.size, 2, none⟩ = false := by
  have h : ∀ i, w1.cell? ⟨w.heap.size, i, none⟩ = #[a, b, c][i]? := fun i => (hb.cell (p := ⟨w.heap.size, i, none⟩) (Nat.lt_succ_self _)).trans (cell_of_row _ w.heap.size i _ _ _ (heap_alloc_new w _))
  have hf : ∀ i, w1.frozen? ⟨w.heap.size, i, none⟩ = false := fun i => (hb.frozen (p := ⟨w.heap.size, i, none⟩) (Nat.lt_succ_self _)).trans (by have e := heap_alloc_new w (.cells #[a, b, c] t); unfold World.frozen?; simp only [e]; simp)
  exact ⟨h 0, h 1, h 2, hf 0, hf 1, hf 2⟩
theorem below_new {w w1 : World} {o : Obj} (hb : Below (w.heap.size + 1) (w.alloc o) w1) : Below w.heap.size w w1 := ((Below.refl _ _).alloc (Nat.le_refl _) _).trans (hb.mono (Nat.le_succ _))

set_option maxHeartbeats 1000000 in
theorem told_any (s : ByteArray) (w : World) (hW : Wl w) (hs : s.size ≤ 1000000) :
    Calls Tryz.prog 120 #[.string s] w fun e w' => e = .returned (dayV (Dy.told (tl s))) ∧ Below w.heap.size w w' := by
  have hmx : s.size ≤ maxLen := by unfold maxLen; omega
  obtain ⟨n0, n1⟩ := Dy.numD_bd (tl s)
  obtain ⟨N, hN⟩ : ∃ N, Dy.numD (tl s) = N := ⟨_, rfl⟩
  have A0 := fun W => calls_int (dayNumber_any s W hmx) hN
  have AN := Lib.hid A0
  rw [hN] at n0 n1
  have HN := Lib.hid hN
  clear hN A0
  by_cases h0 : 0 ≤ N
  · have HE : Hid (Dy.told (tl s) = (0, N, 0)) := by show Dy.told (tl s) = _; unfold Dy.told; rw [HN.out, if_pos h0]
    go_enter Tryz.func120, Tryz.ntmps120
    go_wp2_with fail
    refine (AN.out _).mono ?_
    rintro e w1 ⟨rfl, rfl⟩
    go_wp2
    refine bodyPost_ret (v := .agg #[.int .u8 0, .int .i64 N, .int .i64 0]) (by simp [results, Tryz.results120, go_sem]) rfl ⟨?_, ?_⟩
    · rw [HE.out]; rfl
    · exact (Below.refl _ _).alloc (Nat.le_refl _) _
  by_cases hlast : 4 ≤ s.size ∧ Wd.same ((tl s).take 4) Dy.lastL = true
  · have HE : Hid (Dy.told (tl s) = (1, 0, Wd.pick ((tl s).drop 4) (Days.map tl))) := by
      show Dy.told (tl s) = _
      unfold Dy.told
      rw [HN.out, if_neg h0, tl_length, if_pos hlast]
    obtain ⟨hl1, hl2⟩ := hlast
    have q1 : (4 : Int) ≤ (s.size : Int) := by omega
    have hx : (s.extract 0 4).size ≤ maxLen := by simp only [ByteArray.size_extract, maxLen]; omega
    have hy : (s.extract 4 s.size).size ≤ maxLen := by simp only [ByteArray.size_extract, maxLen]; omega
    have AS := Lib.hid fun W => calls_bool (same_any (s.extract 0 4) ⟨#[108, 97, 115, 116]⟩ W hx) (show Wd.same (s.extract 0 4).data.toList [108, 97, 115, 116] = true by rw [← tl_take] at hl2; exact hl2)
    have AW := Lib.hid fun W => calls_int (weekday_any (s.extract 4 s.size) W hy) (show _ = Wd.pick ((tl s).drop 4) (Days.map tl) by rw [tl_drop])
    obtain ⟨P, hP⟩ : ∃ P, Wd.pick ((tl s).drop 4) (Days.map tl) = P := ⟨_, rfl⟩
    rw [hP] at HE AW
    clear hl2 hx hy hP
    go_enter Tryz.func120, Tryz.ntmps120
    go_wp2_with fail
    refine (AN.out _).mono ?_
    rintro e w1 ⟨rfl, rfl⟩
    go_wp2_with fail
    refine (AS.out _).mono ?_
    rintro e w2 ⟨rfl, hb2⟩
    have hb := Lib.hid (hb2.below (w.heap.size + 1))
    clear hb2
    go_wp2_with fail
    refine (AW.out _).mono ?_
    rintro e w3 ⟨rfl, hb3⟩
    have hb' := hb.out.trans (hb3.mono (by have := hb.out.size; simpa using this))
    clear hb hb3
    obtain ⟨c0, c1, c2, f0, f1, f2⟩ := new3 hb'
    have HB := Lib.hid (below_new hb')
    clear hb'
    go_wp2
    refine bodyPost_ret (v := .agg #[.int .u8 1, .int .i64 0, .int .i64 P]) (by simp [results, Tryz.results120, go_sem, *]) rfl ⟨?_, ?_⟩
    · rw [HE.out]; rfl
    · exact ((HB.out.setCell (p := ⟨w.heap.size, _, none⟩) (Nat.le_refl _) _).setCell (p := ⟨w.heap.size, _, none⟩) (Nat.le_refl _) _).setCell (p := ⟨w.heap.size, _, none⟩) (Nat.le_refl _) _
  have hno : 4 ≤ s.size → Wd.same ((tl s).take 4) Dy.lastL = false := by
    intro h4
    cases hx : Wd.same ((tl s).take 4) Dy.lastL
    · rfl
    · exact absurd ⟨h4, hx⟩ hlast
  have HNo := Lib.hid hno
  have HE1 : Hid (Dy.told (tl s) = if (Lib.cut (tl s) Dy.fromL).2.2 = true then (2, Dy.numD (Lib.cut (tl s) Dy.fromL).2.1, Wd.pick (Lib.cut (tl s) Dy.fromL).1 (Days.map tl))
      else if (Lib.cut (tl s) Dy.uptoL).2.2 = true then (3, Dy.numD (Lib.cut (tl s) Dy.uptoL).2.1, Wd.pick (Lib.cut (tl s) Dy.uptoL).1 (Days.map tl)) else (4, 0, 0)) := by
    show Dy.told (tl s) = _
    unfold Dy.told
    rw [HN.out, if_neg h0, tl_length, if_neg hlast]
  clear hlast hno
  go_enter Tryz.func120, Tryz.ntmps120
  go_upto_region 4 with (go_at_call 129; refine (AN.out _).mono ?_; rintro e w1 ⟨rfl, rfl⟩)
  go_cut [23] (fun t wx => t = .bool false ∧ Drew (w.alloc (.cells #[.int .u8 0, .int .i64 0, .int .i64 0] 42)) wx)
  case first =>
    by_cases h4 : 4 ≤ s.size
    · have hx : (s.extract 0 4).size ≤ maxLen := by simp only [ByteArray.size_extract, maxLen]; omega
      have q1 : (4 : Int) ≤ (s.size : Int) := by omega
      have AS := Lib.hid fun W => calls_bool (same_any (s.extract 0 4) ⟨#[108, 97, 115, 116]⟩ W hx) (show Wd.same (s.extract 0 4).data.toList [108, 97, 115, 116] = false by have := HNo.out h4; rw [← tl_take] at this; exact this)
      go_wp2_with (go_at_call 89; refine (AS.out _).mono ?_; rintro e w2 ⟨rfl, hb2⟩)
      go_meet
      exact ⟨rfl, hb2⟩
    · have q1 : (s.size : Int) < 4 := by omega
      go_wp2_with fail
      go_meet
      exact ⟨rfl, Drew.refl _⟩
  case rest =>
    obtain ⟨rfl, hd⟩ := hcut
    have hWc : Wl wc := (hW.below ((Below.refl _ _).alloc (Nat.le_refl _) (.cells #[.int .u8 0, .int .i64 0, .int .i64 0] 42))).below (hd.below _)
    obtain ⟨m, hm⟩ := hWc.maxl
    have C1 := Tryz.strings_Cut s ⟨#[62, 61]⟩ m wc (by omega) hm
    obtain ⟨b1, b2, ok, hc⟩ : ∃ b1 b2 ok, Lib.cut s.data.toList [62, 61] = (b1, b2, ok) := ⟨_, _, _, rfl⟩
    have hcl := cut_len s.data.toList [62, 61]
    rw [hc] at C1 hcl
    have HC := Lib.hid hc
    have hsz : s.data.toList.length = s.size := tl_length s
    obtain ⟨l1, l2⟩ := hcl
    rw [hsz] at l1 l2
    simp only at l1 l2
    have HC1 := Lib.hid C1
    clear C1 hc hsz hm
    go_wp2_with fail
    refine HC1.out.mono ?_
    rintro e w3 ⟨rfl, hd3⟩
    have hd3' : Drew wc w3 := hd3
    have hdd := hd.trans hd3'
    have hW3 : Wl w3 := hWc.below (hd3'.below _)
    clear hd hd3 hd3'
    cases ok
    · obtain ⟨m, hm⟩ := hW3.maxl
      have C1 := Tryz.strings_Cut s ⟨#[60, 61]⟩ m w3 (by omega) hm
      obtain ⟨e1, e2, ok, hc⟩ : ∃ b1 b2 ok, Lib.cut s.data.toList [60, 61] = (b1, b2, ok) := ⟨_, _, _, rfl⟩
      have hcl := cut_len s.data.toList [60, 61]
      rw [hc] at C1 hcl
      have HC2 := Lib.hid hc
      have hsz : s.data.toList.length = s.size := tl_length s
      obtain ⟨l3, l4⟩ := hcl
      rw [hsz] at l3 l4
      simp only at l3 l4
      have HC3 := Lib.hid C1
      clear C1 hc hsz hm
      go_wp2_with fail
      refine HC3.out.mono ?_
      rintro e w5 ⟨rfl, hd5⟩
      have hd5' : Drew w3 w5 := hd5
      have hdd := hdd.trans hd5'
      clear hd5 hd5'
      cases ok
      · have HE : Hid (Dy.told (tl s) = (4, 0, 0)) := by
          show Dy.told (tl s) = _
          rw [HE1.out, show Lib.cut (tl s) Dy.fromL = (b1, b2, false) from HC.out, show Lib.cut (tl s) Dy.uptoL = (e1, e2, false) from HC2.out]
          rfl
        obtain ⟨c0, c1, c2, f0, f1, f2⟩ := new3 (hdd.below (w.heap.size + 1))
        have HB := Lib.hid (below_new (hdd.below (w.heap.size + 1)))
        clear hdd
        go_wp2
        refine bodyPost_ret (v := .agg #[.int .u8 4, .int .i64 0, .int .i64 0]) (by simp [results, Tryz.results120, go_sem, *]) rfl ⟨?_, ?_⟩
        · rw [HE.out]; rfl
        · exact ((HB.out.setCell (p := ⟨w.heap.size, _, none⟩) (Nat.le_refl _) _).setCell (p := ⟨w.heap.size, _, none⟩) (Nat.le_refl _) _).setCell (p := ⟨w.heap.size, _, none⟩) (Nat.le_refl _) _
      · have HE : Hid (Dy.told (tl s) = (3, Dy.numD e2, Wd.pick e1 (Days.map tl))) := by
          show Dy.told (tl s) = _
          rw [HE1.out, show Lib.cut (tl s) Dy.fromL = (b1, b2, false) from HC.out, show Lib.cut (tl s) Dy.uptoL = (e1, e2, true) from HC2.out]
          rfl
        have n1 := Dy.numD_bd e2
        have hm1 : (⟨e1.toArray⟩ : ByteArray).size ≤ maxLen := by rw [size_mk]; unfold maxLen; omega
        have hm2 : (⟨e2.toArray⟩ : ByteArray).size ≤ maxLen := by rw [size_mk]; unfold maxLen; omega
        have A1 := fun W => dayNumber_any ⟨e2.toArray⟩ W hm2
        have A2 := fun W => weekday_any ⟨e1.toArray⟩ W hm1
        rw [tl_mk] at A1 A2
        obtain ⟨X, hX⟩ : ∃ X, Dy.numD e2 = X := ⟨_, rfl⟩
        obtain ⟨Y, hY⟩ : ∃ Y, Wd.pick e1 (Days.map tl) = Y := ⟨_, rfl⟩
        rw [hX] at HE A1 n1
        rw [hY] at HE A2
        have HA1 := Lib.hid A1
        have HA2 := Lib.hid A2
        clear A1 A2 hX hY hm1 hm2
        go_wp2_with fail
        refine (HA1.out _).mono ?_
        rintro e w4 ⟨rfl, rfl⟩
        go_wp2_with fail
        refine (HA2.out _).mono ?_
        rintro e w4 ⟨rfl, hb4⟩
        have hb' := (hdd.below (w.heap.size + 1)).trans (hb4.mono (by rw [hdd.heap]; simp))
        clear hb4 hdd
        obtain ⟨c0, c1, c2, f0, f1, f2⟩ := new3 hb'
        have HB := Lib.hid (below_new hb')
        clear hb'
        go_wp2
        refine bodyPost_ret (v := .agg #[.int .u8 3, .int .i64 X, .int .i64 Y]) (by simp [results, Tryz.results120, go_sem, *]) rfl ⟨?_, ?_⟩
        · rw [HE.out]; rfl
        · exact ((HB.out.setCell (p := ⟨w.heap.size, _, none⟩) (Nat.le_refl _) _).setCell (p := ⟨w.heap.size, _, none⟩) (Nat.le_refl _) _).setCell (p := ⟨w.heap.size, _, none⟩) (Nat.le_refl _) _
    · have HE : Hid (Dy.told (tl s) = (2, Dy.numD b2, Wd.pick b1 (Days.map tl))) := by
        show Dy.told (tl s) = _
        rw [HE1.out, show Lib.cut (tl s) Dy.fromL = (b1, b2, true) from HC.out, if_pos rfl]
      have n1 := Dy.numD_bd b2
      have hm1 : (⟨b1.toArray⟩ : ByteArray).size ≤ maxLen := by rw [size_mk]; unfold maxLen; omega
      have hm2 : (⟨b2.toArray⟩ : ByteArray).size ≤ maxLen := by rw [size_mk]; unfold maxLen; omega
      have A1 := fun W => dayNumber_any ⟨b2.toArray⟩ W hm2
      have A2 := fun W => weekday_any ⟨b1.toArray⟩ W hm1
      rw [tl_mk] at A1 A2
      obtain ⟨X, hX⟩ : ∃ X, Dy.numD b2 = X := ⟨_, rfl⟩
      obtain ⟨Y, hY⟩ : ∃ Y, Wd.pick b1 (Days.map tl) = Y := ⟨_, rfl⟩
      rw [hX] at HE A1 n1
      rw [hY] at HE A2
      have HA1 := Lib.hid A1
      have HA2 := Lib.hid A2
      clear A1 A2 hX hY hm1 hm2
      go_wp2_with fail
      refine (HA1.out _).mono ?_
      rintro e w4 ⟨rfl, rfl⟩
      go_wp2_with fail
      refine (HA2.out _).mono ?_
      rintro e w4 ⟨rfl, hb4⟩
      have hb' := (hdd.below (w.heap.size + 1)).trans (hb4.mono (by rw [hdd.heap]; simp))
      clear hb4 hdd
      obtain ⟨c0, c1, c2, f0, f1, f2⟩ := new3 hb'
      have HB := Lib.hid (below_new hb')
      clear hb'
      go_wp2
      refine bodyPost_ret (v := .agg #[.int .u8 2, .int .i64 X, .int .i64 Y]) (by simp [results, Tryz.results120, go_sem, *]) rfl ⟨?_, ?_⟩
      · rw [HE.out]; rfl
      · exact ((HB.out.setCell (p := ⟨w.heap.size, _, none⟩) (Nat.le_refl _) _).setCell (p := ⟨w.heap.size, _, none⟩) (Nat.le_refl _) _).setCell (p := ⟨w.heap.size, _, none⟩) (Nat.le_refl _) _
end Go.Proofs.YtlhoggalhjadgaaGreatDoor

/- The contracts of package day: Parse, Text. -/
namespace Go.Proofs.YtlhoggalhjadgaaGreatDoor
open Go.RowKit

theorem parse_any (s : ByteArray) (w : World) (hW : Wl w) (hs : s.size ≤ 1000000) (k n d : Int) (hT : Dy.told (tl s) = (k, n, d)) :
    Calls Tryz.prog 103 #[.string s] w fun e w' => e = .returned (if Dy.Ok k n d then .tuple #[.agg #[.int .u8 k, .int .i64 n, .int .i64 d], .int .i64 0] else .tuple #[.agg #[.int .u8 0, .int .i64 0, .int .i64 0], .int .i64 4]) ∧ Below w.heap.size w w' := by
  have AT := calls_val (told_any s (w.alloc (.cells #[.int .u8 0, .int .i64 0, .int .i64 0] 42)) (hW.below ((Below.refl _ _).alloc (Nat.le_refl _) _)) hs) (show dayV (Dy.told (tl s)) = .agg #[.int .u8 k, .int .i64 n, .int .i64 d] by rw [hT]; rfl)
  have HAT := Lib.hid AT
  clear AT hT hW
  by_cases hok : Dy.Ok k n d
  · rw [if_pos hok]
    have HC := Lib.hid fun W => dayCheck_ok k n d W hok
    clear hok
    go_enter Tryz.func103, Tryz.ntmps103
    go_wp2_with fail
    refine HAT.out.mono ?_
    rintro e w1 ⟨rfl, hb1⟩
    have hb' : Below (w.heap.size + 1) (w.alloc (.cells #[.int .u8 0, .int .i64 0, .int .i64 0] 42)) w1 := hb1.mono (by simp)
    have hz : w.heap.size + 1 ≤ w1.heap.size := by have := hb'.size; simpa using this
    clear hb1
    go_wp2_with fail
    refine (HC.out _).mono ?_
    rintro e w2 ⟨rfl, hb2⟩
    have hb3 := (hb'.alloc (by omega) (.cells #[.int .u8 k, .int .i64 n, .int .i64 d] 42)).trans (hb2.mono (by simp; omega))
    obtain ⟨c0, c1, c2, f0, f1, f2⟩ := new3 hb3
    obtain ⟨g0, g1, g2, _, _, _⟩ := new3 (hb2.mono (by simp) : Below (w1.heap.size + 1) (w1.alloc (.cells #[.int .u8 k, .int .i64 n, .int .i64 d] 42)) w2)
    have HB := Lib.hid (below_new hb3)
    clear hb' hb2 hb3
    go_wp2
    refine bodyPost_ret (v := .tuple #[.agg #[.int .u8 k, .int .i64 n, .int .i64 d], .int .i64 0]) (by simp [results, Tryz.results103, go_sem, *]) rfl ⟨rfl, ?_⟩
    exact ((HB.out.setCell (p := ⟨w.heap.size, _, none⟩) (Nat.le_refl _) _).setCell (p := ⟨w.heap.size, _, none⟩) (Nat.le_refl _) _).setCell (p := ⟨w.heap.size, _, none⟩) (Nat.le_refl _) _
  · rw [if_neg hok]
    have HC := Lib.hid fun W => dayCheck_bad k n d W hok
    clear hok
    go_enter Tryz.func103, Tryz.ntmps103
    go_wp2_with fail
    refine HAT.out.mono ?_
    rintro e w1 ⟨rfl, hb1⟩
    have hb' : Below (w.heap.size + 1) (w.alloc (.cells #[.int .u8 0, .int .i64 0, .int .i64 0] 42)) w1 := hb1.mono (by simp)
    have hz : w.heap.size + 1 ≤ w1.heap.size := by have := hb'.size; simpa using this
    clear hb1
    go_wp2_with fail
    refine (HC.out _).mono ?_
    rintro e w2 ⟨rfl, hb2⟩
    have hb3 := (hb'.alloc (by omega) (.cells #[.int .u8 k, .int .i64 n, .int .i64 d] 42)).trans (hb2.mono (by simp; omega))
    obtain ⟨c0, c1, c2, f0, f1, f2⟩ := new3 hb3
    have HB := Lib.hid (below_new hb3)
    clear hb' hb2 hb3
    go_wp2
    refine bodyPost_ret (v := .tuple #[.agg #[.int .u8 0, .int .i64 0, .int .i64 0], .int .i64 4]) (by simp [results, Tryz.results103, go_sem, *]) rfl ⟨rfl, ?_⟩
    exact ((HB.out.setCell (p := ⟨w.heap.size, _, none⟩) (Nat.le_refl _) _).setCell (p := ⟨w.heap.size, _, none⟩) (Nat.le_refl _) _).setCell (p := ⟨w.heap.size, _, none⟩) (Nat.le_refl _) _

theorem itoa_small (n : Int) (w : World) (h0 : 0 ≤ n) (h1 : n < 100) :
    Calls Tryz.prog 56 #[.int .i64 n] w fun e w' => e = .returned (.string ⟨(Dy.dec n).toArray⟩) ∧ w' = w := by
  obtain ⟨k, rfl⟩ : ∃ k : Nat, n = (k : Int) := ⟨n.toNat, by omega⟩
  rw [← Dy.dec_eq k (by omega)]
  exact Tryz.strconv_Itoa_small k (by omega) w

theorem app_mk (a b : ByteArray) : a ++ b = ⟨(tl a ++ tl b).toArray⟩ := by
  apply WideShapes.bytes_inj
  simp [tl]
theorem app_mk2 (a b c : ByteArray) : a ++ b ++ c = ⟨(tl a ++ tl b ++ tl c).toArray⟩ := by
  rw [app_mk (a ++ b) c, app_mk a b, tl_mk]
theorem textDays_size (d : Int) : (textOf Days d).size ≤ 3 := by
  unfold textOf
  split
  · simp only [ByteArray.size_extract]; omega
  · exact Nat.zero_le _
theorem dec_size (n : Int) : (⟨(Dy.dec n).toArray⟩ : ByteArray).size ≤ 2 := by
  rw [size_mk]; unfold Dy.dec; split <;> simp
theorem ret_str2 {a b : ByteArray} {v : Value} (h : a = b) : Ending.returned (.tuple #[.string a, v]) = .returned (.tuple #[.string b, v]) := by rw [h]

set_option maxHeartbeats 1000000 in
theorem dayText_ok (k n d : Int) (w : World) (h : Dy.Ok k n d) :
    Calls Tryz.prog 57 #[.agg #[.int .u8 k, .int .i64 n, .int .i64 d]] w fun e w' => e = .returned (.tuple #[.string ⟨(Dy.text k n d).toArray⟩, .int .i64 0]) ∧ Below w.heap.size w w' := by
  have HC := Lib.hid fun W => dayCheck_ok k n d W h
  rcases h with ⟨rfl, h1, h2, rfl⟩ | ⟨rfl, rfl, h1, h2⟩ | ⟨hk, h1, h2, h3, h4⟩
  · go_enter Tryz.func57, Tryz.ntmps57
    go_wp2_with fail
    refine (HC.out _).mono ?_
    rintro e w1 ⟨rfl, hb1⟩
    have hb' : Below (w.heap.size + 1) (w.alloc (.cells #[.int .u8 0, .int .i64 n, .int .i64 0] 42)) w1 := hb1.mono (by simp)
    obtain ⟨c0, c1, c2, _, _, _⟩ := new3 hb'
    have HB := Lib.hid (below_new hb')
    clear hb1 hb'
    go_wp2_with (go_at_call 56; refine (itoa_small n _ (by omega) (by omega)).mono ?_; rintro e w2 ⟨rfl, rfl⟩)
    go_ret2
    exact ⟨rfl, HB.out⟩
  · go_enter Tryz.func57, Tryz.ntmps57
    go_wp2_with fail
    refine (HC.out _).mono ?_
    rintro e w1 ⟨rfl, hb1⟩
    have hb' : Below (w.heap.size + 1) (w.alloc (.cells #[.int .u8 1, .int .i64 0, .int .i64 d] 42)) w1 := hb1.mono (by simp)
    obtain ⟨c0, c1, c2, _, _, _⟩ := new3 hb'
    have HB := Lib.hid (below_new hb')
    clear hb1 hb'
    have AW := fun W => weekdayText_any d W
    have hE : Dy.text 1 0 d = Dy.lastL ++ tl (textOf Days d) := rfl
    have hs3 := textDays_size d
    obtain ⟨T, hT⟩ : ∃ T, textOf Days d = T := ⟨_, rfl⟩
    rw [hT] at hE hs3
    simp only [hT] at AW
    have HAW := Lib.hid AW
    have HE := Lib.hid hE
    clear AW hE hT
    go_wp2_with (go_at_call 77; refine (HAW.out _).mono ?_; rintro e w2 ⟨rfl, hb2⟩)
    go_ret2
    exact ⟨ret_str2 (by rw [HE.out, app_mk]; rfl), below_then HB.out hb2⟩
  · have hs3 := textDays_size d
    have hs2 := dec_size n
    have AW := fun W => weekdayText_any d W
    have AI := fun W => itoa_small n W (by omega) (by omega)
    obtain ⟨D, hD⟩ : ∃ D, (⟨(Dy.dec n).toArray⟩ : ByteArray) = D := ⟨_, rfl⟩
    have hDn : Dy.dec n = tl D := by rw [← hD, tl_mk]
    obtain ⟨T, hT⟩ : ∃ T, textOf Days d = T := ⟨_, rfl⟩
    have hE2 : Dy.text 2 n d = tl T ++ Dy.fromL ++ tl D := by rw [← hT, ← hDn]; rfl
    have hE3 : Dy.text 3 n d = tl T ++ Dy.uptoL ++ tl D := by rw [← hT, ← hDn]; rfl
    rw [hT] at hs3
    rw [hD] at hs2
    simp only [hT] at AW
    simp only [hD] at AI
    have HAW := Lib.hid AW
    have HAI := Lib.hid AI
    have HE2 := Lib.hid hE2
    have HE3 := Lib.hid hE3
    clear AW AI hE2 hE3 hT hD hDn
    rcases hk with rfl | rfl
    · have s1 : ∀ W, (Op.stringOp .add T ⟨#[62, 61]⟩).run Tryz.prog W = .ok (.string (T ++ ⟨#[62, 61]⟩)) W := fun W => run_string_add_sum W _ _ (by have : (⟨#[62, 61]⟩ : ByteArray).size = 2 := rfl; omega)
      have s2 : ∀ W, (Op.stringOp .add (T ++ ⟨#[62, 61]⟩) D).run Tryz.prog W = .ok (.string (T ++ ⟨#[62, 61]⟩ ++ D)) W := fun W => run_string_add_sum W _ _ (by rw [ByteArray.size_append]; have : (⟨#[62, 61]⟩ : ByteArray).size = 2 := rfl; omega)
      go_enter Tryz.func57, Tryz.ntmps57
      go_wp2_with fail
      refine (HC.out _).mono ?_
      rintro e w1 ⟨rfl, hb1⟩
      have hb' : Below (w.heap.size + 1) (w.alloc (.cells #[.int .u8 2, .int .i64 n, .int .i64 d] 42)) w1 := hb1.mono (by simp)
      obtain ⟨c0, c1, c2, _, _, _⟩ := new3 hb'
      have HB := Lib.hid (below_new hb')
      have hz : w.heap.size + 1 ≤ w1.heap.size := by have := hb'.size; simpa using this
      clear hb1 hb'
      go_wp2_with fail
      go_region_held3 (fun w' => w'.cell? ⟨w.heap.size, 1, none⟩ = some (.int .i64 n) ∧ w'.cell? ⟨w.heap.size, 2, none⟩ = some (.int .i64 d)) (first | exact ⟨c1, c2⟩ | exact ⟨by assumption, by assumption⟩)
        (first
          | (go_at_call 56; refine (HAI.out _).mono ?_; rintro e w' ⟨rfl, rfl⟩)
          | (go_at_call 77; refine (HAW.out _).mono ?_; rintro e w' ⟨rfl, hb2⟩; have c1' := (hb2.cell (p := ⟨w.heap.size, 1, none⟩) (by simp; omega)); have c2' := (hb2.cell (p := ⟨w.heap.size, 2, none⟩) (by simp; omega)); simp only [*] at c1' c2'))
      all_goals go_wp2
      all_goals go_ret2
      all_goals exact ⟨ret_str2 (by rw [HE2.out, app_mk2]; rfl), below_then HB.out ((Below.refl w1.heap.size w1).drew.trans hb2)⟩
    · have s1 : ∀ W, (Op.stringOp .add T ⟨#[60, 61]⟩).run Tryz.prog W = .ok (.string (T ++ ⟨#[60, 61]⟩)) W := fun W => run_string_add_sum W _ _ (by have : (⟨#[60, 61]⟩ : ByteArray).size = 2 := rfl; omega)
      have s2 : ∀ W, (Op.stringOp .add (T ++ ⟨#[60, 61]⟩) D).run Tryz.prog W = .ok (.string (T ++ ⟨#[60, 61]⟩ ++ D)) W := fun W => run_string_add_sum W _ _ (by rw [ByteArray.size_append]; have : (⟨#[60, 61]⟩ : ByteArray).size = 2 := rfl; omega)
      go_enter Tryz.func57, Tryz.ntmps57
      go_wp2_with fail
      refine (HC.out _).mono ?_
      rintro e w1 ⟨rfl, hb1⟩
      have hb' : Below (w.heap.size + 1) (w.alloc (.cells #[.int .u8 3, .int .i64 n, .int .i64 d] 42)) w1 := hb1.mono (by simp)
      obtain ⟨c0, c1, c2, _, _, _⟩ := new3 hb'
      have HB := Lib.hid (below_new hb')
      have hz : w.heap.size + 1 ≤ w1.heap.size := by have := hb'.size; simpa using this
      clear hb1 hb'
      go_wp2_with fail
      go_region_held3 (fun w' => w'.cell? ⟨w.heap.size, 1, none⟩ = some (.int .i64 n) ∧ w'.cell? ⟨w.heap.size, 2, none⟩ = some (.int .i64 d)) (first | exact ⟨c1, c2⟩ | exact ⟨by assumption, by assumption⟩)
        (first
          | (go_at_call 56; refine (HAI.out _).mono ?_; rintro e w' ⟨rfl, rfl⟩)
          | (go_at_call 77; refine (HAW.out _).mono ?_; rintro e w' ⟨rfl, hb2⟩; have c1' := (hb2.cell (p := ⟨w.heap.size, 1, none⟩) (by simp; omega)); have c2' := (hb2.cell (p := ⟨w.heap.size, 2, none⟩) (by simp; omega)); simp only [*] at c1' c2'))
      all_goals go_wp2
      all_goals go_ret2
      all_goals exact ⟨ret_str2 (by rw [HE3.out, app_mk2]; rfl), below_then HB.out ((Below.refl w1.heap.size w1).drew.trans hb2)⟩
end Go.Proofs.YtlhoggalhjadgaaGreatDoor

/- The contract of day.In. -/
namespace Go.Proofs.YtlhoggalhjadgaaGreatDoor
open Go.RowKit

theorem dayText_bad (k n d : Int) (w : World) (h : ¬ Dy.Ok k n d) :
    Calls Tryz.prog 57 #[.agg #[.int .u8 k, .int .i64 n, .int .i64 d]] w fun e w' => e = .returned (.tuple #[.string ⟨#[]⟩, .int .i64 2]) ∧ Below w.heap.size w w' := by
  have HC := Lib.hid fun W => dayCheck_bad k n d W h
  clear h
  go_enter Tryz.func57, Tryz.ntmps57
  go_wp2_with fail
  refine (HC.out _).mono ?_
  rintro e w1 ⟨rfl, hb1⟩
  have HB := Lib.hid (below_new (hb1.mono (by simp) : Below (w.heap.size + 1) (w.alloc (.cells #[.int .u8 k, .int .i64 n, .int .i64 d] 42)) w1))
  clear hb1
  go_wp2
  go_ret2
  exact ⟨rfl, HB.out⟩

namespace Dy
/-- The day that a kind tells, ahead of the look at the calendar's bounds. -/
def base (k n y m : Int) : Int := Cv.num y m (if k = 1 then Cv.len y m else n)
def res (k n d y m : Int) : Int := if k = 2 then base k n y m + (d - dow (base k n y m)) % 7 else if k = 0 then base k n y m else base k n y m - (dow (base k n y m) - d) % 7
def inS (k n d y m : Int) : Int × Int :=
  if ¬ Ok k n d then (0, 2) else if ¬ (1 ≤ y ∧ y ≤ 9999 ∧ 1 ≤ m ∧ m ≤ 12) then (0, 1) else if n > Cv.len y m then (0, 3)
  else if -719162 ≤ res k n d y m ∧ res k n d y m < 2932897 then (res k n d y m, 0) else (0, 1)
end Dy
theorem dow_bd (n : Int) : 0 ≤ dow n ∧ dow n ≤ 6 := by unfold dow; omega
theorem num_bd (y m d : Int) (h : Cv.Valid y m d) : -719162 ≤ Cv.num y m d ∧ Cv.num y m d < 2932897 := by
  have h1 := Cv.first_le y m d h
  obtain ⟨a, b, _⟩ := h
  have h2 := Cv.first_mono 1 y a
  have h3 := Cv.first_mono (y + 1) 10000 (by omega)
  rw [num_min] at h2
  rw [num_max] at h3
  omega

end Go.Proofs.YtlhoggalhjadgaaGreatDoor

/- The contract of the statements' own 'lives' of package day. -/
namespace Go.Proofs.YtlhoggalhjadgaaGreatDoor
open Go.RowKit

theorem inS_ok (k n d y m : Int) (h : Dy.Ok k n d) (hc : InCal y m) (hn : ¬ n > Cv.len y m) : Dy.inS k n d y m = (if -719162 ≤ Dy.res k n d y m ∧ Dy.res k n d y m < 2932897 then Dy.res k n d y m else 0, if -719162 ≤ Dy.res k n d y m ∧ Dy.res k n d y m < 2932897 then 0 else 1) := by
  unfold Dy.inS
  rw [if_neg (fun x => x h), if_neg (fun x => x hc), if_neg hn]
  by_cases hr : -719162 ≤ Dy.res k n d y m ∧ Dy.res k n d y m < 2932897
  · rw [if_pos hr, if_pos hr, if_pos hr]
  · rw [if_neg hr, if_neg hr, if_neg hr]
theorem parse_is (s : ByteArray) (w : World) (hW : Wl w) (hs : s.size ≤ 1000000) (k n d : Int) (hT : Dy.told (tl s) = (k, n, d)) (hok : Dy.Ok k n d) :
    Calls Tryz.prog 103 #[.string s] w fun e w' => e = .returned (.tuple #[.agg #[.int .u8 k, .int .i64 n, .int .i64 d], .int .i64 0]) ∧ Below w.heap.size w w' :=
  calls_val (parse_any s w hW hs k n d hT) (if_pos hok)
theorem parse_no (s : ByteArray) (w : World) (hW : Wl w) (hs : s.size ≤ 1000000) (k n d : Int) (hT : Dy.told (tl s) = (k, n, d)) (hok : ¬ Dy.Ok k n d) :
    Calls Tryz.prog 103 #[.string s] w fun e w' => e = .returned (.tuple #[.agg #[.int .u8 0, .int .i64 0, .int .i64 0], .int .i64 4]) ∧ Below w.heap.size w w' :=
  calls_val (parse_any s w hW hs k n d hT) (if_neg hok)
/-- What a block of cells holds stays behind what a callee did. -/
theorem kept3 {w w1 : World} {g : Nat} {a b c : Value} (h : w.cell? ⟨g, 0, none⟩ = some a ∧ w.cell? ⟨g, 1, none⟩ = some b ∧ w.cell? ⟨g, 2, none⟩ = some c) (hb : Below w.heap.size w w1) :
    w1.cell? ⟨g, 0, none⟩ = some a ∧ w1.cell? ⟨g, 1, none⟩ = some b ∧ w1.cell? ⟨g, 2, none⟩ = some c := by
  have hg : g < w.heap.size := block_lt_of_cell h.1
  exact ⟨(hb.cell (p := ⟨g, 0, none⟩) hg).trans h.1, (hb.cell (p := ⟨g, 1, none⟩) hg).trans h.2.1, (hb.cell (p := ⟨g, 2, none⟩) hg).trans h.2.2⟩
theorem laid3 (w : World) (a b c : Value) (t : TypeId) : (w.alloc (.cells #[a, b, c] t)).cell? ⟨w.heap.size, 0, none⟩ = some a ∧ (w.alloc (.cells #[a, b, c] t)).cell? ⟨w.heap.size, 1, none⟩ = some b ∧ (w.alloc (.cells #[a, b, c] t)).cell? ⟨w.heap.size, 2, none⟩ = some c :=
  ⟨cell_of_row _ w.heap.size 0 _ _ _ (heap_alloc_new w _), cell_of_row _ w.heap.size 1 _ _ _ (heap_alloc_new w _), cell_of_row _ w.heap.size 2 _ _ _ (heap_alloc_new w _)⟩

theorem kept3a {w w1 : World} {o : Obj} {g : Nat} {a b c : Value} (h : w.cell? ⟨g, 0, none⟩ = some a ∧ w.cell? ⟨g, 1, none⟩ = some b ∧ w.cell? ⟨g, 2, none⟩ = some c) (hb : Below (w.alloc o).heap.size (w.alloc o) w1) :
    w1.cell? ⟨g, 0, none⟩ = some a ∧ w1.cell? ⟨g, 1, none⟩ = some b ∧ w1.cell? ⟨g, 2, none⟩ = some c := kept3 (kept3 h ((Below.refl _ _).alloc (Nat.le_refl _) _)) hb

end Go.Proofs.YtlhoggalhjadgaaGreatDoor

/- The contracts of package clock: instants. -/
namespace Go.Proofs.YtlhoggalhjadgaaGreatDoor
open Go.RowKit

def IsTime (s : Int) : Prop := -604800 ≤ s ∧ s ≤ 604800
instance (s : Int) : Decidable (IsTime s) := by unfold IsTime; exact inferInstance
def InT (s : Int) : Prop := -1099511627776 ≤ s ∧ s ≤ 1099511627776
instance (s : Int) : Decidable (InT s) := by unfold InT; exact inferInstance

theorem isTime_any (s : Int) (w : World) :
    Calls Tryz.prog 79 #[.int .i64 s] w fun e w' => e = .returned (.bool (decide (IsTime s))) ∧ w = w' := by
  by_cases h : IsTime s
  · have HD := Lib.hid (decide_eq_true h)
    obtain ⟨h1, h2⟩ := h
    go_enter Tryz.func79, Tryz.ntmps79
    go_wp2
    go_ret
    exact ⟨ret_bool (by rw [HD.out]), rfl⟩
  · have HD := Lib.hid (decide_eq_false h)
    have h' : s < -604800 ∨ 604800 < s := by unfold IsTime at h; omega
    clear h
    by_cases h1 : s < -604800
    · clear h'
      go_enter Tryz.func79, Tryz.ntmps79
      go_wp2
      go_ret
      exact ⟨ret_bool (by rw [HD.out]), rfl⟩
    · have h2 : 604800 < s := by omega
      clear h'
      go_enter Tryz.func79, Tryz.ntmps79
      go_wp2
      go_ret
      exact ⟨ret_bool (by rw [HD.out]; first | (simp; done) | (simp; omega)), rfl⟩

theorem ret_int22 {k : IntKind} {a b c d : Int} (h : a = b) (h' : c = d) : Ending.returned (.tuple #[.int k a, .int k c]) = .returned (.tuple #[.int k b, .int k d]) := by rw [h, h']
end Go.Proofs.YtlhoggalhjadgaaGreatDoor
