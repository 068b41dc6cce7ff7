/- The contracts of package clock: a time's text is read. -/
import Derived.Test.YtokimlfbfbfenaaDoorClock
import Derived.Lib.AppendIntMem
namespace Go.Proofs.YtokimlfbfbfenaaDoor
open Go.RowKit

namespace Ck
def numC (l : List UInt8) (least most : Nat) : Int := if l.length < least ∨ most < l.length then -1 else Dy.numLoop l 0
def resN (N : Int) : Int := if N = -1 then 0 else N
def okN (N : Int) : Bool := !decide (N = -1)
end Ck
theorem ret_nb {a c : Int} {b d : Bool} (h : a = c) (h' : b = d) : Ending.returned (.tuple #[.int .i64 a, .bool b]) = .returned (.tuple #[.int .i64 c, .bool d]) := by rw [h, h']

theorem numLoop3_bd : ∀ (l : List UInt8) (a : Int), 0 ≤ a → -1 ≤ Dy.numLoop l a := by
  intro l
  induction l with
  | nil => intro a h; simp only [Dy.numLoop]; omega
  | cons c r ih =>
    intro a h
    simp only [Dy.numLoop]
    split
    · omega
    · exact ih _ (by omega)

set_option maxHeartbeats 1000000 in
theorem clockNumber_any (s : ByteArray) (least most : Nat) (w : World) (hs : s.size ≤ maxLen) (hm : most ≤ 3) :
    Calls Tryd.prog 98 #[.string s, .int .i64 least, .int .i64 most] w fun e w' => e = .returned (.tuple #[.int .i64 (Ck.resN (Ck.numC (tl s) least most)), .bool (Ck.okN (Ck.numC (tl s) least most))]) ∧ w = w' := by
  unfold maxLen at hs
  by_cases h1 : s.size < least
  · have hE : Ck.numC (tl s) least most = -1 := by unfold Ck.numC; rw [tl_length, if_pos (.inl h1)]
    rw [hE]
    have q : (s.size : Int) < (least : Int) := by omega
    clear hE h1
    go_enter Tryd.func98, Tryd.ntmps98
    go_wp2
    go_ret2
    exact ⟨rfl, rfl⟩
  by_cases h2 : most < s.size
  · have hE : Ck.numC (tl s) least most = -1 := by unfold Ck.numC; rw [tl_length, if_pos (.inr h2)]
    rw [hE]
    have q : ¬ (s.size : Int) < (least : Int) := by omega
    have q2 : (most : Int) < (s.size : Int) := by omega
    clear hE h1 h2
    go_enter Tryd.func98, Tryd.ntmps98
    go_wp2
    go_ret2
    exact ⟨rfl, rfl⟩
  have hE : Ck.numC (tl s) least most = Dy.numLoop ((tl s).drop 0) 0 := by unfold Ck.numC; rw [tl_length, if_neg (by omega)]; rfl
  have hNb := numLoop3_bd ((tl s).drop 0) 0 (by omega)
  obtain ⟨N, hN⟩ : ∃ N, Ck.numC (tl s) least most = N := ⟨_, rfl⟩
  rw [hN] at hE ⊢
  have HE := Lib.hid hE
  have q : ¬ (s.size : Int) < (least : Int) := by omega
  have q2 : ¬ (most : Int) < (s.size : Int) := by omega
  have q3 : s.size ≤ 3 := by omega
  clear hN hE hNb h1 h2
  go_enter Tryd.func98, Tryd.ntmps98
  go_wp2
  go_loop [8, 22] (fun t i => ∃ (k : Nat) (a : Int), k ≤ s.size ∧ i = .int .i64 k ∧ t = .int .i64 a ∧ 0 ≤ a ∧ a ≤ 999 ∧ Hid (k ≤ 2 → a ≤ 99) ∧ Hid (k ≤ 1 → a ≤ 9) ∧ Hid (k = 0 → a = 0) ∧ Hid (N = Dy.numLoop ((tl s).drop k) a)) (fun _ i => s.size - (intOf i).toNat)
  case atStart => exact ⟨0, 0, by omega, rfl, rfl, by omega, by omega, fun _ => by omega, fun _ => by omega, fun _ => rfl, HE.out⟩
  case round =>
    obtain ⟨k, a, hk, rfl, rfl, a0, a1, HA2, HA1, HA0, HN⟩ := hrel
    by_cases hlt : k < s.size
    · have p1 : (0 : Int) ≤ (k : Int) := by omega
      have p2 : (k : Int) < (s.size : Int) := by omega
      have b1 := u8_bd s[k]
      have a2 : a ≤ 99 := HA2.out (by omega)
      by_cases hc : (s[k].toNat : Int) < 48 ∨ 57 < (s[k].toNat : Int)
      · have HB := Lib.hid (Dy.numLoop_bad (tl s) k s[k] a N HN.out (Dy.tl_get s k hlt) hc)
        by_cases hc1 : (s[k].toNat : Int) < 48
        · clear hc
          go_wp2
          go_ret2
          exact ⟨ret_nb (by rw [HB.out]; rfl) (by rw [HB.out]; rfl), rfl⟩
        · have hc2 : 57 < (s[k].toNat : Int) := by omega
          clear hc
          go_wp2
          go_ret2
          exact ⟨ret_nb (by rw [HB.out]; rfl) (by rw [HB.out]; rfl), rfl⟩
      · have HB := Lib.hid (Dy.numLoop_next (tl s) k s[k] a N HN.out (Dy.tl_get s k hlt) hc)
        have c1 : 48 ≤ (s[k].toNat : Int) := by omega
        have c2 : (s[k].toNat : Int) ≤ 57 := by omega
        have HA0' := HA0.out
        have HA1' := HA1.out
        have HZ : Hid (k + 1 ≤ 1 → a * 10 + ((s[k].toNat : Int) - 48) ≤ 9) := by intro h; have := HA0' (by omega); omega
        have HZ2 : Hid (k + 1 ≤ 2 → a * 10 + ((s[k].toNat : Int) - 48) ≤ 99) := by intro h; have := HA1' (by omega); omega
        clear hc HA0' HA1'
        go_wp2
        go_round
        case rel => exact ⟨k + 1, a * 10 + ((s[k].toNat : Int) - 48), by omega, by go_num, rfl, by omega, by omega, HZ2, HZ, fun h => absurd h (by omega), HB⟩
        case measure => simp [intOf]; omega
    · obtain rfl : k = s.size := by omega
      have HB := Lib.hid (Dy.numLoop_end (tl s) s.size a N HN.out (tl_length s))
      go_wp2
      go_ret2
      have hne : ¬ N = -1 := by have := HB.out; omega
      exact ⟨ret_nb (by unfold Ck.resN; rw [if_neg hne, HB.out]) (by unfold Ck.okN; rw [decide_eq_false hne]; rfl), rfl⟩

/-- What stands in the program's variables: what reading asks. -/
structure Wp (w : World) : Prop where
  p0 : w.cell? ⟨0, 0, none⟩ = some (.int .i64 3600)
  p1 : w.cell? ⟨0, 1, none⟩ = some (.int .i64 60)
  p2 : w.cell? ⟨0, 2, none⟩ = some (.int .i64 1)
  maxl : ∃ m, w.cell? ⟨4, 0, none⟩ = some (.int .i64 m)
theorem Wp.below {w w' : World} (h : Wp w) (hb : Below w.heap.size w w') : Wp w' := by
  obtain ⟨m, hm⟩ := h.maxl
  have hl : 0 < w.heap.size := block_lt_of_cell h.p0
  exact ⟨(hb.cell (p := ⟨_, 0, none⟩) hl).trans h.p0, (hb.cell (p := ⟨_, 1, none⟩) hl).trans h.p1, (hb.cell (p := ⟨_, 2, none⟩) hl).trans h.p2,
    ⟨m, (hb.cell (p := ⟨_, 0, none⟩) (block_lt_of_cell hm)).trans hm⟩⟩
/-- What stands in the program's variables: what writing asks, too. -/
structure Wc (w : World) : Prop where
  p0 : w.cell? ⟨0, 0, none⟩ = some (.int .i64 3600)
  p1 : w.cell? ⟨0, 1, none⟩ = some (.int .i64 60)
  p2 : w.cell? ⟨0, 2, none⟩ = some (.int .i64 1)
  maxl : ∃ m, w.cell? ⟨4, 0, none⟩ = some (.int .i64 m)
  pow : Lib.TabIs Tryd.prog w "internal/strconv.uint64pow10" .u64 Lib.pow10Tab
theorem Wc.below {w w' : World} (h : Wc w) (hb : Below w.heap.size w w') : Wc w' := by
  obtain ⟨m, hm⟩ := h.maxl
  have hl : 0 < w.heap.size := block_lt_of_cell h.p0
  exact ⟨(hb.cell (p := ⟨_, 0, none⟩) hl).trans h.p0, (hb.cell (p := ⟨_, 1, none⟩) hl).trans h.p1, (hb.cell (p := ⟨_, 2, none⟩) hl).trans h.p2,
    ⟨m, (hb.cell (p := ⟨_, 0, none⟩) (block_lt_of_cell hm)).trans hm⟩, Lib.tabBelow_of_tabIs h.pow w' hb⟩
theorem Wc.p {w : World} (h : Wc w) : Wp w := ⟨h.p0, h.p1, h.p2, h.maxl⟩
end Go.Proofs.YtokimlfbfbfenaaDoor
