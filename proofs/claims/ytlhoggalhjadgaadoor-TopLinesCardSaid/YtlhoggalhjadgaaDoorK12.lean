/- The contracts of package moment: Text, year, CheckUntil. -/
import Derived.Test.YtlhoggalhjadgaaDoorK09
import Derived.Test.YtlhoggalhjadgaaDoorK01
import Derived.Test.YtlhoggalhjadgaaDoorK02
namespace Go.Proofs.YtlhoggalhjadgaaDoor
open Go.RowKit

/-- A text of its bytes. -/
theorem add_txt (a b : List UInt8) (h : a.length + b.length ≤ 1000000) (W : World) : (Op.stringOp .add ⟨a.toArray⟩ ⟨b.toArray⟩).run Tryd.prog W = .ok (.string ⟨(a ++ b).toArray⟩) W := by
  have e : (⟨a.toArray⟩ : ByteArray) ++ ⟨b.toArray⟩ = ⟨(a ++ b).toArray⟩ := by
    apply ByteArray.ext
    simp [ByteArray.data_append]
  rw [← e]
  exact run_string_add_sum W _ _ (by simp only [size_mk]; omega)
namespace Mo
def tail (c : Int) : List UInt8 := if c = 1 then [115] else if c = 2 then [117] else []
def text (s c : Int) : List UInt8 := Ck.text s ++ tail c
/-- What one to four digits tell; -1: they are none. -/
def yearN (l : List UInt8) : Int := if l.length < 1 ∨ 4 < l.length then -1 else Dy.numLoop l 0
def yearV (N : Int) : Int := if N = -1 then 0 else N
def yearB (N : Int) : Bool := decide (1 ≤ N ∧ N ≤ 9999)
end Mo
theorem momText_bad (s c : Int) (w : World) (h : ¬ Mo.Ok s c) :
    Calls Tryd.prog 16 #[.agg #[.int .i64 s, .int .u8 c]] w fun e w' => e = .returned (.tuple #[.string ⟨#[]⟩, .int .i64 2]) ∧ Below w.heap.size w w' := by
  have HC := Lib.hid fun W => momCheck_bad s c W h
  clear h
  go_enter Tryd.func16, Tryd.ntmps16
  go_wp2_with fail
  refine (HC.out _).mono ?_
  rintro e w1 ⟨rfl, hb1⟩
  have HB := Lib.hid (below_new (hb1.mono (by simp) : Below (w.heap.size + 1) (w.alloc (.cells #[.int .i64 s, .int .u8 c] 27)) w1))
  clear hb1
  go_wp2
  go_ret2
  exact ⟨rfl, HB.out⟩
set_option maxHeartbeats 1000000 in
theorem momText_ok (s c : Int) (w : World) (hW : Wc w) (h : Mo.Ok s c) (h0 : 0 ≤ c) :
    Calls Tryd.prog 16 #[.agg #[.int .i64 s, .int .u8 c]] w fun e w' => e = .returned (.tuple #[.string ⟨(Mo.text s c).toArray⟩, .int .i64 0]) ∧ Below w.heap.size w w' := by
  have HC := Lib.hid fun W => momCheck_ok s c W h
  have hT := fun W hw => clockText_any s W hw
  have hl := Ck.text_size s
  rw [size_mk] at hl
  have HW := Lib.hid hW
  have hX : Mo.text s c = Ck.text s ++ Mo.tail c := rfl
  obtain ⟨X, hXX⟩ : ∃ X, Ck.text s = X := ⟨_, rfl⟩
  simp only [hXX] at hT hl hX
  have HT := Lib.hid hT
  have hc : c = 0 ∨ c = 1 ∨ c = 2 := by have := h.2; omega
  have s1 := add_txt X [115] (by simp; omega)
  have s2 := add_txt X [117] (by simp; omega)
  obtain ⟨X1, hX1⟩ : ∃ Y : ByteArray, ⟨(X ++ [115]).toArray⟩ = Y := ⟨_, rfl⟩
  obtain ⟨X2, hX2⟩ : ∃ Y : ByteArray, ⟨(X ++ [117]).toArray⟩ = Y := ⟨_, rfl⟩
  obtain ⟨X0, hX0⟩ : ∃ Y : ByteArray, ⟨X.toArray⟩ = Y := ⟨_, rfl⟩
  rw [hX1] at s1
  rw [hX2] at s2
  rw [hX0] at s1 s2 HT
  have HX := Lib.hid hX
  have HX0 := Lib.hid hX0
  have HX1 := Lib.hid hX1
  have HX2 := Lib.hid hX2
  clear hX hT hXX h h0 hW hl hX0 hX1 hX2
  rcases hc with rfl | rfl | rfl
  all_goals
    go_enter Tryd.func16, Tryd.ntmps16
    go_wp2_with fail
    refine (HC.out _).mono ?_
    rintro e w1 ⟨rfl, hb1⟩
    obtain ⟨c1, f1⟩ := bcell hb1
    have z1 : w.heap.size < w1.heap.size := by have := hb1.size; simp at this; omega
    have HB := Lib.hid (below_new (hb1.mono (by simp) : Below (w.heap.size + 1) (w.alloc (.cells #[.int .i64 s, .int .u8 _] 27)) w1))
    clear hb1
    go_wp2_with fail
    refine (HT.out _ (HW.out.below HB.out)).mono ?_
    rintro e w2 ⟨rfl, hb2⟩
    obtain ⟨c2, f2⟩ := bcell hb2
    replace HB := Lib.hid (below_then HB.out hb2)
    clear hb2
    go_wp2
    go_ret2
    refine ⟨ret_str2 ?_, HB.out⟩
    rw [HX.out]
    first | (rw [← HX0.out]; simp [Mo.tail]; done) | (rw [← HX1.out]; simp [Mo.tail]; done) | (rw [← HX2.out]; simp [Mo.tail]; done)

theorem numLoop4_bd : ∀ (l : List UInt8) (a : Int), 0 ≤ a → -1 ≤ Dy.numLoop l a := numLoop3_bd
set_option maxHeartbeats 1000000 in
theorem momYear_any (s : ByteArray) (w : World) (hs : s.size ≤ 1000000) :
    Calls Tryd.prog 47 #[.string s] w fun e w' => e = .returned (.tuple #[.int .i64 (Mo.yearV (Mo.yearN (tl s))), .bool (Mo.yearB (Mo.yearN (tl s)))]) ∧ w = w' := by
  by_cases h1 : s.size < 1
  · have hE : Mo.yearN (tl s) = -1 := by unfold Mo.yearN; rw [tl_length, if_pos (.inl h1)]
    rw [hE]
    have q : (s.size : Int) < 1 := by omega
    clear hE h1
    go_enter Tryd.func47, Tryd.ntmps47
    go_wp2
    go_ret2
    exact ⟨rfl, rfl⟩
  by_cases h2 : 4 < s.size
  · have hE : Mo.yearN (tl s) = -1 := by unfold Mo.yearN; rw [tl_length, if_pos (.inr h2)]
    rw [hE]
    have q : ¬ (s.size : Int) < 1 := by omega
    have q2 : (4 : Int) < (s.size : Int) := by omega
    clear hE h1 h2
    go_enter Tryd.func47, Tryd.ntmps47
    go_wp2
    go_ret2
    exact ⟨rfl, rfl⟩
  have hE : Mo.yearN (tl s) = Dy.numLoop ((tl s).drop 0) 0 := by unfold Mo.yearN; rw [tl_length, if_neg (by omega)]; rfl
  obtain ⟨N, hN⟩ : ∃ N, Mo.yearN (tl s) = N := ⟨_, rfl⟩
  rw [hN] at hE ⊢
  have HE := Lib.hid hE
  have q : ¬ (s.size : Int) < 1 := by omega
  have q2 : ¬ (4 : Int) < (s.size : Int) := by omega
  have q3 : s.size ≤ 4 := by omega
  clear hN hE h1 h2
  go_enter Tryd.func47, Tryd.ntmps47
  go_wp2
  go_loop [4, 16] (fun t i => ∃ (k : Nat) (a : Int), k ≤ s.size ∧ i = .int .i64 k ∧ t = .int .i64 a ∧ 0 ≤ a ∧ a ≤ 9999 ∧ Hid (k ≤ 3 → a ≤ 999) ∧ Hid (k ≤ 2 → a ≤ 99) ∧ Hid (k ≤ 1 → a ≤ 9) ∧ Hid (k = 0 → a = 0) ∧ Hid (N = Dy.numLoop ((tl s).drop k) a)) (fun _ i => s.size - (intOf i).toNat)
  case atStart => exact ⟨0, 0, by omega, rfl, rfl, by omega, by omega, fun _ => by omega, fun _ => by omega, fun _ => by omega, fun _ => rfl, HE.out⟩
  case round =>
    obtain ⟨k, a, hk, rfl, rfl, a0, a1, HA3, HA2, HA1, HA0, HN⟩ := hrel
    by_cases hlt : k < s.size
    · have p1 : (0 : Int) ≤ (k : Int) := by omega
      have p2 : (k : Int) < (s.size : Int) := by omega
      have b1 := u8_bd s[k]
      have a2 : a ≤ 999 := HA3.out (by omega)
      by_cases hc : (s[k].toNat : Int) < 48 ∨ 57 < (s[k].toNat : Int)
      · have HB := Lib.hid (Dy.numLoop_bad (tl s) k s[k] a N HN.out (Dy.tl_get s k hlt) hc)
        by_cases hc1 : (s[k].toNat : Int) < 48
        · clear hc
          go_wp2
          go_ret2
          exact ⟨ret_nb (by rw [HB.out]; rfl) (by rw [HB.out]; rfl), rfl⟩
        · have hc2 : 57 < (s[k].toNat : Int) := by omega
          clear hc
          go_wp2
          go_ret2
          exact ⟨ret_nb (by rw [HB.out]; rfl) (by rw [HB.out]; rfl), rfl⟩
      · have HB := Lib.hid (Dy.numLoop_next (tl s) k s[k] a N HN.out (Dy.tl_get s k hlt) hc)
        have c1 : 48 ≤ (s[k].toNat : Int) := by omega
        have c2 : (s[k].toNat : Int) ≤ 57 := by omega
        have HA0' := HA0.out
        have HA1' := HA1.out
        have HA2' := HA2.out
        have HZ : Hid (k + 1 ≤ 1 → a * 10 + ((s[k].toNat : Int) - 48) ≤ 9) := by intro h; have := HA0' (by omega); omega
        have HZ2 : Hid (k + 1 ≤ 2 → a * 10 + ((s[k].toNat : Int) - 48) ≤ 99) := by intro h; have := HA1' (by omega); omega
        have HZ3 : Hid (k + 1 ≤ 3 → a * 10 + ((s[k].toNat : Int) - 48) ≤ 999) := by intro h; have := HA2' (by omega); omega
        clear hc HA0' HA1' HA2'
        go_wp2
        go_round
        case rel => exact ⟨k + 1, a * 10 + ((s[k].toNat : Int) - 48), by omega, by go_num, rfl, by omega, by omega, HZ3, HZ2, HZ, fun h => absurd h (by omega), HB⟩
        case measure => simp [intOf]; omega
    · obtain rfl : k = s.size := by omega
      have HB := Lib.hid (Dy.numLoop_end (tl s) s.size a N HN.out (tl_length s))
      have hne : ¬ N = -1 := by have := HB.out; omega
      by_cases hz : 1 ≤ a
      · go_wp2
        go_ret2
        exact ⟨ret_nb (by unfold Mo.yearV; rw [if_neg hne, HB.out]) (by unfold Mo.yearB; rw [HB.out, decide_eq_true (show 1 ≤ a ∧ a ≤ 9999 by omega)]), rfl⟩
      · go_wp2
        go_ret2
        exact ⟨ret_nb (by unfold Mo.yearV; rw [if_neg hne, HB.out]) (by unfold Mo.yearB; rw [HB.out, decide_eq_false (show ¬ (1 ≤ a ∧ a ≤ 9999) by omega)]), rfl⟩
end Go.Proofs.YtlhoggalhjadgaaDoor
/- The contracts of package word: the months. -/
namespace Go.Proofs.YtlhoggalhjadgaaDoor
open Go.RowKit

def Months : List ByteArray := [⟨#[74, 97, 110, 117, 97, 114, 121]⟩, ⟨#[70, 101, 98, 114, 117, 97, 114, 121]⟩, ⟨#[77, 97, 114, 99, 104]⟩, ⟨#[65, 112, 114, 105, 108]⟩, ⟨#[77, 97, 121]⟩, ⟨#[74, 117, 110, 101]⟩, ⟨#[74, 117, 108, 121]⟩, ⟨#[65, 117, 103, 117, 115, 116]⟩, ⟨#[83, 101, 112, 116, 101, 109, 98, 101, 114]⟩, ⟨#[79, 99, 116, 111, 98, 101, 114]⟩, ⟨#[78, 111, 118, 101, 109, 98, 101, 114]⟩, ⟨#[68, 101, 99, 101, 109, 98, 101, 114]⟩]

theorem months_any (w : World) :
    Calls Tryd.prog 34 #[] w fun e w' => e = .returned (.slice (some ⟨w.heap.size, 0, none⟩) 12 12) ∧ w' = w.alloc (.cells (strCells Months) 9) := by
  go_enter Tryd.func34, Tryd.ntmps34
  go_wp2
  go_ret
  exact ⟨rfl, rfl⟩

theorem month_any (s : ByteArray) (w : World) (hs : s.size ≤ maxLen) :
    Calls Tryd.prog 42 #[.string s] w fun e w' => e = .returned (.int .i64 (Wd.pick (tl s) (Months.map tl) + 1)) ∧ Below w.heap.size w w' := by
  have hb := Wd.pick_bd (tl s) (Months.map tl) (by decide)
  go_enter Tryd.func42, Tryd.ntmps42
  go_wp2_with fail
  refine (months_any _).mono ?_
  rintro e w1 ⟨rfl, rfl⟩
  go_wp2_with fail
  refine (pick_any s _ 12 12 Months _ hs (by unfold maxLen; omega) (reads_new w Months 9)).mono ?_
  rintro e w2 ⟨rfl, HD⟩
  go_wp2
  go_ret
  exact ⟨rfl, ((Below.refl _ _).alloc (Nat.le_refl _) _).trans (HD.below _)⟩

theorem months_len (k : Nat) (hk : k < 12) : ∃ nm, Months[k]? = some nm ∧ 3 ≤ nm.size ∧ textOf Months (k : Int) = nm.extract 0 3 := by
  have : k = 0 ∨ k = 1 ∨ k = 2 ∨ k = 3 ∨ k = 4 ∨ k = 5 ∨ k = 6 ∨ k = 7 ∨ k = 8 ∨ k = 9 ∨ k = 10 ∨ k = 11 := by omega
  rcases this with rfl | rfl | rfl | rfl | rfl | rfl | rfl | rfl | rfl | rfl | rfl | rfl <;> exact ⟨_, rfl, by decide, rfl⟩

theorem monthText_any (m : Int) (w : World) :
    Calls Tryd.prog 17 #[.int .i64 m] w fun e w' => e = .returned (.string (textOf Months (m - 1))) ∧ Below w.heap.size w w' := by
  by_cases h1 : m < 1
  · have HE := Lib.hid (textOf_out Months (m - 1) (by omega))
    go_enter Tryd.func17, Tryd.ntmps17
    go_wp2
    go_ret
    exact ⟨by rw [HE.out]; rfl, Below.refl _ _⟩
  · by_cases h2 : 12 < m
    · have HE := Lib.hid (textOf_out Months (m - 1) (by simp [Months]; omega))
      go_enter Tryd.func17, Tryd.ntmps17
      go_wp2
      go_ret
      exact ⟨by rw [HE.out]; rfl, Below.refl _ _⟩
    · obtain ⟨k, hk⟩ : ∃ k : Nat, m - 1 = (k : Int) := ⟨(m - 1).toNat, by omega⟩
      obtain ⟨nm, h3, h4, h5⟩ := months_len k (by omega)
      have hc := cell_new w Months 9 k nm h3
      rw [← hk] at h5
      have H5 := Lib.hid h5
      have q1 : (0 : Int) ≤ (k : Int) := by omega
      have q2 : (k : Int) < 12 := by omega
      obtain rfl : m = (k : Int) + 1 := by omega
      clear h5 h3 hk h1 h2
      go_enter Tryd.func17, Tryd.ntmps17
      go_wp2_with fail
      refine (months_any _).mono ?_
      rintro e w1 ⟨rfl, rfl⟩
      go_wp2
      go_ret
      exact ⟨ret_str H5.out.symm, (Below.refl _ _).alloc (Nat.le_refl _) _⟩
end Go.Proofs.YtlhoggalhjadgaaDoor
