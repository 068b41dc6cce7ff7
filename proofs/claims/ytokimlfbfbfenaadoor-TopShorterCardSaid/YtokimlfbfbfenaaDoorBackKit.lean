/- Words for the laws of there and back: few and short texts; texts that are there or not. -/
import Derived.Test.YtokimlfbfbfenaaDoorUntilText
import Derived.Test.YtokimlfbfbfenaaDoorMomMath
namespace Go.Proofs.YtokimlfbfbfenaaDoor
open Go.RowKit

/-- Whether texts are few, and short. -/
def smallB (lim : Nat) (ss : List ByteArray) : Bool := decide (ss.length ≤ lim) && ss.all fun t => decide (t.size ≤ 1000)
theorem small_of {lim : Nat} {ss : List ByteArray} (h : smallB lim ss = true) : ss.length ≤ lim ∧ ∀ t ∈ ss, t.size ≤ 1000 := by
  unfold smallB at h
  simp only [Bool.and_eq_true, decide_eq_true_eq, List.all_eq_true] at h
  exact h
/-- A moment's text, or none. -/
theorem momText_both (s c : Int) (h0 : 0 ≤ c) : ∃ (X : ByteArray) (e : Int), (∀ W, Wc W → Calls Tryd.prog 22 #[.agg #[.int .i64 s, .int .u8 c]] W fun r w' => r = .returned (.tuple #[.string X, .int .i64 e]) ∧ Below W.heap.size W w') ∧
    ((Mo.Ok s c ∧ e = 0 ∧ Mo.parse X = ((s, c), 0) ∧ X.size ≤ 1000000) ∨ e = 2) := by
  by_cases h : Mo.Ok s c
  · refine ⟨_, _, fun W hw => momText_ok s c W hw h h0, .inl ⟨h, rfl, Mo.parse_text s c h h0, ?_⟩⟩
    have := Ck.text_size s
    rw [size_mk] at this ⊢
    unfold Mo.text Mo.tail
    split <;> (try split) <;> simp <;> omega
  · exact ⟨_, _, fun W _ => momText_bad s c W h, .inr rfl⟩
/-- An until's texts, or none. -/
def UTexts (u : Mo.U) (w : World) (r : Ending) (w' : World) : Prop :=
  ∃ (A : Option Addr) (n c : Nat) (e : Int), r = .returned (.tuple #[.slice A n c, .int .i64 e]) ∧ Below w.heap.size w w' ∧ n ≤ c ∧ c ≤ maxLen ∧ ((u.Ok ∧ e = 0 ∧ n = u.texts.length ∧ Reads w' w'.heap.size 1 A n (u.texts.map Value.string)) ∨ (¬ u.Ok ∧ e = 2))
theorem textUntil_both (u : Mo.U) (w : World) (hW : Wc w) (hc : 0 ≤ u.c) : Calls Tryd.prog 24 #[u.v] w (UTexts u w) := by
  by_cases h : u.Ok
  · exact (textUntil_ok u w hW h hc).mono fun r w' ⟨A, c, hcap, he, hr, hb⟩ => ⟨A, _, c, 0, he, hb, hcap.1, hcap.2, .inl ⟨h, rfl, rfl, hr⟩⟩
  · exact (textUntil_bad u w h).mono fun r w' ⟨he, hb⟩ => ⟨none, 0, 0, 2, he, hb, Nat.le_refl _, by decide, .inr ⟨h, rfl⟩⟩
theorem reads_less {w : World} {B n : Nat} {A : Option Addr} {l : List ByteArray} (h : Reads w B 1 A n (l.map Value.string)) (k : Nat) (hk : k ≤ n) : Reads w B 1 A k ((l.take k).map Value.string) := by
  have hl : l.length = n := by have := h.1; simpa using this
  refine ⟨by simp; omega, fun h0 => ?_⟩
  obtain ⟨ad, e, hb, hc⟩ := h.2 (by omega)
  refine ⟨ad, e, hb, fun j v hj => hc j v ?_⟩
  rw [List.map_take, List.getElem?_take] at hj
  split at hj
  · exact hj
  · simp at hj
theorem dayText_len (k n d : Int) : (Dy.text k n d).length ≤ 10 := by
  have h3 : (tl (textOf Days d)).length ≤ 3 := by rw [tl_length]; exact textDays_size d
  have h2 : (Dy.dec n).length ≤ 2 := dec_size n
  have e1 : Dy.lastL.length = 4 := rfl
  have e2 : Dy.fromL.length = 2 := rfl
  have e3 : Dy.uptoL.length = 2 := rfl
  unfold Dy.text
  split
  · rw [List.length_append]; omega
  · split
    · rw [List.length_append, List.length_append]; omega
    · split
      · rw [List.length_append, List.length_append]; omega
      · omega
theorem monthText_len (m : Int) : (textOf Months m).size ≤ 3 := by
  unfold textOf
  split
  · simp only [ByteArray.size_extract]; omega
  · decide
theorem texts_small (u : Mo.U) (h : u.Ok) : ∀ t ∈ u.texts, t.size ≤ 1000000 := by
  intro t ht
  have ht' : t ∈ u.full := List.mem_of_mem_take ht
  unfold Mo.U.full at ht'
  simp only [List.mem_cons, List.not_mem_nil, or_false] at ht'
  rcases ht' with rfl | rfl | rfl | rfl
  · rw [size_mk]
    have := Dy.dec_len u.y.toNat (by have := h.1.1; have := h.1.2.1; omega)
    unfold Lib.itoa
    rw [if_neg (by have := h.1.1; omega)]
    omega
  · have := monthText_len (u.m - 1); omega
  · have := dayText_len u.k u.n u.d; rw [size_mk]; omega
  · have := Ck.text_size u.s
    rw [size_mk] at this ⊢
    unfold Mo.text Mo.tail
    split <;> (try split) <;> simp <;> omega
set_option maxHeartbeats 1000000 in
theorem small07_any (A : Option Addr) (n c : Nat) (ss : List ByteArray) (w : World) (hn : n ≤ maxLen) (hr : Reads w w.heap.size 1 A n (ss.map Value.string)) (hs : ∀ t ∈ ss, t.size ≤ maxLen) :
    Calls Tryd.prog 21 #[.slice A n c] w fun e w' => e = .returned (.bool (smallB 20 ss)) ∧ w = w' := by
  unfold maxLen at hn hs
  have hlen : ss.length = n := by have := hr.1; simpa using this
  obtain ⟨X, hX⟩ : ∃ X, smallB 20 ss = X := ⟨_, rfl⟩
  have h0 : X = (decide (n ≤ 20) && (ss.drop 0).all fun t => decide (t.size ≤ 1000)) := by rw [← hX, ← hlen]; rfl
  rw [hX]
  have H0 := Lib.hid h0
  have HR := Lib.hid hr
  have HS := Lib.hid hs
  have HLen := Lib.hid hlen
  clear hX h0 hr hs hlen
  go_enter Tryd.func21, Tryd.ntmps21
  go_wp2
  go_loop [7] (fun i => ∃ k : Nat, k ≤ n ∧ k ≤ 20 ∧ i = .int .i64 k ∧ Hid (X = (decide (n ≤ 20) && (ss.drop k).all fun t => decide (t.size ≤ 1000)))) (fun i => n - (intOf i).toNat)
  case atStart => exact ⟨0, Nat.zero_le _, by omega, rfl, H0.out⟩
  case round =>
    obtain ⟨k, hk, hkl, rfl, HK⟩ := hrel
    by_cases hlt : k < n
    · obtain ⟨ad, t, rfl, hnm, hcell⟩ : ∃ ad nm, A = some ad ∧ Hid (ss[k]? = some nm) ∧ w.cell? (ad.add k) = some (.string nm) := reads_str HR.out hlt
      have q1 : (0 : Int) ≤ (k : Int) := by omega
      have q2 : (k : Int) < (n : Int) := by omega
      have hts := HS.out t (List.mem_iff_getElem?.2 ⟨k, hnm.out⟩)
      by_cases h20 : k = 20
      · have q3 : ((k : Int) == 20) = true := by rw [beq_iff_eq]; omega
        have HX : Hid (X = false) := by
          show X = false
          rw [HK.out, decide_eq_false (show ¬ n ≤ 20 by omega), Bool.false_and]
        clear h20
        go_wp2
        go_ret
        exact ⟨ret_bool (by rw [HX.out]), rfl⟩
      · have q3 : ((k : Int) == 20) = false := by rw [beq_eq_false_iff_ne]; omega
        have h21 : k + 1 ≤ 20 := by omega
        have hst : X = (decide (n ≤ 20) && (decide (t.size ≤ 1000) && (ss.drop (k + 1)).all fun t => decide (t.size ≤ 1000))) := by
          rw [HK.out, drop_of hnm.out, List.all_cons]
        by_cases hz : t.size ≤ 1000
        · have HX : Hid (X = (decide (n ≤ 20) && (ss.drop (k + 1)).all fun t => decide (t.size ≤ 1000))) := by
            show X = _
            rw [hst, decide_eq_true hz, Bool.true_and]
          have q4 : ¬ (1000 : Int) < (t.size : Int) := by omega
          clear hst hz h20
          go_wp2
          go_round
          case rel => exact ⟨k + 1, by omega, h21, by go_num, HX⟩
          case measure => simp [intOf]; omega
        · have HX : Hid (X = false) := by
            show X = false
            rw [hst, decide_eq_false hz, Bool.false_and, Bool.and_false]
          have q4 : (1000 : Int) < (t.size : Int) := by omega
          clear hst hz h20
          go_wp2
          go_ret
          exact ⟨ret_bool (by rw [HX.out]), rfl⟩
    · obtain rfl : k = n := by omega
      have HX : Hid (X = true) := by
        show X = true
        rw [HK.out, decide_eq_true hkl, List.drop_eq_nil_of_le (by have := HLen.out; omega)]
        rfl
      go_wp2
      go_ret
      exact ⟨ret_bool (by rw [HX.out]), rfl⟩
set_option maxHeartbeats 1000000 in
theorem small09_any (A : Option Addr) (n c : Nat) (ss : List ByteArray) (w : World) (hn : n ≤ maxLen) (hr : Reads w w.heap.size 1 A n (ss.map Value.string)) (hs : ∀ t ∈ ss, t.size ≤ maxLen) :
    Calls Tryd.prog 17 #[.slice A n c] w fun e w' => e = .returned (.bool (smallB 30 ss)) ∧ w = w' := by
  unfold maxLen at hn hs
  have hlen : ss.length = n := by have := hr.1; simpa using this
  obtain ⟨X, hX⟩ : ∃ X, smallB 30 ss = X := ⟨_, rfl⟩
  have h0 : X = (decide (n ≤ 30) && (ss.drop 0).all fun t => decide (t.size ≤ 1000)) := by rw [← hX, ← hlen]; rfl
  rw [hX]
  have H0 := Lib.hid h0
  have HR := Lib.hid hr
  have HS := Lib.hid hs
  have HLen := Lib.hid hlen
  clear hX h0 hr hs hlen
  go_enter Tryd.func17, Tryd.ntmps17
  go_wp2
  go_loop [7] (fun i => ∃ k : Nat, k ≤ n ∧ k ≤ 30 ∧ i = .int .i64 k ∧ Hid (X = (decide (n ≤ 30) && (ss.drop k).all fun t => decide (t.size ≤ 1000)))) (fun i => n - (intOf i).toNat)
  case atStart => exact ⟨0, Nat.zero_le _, by omega, rfl, H0.out⟩
  case round =>
    obtain ⟨k, hk, hkl, rfl, HK⟩ := hrel
    by_cases hlt : k < n
    · obtain ⟨ad, t, rfl, hnm, hcell⟩ : ∃ ad nm, A = some ad ∧ Hid (ss[k]? = some nm) ∧ w.cell? (ad.add k) = some (.string nm) := reads_str HR.out hlt
      have q1 : (0 : Int) ≤ (k : Int) := by omega
      have q2 : (k : Int) < (n : Int) := by omega
      have hts := HS.out t (List.mem_iff_getElem?.2 ⟨k, hnm.out⟩)
      by_cases h20 : k = 30
      · have q3 : ((k : Int) == 30) = true := by rw [beq_iff_eq]; omega
        have HX : Hid (X = false) := by
          show X = false
          rw [HK.out, decide_eq_false (show ¬ n ≤ 30 by omega), Bool.false_and]
        clear h20
        go_wp2
        go_ret
        exact ⟨ret_bool (by rw [HX.out]), rfl⟩
      · have q3 : ((k : Int) == 30) = false := by rw [beq_eq_false_iff_ne]; omega
        have h21 : k + 1 ≤ 30 := by omega
        have hst : X = (decide (n ≤ 30) && (decide (t.size ≤ 1000) && (ss.drop (k + 1)).all fun t => decide (t.size ≤ 1000))) := by
          rw [HK.out, drop_of hnm.out, List.all_cons]
        by_cases hz : t.size ≤ 1000
        · have HX : Hid (X = (decide (n ≤ 30) && (ss.drop (k + 1)).all fun t => decide (t.size ≤ 1000))) := by
            show X = _
            rw [hst, decide_eq_true hz, Bool.true_and]
          have q4 : ¬ (1000 : Int) < (t.size : Int) := by omega
          clear hst hz h20
          go_wp2
          go_round
          case rel => exact ⟨k + 1, by omega, h21, by go_num, HX⟩
          case measure => simp [intOf]; omega
        · have HX : Hid (X = false) := by
            show X = false
            rw [hst, decide_eq_false hz, Bool.false_and, Bool.and_false]
          have q4 : (1000 : Int) < (t.size : Int) := by omega
          clear hst hz h20
          go_wp2
          go_ret
          exact ⟨ret_bool (by rw [HX.out]), rfl⟩
    · obtain rfl : k = n := by omega
      have HX : Hid (X = true) := by
        show X = true
        rw [HK.out, decide_eq_true hkl, List.drop_eq_nil_of_le (by have := HLen.out; omega)]
        rfl
      go_wp2
      go_ret
      exact ⟨ret_bool (by rw [HX.out]), rfl⟩
set_option maxHeartbeats 1000000 in
theorem small10_any (A : Option Addr) (n c : Nat) (ss : List ByteArray) (w : World) (hn : n ≤ maxLen) (hr : Reads w w.heap.size 1 A n (ss.map Value.string)) (hs : ∀ t ∈ ss, t.size ≤ maxLen) :
    Calls Tryd.prog 31 #[.slice A n c] w fun e w' => e = .returned (.bool (smallB 30 ss)) ∧ w = w' := by
  unfold maxLen at hn hs
  have hlen : ss.length = n := by have := hr.1; simpa using this
  obtain ⟨X, hX⟩ : ∃ X, smallB 30 ss = X := ⟨_, rfl⟩
  have h0 : X = (decide (n ≤ 30) && (ss.drop 0).all fun t => decide (t.size ≤ 1000)) := by rw [← hX, ← hlen]; rfl
  rw [hX]
  have H0 := Lib.hid h0
  have HR := Lib.hid hr
  have HS := Lib.hid hs
  have HLen := Lib.hid hlen
  clear hX h0 hr hs hlen
  go_enter Tryd.func31, Tryd.ntmps31
  go_wp2
  go_loop [7] (fun i => ∃ k : Nat, k ≤ n ∧ k ≤ 30 ∧ i = .int .i64 k ∧ Hid (X = (decide (n ≤ 30) && (ss.drop k).all fun t => decide (t.size ≤ 1000)))) (fun i => n - (intOf i).toNat)
  case atStart => exact ⟨0, Nat.zero_le _, by omega, rfl, H0.out⟩
  case round =>
    obtain ⟨k, hk, hkl, rfl, HK⟩ := hrel
    by_cases hlt : k < n
    · obtain ⟨ad, t, rfl, hnm, hcell⟩ : ∃ ad nm, A = some ad ∧ Hid (ss[k]? = some nm) ∧ w.cell? (ad.add k) = some (.string nm) := reads_str HR.out hlt
      have q1 : (0 : Int) ≤ (k : Int) := by omega
      have q2 : (k : Int) < (n : Int) := by omega
      have hts := HS.out t (List.mem_iff_getElem?.2 ⟨k, hnm.out⟩)
      by_cases h20 : k = 30
      · have q3 : ((k : Int) == 30) = true := by rw [beq_iff_eq]; omega
        have HX : Hid (X = false) := by
          show X = false
          rw [HK.out, decide_eq_false (show ¬ n ≤ 30 by omega), Bool.false_and]
        clear h20
        go_wp2
        go_ret
        exact ⟨ret_bool (by rw [HX.out]), rfl⟩
      · have q3 : ((k : Int) == 30) = false := by rw [beq_eq_false_iff_ne]; omega
        have h21 : k + 1 ≤ 30 := by omega
        have hst : X = (decide (n ≤ 30) && (decide (t.size ≤ 1000) && (ss.drop (k + 1)).all fun t => decide (t.size ≤ 1000))) := by
          rw [HK.out, drop_of hnm.out, List.all_cons]
        by_cases hz : t.size ≤ 1000
        · have HX : Hid (X = (decide (n ≤ 30) && (ss.drop (k + 1)).all fun t => decide (t.size ≤ 1000))) := by
            show X = _
            rw [hst, decide_eq_true hz, Bool.true_and]
          have q4 : ¬ (1000 : Int) < (t.size : Int) := by omega
          clear hst hz h20
          go_wp2
          go_round
          case rel => exact ⟨k + 1, by omega, h21, by go_num, HX⟩
          case measure => simp [intOf]; omega
        · have HX : Hid (X = false) := by
            show X = false
            rw [hst, decide_eq_false hz, Bool.false_and, Bool.and_false]
          have q4 : (1000 : Int) < (t.size : Int) := by omega
          clear hst hz h20
          go_wp2
          go_ret
          exact ⟨ret_bool (by rw [HX.out]), rfl⟩
    · obtain rfl : k = n := by omega
      have HX : Hid (X = true) := by
        show X = true
        rw [HK.out, decide_eq_true hkl, List.drop_eq_nil_of_le (by have := HLen.out; omega)]
        rfl
      go_wp2
      go_ret
      exact ⟨ret_bool (by rw [HX.out]), rfl⟩
end Go.Proofs.YtokimlfbfbfenaaDoor
