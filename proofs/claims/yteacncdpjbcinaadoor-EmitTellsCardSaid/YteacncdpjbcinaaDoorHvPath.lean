/- hive.Path: whether a text is a path. -/
import Derived.Test.YteacncdpjbcinaaDoorHvSign
import Derived.Test.YteacncdpjbcinaaDoorWl
import Derived.Lib.SplitLaws
namespace Go.Proofs.YteacncdpjbcinaaDoor
open Go.RowKit

namespace Hv
/-- A text, parted at each backslash. -/
def parts (s : ByteArray) : List ByteArray := Lib.splitB ⟨#[92]⟩ 0 (Lib.countB s ⟨#[92]⟩) s
def path (s : ByteArray) : Bool := decide (1 ≤ s.size) && (decide (s.size ≤ 256) && (Te.plain s && (!Lib.containsAny (tl s) sqs && !Lib.containsS (parts s) ⟨#[]⟩)))
theorem path_size {s : ByteArray} (h : path s = true) : s.size ≤ 256 := by
  unfold path at h
  simp only [Bool.and_eq_true, decide_eq_true_eq] at h
  exact h.2.1
end Hv
theorem hvSplit (s : ByteArray) (hs : s.size ≤ 256) (w : World) (hW : Wl w) :
    Calls Tryd.prog 39 #[.string s, .string ⟨#[92]⟩] w fun e w' => e = .returned (.slice (some ⟨w.heap.size, 0, none⟩) (Hv.parts s).length (Hv.parts s).length) ∧ w' = w.alloc (.cells ((Hv.parts s).map Value.string).toArray 9) := by
  obtain ⟨m, hm⟩ := hW.maxl
  have e : (Hv.parts s).length = Lib.countB s ⟨#[92]⟩ + 1 := Lib.splitB_all ⟨#[92]⟩ (by decide) 0 _ s rfl
  rw [e]
  exact Tryd.strings_Split s ⟨#[92]⟩ m w (by omega) hm (by decide)
theorem cell_str (w : World) (l : List ByteArray) (t : TypeId) (j : Nat) (h : j < l.length) : (w.alloc (.cells (l.map Value.string).toArray t)).cell? ⟨w.heap.size, 0 + j, none⟩ = some (.string (l.getD j ByteArray.empty)) := by
  rw [World.cell?_alloc_new]
  simp [List.getD, h]
theorem parts_len (s : ByteArray) (hs : s.size ≤ 256) : (Hv.parts s).length ≤ 9223372036854775807 := by
  have h := Lib.splitB_length_le ⟨#[92]⟩ 0 (Lib.countB s ⟨#[92]⟩) s
  have h2 : Lib.countB s ⟨#[92]⟩ ≤ s.size := Lib.countB_le ⟨#[92]⟩ (by decide) s.size s (Nat.le_refl _)
  unfold Hv.parts
  omega
set_option maxHeartbeats 2000000 in
set_option maxRecDepth 100000 in
theorem hvPath_any (s : ByteArray) (hs : s.size ≤ maxLen) (w : World) (hW : Wl w) :
    Calls Tryd.prog 31 #[.string s] w fun e w' => e = .returned (.bool (Hv.path s)) ∧ Below w.heap.size w w' := by
  have HP := Lib.hid (fun W => utfPlain_any s hs W)
  unfold maxLen at hs
  obtain ⟨v, hv⟩ : ∃ v, Hv.path s = v := ⟨_, rfl⟩
  rw [hv]
  unfold Hv.path at hv
  have HW := Lib.hid hW
  clear hW
  by_cases h1 : s.size < 1
  · have q1 : (s.size : Int) < 1 := by omega
    rw [decide_eq_false (show ¬ 1 ≤ s.size by omega)] at hv
    have HV : Hid (v = false) := hv.symm
    clear hv h1
    go_enter Tryd.func31, Tryd.ntmps31
    go_wp2
    go_ret
    exact ⟨by rw [HV.out]; rfl, Below.refl _ _⟩
  · have q1 : ¬ (s.size : Int) < 1 := by omega
    rw [decide_eq_true (show 1 ≤ s.size by omega)] at hv
    by_cases h2 : 256 < s.size
    · have q2 : (256 : Int) < (s.size : Int) := by omega
      rw [decide_eq_false (show ¬ s.size ≤ 256 by omega)] at hv
      have HV : Hid (v = false) := hv.symm
      clear hv h1 h2
      go_enter Tryd.func31, Tryd.ntmps31
      go_wp2
      go_ret
      exact ⟨by rw [HV.out]; rfl, Below.refl _ _⟩
    · have q2 : ¬ (256 : Int) < (s.size : Int) := by omega
      rw [decide_eq_true (show s.size ≤ 256 by omega)] at hv
      cases hp : Te.plain s with
      | false =>
        rw [hp] at hv HP
        have HV : Hid (v = false) := hv.symm
        clear hv h1 h2 hp
        go_enter Tryd.func31, Tryd.ntmps31
        go_wp2_with (refine (HP.out _).mono ?_; rintro e w1 ⟨rfl, hb⟩)
        go_ret
        exact ⟨by rw [HV.out]; rfl, hb⟩
      | true =>
        rw [hp] at hv HP
        have HC : Hid (∀ W, Calls Tryd.prog 37 #[.string s, .string ⟨#[91, 93]⟩] W fun e w' => e = .returned (.bool (Lib.containsAny (tl s) Hv.sqs)) ∧ Below W.heap.size W w') := fun W => sqContains_all s (by omega) W
        cases hc : Lib.containsAny (tl s) Hv.sqs with
        | true =>
          rw [hc] at hv HC
          have HV : Hid (v = false) := hv.symm
          clear hv h1 h2 hp hc
          go_enter Tryd.func31, Tryd.ntmps31
          go_wp2_with (first | (go_at_call 29; refine (HP.out _).mono ?_; rintro e w1 ⟨rfl, hb⟩) | (go_at_call 37; refine (HC.out _).mono ?_; rintro e w2 ⟨rfl, hb2⟩))
          go_ret
          exact ⟨by rw [HV.out]; rfl, below_then hb hb2⟩
        | false =>
          rw [hc] at hv HC
          have HS := Lib.hid (fun W (hW : Wl W) => hvSplit s (by omega) W hW)
          have HV := Lib.hid hv
          have hpl := parts_len s (by omega)
          clear hv h1 h2 hp hc
          obtain ⟨l, hl⟩ : ∃ l, Hv.parts s = l := ⟨_, rfl⟩
          rw [hl] at HS HV hpl
          have HK : Hid (∀ W : World, Calls Tryd.prog 38 #[.slice (some ⟨W.heap.size, 0, none⟩) l.length l.length, .string ⟨#[]⟩] (W.alloc (.cells (l.map Value.string).toArray 9)) fun e w' => e = .returned (.bool (Lib.containsS l ⟨#[]⟩)) ∧ w' = W.alloc (.cells (l.map Value.string).toArray 9)) := by
            intro W
            have h := Tryd.slices_Contains_string W.heap.size 0 l.length l.length l ⟨#[]⟩ (W.alloc (.cells (l.map Value.string).toArray 9)) (Nat.le_refl _) hpl (fun j hj => cell_str W l 9 j hj)
            rw [List.take_length] at h
            exact h
          obtain ⟨q, hq⟩ : ∃ q, Lib.containsS l ⟨#[]⟩ = q := ⟨_, rfl⟩
          rw [hq] at HK HV
          clear hl hq
          go_enter Tryd.func31, Tryd.ntmps31
          go_wp2_with (first | (go_at_call 29; refine (HP.out _).mono ?_; rintro e w1 ⟨rfl, hb⟩) | (go_at_call 37; refine (HC.out _).mono ?_; rintro e w2 ⟨rfl, hb2⟩) | (go_at_call 39; refine (HS.out _ ((HW.out.below hb).below hb2)).mono ?_; rintro e w3 ⟨rfl, rfl⟩) | (go_at_call 38; refine (HK.out _).mono ?_; rintro e w4 ⟨rfl, rfl⟩))
          go_ret
          refine ⟨?_, (below_then hb hb2).alloc (below_then hb hb2).size _⟩
          rw [← HV.out]
          simp
end Go.Proofs.YteacncdpjbcinaaDoor
