/- The contracts of the reference of package moment: Check, Nominal, Instant. -/
import Derived.Test.YtkpbkgfmdjhbpabDoorRefDay
import Derived.Test.YtkpbkgfmdjhbpabDoorRefTime
namespace Go.Proofs.YtkpbkgfmdjhbpabDoor
open Go.RowKit

theorem refMomCheck_ok (s c : Int) (w : World) (h : Mo.Ok s c) :
    Calls Tryd.prog 93 #[.agg #[.int .i64 s, .int .u8 c]] w fun e w' => e = .returned (.int .i64 0) ∧ Below w.heap.size w w' := by
  have hT := fun W => refText_any s W
  have hne : (mk (Ck.text s)).toList.isEmpty = false := text_ne s h.1
  obtain ⟨X, hX⟩ : ∃ X, mk (Ck.text s) = X := ⟨_, rfl⟩
  simp only [hX] at hT hne
  have HT := Lib.hid hT
  obtain ⟨_, h3⟩ := h
  clear hT hX
  go_enter Tryd.func93, Tryd.ntmps93
  go_wp2_with fail
  refine (HT.out _).mono ?_
  rintro e w1 ⟨rfl, hb1⟩
  obtain ⟨c1, f1⟩ := bcell hb1
  have HB := Lib.hid (below_new (hb1.mono (by simp) : Below (w.heap.size + 1) (w.alloc (.cells #[.int .i64 s, .int .u8 c] 86)) w1))
  clear hb1
  go_wp2
  go_ret
  exact ⟨rfl, HB.out⟩
theorem refMomCheck_bad (s c : Int) (w : World) (h : ¬ Mo.Ok s c) :
    Calls Tryd.prog 93 #[.agg #[.int .i64 s, .int .u8 c]] w fun e w' => e = .returned (.int .i64 2) ∧ Below w.heap.size w w' := by
  by_cases ht : IsTime s
  · have h3 : 3 ≤ c := by unfold Mo.Ok at h; have : ¬ c < 3 := fun x => h ⟨ht, x⟩; omega
    have hT := fun W => refText_any s W
    have hne : (mk (Ck.text s)).toList.isEmpty = false := text_ne s ht
    obtain ⟨X, hX⟩ : ∃ X, mk (Ck.text s) = X := ⟨_, rfl⟩
    simp only [hX] at hT hne
    have HT := Lib.hid hT
    clear hT hX h ht
    go_enter Tryd.func93, Tryd.ntmps93
    go_wp2_with fail
    refine (HT.out _).mono ?_
    rintro e w1 ⟨rfl, hb1⟩
    obtain ⟨c1, f1⟩ := bcell hb1
    have HB := Lib.hid (below_new (hb1.mono (by simp) : Below (w.heap.size + 1) (w.alloc (.cells #[.int .i64 s, .int .u8 c] 86)) w1))
    clear hb1
    go_wp2
    go_ret
    exact ⟨rfl, HB.out⟩
  · have HT := Lib.hid fun W => calls_str (refText_any s W) (show _ = (⟨#[]⟩ : ByteArray) by unfold Ck.text; rw [if_neg ht]; rfl)
    clear h ht
    go_enter Tryd.func93, Tryd.ntmps93
    go_wp2_with fail
    refine (HT.out _).mono ?_
    rintro e w1 ⟨rfl, hb1⟩
    have HB := Lib.hid (below_new (hb1.mono (by simp) : Below (w.heap.size + 1) (w.alloc (.cells #[.int .i64 s, .int .u8 c] 86)) w1))
    clear hb1
    go_wp2
    go_ret
    exact ⟨rfl, HB.out⟩

theorem refIn_any (k n d y m : Int) (w : World) (h0 : 0 ≤ k) (a b : Int) (h : Dy.inS k n d y m = (a, b)) :
    Calls Tryd.prog 94 #[.agg #[.int .u8 k, .int .i64 n, .int .i64 d], .int .i64 y, .int .i64 m] w fun e w' => e = .returned (.tuple #[.int .i64 a, .int .i64 b]) ∧ Below w.heap.size w w' := by
  by_cases hok : Dy.Ok k n d
  · by_cases hc : InCal y m
    · by_cases hn : n > Cv.len y m
      · refine calls_val (refIn_none k n d y m w hok hc hn) ?_
        unfold Dy.inS at h
        rw [if_neg (by exact fun x => x hok), if_neg (fun x => x hc), if_pos hn] at h
        rw [← (Prod.mk.inj h).1, ← (Prod.mk.inj h).2]
      · have hv : ∀ (P : Int × Int), P = (a, b) → Value.tuple #[.int .i64 P.1, .int .i64 P.2] = Value.tuple #[.int .i64 a, .int .i64 b] := fun P e => by rw [e]
        rcases hok with ⟨rfl, h2, h3, rfl⟩ | ⟨rfl, rfl, h2, h3⟩ | ⟨rfl | rfl, h2, h3, h4, h5⟩
        · exact calls_val (refIn_k0 n y m w hc h2 h3 (by omega)) (hv _ h)
        · exact calls_val (refIn_k1 d y m w hc h2 h3) (hv _ h)
        · exact calls_val (refIn_k2 n d y m w hc h2 h3 (by omega) h4 h5) (hv _ h)
        · exact calls_val (refIn_k3 n d y m w hc h2 h3 (by omega) h4 h5) (hv _ h)
    · refine calls_val (refIn_range k n d y m w hok hc) ?_
      unfold Dy.inS at h
      rw [if_neg (by exact fun x => x hok), if_pos (show ¬ (1 ≤ y ∧ y ≤ 9999 ∧ 1 ≤ m ∧ m ≤ 12) from hc)] at h
      rw [← (Prod.mk.inj h).1, ← (Prod.mk.inj h).2]
  · refine calls_val (refIn_form k n d y m w h0 hok) ?_
    unfold Dy.inS at h
    rw [if_pos hok] at h
    rw [← (Prod.mk.inj h).1, ← (Prod.mk.inj h).2]

set_option maxRecDepth 100000 in
set_option maxHeartbeats 1000000 in
theorem refNominal_any (y m k n d s c : Int) (w : World) (h0 : 0 ≤ k) :
    Calls Tryd.prog 41 #[.int .i64 y, .int .i64 m, .agg #[.int .u8 k, .int .i64 n, .int .i64 d], .agg #[.int .i64 s, .int .u8 c]] w fun e w' => e = .returned (.tuple #[.int .i64 (Mo.nom k n d y m s c).1, .int .i64 (Mo.nom k n d y m s c).2]) ∧ Below w.heap.size w w' := by
  by_cases hok : Mo.Ok s c
  · obtain ⟨a, b, hin⟩ : ∃ a b, Dy.inS k n d y m = (a, b) := ⟨_, _, rfl⟩
    have HC := Lib.hid fun W => refMomCheck_ok s c W hok
    have HI := Lib.hid fun W => refIn_any k n d y m W h0 a b hin
    by_cases hb0 : b = 0
    · subst hb0
      obtain ⟨r1, r2⟩ := inS_range k n d y m a hin
      have HX : Hid (Mo.nom k n d y m s c = (a * 86400 + s, 0)) := by show Mo.nom k n d y m s c = _; unfold Mo.nom; rw [if_pos hok, hin]; rfl
      have HA := Lib.hid fun W => refAt_ok a s W r1 r2 hok.1
      clear hin hok r1 r2
      go_enter Tryd.func41, Tryd.ntmps41
      go_wp2_with fail
      refine (HC.out _).mono ?_
      rintro e w1 ⟨rfl, hb1⟩
      obtain ⟨c1, f1⟩ := bcell hb1
      have HB := Lib.hid ((((Below.refl w.heap.size w).alloc (Nat.le_refl _) (.cells #[.int .u8 k, .int .i64 n, .int .i64 d] 83)).alloc (by simp) (.cells #[.int .i64 s, .int .u8 c] 86)).trans (hb1.mono (by simp; omega)))
      have z1 : w.heap.size + 1 < w1.heap.size := by have := hb1.size; simp at this; omega
      clear hb1
      go_wp2_with fail
      refine (HI.out _).mono ?_
      rintro e w2 ⟨rfl, hb2⟩
      obtain ⟨c2, f2⟩ := bcell hb2
      replace HB := Lib.hid (below_then HB.out hb2)
      clear hb2
      go_wp2_with fail
      refine (HA.out _).mono ?_
      rintro e w3 ⟨rfl, hb3⟩
      replace HB := Lib.hid (below_then HB.out hb3)
      clear hb3
      go_wp2
      go_ret2
      exact ⟨ret_int22 (by rw [HX.out]) (by rw [HX.out]), HB.out⟩
    · have HX : Hid (Mo.nom k n d y m s c = (0, b)) := by show Mo.nom k n d y m s c = _; unfold Mo.nom; rw [if_pos hok, hin]; exact if_neg hb0
      have q : (b != 0) = true := by simpa using hb0
      have q' : (b == 0) = false := by simpa using hb0
      clear hin hok
      go_enter Tryd.func41, Tryd.ntmps41
      go_wp2_with fail
      refine (HC.out _).mono ?_
      rintro e w1 ⟨rfl, hb1⟩
      obtain ⟨c1, f1⟩ := bcell hb1
      have HB := Lib.hid ((((Below.refl w.heap.size w).alloc (Nat.le_refl _) (.cells #[.int .u8 k, .int .i64 n, .int .i64 d] 83)).alloc (by simp) (.cells #[.int .i64 s, .int .u8 c] 86)).trans (hb1.mono (by simp; omega)))
      have z1 : w.heap.size + 1 < w1.heap.size := by have := hb1.size; simp at this; omega
      clear hb1
      go_wp2_with fail
      refine (HI.out _).mono ?_
      rintro e w2 ⟨rfl, hb2⟩
      replace HB := Lib.hid (below_then HB.out hb2)
      clear hb2
      go_wp2
      go_ret2
      exact ⟨ret_int22 (by rw [HX.out]) (by rw [HX.out]), HB.out⟩
  · have HX : Hid (Mo.nom k n d y m s c = (0, 2)) := by show Mo.nom k n d y m s c = _; unfold Mo.nom; rw [if_neg hok]
    have HC := Lib.hid fun W => refMomCheck_bad s c W hok
    clear hok
    go_enter Tryd.func41, Tryd.ntmps41
    go_wp2_with fail
    refine (HC.out _).mono ?_
    rintro e w1 ⟨rfl, hb1⟩
    have HB := Lib.hid ((((Below.refl w.heap.size w).alloc (Nat.le_refl _) (.cells #[.int .u8 k, .int .i64 n, .int .i64 d] 83)).alloc (by simp) (.cells #[.int .i64 s, .int .u8 c] 86)).trans (hb1.mono (by simp; omega)))
    clear hb1
    go_wp2
    go_ret2
    exact ⟨ret_int22 (by rw [HX.out]) (by rw [HX.out]), HB.out⟩

theorem far_any (n : Int) (w : World) :
    Calls Tryd.prog 96 #[.int .i64 n] w fun e w' => e = .returned (.bool (!decide (InT n))) ∧ w = w' := by
  by_cases h : InT n
  · have HD := Lib.hid (decide_eq_true h)
    obtain ⟨h1, h2⟩ := h
    go_enter Tryd.func96, Tryd.ntmps96
    go_wp2
    go_ret
    exact ⟨ret_bool (by rw [HD.out]; first | (simp; done) | (simp; omega)), rfl⟩
  · have HD := Lib.hid (decide_eq_false h)
    rcases inT_bd n h with h1 | h1
    · clear h
      go_enter Tryd.func96, Tryd.ntmps96
      go_wp2
      go_ret
      exact ⟨ret_bool (by rw [HD.out]; rfl), rfl⟩
    · have h2 : ¬ n < -1099511627776 := by omega
      clear h
      go_enter Tryd.func96, Tryd.ntmps96
      go_wp2
      go_ret
      exact ⟨ret_bool (by rw [HD.out]; first | (simp; done) | (simp; omega)), rfl⟩
set_option maxHeartbeats 1000000 in
theorem refInstant_any (n c std save : Int) (w : World) (hc : 0 ≤ c) :
    Calls Tryd.prog 43 #[.int .i64 n, .int .u8 c, .int .i64 std, .int .i64 save] w fun e w' => e = .returned (.tuple #[.int .i64 (Mo.ins n c std save).1, .int .i64 (Mo.ins n c std save).2]) ∧ w = w' := by
  by_cases h3 : 3 ≤ c
  · have HX : Hid (Mo.ins n c std save = (0, 2)) := by show Mo.ins n c std save = _; unfold Mo.ins; rw [if_pos h3]
    go_enter Tryd.func43, Tryd.ntmps43
    go_wp2
    go_ret2
    exact ⟨ret_int22 (by rw [HX.out]) (by rw [HX.out]), rfl⟩
  by_cases h : InT n ∧ InT std ∧ InT save
  · have hX : Mo.ins n c std save = (if c = 0 then n - save - std else if c = 1 then n - std else n, 0) := by unfold Mo.ins; rw [if_neg h3, if_pos h]
    have H1 := Lib.hid fun W => calls_bool (far_any n W) (show _ = false by rw [decide_eq_true h.1]; rfl)
    have H2 := Lib.hid fun W => calls_bool (far_any std W) (show _ = false by rw [decide_eq_true h.2.1]; rfl)
    have H3 := Lib.hid fun W => calls_bool (far_any save W) (show _ = false by rw [decide_eq_true h.2.2]; rfl)
    obtain ⟨⟨a1, a2⟩, ⟨b1, b2⟩, ⟨c1, c2⟩⟩ := h
    have hcc : c = 0 ∨ c = 1 ∨ c = 2 := by omega
    rcases hcc with rfl | rfl | rfl
    all_goals
      have HX := Lib.hid hX
      clear hX h3 hc
      go_enter Tryd.func43, Tryd.ntmps43
      go_wp2_with fail
      refine (H1.out _).mono ?_
      rintro e w1 ⟨rfl, rfl⟩
      go_wp2_with fail
      refine (H2.out _).mono ?_
      rintro e w1 ⟨rfl, rfl⟩
      go_wp2_with fail
      refine (H3.out _).mono ?_
      rintro e w1 ⟨rfl, rfl⟩
      go_wp2
      go_ret2
      exact ⟨ret_int22 (by rw [HX.out]; simp; try omega) (by rw [HX.out]), rfl⟩
  · have HX : Hid (Mo.ins n c std save = (0, 1)) := by show Mo.ins n c std save = _; unfold Mo.ins; rw [if_neg h3, if_neg h]
    by_cases ha : InT n
    · have H1 := Lib.hid fun W => calls_bool (far_any n W) (show _ = false by rw [decide_eq_true ha]; rfl)
      by_cases hb : InT std
      · have H2 := Lib.hid fun W => calls_bool (far_any std W) (show _ = false by rw [decide_eq_true hb]; rfl)
        have H3 := Lib.hid fun W => calls_bool (far_any save W) (show _ = true by rw [decide_eq_false fun x => h ⟨ha, hb, x⟩]; rfl)
        clear h ha hb
        go_enter Tryd.func43, Tryd.ntmps43
        go_wp2_with fail
        refine (H1.out _).mono ?_
        rintro e w1 ⟨rfl, rfl⟩
        go_wp2_with fail
        refine (H2.out _).mono ?_
        rintro e w1 ⟨rfl, rfl⟩
        go_wp2_with fail
        refine (H3.out _).mono ?_
        rintro e w1 ⟨rfl, rfl⟩
        go_wp2
        go_ret2
        exact ⟨ret_int22 (by rw [HX.out]) (by rw [HX.out]), rfl⟩
      · have H2 := Lib.hid fun W => calls_bool (far_any std W) (show _ = true by rw [decide_eq_false hb]; rfl)
        clear h ha hb
        go_enter Tryd.func43, Tryd.ntmps43
        go_wp2_with fail
        refine (H1.out _).mono ?_
        rintro e w1 ⟨rfl, rfl⟩
        go_wp2_with fail
        refine (H2.out _).mono ?_
        rintro e w1 ⟨rfl, rfl⟩
        go_wp2
        go_ret2
        exact ⟨ret_int22 (by rw [HX.out]) (by rw [HX.out]), rfl⟩
    · have H1 := Lib.hid fun W => calls_bool (far_any n W) (show _ = true by rw [decide_eq_false ha]; rfl)
      clear h ha
      go_enter Tryd.func43, Tryd.ntmps43
      go_wp2_with fail
      refine (H1.out _).mono ?_
      rintro e w1 ⟨rfl, rfl⟩
      go_wp2
      go_ret2
      exact ⟨ret_int22 (by rw [HX.out]) (by rw [HX.out]), rfl⟩
end Go.Proofs.YtkpbkgfmdjhbpabDoor
