/- The contracts of the reference of package clock: instants. -/
import Derived.Test.YtjobhjemnmleaaaGreatDoorQ46
import Derived.Lib.ItoaLen
set_option maxRecDepth 100000
set_option maxHeartbeats 1000000
namespace Go.Proofs.YtjobhjemnmleaaaGreatDoor
open Go.RowKit
theorem refTime_any (s : Int) (w : World) :
  Calls Tryz.prog 192 #[.int .i64 s] w fun e w' => e = .returned (.bool (decide (IsTime s))) ∧ w = w' := by
 by_cases h : IsTime s
 ·have HD := Lib.hid (decide_eq_true h);obtain ⟨h1, h2⟩ := h;go_enter Tryz.func192, Tryz.ntmps192
  go_wp2;go_ret
  exact ⟨ret_bool (by rw [HD.out]), rfl⟩
 ·have HD := Lib.hid (decide_eq_false h);have h' : s < -604800 ∨ 604800 < s := by unfold IsTime at h; omega
  clear h
  by_cases h1 : s < -604800
  ·clear h';go_enter Tryz.func192, Tryz.ntmps192
   go_wp2;go_ret
   exact ⟨ret_bool (by rw [HD.out]), rfl⟩
  ·have h2 : 604800 < s := by omega
   clear h';go_enter Tryz.func192, Tryz.ntmps192
   go_wp2;go_ret
   exact ⟨ret_bool (by rw [HD.out]; first | (simp; done) | (simp; omega)), rfl⟩
namespace Cv
end Cv
theorem refDayCheck_ok (k n d : Int) (w : World) (h : Dy.Ok k n d) :
  Calls Tryz.prog 160 #[.agg #[.int .u8 k, .int .i64 n, .int .i64 d]] w fun e w' => e = .returned (.int .i64 0) ∧ Below w.heap.size w w' := by
 rcases h with ⟨rfl, h2, h3, rfl⟩ | ⟨rfl, rfl, h2, h3⟩ | ⟨rfl | rfl, h2, h3, h4, h5⟩
 all_goals
  go_enter Tryz.func160, Tryz.ntmps160
  go_wp2;go_ret
  exact ⟨rfl, (Below.refl _ _).alloc (Nat.le_refl _) _⟩
theorem refDayCheck_bad (k n d : Int) (w : World) (h0 : 0 ≤ k) (h : ¬ Dy.Ok k n d) :
    Calls Tryz.prog 160 #[.agg #[.int .u8 k, .int .i64 n, .int .i64 d]] w fun e w' => e = .returned (.int .i64 2) ∧ Below w.heap.size w w' := by
  have hk : k = 0 ∨ k = 1 ∨ k = 2 ∨ k = 3 ∨ 3 < k := by omega
  unfold Dy.Ok at h;have hn : (1 ≤ n ∧ n ≤ 31) ∨ n < 1 ∨ (1 ≤ n ∧ 31 < n) := by omega
  have hd : (0 ≤ d ∧ d ≤ 6) ∨ d < 0 ∨ (0 ≤ d ∧ 6 < d) := by omega
  rcases hk with rfl | rfl | rfl | rfl | hk
  · rcases hn with ⟨n1, n2⟩ | n1 | ⟨n1, n2⟩
    · have q : (d == 0) = false := bqf (by omega)
      rcases hd with ⟨d1, d2⟩ | d1 | ⟨d1, d2⟩
      all_goals
        clear h;go_enter Tryz.func160, Tryz.ntmps160
        go_wp2;go_ret
        exact ⟨rfl, (Below.refl _ _).alloc (Nat.le_refl _) _⟩
    all_goals
      rcases hd with ⟨d1, d2⟩ | d1 | ⟨d1, d2⟩
      all_goals
        clear h;go_enter Tryz.func160, Tryz.ntmps160
        go_wp2;go_ret
        exact ⟨rfl, (Below.refl _ _).alloc (Nat.le_refl _) _⟩
  · by_cases hz : n = 0
    · subst hz
      rcases hd with ⟨d1, d2⟩ | d1 | ⟨d1, d2⟩
      · omega
      all_goals
        clear h hn;go_enter Tryz.func160, Tryz.ntmps160
        go_wp2;go_ret
        exact ⟨rfl, (Below.refl _ _).alloc (Nat.le_refl _) _⟩
    · have q : (n == 0) = false := bqf (by omega)
      rcases hn with ⟨n1, n2⟩ | n1 | ⟨n1, n2⟩
      all_goals
        rcases hd with ⟨d1, d2⟩ | d1 | ⟨d1, d2⟩
        all_goals
          clear h hz;go_enter Tryz.func160, Tryz.ntmps160
          go_wp2;go_ret
          exact ⟨rfl, (Below.refl _ _).alloc (Nat.le_refl _) _⟩
  iterate 2
    · rcases hn with ⟨n1, n2⟩ | n1 | ⟨n1, n2⟩
      all_goals
        rcases hd with ⟨d1, d2⟩ | d1 | ⟨d1, d2⟩
        all_goals
          first
          | omega
          | (clear h
             go_enter Tryz.func160, Tryz.ntmps160
             go_wp2;go_ret
             exact ⟨rfl, (Below.refl _ _).alloc (Nat.le_refl _) _⟩)
  · have q0 : (k == 0) = false := bqf (by omega)
    have q1 : (k == 1) = false := bqf (by omega);have q2 : (k == 2) = false := bqf (by omega);have q3 : (k == 3) = false := bqf (by omega);rcases hn with ⟨n1, n2⟩ | n1 | ⟨n1, n2⟩
    all_goals
      rcases hd with ⟨d1, d2⟩ | d1 | ⟨d1, d2⟩
      all_goals
        clear h hk;go_enter Tryz.func160, Tryz.ntmps160
        go_wp2;go_ret
        exact ⟨rfl, (Below.refl _ _).alloc (Nat.le_refl _) _⟩
end Go.Proofs.YtjobhjemnmleaaaGreatDoor
namespace Go.Proofs.YtjobhjemnmleaaaGreatDoor
open Go.RowKit
def Ck.dig (n : Int) : ByteArray := ⟨#[UInt8.ofNat (48 + n.toNat)]⟩
theorem dig_size (n : Int) : (Ck.dig n).size = 1 := rfl
theorem conv1 (w : World) (g : Nat) (n : Int) (h0 : 0 ≤ n) (h1 : n < 10) (hc : w.cell? ⟨g, 0, none⟩ = some (.int .u8 (48 + n))) :
  Sem.run Tryz.prog (convert 94 9 (.slice (some ⟨g, 0, none⟩) 1 1)) w = .ok (.string (Ck.dig n)) w := by
 have h := run_convert_bytes_back (P := Tryz.prog) w 94 9 5 ⟨g, 0, none⟩ 1 [UInt8.ofNat (48 + n.toNat)] Tryz.underlying94 Tryz.underlying5 Tryz.underlying9 ?_
 ·exact h
 ·intro j hj;have hj0 : j = 0 := by simpa using hj
  subst hj0;rw [show (⟨g, 0, none⟩ : Addr).add 0 = ⟨g, 0, none⟩ from rfl, hc];obtain ⟨k, rfl⟩ : ∃ k : Nat, n = k := ⟨n.toNat, by omega⟩
  have a1 : (48 + k) % 256 = 48 + k := by omega
  simp [UInt8.toNat_ofNat, a1]
theorem conv_new (w : World) (n : Int) (h0 : 0 ≤ n) (h1 : n < 10) :
  Sem.run Tryz.prog (convert 94 9 (.slice (some ⟨w.heap.size, 0, none⟩) 1 1)) (w.alloc (.cells #[.int .u8 (48 + n)] 5)) = .ok (.string (Ck.dig n)) (w.alloc (.cells #[.int .u8 (48 + n)] 5)) :=
 conv1 _ _ n h0 h1 (cell_of_row _ w.heap.size 0 _ _ _ (heap_alloc_new w _))
theorem conv_kept (w w1 : World) (n : Int) (h0 : 0 ≤ n) (h1 : n < 10) (hb : Below (w.heap.size + 1) (w.alloc (.cells #[.int .u8 (48 + n)] 5)) w1) :
  Sem.run Tryz.prog (convert 94 9 (.slice (some ⟨w.heap.size, 0, none⟩) 1 1)) w1 = .ok (.string (Ck.dig n)) w1 :=
 conv1 _ _ n h0 h1 ((hb.cell (p := ⟨w.heap.size, 0, none⟩) (Nat.lt_succ_self _)).trans (cell_of_row _ w.heap.size 0 _ _ _ (heap_alloc_new w _)))
theorem num_lo (n : Int) (w : World) (h0 : 0 ≤ n) (h1 : n < 10) :
  Calls Tryz.prog 193 #[.int .i64 n] w fun e w' => e = .returned (.string (Ck.dig n)) ∧ Below w.heap.size w w' := by
 have hc := conv_new w n h0 h1;go_enter Tryz.func193, Tryz.ntmps193
 go_wp2;go_ret
 exact ⟨rfl, (Below.refl _ _).alloc (Nat.le_refl _) _⟩
theorem num_step (n : Int) (T : ByteArray) (w : World) (h0 : 10 ≤ n) (h1 : n < 100000) (hT : T.size ≤ 100)
  (hr : ∀ W, Calls Tryz.prog 193 #[.int .i64 (n / 10)] W fun e w' => e = .returned (.string T) ∧ Below W.heap.size W w') :
  Calls Tryz.prog 193 #[.int .i64 n] w fun e w' => e = .returned (.string (T ++ Ck.dig (n % 10))) ∧ Below w.heap.size w w' := by
 have HR := Lib.hid hr;have HN := Lib.hid fun W => conv_new W (n % 10) (by omega) (by omega)
 have HK := Lib.hid fun W W1 => conv_kept W W1 (n % 10) (by omega) (by omega)
 have hc : Sem.run Tryz.prog (convert 94 9 (.slice (some ⟨w.heap.size, 0, none⟩) 1 1)) (w.drew.alloc (.cells #[.int .u8 (48 + n % 10)] 5)) = .ok (.string (Ck.dig (n % 10))) (w.drew.alloc (.cells #[.int .u8 (48 + n % 10)] 5)) := HN.out w.drew;have hc2 : Sem.run Tryz.prog (convert 94 9 (.slice (some ⟨w.heap.size, 0, none⟩) 1 1)) (w.alloc (.cells #[.int .u8 (48 + n % 10)] 5)).drew = .ok (.string (Ck.dig (n % 10))) (w.alloc (.cells #[.int .u8 (48 + n % 10)] 5)).drew := conv1 _ _ (n % 10) (by omega) (by omega) (cell_of_row _ w.heap.size 0 _ _ _ (heap_alloc_new w _));have q1 : IntKind.i64.wrap (n.tdiv 10) = n / 10 := by rw [Int.tdiv_eq_ediv_of_nonneg (by omega)]; exact IntWalk.i64_in _ (by omega)
 have q2 : IntKind.i64.wrap (48 + n.tmod 10) = 48 + n % 10 := by rw [Int.tmod_eq_emod_of_nonneg (by omega)]; exact IntWalk.i64_in _ (by omega)
 have q3 : IntKind.u8.wrap (48 + n % 10) = 48 + n % 10 := by unfold IntKind.wrap; simp [IntKind.signed, IntKind.bits]; omega
 have s1 : ∀ W, (Op.stringOp .add T (Ck.dig (n % 10))).run Tryz.prog W = .ok (.string (T ++ Ck.dig (n % 10))) W := fun W => run_string_add_sum W _ _ (by rw [dig_size]; omega)
 clear hr hT;go_enter Tryz.func193, Tryz.ntmps193
 go_upto_region 5 with fail
 go_region_with (go_at_call 193; refine (HR.out _).mono ?_; rintro e w1 ⟨rfl, hb⟩; first | (guard_hyp hb : Below _ (World.drew (World.alloc _ _)) _; have hck : Sem.run Tryz.prog (convert 94 9 (.slice (some ⟨w.heap.size, 0, none⟩) 1 1)) w1 = .ok (.string (Ck.dig (n % 10))) w1 := HK.out w w1 ((Below.refl _ _).drew.trans (hb.mono (by simp)))) | (have hcn := HN.out w1))
 all_goals (try go_wp2)
 all_goals go_ret
 all_goals first
  | exact ⟨rfl, (((Below.refl _ _).drew.trans hb).alloc (hb.size) _)⟩
  | exact ⟨rfl, ((Below.refl _ _).alloc (Nat.le_refl _) _).drew.trans (hb.mono (by simp))⟩
def mk (l : List UInt8) : ByteArray := ⟨l.toArray⟩
theorem mk_size (l : List UInt8) : (mk l).size = l.length := by simp [mk, ByteArray.size]
theorem mk_app (a b : List UInt8) : mk a ++ mk b = mk (a ++ b) := by
 apply ByteArray.ext;simp [mk, ByteArray.data_append]
theorem dig_mk (n : Int) : Ck.dig n = mk [UInt8.ofNat (48 + n.toNat)] := rfl
theorem itoa_lo (n : Int) (h0 : 0 ≤ n) (h1 : n < 10) : Lib.itoa n = [UInt8.ofNat (48 + n.toNat)] := by
 unfold Lib.itoa;rw [if_neg (by omega)];unfold Lib.decDigits;rw [dif_pos (by omega)]
theorem itoa_step (n : Int) (h0 : 10 ≤ n) : Lib.itoa n = Lib.itoa (n / 10) ++ [UInt8.ofNat (48 + (n % 10).toNat)] := by
 unfold Lib.itoa;rw [if_neg (by omega), if_neg (by omega)];rw [Lib.decDigits, dif_neg (by omega)];rw [show n.toNat / 10 = (n / 10).toNat by omega, show n.toNat % 10 = (n % 10).toNat by omega]
theorem num_any : ∀ (k : Nat) (n : Int) (w : World), n.toNat = k → 0 ≤ n → n < 100000 →
  Calls Tryz.prog 193 #[.int .i64 n] w fun e w' => e = .returned (.string (mk (Lib.itoa n))) ∧ Below w.heap.size w w' := by
 intro k
 induction k using Nat.strongRecOn with
 | _ k ih =>
  intro n w hk h0 h1
  by_cases hn : n < 10
  ·exact calls_str (num_lo n w h0 hn) (by rw [itoa_lo n h0 hn]; rfl)
  ·have hl := Lib.itoa_length_le (n / 10) (by omega) (by omega);refine calls_str (num_step n (mk (Lib.itoa (n / 10))) w (by omega) h1 (by rw [mk_size]; omega) (fun W => ih (n / 10).toNat (by omega) (n / 10) W rfl (by omega) (by omega))) ?_;rw [dig_mk, mk_app, itoa_step n (by omega)]
theorem convL (w : World) (g : Nat) (l : List UInt8) (c : Nat) (hc : ∀ j (hj : j < l.length), w.cell? ⟨g, j, none⟩ = some (.int .u8 (l[j].toNat : Int))) :
  Sem.run Tryz.prog (convert 94 9 (.slice (some ⟨g, 0, none⟩) l.length c)) w = .ok (.string (mk l)) w := by
 refine run_convert_bytes_back (P := Tryz.prog) w 94 9 5 ⟨g, 0, none⟩ c l Tryz.underlying94 Tryz.underlying5 Tryz.underlying9 ?_;intro j hj;have e : (⟨g, 0, none⟩ : Addr).add j = ⟨g, j, none⟩ := by
  unfold Addr.add;split
  ·subst_vars; rfl
  ·simp
 rw [e, hc j hj]
theorem conv2_new (w : World) (n : Int) (h0 : 0 ≤ n) (h1 : n < 100) :
  Sem.run Tryz.prog (convert 94 9 (.slice (some ⟨w.heap.size, 0, none⟩) 2 2)) (w.alloc (.cells #[.int .u8 (48 + n / 10), .int .u8 (48 + n % 10)] 5)) = .ok (.string (mk (Ck.dig2 n))) (w.alloc (.cells #[.int .u8 (48 + n / 10), .int .u8 (48 + n % 10)] 5)) := by
 refine convL _ _ (Ck.dig2 n) 2 ?_;intro j hj;rw [cell_of_row _ w.heap.size j _ _ _ (heap_alloc_new w _)];obtain ⟨k, rfl⟩ : ∃ k : Nat, n = (k : Int) := ⟨n.toNat, by omega⟩
 have a1 : (48 + k / 10) % 256 = 48 + k / 10 := by omega
 have a2 : (48 + k % 10) % 256 = 48 + k % 10 := by omega
 have hj' : j < 2 := hj;have : j = 0 ∨ j = 1 := by omega
 rcases this with rfl | rfl
 ·simp [Ck.dig2, UInt8.toNat_ofNat, a1]
 ·simp [Ck.dig2, UInt8.toNat_ofNat, a2]
theorem refTwo_any (n : Int) (w : World) (h0 : 0 ≤ n) (h1 : n < 100) :
  Calls Tryz.prog 194 #[.int .i64 n] w fun e w' => e = .returned (.string (mk (Ck.dig2 n))) ∧ Below w.heap.size w w' := by
 have hc := conv2_new w n h0 h1;go_enter Tryz.func194, Tryz.ntmps194
 go_wp2;go_ret
 exact ⟨rfl, (Below.refl _ _).alloc (Nat.le_refl _) _⟩
theorem add_mk (a b : List UInt8) (h : a.length + b.length ≤ 1000000) (W : World) : (Op.stringOp .add (mk a) (mk b)).run Tryz.prog W = .ok (.string (mk (a ++ b))) W := by
 rw [← mk_app];exact run_string_add_sum W _ _ (by rw [mk_size, mk_size]; omega)
theorem itoa_sz (n : Int) (h0 : 0 ≤ n) (h1 : n < 100000) : (Lib.itoa n).length ≤ 21 := Lib.itoa_length_le n (by omega) (by omega)
theorem refText_pos (a : Int) (w : World) (h0 : 0 ≤ a) (h1 : a ≤ 604800) :
  Calls Tryz.prog 162 #[.int .i64 a] w fun e w' => e = .returned (.string (mk (Ck.body a))) ∧ Below w.heap.size w w' := by
 have HT := Lib.hid fun W => calls_bool (refTime_any a W) (decide_eq_true (show IsTime a from ⟨by omega, h1⟩))
 have hN := fun W => num_any _ (a / 3600) W rfl (by omega) (by omega)
 have hD := fun W => refTwo_any (a / 60 % 60) W (by omega) (by omega)
 have hE := fun W => refTwo_any (a % 60) W (by omega) (by omega)
 have hl := itoa_sz (a / 3600) (by omega) (by omega);have hbody : Ck.body a = Lib.itoa (a / 3600) ++ [58] ++ Ck.dig2 (a / 60 % 60) ++ (if 0 < a % 60 then [58] ++ Ck.dig2 (a % 60) else []) := by
  unfold Ck.body;rw [Ck.two_dig, Ck.two_dig, show a % 3600 / 60 = a / 60 % 60 by omega, show a % 3600 % 60 = a % 60 by omega];simp
 obtain ⟨N, hN'⟩ : ∃ N, Lib.itoa (a / 3600) = N := ⟨_, rfl⟩
 obtain ⟨D, hD'⟩ : ∃ D, Ck.dig2 (a / 60 % 60) = D := ⟨_, rfl⟩
 obtain ⟨E, hE'⟩ : ∃ E, Ck.dig2 (a % 60) = E := ⟨_, rfl⟩
 have lD : D.length = 2 := by rw [← hD']; rfl
 have lE : E.length = 2 := by rw [← hE']; rfl
 rw [hN'] at hl;rw [hN', hD', hE'] at hbody;simp only [hN'] at hN;simp only [hD'] at hD;simp only [hE'] at hE;have HN := Lib.hid hN;have HD := Lib.hid hD;have HE := Lib.hid hE;have HB := Lib.hid hbody;have s1 : ∀ W, (Op.stringOp .add (mk N) { data := #[58] }).run Tryz.prog W = .ok (.string (mk (N ++ [58]))) W := fun W => add_mk N [58] (by simp; omega) W
 have s2 : ∀ W, (Op.stringOp .add (mk (N ++ [58])) (mk D)).run Tryz.prog W = .ok (.string (mk (N ++ [58] ++ D))) W := fun W => add_mk (N ++ [58]) D (by simp; omega) W
 have s3 : ∀ W, (Op.stringOp .add { data := #[58] } (mk E)).run Tryz.prog W = .ok (.string (mk ([58] ++ E))) W := fun W => add_mk [58] E (by simp; omega) W
 have s4 : ∀ W, (Op.stringOp .add (mk (N ++ [58] ++ D)) (mk ([58] ++ E))).run Tryz.prog W = .ok (.string (mk (N ++ [58] ++ D ++ ([58] ++ E)))) W := fun W => add_mk _ _ (by simp; omega) W
 obtain ⟨X1, hX1⟩ : ∃ X, mk (N ++ [58]) = X := ⟨_, rfl⟩
 obtain ⟨X2, hX2⟩ : ∃ X, mk (N ++ [58] ++ D) = X := ⟨_, rfl⟩
 obtain ⟨X3, hX3⟩ : ∃ X, mk ([58] ++ E) = X := ⟨_, rfl⟩
 obtain ⟨X4, hX4⟩ : ∃ X, mk (N ++ [58] ++ D ++ ([58] ++ E)) = X := ⟨_, rfl⟩
 rw [hX1] at s1 s2;rw [hX2] at s2 s4;rw [hX3] at s3 s4;rw [hX4] at s4;have H2 := Lib.hid hX2;have H4 := Lib.hid hX4;clear hN hD hE hbody hN' hD' hE' lD lE hX1 hX2 hX3 hX4
 by_cases hs : 0 < a % 60
 ·have HX : Hid (mk (Ck.body a) = X4) := by show mk (Ck.body a) = _; rw [HB.out, if_pos hs, H4.out]
  go_enter Tryz.func162, Tryz.ntmps162
  go_wp2_with fail
  refine (HT.out _).mono ?_;rintro e w1 ⟨rfl, rfl⟩;go_wp2_with fail
  refine (HN.out _).mono ?_;rintro e w2 ⟨rfl, hb2⟩;go_wp2_with fail
  refine (HD.out _).mono ?_;rintro e w3 ⟨rfl, hb3⟩;go_wp2_with fail
  refine (HE.out _).mono ?_;rintro e w4 ⟨rfl, hb4⟩;go_wp2;go_ret
  exact ⟨ret_str (by rw [HX.out]), below_then (below_then hb2 hb3) hb4⟩
 ·have HX : Hid (mk (Ck.body a) = X2) := by show mk (Ck.body a) = _; rw [HB.out, if_neg hs, List.append_nil, H2.out]
  go_enter Tryz.func162, Tryz.ntmps162
  go_wp2_with fail
  refine (HT.out _).mono ?_;rintro e w1 ⟨rfl, rfl⟩;go_wp2_with fail
  refine (HN.out _).mono ?_;rintro e w2 ⟨rfl, hb2⟩;go_wp2_with fail
  refine (HD.out _).mono ?_;rintro e w3 ⟨rfl, hb3⟩;go_wp2;go_ret
  exact ⟨ret_str (by rw [HX.out]), below_then hb2 hb3⟩
theorem refText_any (s : Int) (w : World) :
  Calls Tryz.prog 162 #[.int .i64 s] w fun e w' => e = .returned (.string (mk (Ck.text s))) ∧ Below w.heap.size w w' := by
 by_cases h : IsTime s
 ·by_cases hn : s < 0
  ·have HT := Lib.hid fun W => calls_bool (refTime_any s W) (decide_eq_true h)
   have HE : Hid (Ck.text s = [45] ++ Ck.body (-s)) := by show Ck.text s = _; unfold Ck.text Ck.sign; rw [if_pos h, if_pos hn, if_pos hn]
   obtain ⟨h1, h2⟩ := h;have HP := Lib.hid fun W => refText_pos (-s) W (by omega) (by omega)
   have hl : (Ck.body (-s)).length ≤ 1000 := by
    have := itoa_sz (-s / 3600) (by omega) (by omega);unfold Ck.body;split <;> simp [Ck.two] <;> omega
   obtain ⟨B, hB⟩ : ∃ B, Ck.body (-s) = B := ⟨_, rfl⟩
   rw [hB] at HE hl HP;have s1 : ∀ W, (Op.stringOp .add { data := #[45] } (mk B)).run Tryz.prog W = .ok (.string (mk ([45] ++ B))) W := fun W => add_mk [45] B (by simp; omega) W
   obtain ⟨X1, hX1⟩ : ∃ X, mk ([45] ++ B) = X := ⟨_, rfl⟩
   rw [hX1] at s1;have H1 := Lib.hid hX1;clear hB hl hX1;go_enter Tryz.func162, Tryz.ntmps162
   go_wp2_with fail
   refine (HT.out _).mono ?_;rintro e w1 ⟨rfl, rfl⟩;go_wp2_with fail
   refine (HP.out _).mono ?_;rintro e w2 ⟨rfl, hb2⟩;go_wp2;go_ret
   exact ⟨ret_str (by rw [HE.out, H1.out]), hb2⟩
  ·have hE : Ck.text s = Ck.body s := by unfold Ck.text Ck.sign; rw [if_pos h, if_neg hn, if_neg hn]; rfl
   rw [hE];exact refText_pos s w (by omega) h.2
 ·have HT := Lib.hid fun W => calls_bool (refTime_any s W) (decide_eq_false h)
  have HE : Hid (Ck.text s = []) := by show Ck.text s = []; unfold Ck.text; rw [if_neg h]
  clear h;go_enter Tryz.func162, Tryz.ntmps162
  go_wp2_with fail
  refine (HT.out _).mono ?_;rintro e w1 ⟨rfl, rfl⟩;go_wp2;go_ret
  exact ⟨ret_str (by rw [HE.out]; rfl), Below.refl _ _⟩
theorem refMomCheck_ok (s c : Int) (w : World) (h : Mo.Ok s c) :
  Calls Tryz.prog 161 #[.agg #[.int .i64 s, .int .u8 c]] w fun e w' => e = .returned (.int .i64 0) ∧ Below w.heap.size w w' := by
 have hT := fun W => refText_any s W
 have hne : (mk (Ck.text s)).toList.isEmpty = false := text_ne s h.1;obtain ⟨X, hX⟩ : ∃ X, mk (Ck.text s) = X := ⟨_, rfl⟩
 simp only [hX] at hT hne;have HT := Lib.hid hT;obtain ⟨_, h3⟩ := h;clear hT hX;go_enter Tryz.func161, Tryz.ntmps161
 go_wp2_with fail
 refine (HT.out _).mono ?_;rintro e w1 ⟨rfl, hb1⟩;obtain ⟨c1, f1⟩ := bcell hb1;have HB := Lib.hid (below_new (hb1.mono (by simp) : Below (w.heap.size + 1) (w.alloc (.cells #[.int .i64 s, .int .u8 c] 107)) w1));clear hb1;go_wp2;go_ret
 exact ⟨rfl, HB.out⟩
theorem refMomCheck_bad (s c : Int) (w : World) (h : ¬ Mo.Ok s c) :
  Calls Tryz.prog 161 #[.agg #[.int .i64 s, .int .u8 c]] w fun e w' => e = .returned (.int .i64 2) ∧ Below w.heap.size w w' := by
 by_cases ht : IsTime s
 ·have h3 : 3 ≤ c := by unfold Mo.Ok at h; have : ¬ c < 3 := fun x => h ⟨ht, x⟩; omega
  have hT := fun W => refText_any s W
  have hne : (mk (Ck.text s)).toList.isEmpty = false := text_ne s ht;obtain ⟨X, hX⟩ : ∃ X, mk (Ck.text s) = X := ⟨_, rfl⟩
  simp only [hX] at hT hne;have HT := Lib.hid hT;clear hT hX h ht;go_enter Tryz.func161, Tryz.ntmps161
  go_wp2_with fail
  refine (HT.out _).mono ?_;rintro e w1 ⟨rfl, hb1⟩;obtain ⟨c1, f1⟩ := bcell hb1;have HB := Lib.hid (below_new (hb1.mono (by simp) : Below (w.heap.size + 1) (w.alloc (.cells #[.int .i64 s, .int .u8 c] 107)) w1));clear hb1;go_wp2;go_ret
  exact ⟨rfl, HB.out⟩
 ·have HT := Lib.hid fun W => calls_str (refText_any s W) (show _ = (⟨#[]⟩ : ByteArray) by unfold Ck.text; rw [if_neg ht]; rfl)
  clear h ht;go_enter Tryz.func161, Tryz.ntmps161
  go_wp2_with fail
  refine (HT.out _).mono ?_;rintro e w1 ⟨rfl, hb1⟩;have HB := Lib.hid (below_new (hb1.mono (by simp) : Below (w.heap.size + 1) (w.alloc (.cells #[.int .i64 s, .int .u8 c] 107)) w1));clear hb1;go_wp2;go_ret
  exact ⟨rfl, HB.out⟩
end Go.Proofs.YtjobhjemnmleaaaGreatDoor
