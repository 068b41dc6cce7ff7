/- Looking things up in spans, in plain words. -/
import Derived.Test.YtolgigaolffenaaGreatDoorU29
import Derived.Test.YtolgigaolffenaaGreatDoorU14
import Derived.Test.YtolgigaolffenaaGreatDoorU27
import Derived.Deep.QuietTactic
import Derived.BigQuiet

namespace Go.Proofs.YtolgigaolffenaaGreatDoor
open Go.RowKit

namespace Lo
open Ln
structure Right (l : List Sp) : Prop where
  ne : l ≠ []
  up : ∀ (k : Nat) (x y : Sp), l[k]? = some x → l[k + 1]? = some y → x.fr < y.fr ∧ alike x y = false
theorem right_cov {f : Int → Int × Bool} {te c : Int} {l : List Sp} (h : Cov f te c l) (hlt : c < te) : Right l :=
  ⟨fun e => by
    rw [e] at h
    have : c = te := h
    omega, fun k x y hx hy => ⟨(Cov.two h k x y hx hy).1, (Cov.two h k x y hx hy).2.1⟩⟩
theorem Right.mono {l : List Sp} (h : Right l) : ∀ (d i : Nat) (x y : Sp), l[i]? = some x → l[i + d]? = some y → x.fr ≤ y.fr
  | 0, i, x, y, hx, hy => by
    rw [Nat.add_zero, hx] at hy
    cases hy
    exact Int.le_refl _
  | d + 1, i, x, y, hx, hy => by
    have hlt := (List.getElem?_eq_some_iff.1 hy).1
    obtain ⟨z, hz⟩ : ∃ z, l[i + d]? = some z := ⟨_, List.getElem?_eq_getElem (by omega)⟩
    have h1 := h.mono d i x z hx hz
    have h2 := (h.up (i + d) z y hz (by rw [show i + d + 1 = i + (d + 1) by omega]; exact hy)).1
    omega
structure Ab (l : List Sp) (t : Int) (r : Nat) : Prop where
  le : r ≤ l.length
  lo : ∀ (i : Nat) (x : Sp), i < r → l[i]? = some x → x.fr ≤ t
  hi : ∀ (i : Nat) (x : Sp), r ≤ i → l[i]? = some x → t < x.fr
theorem Ab.tail {a : Sp} {l : List Sp} {t : Int} {r : Nat} (h : Ab (a :: l) t (r + 1)) : Ab l t r :=
  ⟨by have := h.le; simpa using this, fun i x hi hx => h.lo (i + 1) x (by omega) (by simpa using hx), fun i x hi hx => h.hi (i + 1) x (by omega) (by simpa using hx)⟩
theorem cov_from {f : Int → Int × Bool} {te : Int} : ∀ {A : List Sp} {c t : Int} {r : Nat}, Cov f te c A → c ≤ t → t < te → Ab A t r → ∃ (n : Nat) (x : Sp), r = n + 1 ∧ A[n]? = some x ∧ f t = (x.off, x.dst) ∧ Cov f te t (⟨t, x.off, x.dst⟩ :: A.drop r)
  | [], c, t, r, h, h1, h2, _ => by
    have : c = te := h
    omega
  | a :: A, c, t, 0, ⟨h0, _⟩, h1, h2, hA => by
    have := hA.hi 0 a (Nat.le_refl _) rfl
    omega
  | a :: A, c, t, r + 1, ⟨h0, d, k1, k2, k3, k4, k5⟩, h1, h2, hA => by
    by_cases hd : t < d
    · have hr : r = 0 := by
        rcases Nat.eq_zero_or_pos r with q | q
        · exact q
        · cases A with
          | nil =>
            have := hA.le
            simp at this
            exact this
          | cons x A =>
            have := hA.lo 1 x (by omega) rfl
            obtain ⟨e, _⟩ := k4
            omega
      subst hr
      exact ⟨0, a, rfl, rfl, k3 t h1 hd, rfl, d, hd, k2, fun u q1 q2 => k3 u (by omega) q2, k4, k5⟩
    · obtain ⟨n, x, e1, e2, e3, e4⟩ := cov_from k4 (show d ≤ t by omega) h2 hA.tail
      exact ⟨n + 1, x, by omega, e2, e3, e4⟩
theorem cov_upto {f : Int → Int × Bool} {te m : Int} : ∀ {A : List Sp} {c : Int}, Cov f te c A → c < m → m ≤ te → Cov f m c (A.takeWhile fun x => decide (x.fr < m))
  | [], c, h, h1, h2 => by
    have : c = te := h
    omega
  | a :: A, c, ⟨h0, d, k1, k2, k3, k4, k5⟩, h1, h2 => by
    rw [List.takeWhile_cons_of_pos (by rw [decide_eq_true_eq]; omega)]
    by_cases hd : d < m
    · refine ⟨h0, d, k1, by omega, k3, cov_upto k4 hd h2, fun b hb => ?_⟩
      cases A with
      | nil => cases hb
      | cons x A =>
        obtain ⟨e, _⟩ := k4
        rw [List.takeWhile_cons_of_pos (by rw [decide_eq_true_eq]; omega)] at hb
        exact k5 b hb
    · have e : A.takeWhile (fun x => decide (x.fr < m)) = [] := by
        cases A with
        | nil => rfl
        | cons x A =>
          obtain ⟨e, _⟩ := k4
          rw [List.takeWhile_cons_of_neg (by rw [decide_eq_true_eq]; omega)]
      rw [e]
      exact ⟨h0, m, h1, Int.le_refl _, fun u q1 q2 => k3 u q1 (by omega), rfl, fun b hb => by cases hb⟩
def cutL (l : List Sp) (fr te : Int) (r : Nat) (x : Sp) : List Sp := ⟨fr, x.off, x.dst⟩ :: (l.drop r).takeWhile fun x => decide (x.fr < te)
theorem cov_cut {f : Int → Int × Bool} {te c fr m : Int} {A : List Sp} {n : Nat} {x : Sp} (h : Cov f te c A) (h1 : c ≤ fr) (h2 : fr < m) (h3 : m ≤ te) (hA : Ab A fr (n + 1)) (hx : A[n]? = some x) : Cov f m fr (cutL A fr m (n + 1) x) := by
  obtain ⟨k, y, e1, e2, _, e3⟩ := cov_from h h1 (by omega) hA
  obtain rfl : k = n := by omega
  rw [hx] at e2
  cases e2
  have := cov_upto e3 h2 h3
  rw [List.takeWhile_cons_of_pos (by rw [decide_eq_true_eq]; exact h2)] at this
  exact this
def CovW (f : Int → Int × Bool) (te : Int) : Int → List Sp → Prop
  | c, [] => c = te
  | c, a :: A => a.fr = c ∧ ∃ d, c < d ∧ (∀ t, c ≤ t → t < d → f t = (a.off, a.dst)) ∧ CovW f te d A
theorem covW {f : Int → Int × Bool} {te : Int} : ∀ {A : List Sp} {c : Int}, Cov f te c A → CovW f te c A
  | [], _, h => h
  | _ :: _, _, ⟨h0, d, k1, _, k3, k4, _⟩ => ⟨h0, d, k1, k3, covW k4⟩
theorem covW_le {f : Int → Int × Bool} {te : Int} : ∀ {A : List Sp} {c : Int}, CovW f te c A → c ≤ te
  | [], c, h => Int.le_of_eq h
  | a :: A, c, ⟨h0, d, k1, k3, k4⟩ => by have := covW_le k4; omega
theorem covW_app {f : Int → Int × Bool} {m te : Int} : ∀ {A B : List Sp} {c : Int}, CovW f m c A → CovW f te m B → CovW f te c (A ++ B)
  | [], B, c, h, k => by
    obtain rfl : c = m := h
    exact k
  | a :: A, B, c, ⟨h0, d, k1, k3, k4⟩, k => ⟨h0, d, k1, k3, covW_app k4 k⟩
def tidyGo (p : Sp) : List Sp → List Sp
  | [] => []
  | x :: l => if alike x p = true then tidyGo x l else x :: tidyGo x l
def tidy : List Sp → List Sp
  | [] => []
  | x :: l => x :: tidyGo x l
theorem tidyGo_cov {f : Int → Int × Bool} {te : Int} : ∀ {A : List Sp} {c d : Int} {p q : Sp}, CovW f te d A → c < d → q.fr = c → p.off = q.off → p.dst = q.dst → (∀ t, c ≤ t → t < d → f t = (q.off, q.dst)) → Cov f te c (q :: tidyGo p A)
  | [], c, d, p, q, h, hlt, e0, e1, e2, hf => by
    obtain rfl : d = te := h
    exact ⟨e0, d, hlt, Int.le_refl _, hf, rfl, fun b hb => by cases hb⟩
  | x :: A, c, d, p, q, ⟨h0, d', k1, k3, k4⟩, hlt, e0, e1, e2, hf => by
    show Cov f te c (q :: if alike x p = true then tidyGo x A else x :: tidyGo x A)
    by_cases ha : alike x p = true
    · rw [if_pos ha]
      rw [alike_iff] at ha
      refine tidyGo_cov k4 (by omega) e0 (ha.1.trans e1) (ha.2.trans e2) fun t q1 q2 => ?_
      by_cases hd : t < d
      · exact hf t q1 hd
      · rw [k3 t (by omega) q2, ha.1, ha.2, e1, e2]
    · rw [if_neg ha]
      have hle := covW_le k4
      refine ⟨e0, d, hlt, by omega, hf, tidyGo_cov k4 k1 h0 rfl rfl k3, fun b hb => ?_⟩
      obtain rfl : x = b := by simpa using hb
      rw [alike_comm]
      have : alike x q = alike x p := by unfold alike; rw [e1, e2]
      rw [this]
      simpa using ha
theorem tidy_cov {f : Int → Int × Bool} {te c : Int} {A : List Sp} (h : CovW f te c A) : Cov f te c (tidy A) := by
  cases A with
  | nil => exact h
  | cons x A =>
    obtain ⟨h0, d, k1, k3, k4⟩ := h
    exact tidyGo_cov k4 k1 h0 rfl rfl k3
end Lo
end Go.Proofs.YtolgigaolffenaaGreatDoor

/- Package look: what is looked up in spans. -/
namespace Go.Proofs.YtolgigaolffenaaGreatDoor
open Go.RowKit
attribute [local go_sem] Oper.semAt_some

set_option maxHeartbeats 2000000 in
theorem lookAlike_any (a b : Ln.Sp) (w : World) :
    Calls Tryz.prog 63 #[.agg #[.int .i64 a.fr, .int .i64 a.off, .bool a.dst], .agg #[.int .i64 b.fr, .int .i64 b.off, .bool b.dst]] w fun e w' => e = .returned (.bool (Ln.alike a b)) ∧ Below w.heap.size w w' := by
  obtain ⟨x, o, d⟩ := a
  obtain ⟨x', o', d'⟩ := b
  have HB := Lib.hid (((Below.refl w.heap.size w).alloc (Nat.le_refl _) (.cells #[.int .i64 x, .int .i64 o, .bool d] 71)).alloc (by simp) (.cells #[.int .i64 x', .int .i64 o', .bool d'] 71))
  unfold Ln.alike
  simp only
  by_cases ho : o = o'
  · subst ho
    rw [decide_eq_true rfl, Bool.true_and]
    cases d <;> cases d'
    all_goals
      go_enter Tryz.func63, Tryz.ntmps63
      go_wp2
      go_ret
      exact ⟨rfl, HB.out⟩
  · have p1 : (o == o') = false := by rw [beq_eq_false_iff_ne]; exact ho
    rw [decide_eq_false ho, Bool.false_and]
    go_enter Tryz.func63, Tryz.ntmps63
    go_wp2
    go_ret
    exact ⟨rfl, HB.out⟩
set_option maxHeartbeats 2000000 in
theorem lookAboveC_any (l : List Ln.Sp) (t : Int) (A : Option Addr) (n c i g h B : Nat) (w : World) (hn : l.length = n) (hi : i < n) (c0 : w.cell? ⟨g, 0, none⟩ = some (.slice A n c)) (c1 : w.cell? ⟨h, 0, none⟩ = some (.int .i64 t)) (hR : Reads w B 3 A n (l.flatMap Ln.Sp.cells)) :
    Calls Tryz.prog 115 #[.int .i64 (i : Int), .pointer (some ⟨g, 0, none⟩), .pointer (some ⟨h, 0, none⟩)] w fun e w' => (∃ x, l[i]? = some x ∧ e = .returned (.bool (decide (t < x.fr)))) ∧ Drew w w' := by
  obtain ⟨ad, x, rfl, hab, Hx, HL⟩ := Ix.reads_cells (enc := Ln.Sp.cells) (m := 3) (fun _ => rfl) hn hR hi
  have x0 : w.cell? (ad.add (i * 3)) = some (.int .i64 x.fr) := HL.out 0 _ rfl
  have z0 := block_lt_of_cell c0
  have z1 := block_lt_of_cell c1
  have q1 : (0 : Int) ≤ (i : Int) := by omega
  have q2 : (i : Int) < (n : Int) := by omega
  clear hR hn hi HL hab
  by_cases hq : t < x.fr
  · have HD := Lib.hid (decide_eq_true hq)
    go_enter Tryz.func115, Tryz.ntmps115
    go_wp2
    go_quiet (fail)
    go_wp2
    go_ret
    exact ⟨⟨x, Hx.out, by rw [HD.out]; rfl⟩, by first | exact ⟨_, rfl⟩ | exact Drew.refl _⟩
  · have HD := Lib.hid (decide_eq_false hq)
    go_enter Tryz.func115, Tryz.ntmps115
    go_wp2
    go_quiet (fail)
    go_wp2
    go_ret
    exact ⟨⟨x, Hx.out, by rw [HD.out]; rfl⟩, by first | exact ⟨_, rfl⟩ | exact Drew.refl _⟩
set_option maxHeartbeats 4000000 in
theorem lookAbove_any (l : List Ln.Sp) (t : Int) (A : Option Addr) (n c : Nat) (w : World) (hn : l.length = n) (hn2 : n ≤ 1000000000) (hr : Lo.Right l) (hR : Reads w w.heap.size 3 A n (l.flatMap Ln.Sp.cells)) :
    Calls Tryz.prog 69 #[.slice A n c, .int .i64 t] w fun e w' => (∃ r : Nat, e = .returned (.int .i64 (r : Int)) ∧ Lo.Ab l t r) ∧ Below w.heap.size w w' := by
  have ec := enters_of Tryz.func115 (by kernel_rfl) rfl
  obtain ⟨h, hh⟩ : ∃ h, w.heap.size = h := ⟨_, rfl⟩
  obtain ⟨W2, hW2⟩ : ∃ W, (w.alloc (.cells #[.slice A n c] 66)).alloc (.cells #[.int .i64 t] 2) = W := ⟨_, rfl⟩
  have hb2 : Below w.heap.size w W2 := by rw [← hW2]; exact ((Below.refl _ _).alloc (Nat.le_refl _) _).alloc (by simp) _
  have hA2 : At W2 h [.slice A n c] := by rw [← hW2, ← hh]; exact (At.new w #[.slice A n c] 66).allocO _
  have hA3 : At W2 (h + 1) [.int .i64 t] := by
    have := At.new (w.alloc (.cells #[.slice A n c] 66)) #[.int .i64 t] 2
    rw [hW2, World.size_alloc, hh] at this
    exact this
  obtain ⟨p, hp⟩ : ∃ p : Nat → Bool, (fun i => decide (t < (l.getD i ⟨0, 0, false⟩).fr)) = p := ⟨_, rfl⟩
  have hpx : ∀ i x, l[i]? = some x → p i = decide (t < x.fr) := fun i x hx => by
    rw [← hp]
    simp only
    rw [List.getD_eq_getElem?_getD, hx]
    rfl
  have HS := Lib.hid (search_any n 115 #[.pointer (some ⟨h, 0, none⟩), .pointer (some ⟨h + 1, 0, none⟩)] p W2 hn2 ec (fun W hb i hi => (lookAboveC_any l t A n c i h (h + 1) w.heap.size W hn hi ((hA2.call hb).cell 0 _ rfl) ((hA3.call hb).cell 0 _ rfl) (hR.below (hb2.trans (hb.mono hb2.size)))).mono (by
      rintro e w' ⟨⟨x, hx, rfl⟩, hd⟩
      exact ⟨by rw [hpx i x hx], hd.below _⟩)) (fun i j hij hj h1 => by
      obtain ⟨x, hx⟩ : ∃ x, l[i]? = some x := ⟨_, List.getElem?_eq_getElem (by omega)⟩
      obtain ⟨y, hy⟩ : ∃ y, l[j]? = some y := ⟨_, List.getElem?_eq_getElem (by omega)⟩
      rw [hpx i x hx, decide_eq_true_eq] at h1
      rw [hpx j y hy, decide_eq_true_eq]
      have := hr.mono (j - i) i x y hx (by rw [show i + (j - i) = j by omega]; exact hy)
      omega))
  have HP := Lib.hid hpx
  have HN := Lib.hid hn
  have HB2 := Lib.hid hb2
  have HW2 := Lib.hid hW2
  have HH := Lib.hid hh
  have a2 := hA2.cell 0 _ rfl
  have z2 := hA2.lt
  clear hpx hp hW2 hb2 hA2 hA3 hR hn hr hh
  go_enter Tryz.func69, Tryz.ntmps69
  go_wp2_with fail
  try rw [HH.out]
  rw [HW2.out]
  refine HS.out.mono ?_
  rintro e w3 ⟨r, hr, rfl, h1, h2, hb3⟩
  have HB3 := Lib.hid (HB2.out.trans (hb3.mono HB2.out.size))
  have HAb : Hid (Lo.Ab l t r) := ⟨by rw [HN.out]; exact hr, fun i x hi hx => by
    have := h1 i hi
    rw [HP.out i x hx, decide_eq_false_iff_not] at this
    omega, fun i x hi hx => by
    have := h2 i hi (by have := (List.getElem?_eq_some_iff.1 hx).1; have := HN.out; omega)
    rw [HP.out i x hx, decide_eq_true_eq] at this
    exact this⟩
  clear h1 h2 hb3 hr a2 z2
  go_wp2
  go_ret
  exact ⟨⟨r, rfl, HAb.out⟩, HB3.out⟩
namespace LkC
def sl : Nat → Nat
  | 0 => 13
  | 1 => 14
  | 2 => 15
  | 3 => 16
  | 4 => 17
  | 5 => 18
  | 6 => 19
  | 7 => 20
  | 8 => 21
  | 9 => 22
  | 10 => 23
  | 11 => 24
  | 12 => 25
  | 13 => 26
  | 14 => 27
  | 15 => 28
  | 16 => 29
  | 17 => 30
  | 18 => 31
  | 19 => 32
  | 20 => 33
  | 21 => 34
  | 22 => 35
  | _ => 36
def Q (ad : Addr) (n : Nat) (c : Nat) (k : Nat) (j : Nat) (x0 : Int) (x1 : Int) (x2 : Bool) (y0 : Int) (y1 : Int) (y2 : Bool) : Nat → Value → World → Prop
  | 0, v, _ => v = .slice (some ad) n c
  | 1, v, _ => v = .int .i64 (k : Int)
  | 2, v, _ => v = .pointer (some (ad.add (k * 3)))
  | 3, v, _ => v = .pointer (some (ad.add (k * 3)))
  | 4, v, _ => v = .int .i64 x0
  | 5, v, _ => v = .slice (some ad) n c
  | 6, v, _ => v = .int .i64 (k : Int)
  | 7, v, _ => v = .int .i64 (j : Int)
  | 8, v, _ => v = .pointer (some (ad.add (j * 3)))
  | 9, v, _ => v = .pointer (some (ad.add (j * 3)))
  | 10, v, _ => v = .int .i64 y0
  | 11, v, _ => v = .bool false
  | 12, v, _ => v = .bool false
  | 13, v, _ => v = .slice (some ad) n c
  | 14, v, _ => v = .int .i64 (k : Int)
  | 15, v, _ => v = .pointer (some (ad.add (k * 3)))
  | 16, v, _ => v = .agg #[.int .i64 x0, .int .i64 x1, .bool x2]
  | 17, v, _ => v = .slice (some ad) n c
  | 18, v, _ => v = .int .i64 (k : Int)
  | 19, v, _ => v = .int .i64 (j : Int)
  | 20, v, _ => v = .pointer (some (ad.add (j * 3)))
  | 21, v, _ => v = .agg #[.int .i64 y0, .int .i64 y1, .bool y2]
  | 22, v, _ => v = .bool false
  | 23, v, _ => v = .bool false
  | _, _, _ => True
theorem Q_mono {ad : Addr} {n : Nat} {c : Nat} {k : Nat} {j : Nat} {x0 : Int} {x1 : Int} {x2 : Bool} {y0 : Int} {y1 : Int} {y2 : Bool} : ∀ i v W W', Q ad n c k j x0 x1 x2 y0 y1 y2 i v W → Below W.heap.size W W' → Q ad n c k j x0 x1 x2 y0 y1 y2 i v W' := by
  intro _ v W W' h hb
  unfold Q at h ⊢
  split at h
  all_goals first | exact h
theorem sl_inj : ∀ j, j < 24 → ∀ k, k < 24 → sl j = sl k → j = k := by decide +kernel
theorem sl_no : ∀ j, j ∈ [0, 1, 2, 3, 4, 5, 6] → ∀ k, k < 24 → sl k ≠ j := by decide +kernel
end LkC
set_option maxHeartbeats 16000000 in
set_option maxRecDepth 200000 in
theorem lookCheck_any (l : List Ln.Sp) (A : Option Addr) (n c : Nat) (w : World) (hn : l.length = n) (hn2 : n ≤ 1000000000) (hr : Lo.Right l) (hR : Reads w w.heap.size 3 A n (l.flatMap Ln.Sp.cells)) :
    Calls Tryz.prog 33 #[.slice A n c] w fun e w' => e = .returned (.int .i64 0) ∧ Below w.heap.size w w' := by
  have hn0 : 0 < n := by
    rw [← hn]
    exact List.length_pos_iff.2 hr.ne
  obtain ⟨ad, -, rfl, -, -, -⟩ := Ix.reads_cells (enc := Ln.Sp.cells) (m := 3) (fun _ => rfl) hn hR hn0
  have q0 : ((n : Int) == 0) = false := by rw [beq_eq_false_iff_ne]; omega
  have q0' : ¬ (n : Int) = 0 := by omega
  have HN := Lib.hid hn
  have HR := Lib.hid hR
  have HG := Lib.hid hr
  clear hn hR hr
  go_enter Tryz.func33, Tryz.ntmps33
  go_wp2
  go_loopw [3] (fun i wr => ∃ k : Nat, 1 ≤ k ∧ k ≤ n ∧ i = .int .i64 (k : Int) ∧ Hid (Below w.heap.size w wr)) (fun i _ => n - (intOf i).toNat)
  case atStart => exact ⟨1, Nat.le_refl _, hn0, rfl, Below.refl _ _⟩
  case round =>
    obtain ⟨k, hk0, hk, rfl, HB⟩ := hrel
    by_cases hlt : k < n
    · obtain ⟨j, hj⟩ : ∃ j, k = j + 1 := ⟨k - 1, by omega⟩
      obtain ⟨ad', x, e0, hab, Hx, HLx⟩ := Ix.reads_cells (enc := Ln.Sp.cells) (m := 3) (fun _ => rfl) HN.out HR.out hlt
      obtain rfl := Option.some.inj e0
      obtain ⟨ad', y, e0, hab2, Hy, HLy⟩ := Ix.reads_cells (enc := Ln.Sp.cells) (m := 3) (fun _ => rfl) HN.out HR.out (show j < n by omega)
      obtain rfl := Option.some.inj e0
      have hup := HG.out.up j y x Hy.out (by rw [← hj]; exact Hx.out)
      obtain ⟨x0, x1, x2⟩ := x
      obtain ⟨y0, y1, y2⟩ := y
      have HX : Hid (∀ W, Below wr.heap.size wr W → W.cell? (ad.add (k * 3)) = some (.int .i64 x0) ∧ W.cell? ⟨(ad.add (k * 3)).block, (ad.add (k * 3)).off + 1, none⟩ = some (.int .i64 x1) ∧ W.cell? ⟨(ad.add (k * 3)).block, (ad.add (k * 3)).off + 2, none⟩ = some (.bool x2)) := fun W hb =>
        have hbw := HB.out.trans (hb.mono HB.out.size)
        ⟨(hbw.cell (p := ad.add (k * 3)) (by rw [block_of_add]; exact hab)).trans (HLx.out 0 _ rfl), (hbw.cell (p := ⟨(ad.add (k * 3)).block, (ad.add (k * 3)).off + 1, none⟩) (by show (ad.add (k * 3)).block < _; rw [block_of_add]; exact hab)).trans (HLx.out 1 _ rfl), (hbw.cell (p := ⟨(ad.add (k * 3)).block, (ad.add (k * 3)).off + 2, none⟩) (by show (ad.add (k * 3)).block < _; rw [block_of_add]; exact hab)).trans (HLx.out 2 _ rfl)⟩
      have HY : Hid (∀ W, Below wr.heap.size wr W → W.cell? (ad.add (j * 3)) = some (.int .i64 y0) ∧ W.cell? ⟨(ad.add (j * 3)).block, (ad.add (j * 3)).off + 1, none⟩ = some (.int .i64 y1) ∧ W.cell? ⟨(ad.add (j * 3)).block, (ad.add (j * 3)).off + 2, none⟩ = some (.bool y2)) := fun W hb =>
        have hbw := HB.out.trans (hb.mono HB.out.size)
        ⟨(hbw.cell (p := ad.add (j * 3)) (by rw [block_of_add]; exact hab2)).trans (HLy.out 0 _ rfl), (hbw.cell (p := ⟨(ad.add (j * 3)).block, (ad.add (j * 3)).off + 1, none⟩) (by show (ad.add (j * 3)).block < _; rw [block_of_add]; exact hab2)).trans (HLy.out 1 _ rfl), (hbw.cell (p := ⟨(ad.add (j * 3)).block, (ad.add (j * 3)).off + 2, none⟩) (by show (ad.add (j * 3)).block < _; rw [block_of_add]; exact hab2)).trans (HLy.out 2 _ rfl)⟩
      have ha : Ln.alike ⟨x0, x1, x2⟩ ⟨y0, y1, y2⟩ = false := by rw [Ln.alike_comm]; exact hup.2
      have HAl := Lib.hid fun W => ha ▸ lookAlike_any ⟨x0, x1, x2⟩ ⟨y0, y1, y2⟩ W
      have HP : Hid (decide (x0 ≤ y0) = false) := by
        have h1 : y0 < x0 := hup.1
        show decide (x0 ≤ y0) = false
        rw [decide_eq_false_iff_not]
        omega
      have HQ : Hid ((0 : Int) ≤ (k : Int) ∧ (k : Int) < (n : Int) ∧ (0 : Int) ≤ (j : Int) ∧ (j : Int) < (n : Int) ∧ IntKind.i64.wrap ((k : Int) - 1) = (j : Int)) := ⟨by omega, by omega, by omega, by omega, by rw [IntKind.wrap_i64]; omega⟩
      have q2 : (k : Int) < (n : Int) := by omega
      clear hab hab2 Hx Hy HLx HLy hup ha hj
      go_wp2_with fail
      refine Od.wp_region_inv 37 (by kernel_rfl) (by rfl) (by rfl) (Od.ord_of (by kernel_rfl)) (Od.dst_of (by kernel_rfl)) (Rg.J 24 LkC.sl (LkC.Q ad n c k j x0 x1 x2 y0 y1 y2) wr (Od.slots _)) (Rg.J.start _ _ _ ((Below.refl _ _).drew)) ?stepR ?finR
      case stepR =>
        intro i o hi b' a' wv hJ hb hdep hdf K hK
        obtain ⟨tm, df⟩ := a'
        simp only at hdf
        subst hdf
        have hiN : i < 24 := (Array.getElem?_eq_some_iff.1 hi).1
        have hsplit : i = 0 ∨ i = 1 ∨ i = 2 ∨ i = 3 ∨ i = 4 ∨ i = 5 ∨ i = 6 ∨ i = 7 ∨ i = 8 ∨ i = 9 ∨ i = 10 ∨ i = 11 ∨ i = 12 ∨ i = 13 ∨ i = 14 ∨ i = 15 ∨ i = 16 ∨ i = 17 ∨ i = 18 ∨ i = 19 ∨ i = 20 ∨ i = 21 ∨ i = 22 ∨ i = 23 := by omega
        rcases hsplit with rfl | rfl | rfl | rfl | rfl | rfl | rfl | rfl | rfl | rfl | rfl | rfl | rfl | rfl | rfl | rfl | rfl | rfl | rfl | rfl | rfl | rfl | rfl | rfl
        · have e := Option.some.inj (show some _ = some o from hi)
          subst e
          rw [if_pos (show Region.wanted _ _ = true from rfl)]
          have h0 : tm.getD 0 undef = .slice (some ad) n c := (hJ.old 0 (LkC.sl_no 0 (by decide))).trans rfl
          have h0' : tm[0]?.getD undef = .slice (some ad) n c := by rw [← Array.getD_eq_getD_getElem?]; exact h0
          go_simp
          exact hK _ _ (hJ.put LkC.Q_mono LkC.sl_inj (by decide) rfl)
        · have e := Option.some.inj (show some _ = some o from hi)
          subst e
          rw [if_pos (show Region.wanted _ _ = true from rfl)]
          have h3 : tm.getD 3 undef = .int .i64 (k : Int) := (hJ.old 3 (LkC.sl_no 3 (by decide))).trans rfl
          have h3' : tm[3]?.getD undef = .int .i64 (k : Int) := by rw [← Array.getD_eq_getD_getElem?]; exact h3
          go_simp
          exact hK _ _ (hJ.put LkC.Q_mono LkC.sl_inj (by decide) rfl)
        · have e := Option.some.inj (show some _ = some o from hi)
          subst e
          rw [if_pos (show Region.wanted _ _ = true from rfl)]
          have v0 : tm.getD 13 undef = .slice (some ad) n c := hJ.val 0 (by decide) (hdep ⟨0, .data⟩ (by simp) rfl)
          have v0' : tm[13]?.getD undef = .slice (some ad) n c := by rw [← Array.getD_eq_getD_getElem?]; exact v0
          have v1 : tm.getD 14 undef = .int .i64 (k : Int) := hJ.val 1 (by decide) (hdep ⟨1, .data⟩ (by simp) rfl)
          have v1' : tm[14]?.getD undef = .int .i64 (k : Int) := by rw [← Array.getD_eq_getD_getElem?]; exact v1
          have q1 := HQ.out.1
          have q2 := HQ.out.2.1
          go_simp
          exact hK _ _ (hJ.put LkC.Q_mono LkC.sl_inj (by decide) rfl)
        · have e := Option.some.inj (show some _ = some o from hi)
          subst e
          rw [if_pos (show Region.wanted _ _ = true from rfl)]
          have v2 : tm.getD 15 undef = .pointer (some (ad.add (k * 3))) := hJ.val 2 (by decide) (hdep ⟨2, .data⟩ (by simp) rfl)
          have v2' : tm[15]?.getD undef = .pointer (some (ad.add (k * 3))) := by rw [← Array.getD_eq_getD_getElem?]; exact v2
          go_simp
          exact hK _ _ (hJ.put LkC.Q_mono LkC.sl_inj (by decide) rfl)
        · have e := Option.some.inj (show some _ = some o from hi)
          subst e
          rw [if_pos (show Region.wanted _ _ = true from rfl)]
          have v3 : tm.getD 16 undef = .pointer (some (ad.add (k * 3))) := hJ.val 3 (by decide) (hdep ⟨3, .data⟩ (by simp) rfl)
          have v3' : tm[16]?.getD undef = .pointer (some (ad.add (k * 3))) := by rw [← Array.getD_eq_getD_getElem?]; exact v3
          obtain ⟨c0, c1, c2⟩ := HX.out wv hJ.below
          go_simp
          exact hK _ _ (hJ.put LkC.Q_mono LkC.sl_inj (by decide) rfl)
        · have e := Option.some.inj (show some _ = some o from hi)
          subst e
          rw [if_pos (show Region.wanted _ _ = true from rfl)]
          have h0 : tm.getD 0 undef = .slice (some ad) n c := (hJ.old 0 (LkC.sl_no 0 (by decide))).trans rfl
          have h0' : tm[0]?.getD undef = .slice (some ad) n c := by rw [← Array.getD_eq_getD_getElem?]; exact h0
          go_simp
          exact hK _ _ (hJ.put LkC.Q_mono LkC.sl_inj (by decide) rfl)
        · have e := Option.some.inj (show some _ = some o from hi)
          subst e
          rw [if_pos (show Region.wanted _ _ = true from rfl)]
          have h3 : tm.getD 3 undef = .int .i64 (k : Int) := (hJ.old 3 (LkC.sl_no 3 (by decide))).trans rfl
          have h3' : tm[3]?.getD undef = .int .i64 (k : Int) := by rw [← Array.getD_eq_getD_getElem?]; exact h3
          go_simp
          exact hK _ _ (hJ.put LkC.Q_mono LkC.sl_inj (by decide) rfl)
        · have e := Option.some.inj (show some _ = some o from hi)
          subst e
          rw [if_pos (show Region.wanted _ _ = true from rfl)]
          have v6 : tm.getD 19 undef = .int .i64 (k : Int) := hJ.val 6 (by decide) (hdep ⟨6, .data⟩ (by simp) rfl)
          have v6' : tm[19]?.getD undef = .int .i64 (k : Int) := by rw [← Array.getD_eq_getD_getElem?]; exact v6
          have wj := HQ.out.2.2.2.2
          go_simp
          exact hK _ _ (hJ.put LkC.Q_mono LkC.sl_inj (by decide) rfl)
        · have e := Option.some.inj (show some _ = some o from hi)
          subst e
          rw [if_pos (show Region.wanted _ _ = true from rfl)]
          have v5 : tm.getD 18 undef = .slice (some ad) n c := hJ.val 5 (by decide) (hdep ⟨5, .data⟩ (by simp) rfl)
          have v5' : tm[18]?.getD undef = .slice (some ad) n c := by rw [← Array.getD_eq_getD_getElem?]; exact v5
          have v7 : tm.getD 20 undef = .int .i64 (j : Int) := hJ.val 7 (by decide) (hdep ⟨7, .data⟩ (by simp) rfl)
          have v7' : tm[20]?.getD undef = .int .i64 (j : Int) := by rw [← Array.getD_eq_getD_getElem?]; exact v7
          have q3 := HQ.out.2.2.1
          have q4 := HQ.out.2.2.2.1
          go_simp
          exact hK _ _ (hJ.put LkC.Q_mono LkC.sl_inj (by decide) rfl)
        · have e := Option.some.inj (show some _ = some o from hi)
          subst e
          rw [if_pos (show Region.wanted _ _ = true from rfl)]
          have v8 : tm.getD 21 undef = .pointer (some (ad.add (j * 3))) := hJ.val 8 (by decide) (hdep ⟨8, .data⟩ (by simp) rfl)
          have v8' : tm[21]?.getD undef = .pointer (some (ad.add (j * 3))) := by rw [← Array.getD_eq_getD_getElem?]; exact v8
          go_simp
          exact hK _ _ (hJ.put LkC.Q_mono LkC.sl_inj (by decide) rfl)
        · have e := Option.some.inj (show some _ = some o from hi)
          subst e
          rw [if_pos (show Region.wanted _ _ = true from rfl)]
          have v9 : tm.getD 22 undef = .pointer (some (ad.add (j * 3))) := hJ.val 9 (by decide) (hdep ⟨9, .data⟩ (by simp) rfl)
          have v9' : tm[22]?.getD undef = .pointer (some (ad.add (j * 3))) := by rw [← Array.getD_eq_getD_getElem?]; exact v9
          obtain ⟨d0, d1, d2⟩ := HY.out wv hJ.below
          go_simp
          exact hK _ _ (hJ.put LkC.Q_mono LkC.sl_inj (by decide) rfl)
        · have e := Option.some.inj (show some _ = some o from hi)
          subst e
          rw [if_pos (show Region.wanted _ _ = true from rfl)]
          have v4 : tm.getD 17 undef = .int .i64 x0 := hJ.val 4 (by decide) (hdep ⟨4, .data⟩ (by simp) rfl)
          have v4' : tm[17]?.getD undef = .int .i64 x0 := by rw [← Array.getD_eq_getD_getElem?]; exact v4
          have v10 : tm.getD 23 undef = .int .i64 y0 := hJ.val 10 (by decide) (hdep ⟨10, .data⟩ (by simp) rfl)
          have v10' : tm[23]?.getD undef = .int .i64 y0 := by rw [← Array.getD_eq_getD_getElem?]; exact v10
          have p1 := HP.out
          go_simp
          exact hK _ _ (hJ.put LkC.Q_mono LkC.sl_inj (by decide) rfl)
        · have e := Option.some.inj (show some _ = some o from hi)
          subst e
          rw [if_pos (show Region.wanted _ _ = true from rfl)]
          have v11 : tm.getD 24 undef = .bool false := hJ.val 11 (by decide) (hdep ⟨11, .data⟩ (by simp) rfl)
          have v11' : tm[24]?.getD undef = .bool false := by rw [← Array.getD_eq_getD_getElem?]; exact v11
          go_simp
          exact hK _ _ (hJ.put LkC.Q_mono LkC.sl_inj (by decide) rfl)
        · have e := Option.some.inj (show some _ = some o from hi)
          subst e
          have hg : tm.getD 25 undef = .bool false := hJ.val 12 (by decide) (hdep ⟨12, .guard⟩ (by simp) rfl)
          rw [if_pos (Rg.want rfl rfl hg)]
          have h0 : tm.getD 0 undef = .slice (some ad) n c := (hJ.old 0 (LkC.sl_no 0 (by decide))).trans rfl
          have h0' : tm[0]?.getD undef = .slice (some ad) n c := by rw [← Array.getD_eq_getD_getElem?]; exact h0
          go_simp
          exact hK _ _ (hJ.put LkC.Q_mono LkC.sl_inj (by decide) rfl)
        · have e := Option.some.inj (show some _ = some o from hi)
          subst e
          have hg : tm.getD 25 undef = .bool false := hJ.val 12 (by decide) (hdep ⟨12, .guard⟩ (by simp) rfl)
          rw [if_pos (Rg.want rfl rfl hg)]
          have h3 : tm.getD 3 undef = .int .i64 (k : Int) := (hJ.old 3 (LkC.sl_no 3 (by decide))).trans rfl
          have h3' : tm[3]?.getD undef = .int .i64 (k : Int) := by rw [← Array.getD_eq_getD_getElem?]; exact h3
          go_simp
          exact hK _ _ (hJ.put LkC.Q_mono LkC.sl_inj (by decide) rfl)
        · have e := Option.some.inj (show some _ = some o from hi)
          subst e
          have hg : tm.getD 25 undef = .bool false := hJ.val 12 (by decide) (hdep ⟨12, .guard⟩ (by simp) rfl)
          rw [if_pos (Rg.want rfl rfl hg)]
          have v13 : tm.getD 26 undef = .slice (some ad) n c := hJ.val 13 (by decide) (hdep ⟨13, .data⟩ (by simp) rfl)
          have v13' : tm[26]?.getD undef = .slice (some ad) n c := by rw [← Array.getD_eq_getD_getElem?]; exact v13
          have v14 : tm.getD 27 undef = .int .i64 (k : Int) := hJ.val 14 (by decide) (hdep ⟨14, .data⟩ (by simp) rfl)
          have v14' : tm[27]?.getD undef = .int .i64 (k : Int) := by rw [← Array.getD_eq_getD_getElem?]; exact v14
          have q1 := HQ.out.1
          have q2 := HQ.out.2.1
          go_simp
          exact hK _ _ (hJ.put LkC.Q_mono LkC.sl_inj (by decide) rfl)
        · have e := Option.some.inj (show some _ = some o from hi)
          subst e
          have hg : tm.getD 25 undef = .bool false := hJ.val 12 (by decide) (hdep ⟨12, .guard⟩ (by simp) rfl)
          rw [if_pos (Rg.want rfl rfl hg)]
          have v15 : tm.getD 28 undef = .pointer (some (ad.add (k * 3))) := hJ.val 15 (by decide) (hdep ⟨15, .data⟩ (by simp) rfl)
          have v15' : tm[28]?.getD undef = .pointer (some (ad.add (k * 3))) := by rw [← Array.getD_eq_getD_getElem?]; exact v15
          obtain ⟨c0, c1, c2⟩ := HX.out wv hJ.below
          go_simp
          exact hK _ _ (hJ.put LkC.Q_mono LkC.sl_inj (by decide) rfl)
        · have e := Option.some.inj (show some _ = some o from hi)
          subst e
          have hg : tm.getD 25 undef = .bool false := hJ.val 12 (by decide) (hdep ⟨12, .guard⟩ (by simp) rfl)
          rw [if_pos (Rg.want rfl rfl hg)]
          have h0 : tm.getD 0 undef = .slice (some ad) n c := (hJ.old 0 (LkC.sl_no 0 (by decide))).trans rfl
          have h0' : tm[0]?.getD undef = .slice (some ad) n c := by rw [← Array.getD_eq_getD_getElem?]; exact h0
          go_simp
          exact hK _ _ (hJ.put LkC.Q_mono LkC.sl_inj (by decide) rfl)
        · have e := Option.some.inj (show some _ = some o from hi)
          subst e
          have hg : tm.getD 25 undef = .bool false := hJ.val 12 (by decide) (hdep ⟨12, .guard⟩ (by simp) rfl)
          rw [if_pos (Rg.want rfl rfl hg)]
          have h3 : tm.getD 3 undef = .int .i64 (k : Int) := (hJ.old 3 (LkC.sl_no 3 (by decide))).trans rfl
          have h3' : tm[3]?.getD undef = .int .i64 (k : Int) := by rw [← Array.getD_eq_getD_getElem?]; exact h3
          go_simp
          exact hK _ _ (hJ.put LkC.Q_mono LkC.sl_inj (by decide) rfl)
        · have e := Option.some.inj (show some _ = some o from hi)
          subst e
          have hg : tm.getD 25 undef = .bool false := hJ.val 12 (by decide) (hdep ⟨12, .guard⟩ (by simp) rfl)
          rw [if_pos (Rg.want rfl rfl hg)]
          have v18 : tm.getD 31 undef = .int .i64 (k : Int) := hJ.val 18 (by decide) (hdep ⟨18, .data⟩ (by simp) rfl)
          have v18' : tm[31]?.getD undef = .int .i64 (k : Int) := by rw [← Array.getD_eq_getD_getElem?]; exact v18
          have wj := HQ.out.2.2.2.2
          go_simp
          exact hK _ _ (hJ.put LkC.Q_mono LkC.sl_inj (by decide) rfl)
        · have e := Option.some.inj (show some _ = some o from hi)
          subst e
          have hg : tm.getD 25 undef = .bool false := hJ.val 12 (by decide) (hdep ⟨12, .guard⟩ (by simp) rfl)
          rw [if_pos (Rg.want rfl rfl hg)]
          have v17 : tm.getD 30 undef = .slice (some ad) n c := hJ.val 17 (by decide) (hdep ⟨17, .data⟩ (by simp) rfl)
          have v17' : tm[30]?.getD undef = .slice (some ad) n c := by rw [← Array.getD_eq_getD_getElem?]; exact v17
          have v19 : tm.getD 32 undef = .int .i64 (j : Int) := hJ.val 19 (by decide) (hdep ⟨19, .data⟩ (by simp) rfl)
          have v19' : tm[32]?.getD undef = .int .i64 (j : Int) := by rw [← Array.getD_eq_getD_getElem?]; exact v19
          have q3 := HQ.out.2.2.1
          have q4 := HQ.out.2.2.2.1
          go_simp
          exact hK _ _ (hJ.put LkC.Q_mono LkC.sl_inj (by decide) rfl)
        · have e := Option.some.inj (show some _ = some o from hi)
          subst e
          have hg : tm.getD 25 undef = .bool false := hJ.val 12 (by decide) (hdep ⟨12, .guard⟩ (by simp) rfl)
          rw [if_pos (Rg.want rfl rfl hg)]
          have v20 : tm.getD 33 undef = .pointer (some (ad.add (j * 3))) := hJ.val 20 (by decide) (hdep ⟨20, .data⟩ (by simp) rfl)
          have v20' : tm[33]?.getD undef = .pointer (some (ad.add (j * 3))) := by rw [← Array.getD_eq_getD_getElem?]; exact v20
          obtain ⟨d0, d1, d2⟩ := HY.out wv hJ.below
          go_simp
          exact hK _ _ (hJ.put LkC.Q_mono LkC.sl_inj (by decide) rfl)
        · have e := Option.some.inj (show some _ = some o from hi)
          subst e
          have hg : tm.getD 25 undef = .bool false := hJ.val 12 (by decide) (hdep ⟨12, .guard⟩ (by simp) rfl)
          rw [if_pos (Rg.want rfl rfl hg)]
          have v16 : tm.getD 29 undef = .agg #[.int .i64 x0, .int .i64 x1, .bool x2] := hJ.val 16 (by decide) (hdep ⟨16, .data⟩ (by simp) rfl)
          have v16' : tm[29]?.getD undef = .agg #[.int .i64 x0, .int .i64 x1, .bool x2] := by rw [← Array.getD_eq_getD_getElem?]; exact v16
          have v21 : tm.getD 34 undef = .agg #[.int .i64 y0, .int .i64 y1, .bool y2] := hJ.val 21 (by decide) (hdep ⟨21, .data⟩ (by simp) rfl)
          have v21' : tm[34]?.getD undef = .agg #[.int .i64 y0, .int .i64 y1, .bool y2] := by rw [← Array.getD_eq_getD_getElem?]; exact v21
          go_simp
          refine (HAl.out wv).mono ?_
          rintro e w' ⟨rfl, hbm⟩
          exact hK _ _ (hJ.step LkC.Q_mono LkC.sl_inj (by decide) hbm rfl)
        · have e := Option.some.inj (show some _ = some o from hi)
          subst e
          rw [if_pos (show Region.wanted _ _ = true from rfl)]
          have v12 : tm.getD 25 undef = .bool false := hJ.val 12 (by decide) (hdep ⟨12, .data⟩ (by simp) rfl)
          have v12' : tm[25]?.getD undef = .bool false := by rw [← Array.getD_eq_getD_getElem?]; exact v12
          have v22 : tm.getD 35 undef = .bool false := hJ.val 22 (by decide) (hdep ⟨22, .data⟩ (by simp) rfl)
          have v22' : tm[35]?.getD undef = .bool false := by rw [← Array.getD_eq_getD_getElem?]; exact v22
          go_simp
          exact hK _ _ (hJ.put LkC.Q_mono LkC.sl_inj (by decide) rfl)
      case finR =>
        intro a' W5 hJ hN hdf
        have s0 : a'.tmps.getD 0 undef = .slice (some ad) n c := (hJ.old 0 (LkC.sl_no 0 (by decide))).trans rfl
        have s1 : a'.tmps.getD 1 undef = undef := (hJ.old 1 (LkC.sl_no 1 (by decide))).trans rfl
        have s2 : a'.tmps.getD 2 undef = u2 := (hJ.old 2 (LkC.sl_no 2 (by decide))).trans rfl
        have s3 : a'.tmps.getD 3 undef = .int .i64 (k : Int) := (hJ.old 3 (LkC.sl_no 3 (by decide))).trans rfl
        have s4 : a'.tmps.getD 4 undef = .slice (some ad) n c := (hJ.old 4 (LkC.sl_no 4 (by decide))).trans rfl
        have s5 : a'.tmps.getD 5 undef = .int .i64 (n : Int) := (hJ.old 5 (LkC.sl_no 5 (by decide))).trans rfl
        have s6 : a'.tmps.getD 6 undef = .bool false := (hJ.old 6 (LkC.sl_no 6 (by decide))).trans rfl
        have s36 : a'.tmps.getD 36 undef = .bool false := hJ.val 23 (by decide) (by rfl)
        have hb9 := hJ.below
        have ef : a' = { tmps := ((List.range 37).map fun i => a'.tmps.getD i undef).toArray, defers := [] } := Rg.frame_of 37 a' hN hdf
        obtain ⟨u, hu⟩ : ∃ u : Nat → Value, (fun i => a'.tmps.getD i undef) = u := ⟨_, rfl⟩
        rw [hu] at ef
        have e0 : u 0 = .slice (some ad) n c := by rw [← hu]; exact s0
        have e1 : u 1 = undef := by rw [← hu]; exact s1
        have e2 : u 2 = u2 := by rw [← hu]; exact s2
        have e3 : u 3 = .int .i64 (k : Int) := by rw [← hu]; exact s3
        have e4 : u 4 = .slice (some ad) n c := by rw [← hu]; exact s4
        have e5 : u 5 = .int .i64 (n : Int) := by rw [← hu]; exact s5
        have e6 : u 6 = .bool false := by rw [← hu]; exact s6
        have e36 : u 36 = .bool false := by rw [← hu]; exact s36
        have ef2 : a' = { tmps := (u 0 :: u 1 :: u 2 :: u 3 :: u 4 :: u 5 :: u 6 :: u 7 :: u 8 :: u 9 :: u 10 :: u 11 :: u 12 :: u 13 :: u 14 :: u 15 :: u 16 :: u 17 :: u 18 :: u 19 :: u 20 :: u 21 :: u 22 :: u 23 :: u 24 :: u 25 :: u 26 :: u 27 :: u 28 :: u 29 :: u 30 :: u 31 :: u 32 :: u 33 :: u 34 :: u 35 :: u 36 :: [] : List Value).toArray, defers := [] } := ef
        rw [e0, e1, e2, e3, e4, e5, e6, e36] at ef2
        rw [ef2]
        clear hJ hN hdf ef ef2 hu e0 s0 e1 s1 e2 s2 e3 s3 e4 s4 e5 s5 e6 s6 e36 s36
        have HB5 := Lib.hid (HB.out.trans (hb9.mono HB.out.size))
        clear hb9
        go_wp2
        go_roundw
        case rel => exact ⟨k + 1, by omega, by omega, by go_num, HB5.out⟩
        case measure => simp [intOf]; omega
    · have q2 : ¬ (k : Int) < (n : Int) := by omega
      go_wp2
      go_ret
      exact ⟨rfl, HB.out⟩
namespace Lo
def AtRet (l : List Ln.Sp) (t : Int) (w : World) (e : Ending) (w' : World) : Prop := (∃ k x, Ab l t (k + 1) ∧ l[k]? = some x ∧ e = .returned (.tuple #[x.v, .int .i64 0])) ∧ Below w.heap.size w w'
end Lo
theorem look_at_results {tmps : Array Value} {w : World} {a : Nat} {x : Ln.Sp} {v : Value} (h4 : tmps[4]?.getD undef = .pointer (some ⟨a, 0, none⟩)) (h5 : tmps[5]?.getD undef = v) (c0 : w.cell? ⟨a, 0, none⟩ = some (.int .i64 x.fr)) (c1 : w.cell? ⟨a, 1, none⟩ = some (.int .i64 x.off)) (c2 : w.cell? ⟨a, 2, none⟩ = some (.bool x.dst)) :
    (results Tryz.f34 tmps).run Tryz.prog w = .ok (.tuple #[x.v, v]) w := by
  unfold Ln.Sp.v
  simp [results, Tryz.f34, go_sem, h4, h5, c0, c1, c2]
set_option maxHeartbeats 8000000 in
set_option maxRecDepth 100000 in
theorem lookAt_any (l : List Ln.Sp) (t : Int) (A : Option Addr) (n c : Nat) (w : World) (hn : l.length = n) (hn2 : n ≤ 1000000000) (hr : Lo.Right l) (h0 : ∀ x, l[0]? = some x → x.fr ≤ t) (hR : Reads w w.heap.size 3 A n (l.flatMap Ln.Sp.cells)) :
    Calls Tryz.prog 34 #[.slice A n c, .int .i64 t] w (Lo.AtRet l t w) := by
  obtain ⟨W1, hW1⟩ : ∃ W, w.alloc (.cells #[.int .i64 0, .int .i64 0, .bool false] 71) = W := ⟨_, rfl⟩
  have hb1 : Below w.heap.size w W1 := by rw [← hW1]; exact (Below.refl _ _).alloc (Nat.le_refl _) _
  have hX1 : At W1 w.heap.size [.int .i64 0, .int .i64 0, .bool false] := by rw [← hW1]; exact At.new _ _ _
  have HCk := Lib.hid fun W (hb : Below w.heap.size w W) => lookCheck_any l A n c W hn hn2 hr ((hR.below hb).more hb.size)
  have HAb := Lib.hid fun W (hb : Below w.heap.size w W) => lookAbove_any l t A n c W hn hn2 hr ((hR.below hb).more hb.size)
  have hn0 : 0 < n := by
    rw [← hn]
    exact List.length_pos_iff.2 hr.ne
  obtain ⟨ad, p0, rfl, -, Hp0, -⟩ := Ix.reads_cells (enc := Ln.Sp.cells) (m := 3) (fun _ => rfl) hn hR hn0
  have H0 := Lib.hid (h0 p0 Hp0.out)
  have HN := Lib.hid hn
  have HR := Lib.hid hR
  have HB1 := Lib.hid hb1
  have HX1 := Lib.hid hX1
  have HW1 := Lib.hid hW1
  clear hn hR hr hb1 hX1 hW1 h0 
  go_enter Tryz.func34, Tryz.ntmps34
  go_wp2_with fail
  rw [HW1.out]
  refine (HCk.out W1 HB1.out).mono ?_
  rintro e w2 ⟨rfl, hb2⟩
  have HB2 := Lib.hid (HB1.out.trans (hb2.mono HB1.out.size))
  have HX2 := Lib.hid (HX1.out.call hb2)
  clear hb2
  go_wp2_with fail
  refine (HAb.out w2 HB2.out).mono ?_
  rintro e w3 ⟨⟨r, rfl, hA⟩, hb3⟩
  have HB3 := Lib.hid (HB2.out.trans (hb3.mono HB2.out.size))
  have HX3 := Lib.hid (HX2.out.call hb3)
  obtain ⟨k, rfl⟩ : ∃ k, r = k + 1 := ⟨r - 1, by
    rcases Nat.eq_zero_or_pos r with q | q
    · subst q
      have := hA.hi 0 p0 (Nat.le_refl _) Hp0.out
      have := H0.out
      omega
    · omega⟩
  have hkn : k < n := by have := hA.le; have := HN.out; omega
  have HA := Lib.hid hA
  obtain ⟨ad', x, e0, hab, Hx, HLx⟩ := Ix.reads_cells (enc := Ln.Sp.cells) (m := 3) (fun _ => rfl) HN.out (HR.out.below HB3.out) hkn
  obtain rfl := Option.some.inj e0
  obtain ⟨ri, hri⟩ : ∃ ri : Int, ((k + 1 : Nat) : Int) = ri := ⟨_, rfl⟩
  rw [hri]
  have p1 : (ri == 0) = false := by rw [beq_eq_false_iff_ne]; omega
  have p2 : ¬ ri = 0 := by omega
  have wj : IntKind.i64.wrap (ri - 1) = (k : Int) := by rw [IntKind.wrap_i64]; omega
  have q1 : (0 : Int) ≤ (k : Int) := by omega
  have q2 : (k : Int) < (n : Int) := by omega
  have c0 : w3.cell? (ad.add (k * 3)) = some (.int .i64 x.fr) := HLx.out 0 _ rfl
  have c1 : w3.cell? ⟨(ad.add (k * 3)).block, (ad.add (k * 3)).off + 1, none⟩ = some (.int .i64 x.off) := HLx.out 1 _ rfl
  have c2 : w3.cell? ⟨(ad.add (k * 3)).block, (ad.add (k * 3)).off + 2, none⟩ = some (.bool x.dst) := HLx.out 2 _ rfl
  have HI := Lib.hid hri
  clear hb3 hA hri HLx
  obtain ⟨y0, y1, y2, g0, g1, g2⟩ := HX3.out.three
  have zY := HX3.out.lt
  go_wp2_with fail
  have hF := ((HX3.out.set 0 (.int .i64 x.fr)).set 1 (.int .i64 x.off)).set 2 (.bool x.dst)
  refine bodyPost_ret (look_at_results (x := x) rfl rfl (hF.cell 0 _ rfl) (hF.cell 1 _ rfl) (hF.cell 2 _ rfl)) rfl (?_ : Lo.AtRet l t w _ _)
  refine ⟨⟨k, x, HA.out, Hx.out, rfl⟩, ?_⟩
  have hz := ((HB3.out.setCell (p := ⟨w.heap.size, 0, none⟩) (Nat.le_refl _) (.int .i64 x.fr)).setCell (p := ⟨w.heap.size, 1, none⟩) (Nat.le_refl _) (.int .i64 x.off)).setCell (p := ⟨w.heap.size, 2, none⟩) (Nat.le_refl _) (.bool x.dst)
  exact hz
end Go.Proofs.YtolgigaolffenaaGreatDoor
