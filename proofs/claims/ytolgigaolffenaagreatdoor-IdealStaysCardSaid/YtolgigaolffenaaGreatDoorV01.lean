/- Plain law of the calendar: numbers of days, and dates. -/
import Derived.Test.YtolgigaolffenaaGreatDoorQ01
import Derived.Test.YtolgigaolffenaaGreatDoorQ02
import Derived.Test.YtolgigaolffenaaGreatDoorQ03
import Derived.Test.YtolgigaolffenaaGreatDoorQ04
import Derived.Test.YtolgigaolffenaaGreatDoorQ05
import Derived.Test.YtolgigaolffenaaGreatDoorQ06
import Derived.Test.YtolgigaolffenaaGreatDoorQ07
import Derived.Test.YtolgigaolffenaaGreatDoorQ08
import Derived.Test.YtolgigaolffenaaGreatDoorQ09
import Derived.Test.YtolgigaolffenaaGreatDoorQ10
import Derived.Test.YtolgigaolffenaaGreatDoorQ11
import Derived.Test.YtolgigaolffenaaGreatDoorQ12
import Derived.Test.YtolgigaolffenaaGreatDoorQ13
import Derived.Test.YtolgigaolffenaaGreatDoorQ14
import Derived.Test.YtolgigaolffenaaGreatDoorQ15
import Derived.Test.YtolgigaolffenaaGreatDoorQ16
import Derived.Test.YtolgigaolffenaaGreatDoorQ17
import Derived.Test.YtolgigaolffenaaGreatDoorQ18
import Derived.Test.YtolgigaolffenaaGreatDoorQ19
import Derived.Test.YtolgigaolffenaaGreatDoorQ20
import Derived.Test.YtolgigaolffenaaGreatDoorQ21
import Derived.Test.YtolgigaolffenaaGreatDoorQ22
import Derived.Test.YtolgigaolffenaaGreatDoorQ23
import Derived.Test.YtolgigaolffenaaGreatDoorQ24
import Derived.Test.YtolgigaolffenaaGreatDoorQ25
import Derived.Test.YtolgigaolffenaaGreatDoorQ26
import Derived.Test.YtolgigaolffenaaGreatDoorQ27
import Derived.Test.YtolgigaolffenaaGreatDoorQ29
import Derived.Test.YtolgigaolffenaaGreatDoorQ32
import Derived.Test.YtolgigaolffenaaGreatDoorQ36

namespace Go.Proofs.YtolgigaolffenaaGreatDoor.Cv
theorem md_bd (y m d : Int) (h : Valid y m d) :
    ∃ r : Nat, r < 400 ∧ (r : Int) = my y m % 400 ∧ 0 ≤ (153 * mm m + 2) / 5 + d - 1 ∧ begun r + ((153 * mm m + 2) / 5 + d - 1) ≤ lastDay r := by
  obtain ⟨h1, h2, h3, h4, h5, h6⟩ := h
  rw [len_month y m h3 h4] at h6
  refine ⟨(my y m % 400).toNat, by omega, by omega, ?_, ?_⟩
  · have : 0 ≤ mm m := by unfold mm; split <;> omega
    omega
  · have hl := lastDay_leap (my y m % 400).toNat (by omega)
    have he : (((my y m % 400).toNat : Nat) : Int) = my y m % 400 := by omega
    have hlp : leap ((((my y m % 400).toNat : Nat) : Int) + 1) = leap (my y m + 1) := by
      rw [he, leap_mod, leap_mod (my y m + 1)]
      congr 1
      omega
    rw [hlp] at hl
    have hm : m = 1 ∨ m = 2 ∨ m = 3 ∨ m = 4 ∨ m = 5 ∨ m = 6 ∨ m = 7 ∨ m = 8 ∨ m = 9 ∨ m = 10 ∨ m = 11 ∨ m = 12 := by omega
    by_cases hlt : m < 3
    · have e1 : my y m + 1 = y := by unfold my; rw [if_pos hlt]; omega
      have e2 : mm m = m + 9 := by unfold mm; rw [if_pos hlt]
      rw [e1] at hl
      rw [e2]
      have : m = 1 ∨ m = 2 := by omega
      rcases this with rfl | rfl
      · simp at h6; split at hl <;> omega
      · rw [if_pos rfl] at h6
        by_cases hq : leap y = true
        · rw [if_pos hq] at h6 hl; omega
        · rw [if_neg hq] at h6 hl; omega
    · have e2 : mm m = m - 3 := by unfold mm; rw [if_neg hlt]
      rw [e2]
      have h7 : (153 * (m - 3) + 2) / 5 + d - 1 ≤ 305 := by
        rcases hm with rfl | rfl | rfl | rfl | rfl | rfl | rfl | rfl | rfl | rfl | rfl | rfl <;> simp at h6 <;> omega
      split at hl <;> omega

end Go.Proofs.YtolgigaolffenaaGreatDoor.Cv

/- A zone's line in plain words: pieces, told from the last one on, put together; it says at each time what the clocks show. -/
namespace Go.Proofs.YtolgigaolffenaaGreatDoor
open Go.RowKit

namespace Ln
theorem hold_mono : ∀ (ends : List Int) (t u : Int), t ≤ u → hold ends t ≤ hold ends u
  | [], _, _, _ => Nat.le_refl _
  | x :: ends, t, u, h => by
    have := hold_mono ends t u h
    unfold hold
    split <;> split <;> omega
end Ln
end Go.Proofs.YtolgigaolffenaaGreatDoor

/- ideal.behind: occurrences, the last one first. -/
namespace Go.Proofs.YtolgigaolffenaaGreatDoor
open Go.RowKit Go.Shelf
attribute [local go_sem] Oper.semAt_some

theorem idBehind_any (A : Option Addr) (n c : Nat) (w : World) :
    Calls Tryz.prog 145 #[.slice A n c] w fun e w' => e = .returned (.func (.func 168) #[] #[.pointer (some ⟨w.heap.size, 0, none⟩)]) ∧ w.alloc (.cells #[.slice A n c] 57) = w' := by
  go_enter Tryz.func145, Tryz.ntmps145
  go_wp2
  go_ret
  exact ⟨rfl, rfl⟩
theorem take_rev {α : Type} {es : List α} {N r : Nat} {o : α} (hN : es.length = N) (hr : r < N) (ho : es[r]? = some o) : es.reverse.take (N - r) = es.reverse.take (N - (r + 1)) ++ [o] := by
  have e : N - r = (N - (r + 1)) + 1 := by omega
  rw [e, List.take_add_one]
  congr 1
  rw [List.getElem?_reverse (by omega), hN, show N - 1 - (N - (r + 1)) = r by omega, ho]
  rfl
set_option maxHeartbeats 8000000 in
set_option maxRecDepth 100000 in
theorem idBehind1_in (n l bl n₀ : Nat) {α : Type} (f : α → Oc.E) (es : List α) (A : Option Addr) (N c : Nat) (hN : es.length = N) (hNb : N ≤ 1000000000) (JY JX : List α → World → Prop)
    (hY : ∀ pre (x : α) W, JY pre W → pre.length < N → YieldAt Fence.wide n Tryz.prog l #[(f x).occv] W fun e W' =>
      (e = .returned (.bool true) ∧ JY (pre ++ [x]) W' ∧ Below n₀ W W') ∨ (e = .returned (.bool false) ∧ JX (pre ++ [x]) W'))
    (W : World) (hc : W.cell? ⟨bl, 0, none⟩ = some (.slice A N c)) (hbl : bl < n₀) (hR : Reads W n₀ 5 A N (es.flatMap fun a => (f a).occ)) (hn0 : n₀ ≤ W.heap.size) (h0 : JY [] W) :
    CallsIn Fence.wide (n + 1) Tryz.prog 168 #[.func (.yield l) #[] #[], .pointer (some ⟨bl, 0, none⟩)] W fun e W' => (∃ v, e = .returned v) ∧ ((∃ ys, ys = es.reverse ∧ JY ys W') ∨ (∃ pre, (∃ j, pre = es.reverse.take j) ∧ JX pre W')) := by
  have HRs : Hid (∀ W', Below n₀ W W' → W'.cell? ⟨bl, 0, none⟩ = some (.slice A N c) ∧ Reads W' n₀ 5 A N (es.flatMap fun a => (f a).occ)) := fun W' hb => ⟨(hb.cell (p := ⟨bl, 0, none⟩) hbl).trans hc, hR.below hb⟩
  have HN := Lib.hid hN
  have HH0 : Hid (JY (es.reverse.take (N - N)) W) := by
    show JY _ _
    rw [Nat.sub_self]
    exact h0
  have w1 : IntKind.i64.wrap ((N : Int) - 1) = (N : Int) - 1 := by rw [IntKind.wrap_i64]; omega
  have hbl2 : bl < W.heap.size := by omega
  clear hR hN h0
  refine callsIn_of_wp Tryz.func168 rfl trivial ?_ rfl
  simp only [Tryz.ntmps168, List.size_toArray, List.length_cons, List.length_nil, Nat.reduceAdd, Nat.reduceSub, Array.replicate_succ, Array.replicate_zero, List.push_toArray, List.append_toArray, List.nil_append, List.cons_append]
  gi_wp2_with fail
  gi_loopw [3] (fun i wr => ∃ r : Nat, r ≤ N ∧ i = .int .i64 ((r : Int) - 1) ∧ Hid (JY (es.reverse.take (N - r)) wr) ∧ Hid (Below n₀ W wr)) (fun i _ => (intOf i + 1).toNat)
  case atStart => exact ⟨N, Nat.le_refl _, rfl, HH0.out, Below.refl _ _⟩
  case round =>
    obtain ⟨r, hr, rfl, HJ, HB⟩ := hrel
    obtain ⟨c0, hRr⟩ := HRs.out wr HB.out
    have hzr := HB.out.size
    have hbl3 : bl < wr.heap.size := by omega
    rcases Nat.eq_zero_or_pos r with h0r | h0r
    · subst h0r
      have q1 : ¬ (0 : Int) ≤ ((0 : Nat) : Int) - 1 := by omega
      have HJ2 : Hid (JY es.reverse wr) := by
        have h := HJ.out
        rw [Nat.sub_zero, List.take_of_length_le (by rw [List.length_reverse, HN.out]; exact Nat.le_refl _)] at h
        exact h
      clear HJ
      gi_wp2_with fail
      go_end0
      exact ⟨⟨_, rfl⟩, .inl HJ2.out⟩
    · obtain ⟨r, rfl⟩ : ∃ k, r = k + 1 := ⟨r - 1, by omega⟩
      have e1' : (((r + 1 : Nat) : Int) - 1) = (r : Int) := by omega
      rw [e1']
      have q1 : (0 : Int) ≤ (r : Int) := by omega
      have q2 : (r : Int) < (N : Int) := by omega
      have w2 : IntKind.i64.wrap ((r : Int) - 1) = (r : Int) - 1 := by rw [IntKind.wrap_i64]; omega
      obtain ⟨ad, o, rfl, hab, Ho, HLo⟩ := Ix.reads_cells (enc := fun a => (f a).occ) (m := 5) (fun _ => rfl) HN.out hRr (show r < N by omega)
      have HT := Lib.hid (take_rev HN.out (show r < N by omega) Ho.out)
      obtain ⟨fn, tmps, assign, body, hy, hR⟩ := hY (es.reverse.take (N - (r + 1))) o wr HJ.out (by rw [List.length_take, List.length_reverse, HN.out]; omega)
      obtain ⟨q, hq⟩ : ∃ q, f o = q := ⟨_, rfl⟩
      rw [hq] at hy
      have HLo2 : Hid (∀ (j : Nat) (v : Value), q.occ[j]? = some v → wr.cell? ((ad.add (r * 5)).add j) = some v) := by
        have h := HLo.out
        rw [hq] at h
        exact h
      clear hq HLo
      have HLo := HLo2
      clear HLo2
      obtain ⟨on, oc_, os, ob, ol, op, oy⟩ := q
      have x0 : wr.cell? (ad.add (r * 5)) = some (.int .i64 on) := HLo.out 0 _ rfl
      have x1 : wr.cell? ⟨(ad.add (r * 5)).block, (ad.add (r * 5)).off + 1, none⟩ = some (.int .u8 oc_) := HLo.out 1 _ rfl
      have x2 : wr.cell? ⟨(ad.add (r * 5)).block, (ad.add (r * 5)).off + 2, none⟩ = some (.int .i64 os) := HLo.out 2 _ rfl
      have x3 : wr.cell? ⟨(ad.add (r * 5)).block, (ad.add (r * 5)).off + 3, none⟩ = some (.int .i64 ob) := HLo.out 3 _ rfl
      have x4 : wr.cell? ⟨(ad.add (r * 5)).block, (ad.add (r * 5)).off + 4, none⟩ = some (.string ol) := HLo.out 4 _ rfl
      unfold Oc.E.occv at hy
      clear Ho HLo hRr hY HJ
      gi_wp2_with fail
      refine hR.mono ?_
      rintro e W3 (⟨rfl, hJ3, hk3⟩ | ⟨rfl, hJx3⟩)
      · have HJ3 : Hid (JY (es.reverse.take (N - r)) W3) := by
          show JY _ _
          rw [HT.out]
          exact hJ3
        have HB3 := Lib.hid (HB.out.trans hk3)
        clear hJ3 hk3
        gi_wp2
        go_roundw
        case rel => exact ⟨r, by omega, by first | rfl | (simp; done) | (simp; omega), HJ3.out, HB3.out⟩
        case measure => first | (simp [intOf]; done) | (simp [intOf]; omega)
      · have HX : Hid (JX (es.reverse.take (N - r)) W3) := by
          show JX _ _
          rw [HT.out]
          exact hJx3
        clear hJx3
        gi_wp2
        refine bodyPost_ret (results_none rfl _ _ _) rfl ?_
        exact ⟨⟨_, rfl⟩, .inr ⟨_, ⟨_, rfl⟩, HX.out⟩⟩
end Go.Proofs.YtolgigaolffenaaGreatDoor

/- The plain law of ValidEach: a rule more, a zone more. -/
namespace Go.Proofs.YtolgigaolffenaaGreatDoor
open Go.RowKit

namespace Vd
theorem well_leads {s : Src.S} (h : well s = true) : ∀ x ∈ Src.names s, Leads s x := by
  obtain ⟨_, hn, _, _, hl⟩ := well_parts h
  intro x hx
  unfold Src.names at hx
  rcases List.mem_append.1 hx with hx | hx
  · exact ⟨0, hx⟩
  · unfold Src.linkNames at hx
    obtain ⟨k, hk, rfl⟩ := List.mem_map.1 hx
    obtain ⟨i, hi⟩ := List.getElem?_of_mem hk
    exact link_leads hn hi (hl k hk)
end Vd
end Go.Proofs.YtolgigaolffenaaGreatDoor
