/- The statements' Near, second part. -/
import Derived.Test.YtolgigaolffenaaGreatDoorQ01
import Derived.Test.YtolgigaolffenaaGreatDoorQ02
import Derived.Test.YtolgigaolffenaaGreatDoorQ03
import Derived.Test.YtolgigaolffenaaGreatDoorQ04
import Derived.Test.YtolgigaolffenaaGreatDoorQ05
import Derived.Test.YtolgigaolffenaaGreatDoorQ06
import Derived.Test.YtolgigaolffenaaGreatDoorQ07
import Derived.Test.YtolgigaolffenaaGreatDoorQ08
import Derived.Test.YtolgigaolffenaaGreatDoorQ09
import Derived.Test.YtolgigaolffenaaGreatDoorQ10
import Derived.Test.YtolgigaolffenaaGreatDoorQ11
import Derived.Test.YtolgigaolffenaaGreatDoorQ12
import Derived.Test.YtolgigaolffenaaGreatDoorQ13
import Derived.Test.YtolgigaolffenaaGreatDoorQ14
import Derived.Test.YtolgigaolffenaaGreatDoorQ15
import Derived.Test.YtolgigaolffenaaGreatDoorQ16
import Derived.Test.YtolgigaolffenaaGreatDoorQ17
import Derived.Test.YtolgigaolffenaaGreatDoorQ18
import Derived.Test.YtolgigaolffenaaGreatDoorQ19
import Derived.Test.YtolgigaolffenaaGreatDoorQ20
import Derived.Test.YtolgigaolffenaaGreatDoorQ21
import Derived.Test.YtolgigaolffenaaGreatDoorQ22
import Derived.Test.YtolgigaolffenaaGreatDoorQ23
import Derived.Test.YtolgigaolffenaaGreatDoorQ24
import Derived.Test.YtolgigaolffenaaGreatDoorQ25
import Derived.Test.YtolgigaolffenaaGreatDoorQ26
import Derived.Test.YtolgigaolffenaaGreatDoorQ27
import Derived.Test.YtolgigaolffenaaGreatDoorQ29
import Derived.Test.YtolgigaolffenaaGreatDoorQ32
import Derived.Test.YtolgigaolffenaaGreatDoorQ36
import Derived.Test.YtolgigaolffenaaGreatDoorV07

namespace Go.Proofs.YtolgigaolffenaaGreatDoor
open Go.RowKit

set_option maxHeartbeats 4000000 in
theorem refDayCheck_neg (k n d : Int) (w : World) (h0 : k < 0) :
    Calls Tryz.prog 118 #[.agg #[.int .u8 k, .int .i64 n, .int .i64 d]] w fun e w' => e = .returned (.int .i64 2) ∧ Below w.heap.size w w' := by
  have e0 : (k == 0) = false := by rw [beq_eq_false_iff_ne]; omega
  have e1 : (k == 1) = false := by rw [beq_eq_false_iff_ne]; omega
  have e2 : (k == 2) = false := by rw [beq_eq_false_iff_ne]; omega
  have e3 : (k == 3) = false := by rw [beq_eq_false_iff_ne]; omega
  have hn : (1 ≤ n ∧ n ≤ 31) ∨ n < 1 ∨ (1 ≤ n ∧ 31 < n) := by omega
  have hd : (0 ≤ d ∧ d ≤ 6) ∨ d < 0 ∨ (0 ≤ d ∧ 6 < d) := by omega
  rcases hn with ⟨n1, n2⟩ | n1 | ⟨n1, n2⟩
  all_goals
    rcases hd with ⟨d1, d2⟩ | d1 | ⟨d1, d2⟩
    all_goals
      go_enter Tryz.func118, Tryz.ntmps118
      go_wp2
      go_ret
      exact ⟨rfl, (Below.refl _ _).alloc (Nat.le_refl _) _⟩
set_option maxHeartbeats 4000000 in
set_option maxRecDepth 100000 in
theorem refRule_some (nm : ByteArray) (fr tt mo k n d sc cc sv : Int) (lt : ByteArray) (w : World) (h1 : nm.size ≤ maxLen) (h2 : lt.size ≤ maxLen) :
    Calls Tryz.prog 79 #[.agg #[.string nm, .int .i64 fr, .int .i64 tt, .int .i64 mo, .int .u8 k, .int .i64 n, .int .i64 d, .int .i64 sc, .int .u8 cc, .int .i64 sv, .string lt]] w (Eg.SomeC fr tt w) := by
  have HN := Lib.hid fun W => refName_some nm W h1
  have HL := Lib.hid fun W => refLetter_some lt W h2
  have HD : Hid (∀ W, Calls Tryz.prog 118 #[.agg #[.int .u8 k, .int .i64 n, .int .i64 d]] W (Eg.SomeN W)) := fun W => by
    by_cases h : Dy.Ok k n d
    · exact (refDayCheck_ok k n d W h).mono fun e w' he => ⟨.inl he.1, he.2⟩
    · by_cases hk : 0 ≤ k
      · exact (refDayCheck_bad k n d W hk h).mono fun e w' he => ⟨.inr he.1, he.2⟩
      · exact (refDayCheck_neg k n d W (by omega)).mono fun e w' he => ⟨.inr he.1, he.2⟩
  have HM : Hid (∀ W, Calls Tryz.prog 119 #[.agg #[.int .i64 sc, .int .u8 cc]] W (Eg.SomeN W)) := fun W => by
    by_cases h : Mo.Ok sc cc
    · exact (refMomCheck_ok sc cc W h).mono fun e w' he => ⟨.inl he.1, he.2⟩
    · exact (refMomCheck_bad sc cc W h).mono fun e w' he => ⟨.inr he.1, he.2⟩
  have HT := Lib.hid fun W => refText_any sv W
  obtain ⟨X, hX⟩ : ∃ X, mk (Ck.text sv) = X := ⟨_, rfl⟩
  rw [hX] at HT
  obtain ⟨xe, hxe⟩ : ∃ b, X.toList.isEmpty = b := ⟨_, rfl⟩
  have hA0 := Lib.hid (At.new w #[.string nm, .int .i64 fr, .int .i64 tt, .int .i64 mo, .int .u8 k, .int .i64 n, .int .i64 d, .int .i64 sc, .int .u8 cc, .int .i64 sv, .string lt] 75)
  have hB0 := Lib.hid ((Below.refl w.heap.size w).alloc (Nat.le_refl _) (.cells #[.string nm, .int .i64 fr, .int .i64 tt, .int .i64 mo, .int .u8 k, .int .i64 n, .int .i64 d, .int .i64 sc, .int .u8 cc, .int .i64 sv, .string lt] 75))
  clear h1 h2 hX
  go_enter Tryz.func79, Tryz.ntmps79
  go_wp2_with fail
  refine (HN.out _).mono ?_
  rintro e w1 ⟨⟨b, rfl⟩, hb⟩
  have HA := Lib.hid (hA0.out.call hb)
  have HB := Lib.hid (below_then hB0.out hb)
  clear hb hA0 hB0
  have a0 := HA.out.cell 0 _ rfl
  have a1 := HA.out.cell 1 _ rfl
  have a2 := HA.out.cell 2 _ rfl
  have a3 := HA.out.cell 3 _ rfl
  have a4 := HA.out.cell 4 _ rfl
  have a5 := HA.out.cell 5 _ rfl
  have a6 := HA.out.cell 6 _ rfl
  have a7 := HA.out.cell 7 _ rfl
  have a8 := HA.out.cell 8 _ rfl
  have a9 := HA.out.cell 9 _ rfl
  have a10 := HA.out.cell 10 _ rfl
  cases b with
  | false =>
    go_wp2
    go_ret
    exact ⟨.inr rfl, HB.out⟩
  | true =>
    by_cases q1 : fr < 1
    · go_wp2
      go_ret
      exact ⟨.inr rfl, HB.out⟩
    by_cases q2 : (9999 : Int) < tt
    · go_wp2
      go_ret
      exact ⟨.inr rfl, HB.out⟩
    by_cases q3 : tt < fr
    · go_wp2
      go_ret
      exact ⟨.inr rfl, HB.out⟩
    by_cases q4 : mo < 1
    · go_wp2
      go_ret
      exact ⟨.inr rfl, HB.out⟩
    by_cases q5 : (12 : Int) < mo
    · go_wp2
      go_ret
      exact ⟨.inr rfl, HB.out⟩
    go_wp2_with fail
    refine (HD.out _).mono ?_
    rintro e w2 ⟨he, hb⟩
    replace HA := Lib.hid (HA.out.call hb)
    replace HB := Lib.hid (below_then HB.out hb)
    clear hb a0 a1 a2 a3 a4 a5 a6 a7 a8 a9 a10
    have a0 := HA.out.cell 0 _ rfl
    have a1 := HA.out.cell 1 _ rfl
    have a2 := HA.out.cell 2 _ rfl
    have a3 := HA.out.cell 3 _ rfl
    have a4 := HA.out.cell 4 _ rfl
    have a5 := HA.out.cell 5 _ rfl
    have a6 := HA.out.cell 6 _ rfl
    have a7 := HA.out.cell 7 _ rfl
    have a8 := HA.out.cell 8 _ rfl
    have a9 := HA.out.cell 9 _ rfl
    have a10 := HA.out.cell 10 _ rfl
    rcases he with rfl | rfl
    rotate_left
    · go_wp2
      go_ret
      exact ⟨.inr rfl, HB.out⟩
    go_wp2_with fail
    refine (HM.out _).mono ?_
    rintro e w3 ⟨he, hb⟩
    replace HA := Lib.hid (HA.out.call hb)
    replace HB := Lib.hid (below_then HB.out hb)
    clear hb a0 a1 a2 a3 a4 a5 a6 a7 a8 a9 a10
    have a0 := HA.out.cell 0 _ rfl
    have a1 := HA.out.cell 1 _ rfl
    have a2 := HA.out.cell 2 _ rfl
    have a3 := HA.out.cell 3 _ rfl
    have a4 := HA.out.cell 4 _ rfl
    have a5 := HA.out.cell 5 _ rfl
    have a6 := HA.out.cell 6 _ rfl
    have a7 := HA.out.cell 7 _ rfl
    have a8 := HA.out.cell 8 _ rfl
    have a9 := HA.out.cell 9 _ rfl
    have a10 := HA.out.cell 10 _ rfl
    rcases he with rfl | rfl
    rotate_left
    · go_wp2
      go_ret
      exact ⟨.inr rfl, HB.out⟩
    go_wp2_with fail
    refine (HT.out _).mono ?_
    rintro e w4 ⟨rfl, hb⟩
    replace HA := Lib.hid (HA.out.call hb)
    replace HB := Lib.hid (below_then HB.out hb)
    clear hb a0 a1 a2 a3 a4 a5 a6 a7 a8 a9 a10
    have a0 := HA.out.cell 0 _ rfl
    have a1 := HA.out.cell 1 _ rfl
    have a2 := HA.out.cell 2 _ rfl
    have a3 := HA.out.cell 3 _ rfl
    have a4 := HA.out.cell 4 _ rfl
    have a5 := HA.out.cell 5 _ rfl
    have a6 := HA.out.cell 6 _ rfl
    have a7 := HA.out.cell 7 _ rfl
    have a8 := HA.out.cell 8 _ rfl
    have a9 := HA.out.cell 9 _ rfl
    have a10 := HA.out.cell 10 _ rfl
    cases xe with
    | true =>
      go_wp2
      go_ret
      exact ⟨.inr rfl, HB.out⟩
    | false =>
      go_wp2_with fail
      refine (HL.out _).mono ?_
      rintro e w5 ⟨he, hb⟩
      replace HB := Lib.hid (below_then HB.out hb)
      clear hb
      rcases he with rfl | rfl
      · go_wp2
        go_ret
        exact ⟨.inl ⟨rfl, by omega, by omega, by omega⟩, HB.out⟩
      · go_wp2
        go_ret
        exact ⟨.inr rfl, HB.out⟩
set_option maxHeartbeats 4000000 in
set_option maxRecDepth 100000 in
theorem near15_some (l : List Ru.R) (A : Option Addr) (c : Nat) (hi : Int) (w : World) (hR : Reads w w.heap.size 11 A l.length (l.flatMap Ru.R.cells)) (hs : ∀ r ∈ l, r.nm.size ≤ maxLen ∧ r.lt.size ≤ maxLen) (hhi : 0 ≤ hi ∧ hi ≤ 10000) :
    Calls Tryz.prog 42 #[.slice A l.length c, .int .i64 hi] w (Eg.SomeZ w) := by
  obtain ⟨m, hm⟩ : ∃ m, l.length = m := ⟨_, rfl⟩
  rw [hm] at hR ⊢
  have HR := Lib.hid hR
  have HM := Lib.hid hm
  have HS := Lib.hid hs
  have HB0 := Lib.hid (Below.refl w.heap.size w)
  clear hR hs hm
  by_cases h12 : (12 : Int) < (m : Int)
  · go_enter Tryz.func42, Tryz.ntmps42
    go_wp2
    go_ret
    exact ⟨.inl rfl, HB0.out⟩
  go_enter Tryz.func42, Tryz.ntmps42
  go_wp2
  go_loopw [12] (fun i wr => ∃ j : Nat, j ≤ m ∧ i = .int .i64 (j : Int) ∧ Hid (Below w.heap.size w wr)) (fun i _ => m - (intOf i).toNat)
  case atStart => exact ⟨0, Nat.zero_le _, rfl, HB0.out⟩
  case round =>
    obtain ⟨j, hj, rfl, HB⟩ := hrel
    by_cases hlt : j < m
    · have p1 : (0 : Int) ≤ (j : Int) := by omega
      have p2 : (j : Int) < (m : Int) := by omega
      obtain ⟨ad, x, rfl, hab, Hx, HL⟩ := Ix.reads_cells (enc := Ru.R.cells) (m := 11) (fun _ => rfl) HM.out (HR.out.below HB.out) hlt
      have hmem := List.mem_of_getElem? Hx.out
      have hs := HS.out x hmem
      obtain ⟨nm, fr, tt, mo, k, n, d, sc, cc, sv, lt⟩ := x
      simp only at hs
      have y0 : wr.cell? (ad.add (j * 11)) = some (.string nm) := HL.out 0 _ rfl
      have y1 : wr.cell? ⟨(ad.add (j * 11)).block, (ad.add (j * 11)).off + 1, none⟩ = some (.int .i64 fr) := HL.out 1 _ rfl
      have y2 : wr.cell? ⟨(ad.add (j * 11)).block, (ad.add (j * 11)).off + 2, none⟩ = some (.int .i64 tt) := HL.out 2 _ rfl
      have y3 : wr.cell? ⟨(ad.add (j * 11)).block, (ad.add (j * 11)).off + 3, none⟩ = some (.int .i64 mo) := HL.out 3 _ rfl
      have y4 : wr.cell? ⟨(ad.add (j * 11)).block, (ad.add (j * 11)).off + 4, none⟩ = some (.int .u8 k) := HL.out 4 _ rfl
      have y5 : wr.cell? ⟨(ad.add (j * 11)).block, (ad.add (j * 11)).off + 5, none⟩ = some (.int .i64 n) := HL.out 5 _ rfl
      have y6 : wr.cell? ⟨(ad.add (j * 11)).block, (ad.add (j * 11)).off + 6, none⟩ = some (.int .i64 d) := HL.out 6 _ rfl
      have y7 : wr.cell? ⟨(ad.add (j * 11)).block, (ad.add (j * 11)).off + 7, none⟩ = some (.int .i64 sc) := HL.out 7 _ rfl
      have y8 : wr.cell? ⟨(ad.add (j * 11)).block, (ad.add (j * 11)).off + 8, none⟩ = some (.int .u8 cc) := HL.out 8 _ rfl
      have y9 : wr.cell? ⟨(ad.add (j * 11)).block, (ad.add (j * 11)).off + 9, none⟩ = some (.int .i64 sv) := HL.out 9 _ rfl
      have y10 : wr.cell? ⟨(ad.add (j * 11)).block, (ad.add (j * 11)).off + 10, none⟩ = some (.string lt) := HL.out 10 _ rfl
      have HC := Lib.hid fun W => refRule_some nm fr tt mo k n d sc cc sv lt W hs.1 hs.2
      have hA0 := At.new wr #[.string nm, .int .i64 fr, .int .i64 tt, .int .i64 mo, .int .u8 k, .int .i64 n, .int .i64 d, .int .i64 sc, .int .u8 cc, .int .i64 sv, .string lt] 75
      have hB0 := (Below.refl wr.heap.size wr).alloc (Nat.le_refl _) (.cells #[.string nm, .int .i64 fr, .int .i64 tt, .int .i64 mo, .int .u8 k, .int .i64 n, .int .i64 d, .int .i64 sc, .int .u8 cc, .int .i64 sv, .string lt] 75)
      have HB1 := Lib.hid (HB.out.alloc HB.out.size (.cells #[.string nm, .int .i64 fr, .int .i64 tt, .int .i64 mo, .int .u8 k, .int .i64 n, .int .i64 d, .int .i64 sc, .int .u8 cc, .int .i64 sv, .string lt] 75))
      have HA0 := Lib.hid hA0
      obtain ⟨hs1, hs2⟩ := hs
      unfold maxLen at hs1 hs2
      clear hA0 hB0 hmem Hx HL
      by_cases l1 : (1000 : Int) < (nm.size : Int)
      · go_wp2
        go_ret
        exact ⟨.inl rfl, HB1.out⟩
      by_cases l2 : (1000 : Int) < (lt.size : Int)
      · go_wp2
        go_ret
        exact ⟨.inl rfl, HB1.out⟩
      go_wp2_with fail
      refine (HC.out _).mono ?_
      rintro e w1 ⟨he, hb⟩
      have HA := Lib.hid (HA0.out.call hb)
      replace HB := Lib.hid (below_then HB1.out hb)
      clear hb HB1 HC y0 y1 y2 y3 y4 y5 y6 y7 y8 y9 y10
      have a0 := HA.out.cell 0 _ rfl
      have a1 := HA.out.cell 1 _ rfl
      have a2 := HA.out.cell 2 _ rfl
      have a3 := HA.out.cell 3 _ rfl
      have a4 := HA.out.cell 4 _ rfl
      have a5 := HA.out.cell 5 _ rfl
      have a6 := HA.out.cell 6 _ rfl
      have a7 := HA.out.cell 7 _ rfl
      have a8 := HA.out.cell 8 _ rfl
      have a9 := HA.out.cell 9 _ rfl
      have a10 := HA.out.cell 10 _ rfl
      rcases he with ⟨rfl, r1, r2, r3⟩ | rfl
      · by_cases hmin : tt ≤ hi
        · by_cases hf : fr < tt - 80
          · go_wp2
            go_ret
            exact ⟨.inl rfl, HB.out⟩
          · go_wp2
            go_roundw
            case rel => exact ⟨j + 1, by omega, by go_num, HB.out⟩
            case measure => simp [intOf]; omega
        · by_cases hf : fr < hi - 80
          · go_wp2
            go_ret
            exact ⟨.inl rfl, HB.out⟩
          · go_wp2
            go_roundw
            case rel => exact ⟨j + 1, by omega, by go_num, HB.out⟩
            case measure => simp [intOf]; omega
      · go_wp2
        go_roundw
        case rel => exact ⟨j + 1, by omega, by go_num, HB.out⟩
        case measure => simp [intOf]; omega
    · obtain rfl : j = m := by omega
      go_wp2
      go_ret
      exact ⟨.inr rfl, HB.out⟩
end Go.Proofs.YtolgigaolffenaaGreatDoor

/- The statement's Near; lists of times compared. -/
namespace Go.Proofs.YtolgigaolffenaaGreatDoor
open Go.RowKit

namespace Eg
def Near (s : Src.S) (w : World) (e : Ending) (w' : World) : Prop := (e = .returned (.int .i64 0) ∨ (e = .returned (.int .i64 1) ∧ Src.Few s)) ∧ Below w.heap.size w w'
end Eg
set_option maxHeartbeats 4000000 in
set_option maxRecDepth 100000 in
theorem near16_some (s : Src.S) (rv zv lv : Value) (evs : List Value) (hi : Int) (w : World) (hR : Src.SrcR w w.heap.size s rv zv lv evs) (hw : Src.Wide s) (hhi : 0 ≤ hi ∧ hi ≤ 10000) :
    Calls Tryz.prog 11 #[.agg #[rv, zv, lv], .int .i64 hi] w (Eg.Near s w) := by
  have hlen : (s.zones.zip evs).length = s.zones.length := by rw [List.length_zip, hR.len]; omega
  have hers := hR.eras
  have hrs : ∀ r ∈ s.rules, r.nm.size ≤ maxLen ∧ r.lt.size ≤ maxLen := fun r hr => (hw.rules r hr).2
  obtain ⟨rA, rc, rfl, hr1, hr2, hrr⟩ := hR.rules
  obtain ⟨zA, zc, rfl, hz1, hzc, hrz⟩ := hR.zones
  obtain ⟨lA, lc, rfl, _⟩ := hR.links
  obtain ⟨W1, hW1⟩ : ∃ W, w.alloc (.cells #[.slice rA s.rules.length rc, .slice zA s.zones.length zc, .slice lA s.links.length lc] 26) = W := ⟨_, rfl⟩
  have hb1 : Below w.heap.size w W1 := by rw [← hW1]; exact (Below.refl _ _).alloc (Nat.le_refl _) _
  have hA1 : At W1 w.heap.size [.slice rA s.rules.length rc, .slice zA s.zones.length zc, .slice lA s.links.length lc] := by rw [← hW1]; exact At.new _ _ _
  have HCf := Lib.hid (few_any s _ _ _ evs W1 (hR.call hb1) hw)
  have HCn : Hid (∀ W, Below w.heap.size w W → Calls Tryz.prog 42 #[.slice rA s.rules.length rc, .int .i64 hi] W (Eg.SomeZ W)) := fun W hb => near15_some s.rules rA rc hi W ((hrr.below hb).more hb.size) hrs hhi
  obtain ⟨n1, hn1⟩ : ∃ n, s.rules.length = n := ⟨_, rfl⟩
  obtain ⟨n2, hn2⟩ : ∃ n, s.zones.length = n := ⟨_, rfl⟩
  obtain ⟨n3, hn3⟩ : ∃ n, s.links.length = n := ⟨_, rfl⟩
  rw [hn1, hn2, hn3] at HCf hA1 hW1 ⊢
  rw [hn1] at HCn hr1
  rw [hn2] at hrz hlen hz1
  unfold maxLen at hzc hr2
  have HB1 := Lib.hid hb1
  have HW1 := Lib.hid hW1
  have HA1 := Lib.hid hA1
  have HRz := Lib.hid hrz
  have HLen := Lib.hid hlen
  have HErs := Lib.hid hers
  obtain ⟨b0, b1, b2, _⟩ := hA1.three
  clear hR hw hb1 hW1 hA1 hrz hlen hers hrs hrr hn1 hn2 hn3
  go_enter Tryz.func11, Tryz.ntmps11
  go_wp2_with fail
  rw [HW1.out]
  refine HCf.out.mono ?_
  rintro e w2 ⟨he, hb2⟩
  have HA2 := Lib.hid (HA1.out.call hb2)
  have HB2 := Lib.hid (below_then HB1.out hb2)
  clear hb2 b0 b1 b2
  obtain ⟨b0, b1, b2, _⟩ := HA2.out.three
  rcases he with rfl | ⟨rfl, hfew⟩
  · go_wp2
    go_ret
    exact ⟨.inl rfl, HB2.out⟩
  have HF := Lib.hid hfew
  clear hfew
  by_cases h12 : (12 : Int) < (n1 : Int)
  · go_wp2
    go_ret
    exact ⟨.inl rfl, HB2.out⟩
  have HCn2 := Lib.hid (HCn.out w2 HB2.out)
  clear HCn
  go_wp2_with fail
  refine HCn2.out.mono ?_
  rintro e w3 ⟨he, hb3⟩
  have HA3 := Lib.hid (HA2.out.call hb3)
  have HB3 := Lib.hid (below_then HB2.out hb3)
  clear hb3 b0 b1 b2
  obtain ⟨b0, b1, b2, _⟩ := HA3.out.three
  rcases he with rfl | rfl
  · go_wp2
    go_ret
    exact ⟨.inl rfl, HB3.out⟩
  go_wp2
  clear b0 b1 b2
  go_loopw [28] (fun i wr => ∃ k : Nat, k ≤ n2 ∧ i = .int .i64 (k : Int) ∧ Hid (Below w.heap.size w wr)) (fun i _ => n2 - (intOf i).toNat)
  case atStart => exact ⟨0, Nat.zero_le _, rfl, HB3.out⟩
  case round =>
    obtain ⟨k, hk, rfl, HB⟩ := hrel
    by_cases hlt : k < n2
    · have q1 : (0 : Int) ≤ (k : Int) := by omega
      have q3 : (k : Int) < (n2 : Int) := by omega
      obtain ⟨adz, x, rfl, hab, Hx, HL⟩ := Ix.reads_cells (enc := Src.zc) (m := 2) (fun _ => rfl) HLen.out (HRz.out.below HB.out) hlt
      obtain ⟨eA, ec, he2, hme1, hec, hre⟩ := HErs.out x (List.mem_of_getElem? Hx.out)
      obtain ⟨zb, hzb⟩ : ∃ t, Src.bts x.1.1 = t := ⟨_, rfl⟩
      obtain ⟨es, hes⟩ : ∃ l, x.1.2 = l := ⟨_, rfl⟩
      obtain ⟨me, hme⟩ : ∃ l, es.length = l := ⟨_, rfl⟩
      rw [hes, hme] at he2 hre hme1
      have c0 : wr.cell? (adz.add (k * 2)) = some (.string zb) := by rw [← hzb]; exact HL.out 0 _ rfl
      have c1 : wr.cell? ⟨(adz.add (k * 2)).block, (adz.add (k * 2)).off + 1, none⟩ = some (.slice eA me ec) := by rw [← he2]; exact HL.out 1 _ rfl
      have HBa := Lib.hid (HB.out.alloc HB.out.size (.cells #[.string zb, .slice eA me ec] 56))
      have HMe := Lib.hid hme
      have HRe := Lib.hid hre
      unfold maxLen at hec
      clear HL he2 hre hzb hes hme HB
      go_wp2
      clear c0 c1
      go_loopw [35] (fun i wr => ∃ j : Nat, j ≤ me ∧ i = .int .i64 (j : Int) ∧ Hid (Below w.heap.size w wr)) (fun i _ => me - (intOf i).toNat)
      case atStart => exact ⟨0, Nat.zero_le _, rfl, HBa.out⟩
      case round =>
        clear HBa
        obtain ⟨j, hj, rfl, HB⟩ := hrel
        by_cases hlt3 : j < me
        · have q4 : (0 : Int) ≤ (j : Int) := by omega
          have q5 : (j : Int) < (me : Int) := by omega
          obtain ⟨ad, x9, rfl, habe, Hx9, HLe⟩ := Ix.reads_cells (enc := Er.E.cells) (m := 13) (fun _ => rfl) HMe.out (HRe.out.below HB.out) hlt3
          obtain ⟨std, ek, esv, ru, fm, en, ⟨y, m, dk, dn, dd, us, cc⟩⟩ := x9
          have y0 : wr.cell? (ad.add (j * 13)) = some (.int .i64 std) := HLe.out 0 _ rfl
          have y1 : wr.cell? ⟨(ad.add (j * 13)).block, (ad.add (j * 13)).off + 1, none⟩ = some (.int .u8 ek) := HLe.out 1 _ rfl
          have y2 : wr.cell? ⟨(ad.add (j * 13)).block, (ad.add (j * 13)).off + 2, none⟩ = some (.int .i64 esv) := HLe.out 2 _ rfl
          have y3 : wr.cell? ⟨(ad.add (j * 13)).block, (ad.add (j * 13)).off + 3, none⟩ = some (.string ru) := HLe.out 3 _ rfl
          have y4 : wr.cell? ⟨(ad.add (j * 13)).block, (ad.add (j * 13)).off + 4, none⟩ = some (.string fm) := HLe.out 4 _ rfl
          have y5 : wr.cell? ⟨(ad.add (j * 13)).block, (ad.add (j * 13)).off + 5, none⟩ = some (.bool en) := HLe.out 5 _ rfl
          have y6 : wr.cell? ⟨(ad.add (j * 13)).block, (ad.add (j * 13)).off + 6, none⟩ = some (.int .i64 y) := HLe.out 6 _ rfl
          have y7 : wr.cell? ⟨(ad.add (j * 13)).block, (ad.add (j * 13)).off + 7, none⟩ = some (.int .i64 m) := HLe.out 7 _ rfl
          have y8 : wr.cell? ⟨(ad.add (j * 13)).block, (ad.add (j * 13)).off + 8, none⟩ = some (.int .u8 dk) := HLe.out 8 _ rfl
          have y9 : wr.cell? ⟨(ad.add (j * 13)).block, (ad.add (j * 13)).off + 9, none⟩ = some (.int .i64 dn) := HLe.out 9 _ rfl
          have y10 : wr.cell? ⟨(ad.add (j * 13)).block, (ad.add (j * 13)).off + 10, none⟩ = some (.int .i64 dd) := HLe.out 10 _ rfl
          have y11 : wr.cell? ⟨(ad.add (j * 13)).block, (ad.add (j * 13)).off + 11, none⟩ = some (.int .i64 us) := HLe.out 11 _ rfl
          have y12 : wr.cell? ⟨(ad.add (j * 13)).block, (ad.add (j * 13)).off + 12, none⟩ = some (.int .u8 cc) := HLe.out 12 _ rfl
          have HB9 := Lib.hid (HB.out.alloc HB.out.size (.cells #[.int .i64 std, .int .u8 ek, .int .i64 esv, .string ru, .string fm, .bool en, .int .i64 y, .int .i64 m, .int .u8 dk, .int .i64 dn, .int .i64 dd, .int .i64 us, .int .u8 cc] 53))
          clear Hx9 HLe HB
          cases en with
          | false =>
            go_wp2
            go_roundw
            case rel => exact ⟨j + 1, by omega, by go_num, HB9.out⟩
            case measure => simp [intOf]; omega
          | true =>
            by_cases l1 : hi < y
            · by_cases l2 : y ≤ 9999
              · go_wp2
                go_ret
                exact ⟨.inl rfl, HB9.out⟩
              · go_wp2
                go_roundw
                case rel => exact ⟨j + 1, by omega, by go_num, HB9.out⟩
                case measure => simp [intOf]; omega
            · go_wp2
              go_roundw
              case rel => exact ⟨j + 1, by omega, by go_num, HB9.out⟩
              case measure => simp [intOf]; omega
        · obtain rfl : j = me := by omega
          have q5 : ¬ (j : Int) < (j : Int) := by omega
          go_wp2
          go_roundw
          case rel => exact ⟨k + 1, by omega, by go_num, HB.out⟩
          case measure => simp [intOf]; omega
    · obtain rfl : k = n2 := by omega
      have q3 : ¬ (k : Int) < (k : Int) := by omega
      go_wp2
      go_ret
      exact ⟨.inr ⟨rfl, HF.out⟩, HB.out⟩
end Go.Proofs.YtolgigaolffenaaGreatDoor

/- The reach of a number among a row's arguments. -/
namespace Go.Proofs.YtolgigaolffenaaGreatDoor
open Go.RowKit

theorem i64_range {z : Int} (h : (Lit.int .i64 z).wf = true) : -9223372036854775808 ≤ z ∧ z ≤ 9223372036854775807 := by
  simpa [Lit.wf, IntKind.min, IntKind.max, IntKind.signed, IntKind.bits] using h
end Go.Proofs.YtolgigaolffenaaGreatDoor
