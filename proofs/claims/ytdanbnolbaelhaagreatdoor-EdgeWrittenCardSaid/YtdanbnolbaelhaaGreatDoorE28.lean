/- The statement's Near; lists of times compared. -/
import Derived.Test.YtdanbnolbaelhaaGreatDoorE27
import Derived.Test.YtdanbnolbaelhaaGreatDoorE17
import Derived.Test.YtdanbnolbaelhaaGreatDoorE01
import Derived.Deep.QuietTactic
import Derived.BigQuiet

namespace Go.Proofs.YtdanbnolbaelhaaGreatDoor
open Go.RowKit

namespace Eg
def Near (s : Src.S) (w : World) (e : Ending) (w' : World) : Prop := (e = .returned (.int .i64 0) ∨ (e = .returned (.int .i64 1) ∧ Src.Few s)) ∧ Below w.heap.size w w'
end Eg
set_option maxHeartbeats 4000000 in
set_option maxRecDepth 100000 in
theorem near16_some (s : Src.S) (rv zv lv : Value) (evs : List Value) (hi : Int) (w : World) (hR : Src.SrcR w w.heap.size s rv zv lv evs) (hw : Src.Wide s) (hhi : 0 ≤ hi ∧ hi ≤ 10000) :
    Calls Tryz.prog 11 #[.agg #[rv, zv, lv], .int .i64 hi] w (Eg.Near s w) := by
  have hlen : (s.zones.zip evs).length = s.zones.length := by rw [List.length_zip, hR.len]; omega
  have hers := hR.eras
  have hrs : ∀ r ∈ s.rules, r.nm.size ≤ maxLen ∧ r.lt.size ≤ maxLen := fun r hr => (hw.rules r hr).2
  obtain ⟨rA, rc, rfl, hr1, hr2, hrr⟩ := hR.rules
  obtain ⟨zA, zc, rfl, hz1, hzc, hrz⟩ := hR.zones
  obtain ⟨lA, lc, rfl, _⟩ := hR.links
  obtain ⟨W1, hW1⟩ : ∃ W, w.alloc (.cells #[.slice rA s.rules.length rc, .slice zA s.zones.length zc, .slice lA s.links.length lc] 26) = W := ⟨_, rfl⟩
  have hb1 : Below w.heap.size w W1 := by rw [← hW1]; exact (Below.refl _ _).alloc (Nat.le_refl _) _
  have hA1 : At W1 w.heap.size [.slice rA s.rules.length rc, .slice zA s.zones.length zc, .slice lA s.links.length lc] := by rw [← hW1]; exact At.new _ _ _
  have HCf := Lib.hid (few_any s _ _ _ evs W1 (hR.call hb1) hw)
  have HCn : Hid (∀ W, Below w.heap.size w W → Calls Tryz.prog 42 #[.slice rA s.rules.length rc, .int .i64 hi] W (Eg.SomeZ W)) := fun W hb => near15_some s.rules rA rc hi W ((hrr.below hb).more hb.size) hrs hhi
  obtain ⟨n1, hn1⟩ : ∃ n, s.rules.length = n := ⟨_, rfl⟩
  obtain ⟨n2, hn2⟩ : ∃ n, s.zones.length = n := ⟨_, rfl⟩
  obtain ⟨n3, hn3⟩ : ∃ n, s.links.length = n := ⟨_, rfl⟩
  rw [hn1, hn2, hn3] at HCf hA1 hW1 ⊢
  rw [hn1] at HCn hr1
  rw [hn2] at hrz hlen hz1
  unfold maxLen at hzc hr2
  have HB1 := Lib.hid hb1
  have HW1 := Lib.hid hW1
  have HA1 := Lib.hid hA1
  have HRz := Lib.hid hrz
  have HLen := Lib.hid hlen
  have HErs := Lib.hid hers
  obtain ⟨b0, b1, b2, _⟩ := hA1.three
  clear hR hw hb1 hW1 hA1 hrz hlen hers hrs hrr hn1 hn2 hn3
  go_enter Tryz.func11, Tryz.ntmps11
  go_wp2_with fail
  rw [HW1.out]
  refine HCf.out.mono ?_
  rintro e w2 ⟨he, hb2⟩
  have HA2 := Lib.hid (HA1.out.call hb2)
  have HB2 := Lib.hid (below_then HB1.out hb2)
  clear hb2 b0 b1 b2
  obtain ⟨b0, b1, b2, _⟩ := HA2.out.three
  rcases he with rfl | ⟨rfl, hfew⟩
  · go_wp2
    go_ret
    exact ⟨.inl rfl, HB2.out⟩
  have HF := Lib.hid hfew
  clear hfew
  by_cases h12 : (12 : Int) < (n1 : Int)
  · go_wp2
    go_ret
    exact ⟨.inl rfl, HB2.out⟩
  have HCn2 := Lib.hid (HCn.out w2 HB2.out)
  clear HCn
  go_wp2_with fail
  refine HCn2.out.mono ?_
  rintro e w3 ⟨he, hb3⟩
  have HA3 := Lib.hid (HA2.out.call hb3)
  have HB3 := Lib.hid (below_then HB2.out hb3)
  clear hb3 b0 b1 b2
  obtain ⟨b0, b1, b2, _⟩ := HA3.out.three
  rcases he with rfl | rfl
  · go_wp2
    go_ret
    exact ⟨.inl rfl, HB3.out⟩
  go_wp2
  clear b0 b1 b2
  go_loopw [28] (fun i wr => ∃ k : Nat, k ≤ n2 ∧ i = .int .i64 (k : Int) ∧ Hid (Below w.heap.size w wr)) (fun i _ => n2 - (intOf i).toNat)
  case atStart => exact ⟨0, Nat.zero_le _, rfl, HB3.out⟩
  case round =>
    obtain ⟨k, hk, rfl, HB⟩ := hrel
    by_cases hlt : k < n2
    · have q1 : (0 : Int) ≤ (k : Int) := by omega
      have q3 : (k : Int) < (n2 : Int) := by omega
      obtain ⟨adz, x, rfl, hab, Hx, HL⟩ := Ix.reads_cells (enc := Src.zc) (m := 2) (fun _ => rfl) HLen.out (HRz.out.below HB.out) hlt
      obtain ⟨eA, ec, he2, hme1, hec, hre⟩ := HErs.out x (List.mem_of_getElem? Hx.out)
      obtain ⟨zb, hzb⟩ : ∃ t, Src.bts x.1.1 = t := ⟨_, rfl⟩
      obtain ⟨es, hes⟩ : ∃ l, x.1.2 = l := ⟨_, rfl⟩
      obtain ⟨me, hme⟩ : ∃ l, es.length = l := ⟨_, rfl⟩
      rw [hes, hme] at he2 hre hme1
      have c0 : wr.cell? (adz.add (k * 2)) = some (.string zb) := by rw [← hzb]; exact HL.out 0 _ rfl
      have c1 : wr.cell? ⟨(adz.add (k * 2)).block, (adz.add (k * 2)).off + 1, none⟩ = some (.slice eA me ec) := by rw [← he2]; exact HL.out 1 _ rfl
      have HBa := Lib.hid (HB.out.alloc HB.out.size (.cells #[.string zb, .slice eA me ec] 36))
      have HMe := Lib.hid hme
      have HRe := Lib.hid hre
      unfold maxLen at hec
      clear HL he2 hre hzb hes hme HB
      go_wp2
      clear c0 c1
      go_loopw [35] (fun i wr => ∃ j : Nat, j ≤ me ∧ i = .int .i64 (j : Int) ∧ Hid (Below w.heap.size w wr)) (fun i _ => me - (intOf i).toNat)
      case atStart => exact ⟨0, Nat.zero_le _, rfl, HBa.out⟩
      case round =>
        clear HBa
        obtain ⟨j, hj, rfl, HB⟩ := hrel
        by_cases hlt3 : j < me
        · have q4 : (0 : Int) ≤ (j : Int) := by omega
          have q5 : (j : Int) < (me : Int) := by omega
          obtain ⟨ad, x9, rfl, habe, Hx9, HLe⟩ := Ix.reads_cells (enc := Er.E.cells) (m := 13) (fun _ => rfl) HMe.out (HRe.out.below HB.out) hlt3
          obtain ⟨std, ek, esv, ru, fm, en, ⟨y, m, dk, dn, dd, us, cc⟩⟩ := x9
          have y0 : wr.cell? (ad.add (j * 13)) = some (.int .i64 std) := HLe.out 0 _ rfl
          have y1 : wr.cell? ⟨(ad.add (j * 13)).block, (ad.add (j * 13)).off + 1, none⟩ = some (.int .u8 ek) := HLe.out 1 _ rfl
          have y2 : wr.cell? ⟨(ad.add (j * 13)).block, (ad.add (j * 13)).off + 2, none⟩ = some (.int .i64 esv) := HLe.out 2 _ rfl
          have y3 : wr.cell? ⟨(ad.add (j * 13)).block, (ad.add (j * 13)).off + 3, none⟩ = some (.string ru) := HLe.out 3 _ rfl
          have y4 : wr.cell? ⟨(ad.add (j * 13)).block, (ad.add (j * 13)).off + 4, none⟩ = some (.string fm) := HLe.out 4 _ rfl
          have y5 : wr.cell? ⟨(ad.add (j * 13)).block, (ad.add (j * 13)).off + 5, none⟩ = some (.bool en) := HLe.out 5 _ rfl
          have y6 : wr.cell? ⟨(ad.add (j * 13)).block, (ad.add (j * 13)).off + 6, none⟩ = some (.int .i64 y) := HLe.out 6 _ rfl
          have y7 : wr.cell? ⟨(ad.add (j * 13)).block, (ad.add (j * 13)).off + 7, none⟩ = some (.int .i64 m) := HLe.out 7 _ rfl
          have y8 : wr.cell? ⟨(ad.add (j * 13)).block, (ad.add (j * 13)).off + 8, none⟩ = some (.int .u8 dk) := HLe.out 8 _ rfl
          have y9 : wr.cell? ⟨(ad.add (j * 13)).block, (ad.add (j * 13)).off + 9, none⟩ = some (.int .i64 dn) := HLe.out 9 _ rfl
          have y10 : wr.cell? ⟨(ad.add (j * 13)).block, (ad.add (j * 13)).off + 10, none⟩ = some (.int .i64 dd) := HLe.out 10 _ rfl
          have y11 : wr.cell? ⟨(ad.add (j * 13)).block, (ad.add (j * 13)).off + 11, none⟩ = some (.int .i64 us) := HLe.out 11 _ rfl
          have y12 : wr.cell? ⟨(ad.add (j * 13)).block, (ad.add (j * 13)).off + 12, none⟩ = some (.int .u8 cc) := HLe.out 12 _ rfl
          have HB9 := Lib.hid (HB.out.alloc HB.out.size (.cells #[.int .i64 std, .int .u8 ek, .int .i64 esv, .string ru, .string fm, .bool en, .int .i64 y, .int .i64 m, .int .u8 dk, .int .i64 dn, .int .i64 dd, .int .i64 us, .int .u8 cc] 48))
          clear Hx9 HLe HB
          cases en with
          | false =>
            go_wp2
            go_roundw
            case rel => exact ⟨j + 1, by omega, by go_num, HB9.out⟩
            case measure => simp [intOf]; omega
          | true =>
            by_cases l1 : hi < y
            · by_cases l2 : y ≤ 9999
              · go_wp2
                go_ret
                exact ⟨.inl rfl, HB9.out⟩
              · go_wp2
                go_roundw
                case rel => exact ⟨j + 1, by omega, by go_num, HB9.out⟩
                case measure => simp [intOf]; omega
            · go_wp2
              go_roundw
              case rel => exact ⟨j + 1, by omega, by go_num, HB9.out⟩
              case measure => simp [intOf]; omega
        · obtain rfl : j = me := by omega
          have q5 : ¬ (j : Int) < (j : Int) := by omega
          go_wp2
          go_roundw
          case rel => exact ⟨k + 1, by omega, by go_num, HB.out⟩
          case measure => simp [intOf]; omega
    · obtain rfl : k = n2 := by omega
      have q3 : ¬ (k : Int) < (k : Int) := by omega
      go_wp2
      go_ret
      exact ⟨.inr ⟨rfl, HF.out⟩, HB.out⟩
end Go.Proofs.YtdanbnolbaelhaaGreatDoor

/- What the ends of eras are, for the law. -/
namespace Go.Proofs.YtdanbnolbaelhaaGreatDoor
open Go.RowKit

namespace Eg
theorem hold_ne : ∀ (ends : List Int) (t : Int) (k : Nat), ends[k]? = some t → Ln.hold ends t ≠ k
  | [], _, _, h => by simp at h
  | x :: l, t, 0, h => by
    have : x = t := by simpa using h
    subst this
    unfold Ln.hold
    rw [if_neg (by omega)]
    omega
  | x :: l, t, k + 1, h => by
    have ih := hold_ne l t k (by simpa using h)
    unfold Ln.hold
    split
    · omega
    · omega
/-- An era's end, by its parts. -/
theorem end_is {na std sv cc : Int} (hc0 : 0 ≤ cc) (h : (Mo.ins na cc std sv).2 = 0) :
    (cc = 0 ∨ cc = 1 ∨ cc = 2) ∧ InT na ∧ InT std ∧ InT sv ∧ (Mo.ins na cc std sv).1 = (if cc = 0 then na - sv - std else if cc = 1 then na - std else na) := by
  unfold Mo.ins at h ⊢
  by_cases h3 : 3 ≤ cc
  · rw [if_pos h3] at h
    exact absurd h (by decide)
  · rw [if_neg h3] at h ⊢
    by_cases hT : InT na ∧ InT std ∧ InT sv
    · rw [if_pos hT]
      exact ⟨by omega, hT.1, hT.2.1, hT.2.2, rfl⟩
    · rw [if_neg hT] at h
      exact absurd h (by decide)
theorem end_bd {rules : List Ru.R} {eras : List Er.E} (hr : RulesOk rules) (h : ZoneOk eras) (hcc : ∀ e ∈ eras, 0 ≤ e.u.c) : ∀ t ∈ ends rules eras, -4000000000000 ≤ t ∧ t ≤ 4000000000000 := by
  intro t ht
  unfold ends at ht
  obtain ⟨e, he, rfl⟩ := List.mem_map.1 ht
  obtain ⟨i, hi, hie⟩ := List.getElem_of_mem he
  have hi2 : i + 1 < eras.length := by rw [List.length_dropLast] at hi; omega
  have hge : eras[i]? = some e := by
    rw [List.getElem_dropLast] at hie
    rw [List.getElem?_eq_getElem (by omega), hie]
  have hmem := List.mem_of_getElem? hge
  have hen : e.en = true := by rw [h.en i e hge]; exact decide_eq_true hi2
  obtain ⟨h1, _⟩ := end_ok hr h hmem hen
  obtain ⟨hcs, a, b, c, hv⟩ := end_is (hcc e hmem) h1
  unfold endOf
  rw [hv]
  unfold InT at a b c
  split
  · omega
  · split <;> omega
end Eg
end Go.Proofs.YtdanbnolbaelhaaGreatDoor

/- EdgeWritten: its own walk. -/
namespace Go.Proofs.YtdanbnolbaelhaaGreatDoor
open Go.RowKit

namespace Ew
/-- Where the ends are gone through. -/
def At (L : List Int) (m0 : Nat) (w5 : World) (v i : Value) (wr : World) : Prop :=
  ∃ (j : Nat) (M : Int), j ≤ m0 ∧ i = .int .i64 (j : Int) ∧ v = .int .i64 M ∧ -4611686018427387904 ≤ M ∧ M ≤ 4611686018427387904 ∧ Hid (∀ i t, i < j → L[i]? = some t → t ≤ M) ∧ Hid (Below w5.heap.size w5 wr)
end Ew
set_option maxHeartbeats 16000000 in
set_option maxRecDepth 200000 in
theorem edgeWritten_of (s : Src.S) (z : Int) (rv zv lv : Value) (evs : List Value) (w : World) (hLv : ∀ W, Wo W → Wa W → Calls Tryz.prog 10 #[] W fun e w' => e = .returned (.bool true) ∧ Below W.heap.size W w')
    (hR : Src.SrcR w w.heap.size s rv zv lv evs) (hw : Src.Wide s) (hW : Wo w) (hA : Wa w) (hz : -9223372036854775808 ≤ z ∧ z < 9223372036854775808) :
    Calls Tryz.prog 3 #[.agg #[rv, zv, lv], .int .i64 z] w fun e w' => e = .returned (.bool true) ∧ Below w.heap.size w w' := by
  have hlen : (s.zones.zip evs).length = s.zones.length := by rw [List.length_zip, hR.len]; omega
  have hers := hR.eras
  have hzn : ∀ k x, (s.zones.zip evs)[k]? = some x → s.zones[k]? = some x.1 ∧ x ∈ s.zones.zip evs := fun k x h => ⟨(List.getElem?_zip_eq_some.1 h).1, List.mem_of_getElem? h⟩
  have hcc : ∀ x ∈ s.zones, ∀ e ∈ x.2, 0 ≤ e.u.c := fun x hx e he => ((hw.zones x hx).2 e he).1
  have hsz : Src.Few s → Vd.Sz s := fun hf => ⟨⟨by have := hf.nr; omega, by have := hf.nz; omega, by have := hf.nl; omega⟩, fun x hx => by have := (hf.zones x hx).1; omega, hw.smw⟩
  have hRR : ∀ W, Below w.heap.size w W → Src.SrcR W W.heap.size s rv zv lv evs := fun W hb => (hR.below hb).more hb.size
  obtain ⟨rA, rc, rfl, hr1, hr2, _⟩ := hR.rules
  obtain ⟨zA, zc, rfl, hz1, hzc, hrz⟩ := hR.zones
  obtain ⟨lA, lc, rfl, _⟩ := hR.links
  obtain ⟨W1, hW1⟩ : ∃ W, w.alloc (.cells #[.slice rA s.rules.length rc, .slice zA s.zones.length zc, .slice lA s.links.length lc] 26) = W := ⟨_, rfl⟩
  have hb1 : Below w.heap.size w W1 := by rw [← hW1]; exact (Below.refl _ _).alloc (Nat.le_refl _) _
  have hA1 : At W1 w.heap.size [.slice rA s.rules.length rc, .slice zA s.zones.length zc, .slice lA s.links.length lc] := by rw [← hW1]; exact At.new _ _ _
  have hz9 : w.heap.size + 1 ≤ W1.heap.size := by rw [← hW1, World.size_alloc]; omega
  have HNe : Hid (∀ W, Below w.heap.size w W → Calls Tryz.prog 11 #[.agg #[.slice rA s.rules.length rc, .slice zA s.zones.length zc, .slice lA s.links.length lc], .int .i64 2100] W (Eg.Near s W)) := fun W hb => near16_some s _ _ _ evs 2100 W (hRR W hb) hw (by omega)
  have HEn : Hid (Src.Few s → ∀ W, Below w.heap.size w W → Calls Tryz.prog 12 #[.agg #[.slice rA s.rules.length rc, .slice zA s.zones.length zc, .slice lA s.links.length lc], .int .i64 z] W fun e w' => Below W.heap.size W w' ∧ Eg.EndsOf s z W.heap.size e w') := fun hf W hb => ends_any s z _ _ _ evs W (hRR W hb) (hsz hf) (hW.below hb) (hA.below hb) hz hcc
  have HWl : Hid (Src.Few s → ∀ W, Below w.heap.size w W → Calls Tryz.prog 13 #[.agg #[.slice rA s.rules.length rc, .slice zA s.zones.length zc, .slice lA s.links.length lc]] W fun e w' => e = .returned (.bool (Vd.well s)) ∧ Below W.heap.size W w') := fun hf W hb => vdWell_any s _ _ _ evs W (hRR W hb) (hsz hf) (hW.below hb) (hA.below hb)
  have HCk : Hid (Src.Few s → ∀ W, Below w.heap.size w W → Calls Tryz.prog 14 #[.agg #[.slice rA s.rules.length rc, .slice zA s.zones.length zc, .slice lA s.links.length lc]] W fun e w' => e = .returned (.int .i64 (if Src.srcB s = true then 0 else 2)) ∧ Below W.heap.size W w') := fun hf W hb => srcCheck_anyW s _ _ _ evs W (hA.below hb) (hRR W hb) (hsz hf).lims (hsz hf).smw
  have HSv : Hid (Eg.RulesOk s.rules → ∀ W e n, Below w.heap.size w W → -9223372036854775808 ≤ n ∧ n ≤ 9223372036854775807 → Calls Tryz.prog 16 #[.agg #[.slice rA s.rules.length rc, .slice zA s.zones.length zc, .slice lA s.links.length lc], e.v, .int .i64 n] W fun r w' => r = .returned (.int .i64 (Eg.saved s.rules e n)) ∧ Below W.heap.size W w') := fun hk W e n hb hn => saved_any s _ _ _ evs e n W (hRR W hb) hk (hW.below hb) hn
  obtain ⟨n1, hn1⟩ : ∃ n, s.rules.length = n := ⟨_, rfl⟩
  obtain ⟨n2, hn2⟩ : ∃ n, s.zones.length = n := ⟨_, rfl⟩
  obtain ⟨n3, hn3⟩ : ∃ n, s.links.length = n := ⟨_, rfl⟩
  rw [hn1, hn2, hn3] at HNe HEn HWl HCk HSv hA1 hW1 ⊢
  rw [hn2] at hrz hlen hz1
  unfold maxLen at hzc hr2
  have HLv := Lib.hid (hLv W1 (hW.below hb1) (hA.below hb1))
  have HB1 := Lib.hid hb1
  have HW1 := Lib.hid hW1
  have HA1 := Lib.hid hA1
  have HRz := Lib.hid hrz
  have HLen := Lib.hid hlen
  have HErs := Lib.hid hers
  have HZn := Lib.hid hzn
  have HN2 := Lib.hid hn2
  have HN1 := Lib.hid hn1
  have HWo := Lib.hid hW
  have HCc := Lib.hid hcc
  have HSz := Lib.hid hsz
  clear hR hw hW hA hb1 hW1 hA1 hrz hlen hers hzn hn1 hn2 hn3 hLv hcc hsz hRR hr1 hr2
  go_enter Tryz.func3, Tryz.ntmps3
  go_wp2_with fail
  rw [HW1.out]
  refine HLv.out.mono ?_
  rintro e w2 ⟨rfl, hb2⟩
  have HA2 := Lib.hid (HA1.out.call hb2)
  have HB2 := Lib.hid (below_then HB1.out hb2)
  have HZ2 : w.heap.size + 1 ≤ w2.heap.size := Nat.le_trans hz9 hb2.size
  clear hb2 hz9
  obtain ⟨b0, b1, b2, _⟩ := HA2.out.three
  have HNe2 := Lib.hid (HNe.out w2 HB2.out)
  clear HNe HLv
  go_wp2_with fail
  refine HNe2.out.mono ?_
  rintro e w3 ⟨he, hb3⟩
  have HA3 := Lib.hid (HA2.out.call hb3)
  have HB3 := Lib.hid (below_then HB2.out hb3)
  have HZ3 : w.heap.size + 1 ≤ w3.heap.size := Nat.le_trans HZ2 hb3.size
  clear hb3 b0 b1 b2 HNe2 HZ2
  obtain ⟨b0, b1, b2, _⟩ := HA3.out.three
  rcases he with rfl | ⟨rfl, hfew⟩
  · go_wp2
    go_ret
    exact ⟨rfl, HB3.out⟩
  have HF := Lib.hid hfew
  have HEn3 := Lib.hid (HEn.out hfew w3 HB3.out)
  clear hfew HEn
  go_wp2_with fail
  refine HEn3.out.mono ?_
  rintro e w4 ⟨hb4, he⟩
  have HA4 := Lib.hid (HA3.out.call hb4)
  have HB4 := Lib.hid (below_then HB3.out hb4)
  clear hb4 b0 b1 b2 HEn3
  obtain ⟨b0, b1, b2, _⟩ := HA4.out.three
  unfold Eg.EndsOf at he
  rcases he with ⟨hwell, rfl⟩ | ⟨hwell, hno, rfl⟩ | ⟨x, v, hwell, hx, rfl, hown⟩
  · have HWl4 := Lib.hid (HWl.out HF.out w4 HB4.out)
    rw [hwell] at HWl4
    clear hwell
    go_wp2_with fail
    refine HWl4.out.mono ?_
    rintro e w5 ⟨rfl, hb5⟩
    have HB5 := Lib.hid (below_then HB4.out hb5)
    clear hb5
    go_wp2
    go_ret
    exact ⟨rfl, HB5.out⟩
  · have HWl4 := Lib.hid (HWl.out HF.out w4 HB4.out)
    rw [hwell] at HWl4
    clear hwell hno
    go_wp2_with fail
    refine HWl4.out.mono ?_
    rintro e w5 ⟨rfl, hb5⟩
    have HB5 := Lib.hid (below_then HB4.out hb5)
    clear hb5
    go_wp2
    go_ret
    exact ⟨rfl, HB5.out⟩
  have hRu := Eg.rules_ok2 hwell (HSz.out HF.out).lims.rules
  have hsb := (Vd.well_parts hwell).1
  have hz0 : 0 ≤ z := by
    unfold Eg.zoneAt at hx
    split at hx
    · assumption
    · cases hx
  obtain ⟨k, rfl⟩ : ∃ k : Nat, z = (k : Int) := ⟨z.toNat, by omega⟩
  have hxk : s.zones[k]? = some x := by
    unfold Eg.zoneAt at hx
    rw [if_pos hz0] at hx
    exact hx
  have hk : k < n2 := by
    rw [← HN2.out]
    exact (List.getElem?_eq_some_iff.1 hxk).1
  have hzo := Eg.zone_ok hwell (List.mem_of_getElem? hxk)
  have hccx := HCc.out x (List.mem_of_getElem? hxk)
  obtain ⟨adz, x1, rfl, hab, Hx1, HL⟩ := Ix.reads_cells (enc := Src.zc) (m := 2) (fun _ => rfl) HLen.out HRz.out hk
  obtain ⟨hzk, hzm⟩ := HZn.out k x1 Hx1.out
  obtain rfl : x1.1 = x := by rw [hzk] at hxk; exact Option.some.inj hxk
  obtain ⟨eA, ec, he2, hmec, hec, hre⟩ := HErs.out x1 hzm
  obtain ⟨zb, hzb⟩ : ∃ t, Src.bts x1.1.1 = t := ⟨_, rfl⟩
  obtain ⟨es, hes⟩ : ∃ l, x1.1.2 = l := ⟨_, rfl⟩
  rw [hes] at he2 hre hzo hmec hccx hown
  obtain ⟨m0, hm0⟩ : ∃ m0, es.length = m0 + 1 := ⟨es.length - 1, by have := hzo.len.1; omega⟩
  have hm63 : m0 ≤ 63 := by have := hzo.len.2; omega
  rw [hm0] at he2 hre hmec
  unfold maxLen at hec
  obtain ⟨L, hL⟩ : ∃ L, Eg.ends s.rules es = L := ⟨_, rfl⟩
  have hLl : L.length = m0 := by rw [← hL, Eg.ends_len, hm0]; rfl
  have hbd := Eg.end_bd hRu hzo hccx
  have hendj : ∀ j e, j < m0 → es[j]? = some e → L[j]? = some (Eg.endOf s.rules e) := fun j e hj he => by
    rw [← hL]
    unfold Eg.ends
    rw [List.getElem?_map, List.getElem?_dropLast, if_pos (by omega), he]
    rfl
  rw [hL] at hown hbd
  rw [hLl] at hown
  obtain ⟨vA, vc, rfl, hv1, hv2⟩ := own_slice_cap hown
  have hRv := Reads.of_own hown
  unfold maxLen at hv2
  have c0' : Hid (∀ W, Below w.heap.size w W → W.cell? (adz.add (k * 2)) = some (.string zb) ∧ W.cell? ⟨(adz.add (k * 2)).block, (adz.add (k * 2)).off + 1, none⟩ = some (.slice eA (m0 + 1) ec)) := fun W hb => by
    have hg := hb.block (adz.add (k * 2)).block (by rw [block_of_add]; exact hab)
    exact ⟨(World.cell?_of_block hg).trans (by rw [← hzb]; exact HL.out 0 _ rfl), (World.cell?_of_block (by exact hg)).trans (by rw [← he2]; exact HL.out 1 _ rfl)⟩
  have HHo : Hid (∀ W t, Below w4.heap.size w4 W → Calls Tryz.prog 17 #[.slice vA m0 vc, .int .i64 t] W fun r w' => r = .returned (.int .i64 (Ln.hold L t : Int)) ∧ Below W.heap.size W w') := fun W t hb => holds_any L t vA m0 vc W hLl (by omega) ((hRv.below hb).more hb.size)
  have q1 : (0 : Int) ≤ (k : Int) := by omega
  have q2 : ¬ (k : Int) < 0 := by omega
  have q3 : (k : Int) < (n2 : Int) := by omega
  have q4 : ¬ (n2 : Int) ≤ (k : Int) := by omega
  have q5 : decide (n2 ≤ k) = false := by rw [decide_eq_false_iff_not]; omega
  have hCk := HCk.out HF.out w4 HB4.out
  rw [if_pos hsb] at hCk
  have HCk4 := Lib.hid hCk
  obtain ⟨u0, u1⟩ := c0'.out w4 HB4.out
  have HRv := Lib.hid hRv
  have HZo := Lib.hid hzo
  have HRu := Lib.hid hRu
  have HRe := Lib.hid hre
  have HM0 := Lib.hid hm0
  have HLl := Lib.hid hLl
  have HBd := Lib.hid hbd
  have HEj := Lib.hid hendj
  have HCx := Lib.hid hccx
  have HSv2 := Lib.hid (HSv.out hRu)
  clear hRu hsb hz0 hx hxk hzo hccx Hx1 HL hzk hzm he2 hre hzb hes hm0 hL hLl hbd hendj hown hRv hCk hwell HSv HCk HWl hz
  go_wp2_with fail
  refine HCk4.out.mono ?_
  rintro e w5 ⟨rfl, hb5⟩
  have HA5 := Lib.hid (HA4.out.call hb5)
  have HB5 := Lib.hid hb5
  clear hb5 b0 b1 b2 u0 u1 HCk4
  go_wp2_with fail
  clear q4
  go_loopw [7, 67] (fun v i wr => Ew.At L m0 w5 v i wr) (fun _ i _ => m0 - (intOf i).toNat)
  case atStart => exact ⟨0, _, Nat.zero_le _, rfl, rfl, by omega, by omega, fun i t hi => by omega, Below.refl _ _⟩
  case round =>
    obtain ⟨j, M, hj, rfl, rfl, hM1, hM2, HP, HB⟩ := hrel
    have hb4r : Below w4.heap.size w4 wr := HB5.out.trans (HB.out.mono HB5.out.size)
    have hbr : Below w.heap.size w wr := HB4.out.trans (hb4r.mono HB4.out.size)
    have HAr := Lib.hid (HA5.out.call HB.out)
    by_cases hlt : j < m0
    · have p1 : (0 : Int) ≤ (j : Int) := by omega
      have p2 : (j : Int) < (m0 : Int) := by omega
      have p3 : (j : Int) < ((m0 : Int) + 1) := by omega
      obtain ⟨ad, u, rfl, hav, hu, hcu⟩ := (HRv.out.below hb4r).at_ hlt
      obtain ⟨ad2, xe, rfl, habe, Hxe, HLe⟩ := Ix.reads_cells (enc := Er.E.cells) (m := 13) (fun _ => rfl) HM0.out (HRe.out.below hbr) (show j < m0 + 1 by omega)
      have hmem : xe ∈ es := List.mem_of_getElem? Hxe.out
      have hen : xe.en = true := by rw [HZo.out.en j xe Hxe.out, HM0.out]; exact decide_eq_true (by omega)
      have hno := HZo.out.nom xe hmem hen
      have heo := Eg.end_ok HRu.out HZo.out hmem hen
      have hLj := HEj.out j xe hlt Hxe.out
      have hcc0 := HCx.out xe hmem
      obtain ⟨std, ek, esv, ru, fm, en, ⟨y, m, dk, dn, dd, sc, cc⟩⟩ := xe
      obtain rfl : en = true := hen
      obtain ⟨na, hn⟩ : ∃ a, Mo.nom dk dn dd y m sc cc = (a, 0) := ⟨_, Prod.ext rfl hno⟩
      have hn2 : Eg.nomU ⟨y, m, dk, dn, dd, sc, cc⟩ = (na, 0) := hn
      unfold Eg.endOf at hLj
      simp only [hn2] at heo hLj hcc0
      obtain ⟨sv, hsv⟩ : ∃ v, Eg.saved s.rules ⟨std, ek, esv, ru, fm, true, ⟨y, m, dk, dn, dd, sc, cc⟩⟩ na = v := ⟨_, rfl⟩
      rw [hsv] at heo hLj
      obtain ⟨hcs, ⟨na1, na2⟩, ⟨st1, st2⟩, ⟨sv1, sv2⟩, hval⟩ := Eg.end_is hcc0 heo.1
      obtain ⟨t, ht⟩ : ∃ t, (Mo.ins na cc std sv).1 = t := ⟨_, rfl⟩
      rw [ht] at hLj hval
      have hut : u = .int .i64 t := by
        unfold Eg.i64s at hu
        rw [List.getElem?_map, hLj] at hu
        exact (Option.some.inj hu).symm
      subst hut
      obtain ⟨tb1, tb2⟩ := HBd.out t (List.mem_of_getElem? hLj)
      have hne := Eg.hold_ne L t j hLj
      have hle1 : M < t → Ln.hold L (t - 1) = j := fun hMt => Ln.hold_is L (t - 1) j (by rw [HLl.out]; omega) (fun i x hi hx => by have := HP.out i x hi hx; omega) (fun x hx => by
        rw [hLj] at hx
        cases hx
        omega)
      have HNew : Hid (∀ M', M ≤ M' → t ≤ M' → ∀ i x, i < j + 1 → L[i]? = some x → x ≤ M') := fun M' h1 h2 i x hi hx => by
        rcases Nat.lt_or_ge i j with q | q
        · have := HP.out i x q hx; omega
        · obtain rfl : i = j := by omega
          rw [hLj] at hx
          cases hx
          exact h2
      have HLe1 := Lib.hid hle1
      have HNe := Lib.hid hne
      have HVal := Lib.hid hval
      have y0 : wr.cell? (ad2.add (j * 13)) = some (.int .i64 std) := HLe.out 0 _ rfl
      have y1 : wr.cell? ⟨(ad2.add (j * 13)).block, (ad2.add (j * 13)).off + 1, none⟩ = some (.int .u8 ek) := HLe.out 1 _ rfl
      have y2 : wr.cell? ⟨(ad2.add (j * 13)).block, (ad2.add (j * 13)).off + 2, none⟩ = some (.int .i64 esv) := HLe.out 2 _ rfl
      have y3 : wr.cell? ⟨(ad2.add (j * 13)).block, (ad2.add (j * 13)).off + 3, none⟩ = some (.string ru) := HLe.out 3 _ rfl
      have y4 : wr.cell? ⟨(ad2.add (j * 13)).block, (ad2.add (j * 13)).off + 4, none⟩ = some (.string fm) := HLe.out 4 _ rfl
      have y5 : wr.cell? ⟨(ad2.add (j * 13)).block, (ad2.add (j * 13)).off + 5, none⟩ = some (.bool true) := HLe.out 5 _ rfl
      have y6 : wr.cell? ⟨(ad2.add (j * 13)).block, (ad2.add (j * 13)).off + 6, none⟩ = some (.int .i64 y) := HLe.out 6 _ rfl
      have y7 : wr.cell? ⟨(ad2.add (j * 13)).block, (ad2.add (j * 13)).off + 7, none⟩ = some (.int .i64 m) := HLe.out 7 _ rfl
      have y8 : wr.cell? ⟨(ad2.add (j * 13)).block, (ad2.add (j * 13)).off + 8, none⟩ = some (.int .u8 dk) := HLe.out 8 _ rfl
      have y9 : wr.cell? ⟨(ad2.add (j * 13)).block, (ad2.add (j * 13)).off + 9, none⟩ = some (.int .i64 dn) := HLe.out 9 _ rfl
      have y10 : wr.cell? ⟨(ad2.add (j * 13)).block, (ad2.add (j * 13)).off + 10, none⟩ = some (.int .i64 dd) := HLe.out 10 _ rfl
      have y11 : wr.cell? ⟨(ad2.add (j * 13)).block, (ad2.add (j * 13)).off + 11, none⟩ = some (.int .i64 sc) := HLe.out 11 _ rfl
      have y12 : wr.cell? ⟨(ad2.add (j * 13)).block, (ad2.add (j * 13)).off + 12, none⟩ = some (.int .u8 cc) := HLe.out 12 _ rfl
      obtain ⟨u0, u1⟩ := c0'.out wr hbr
      obtain ⟨b0, b1, b2, _⟩ := HAr.out.three
      have hb10 := (Below.refl wr.heap.size wr).alloc (Nat.le_refl _) (.cells #[.int .i64 std, .int .u8 ek, .int .i64 esv, .string ru, .string fm, .bool true, .int .i64 y, .int .i64 m, .int .u8 dk, .int .i64 dn, .int .i64 dd, .int .i64 sc, .int .u8 cc] 48)
      have HNm := Lib.hid (nominal_any y m dk dn dd sc cc _ (HWo.out.below (hbr.trans (hb10.mono hbr.size))))
      rw [hn] at HNm
      have HA9 := Lib.hid (At.new wr #[.int .i64 std, .int .u8 ek, .int .i64 esv, .string ru, .string fm, .bool true, .int .i64 y, .int .i64 m, .int .u8 dk, .int .i64 dn, .int .i64 dd, .int .i64 sc, .int .u8 cc] 48)
      have HAs := Lib.hid (HAr.out.call hb10)
      have HB10 := Lib.hid hb10
      have HSvq := Lib.hid hsv
      have HBr := Lib.hid hbr
      have HB4r := Lib.hid hb4r
      clear hb10 hno hmem heo hn hn2 hsv hLj ht hu hne hle1 hval hbr hb4r HP Hxe HLe
      go_wp2_with fail
      refine HNm.out.mono ?_
      rintro e w6 ⟨rfl, hb6⟩
      replace HA9 := Lib.hid (HA9.out.call hb6)
      replace HAs := Lib.hid (HAs.out.call hb6)
      have HB6 := Lib.hid (below_then HB10.out hb6)
      clear hb6 HB10 b0 b1 b2 u0 u1 hcu y0 y1 y2 y3 y4 y5 y6 y7 y8 y9 y10 y11 y12
      obtain ⟨h, hh⟩ : ∃ h, Ln.hold L t = h := ⟨_, rfl⟩
      have hne9 := HNe.out
      rw [hh] at hne9
      have e9 : ((h : Int) == (j : Int)) = false := by rw [beq_eq_false_iff_ne]; omega
      have e8 : ((h : Int) != (j : Int)) = true := by rw [bne_iff_ne]; omega
      clear hne9
      have d0 := HA9.out.cell 0 _ rfl
      have d1 := HA9.out.cell 1 _ rfl
      have d2 := HA9.out.cell 2 _ rfl
      have d3 := HA9.out.cell 3 _ rfl
      have d4 := HA9.out.cell 4 _ rfl
      have d5 := HA9.out.cell 5 _ rfl
      have d6 := HA9.out.cell 6 _ rfl
      have d7 := HA9.out.cell 7 _ rfl
      have d8 := HA9.out.cell 8 _ rfl
      have d9 := HA9.out.cell 9 _ rfl
      have d10 := HA9.out.cell 10 _ rfl
      have d11 := HA9.out.cell 11 _ rfl
      have d12 := HA9.out.cell 12 _ rfl
      have s0 := HAs.out.cell 0 _ rfl
      have s1 := HAs.out.cell 1 _ rfl
      have s2 := HAs.out.cell 2 _ rfl
      rcases hcs with rfl | rfl | rfl
      · have hv2 : t = na - sv - std := HVal.out.trans (if_pos rfl)
        have hq : (t == na - std - sv) = true := by rw [beq_iff_eq]; omega
        have hq2 : (t != na - std - sv) = false := by rw [bne_eq_false_iff_eq]; omega
        have hS := HSv2.out w6 ⟨std, ek, esv, ru, fm, true, ⟨y, m, dk, dn, dd, sc, 0⟩⟩ na (HBr.out.trans (HB6.out.mono HBr.out.size)) (by omega)
        rw [HSvq.out] at hS
        have HS : Hid (Calls Tryz.prog 16 #[.agg #[.slice rA n1 rc, .slice (some adz) n2 zc, .slice lA n3 lc], .agg #[.int .i64 std, .int .u8 ek, .int .i64 esv, .string ru, .string fm, .bool true, .int .i64 y, .int .i64 m, .int .u8 dk, .int .i64 dn, .int .i64 dd, .int .i64 sc, .int .u8 0], .int .i64 na] w6 fun r w' => r = .returned (.int .i64 sv) ∧ Below w6.heap.size w6 w') := hS
        clear hS hv2
        go_wp2_with fail
        refine HS.out.mono ?_
        rintro e w7 ⟨rfl, hb7⟩
        have HB7 := Lib.hid (below_then HB6.out hb7)
        clear hb7 d0 d1 d2 d3 d4 d5 d6 d7 d8 d9 d10 d11 d12 s0 s1 s2
        by_cases hMt : M < t
        · have hMt2 : M ≤ t := by omega
          have hC1 := HHo.out w7 (t - 1) (HB4r.out.trans (HB7.out.mono HB4r.out.size))
          rw [HLe1.out hMt] at hC1
          have HC1 := Lib.hid hC1
          clear hC1
          go_wp2_with fail
          refine HC1.out.mono ?_
          rintro e w8 ⟨rfl, hb8⟩
          have HB8 := Lib.hid (below_then HB7.out hb8)
          have hC2 := HHo.out w8 t (HB4r.out.trans (HB8.out.mono HB4r.out.size))
          rw [hh] at hC2
          have HC2 := Lib.hid hC2
          clear hC2 hb8
          go_wp2_with fail
          refine HC2.out.mono ?_
          rintro e w9 ⟨rfl, hb9⟩
          have HB9 : Hid (Below w5.heap.size w5 w9) := HB.out.trans ((below_then HB8.out hb9).mono HB.out.size)
          clear hb9
          have hmx : max M t = t := by omega
          go_wp2
          go_roundw
          case rel =>
            exact ⟨j + 1, t, by omega, by go_num, rfl, by omega, by omega, HNew.out t hMt2 (Int.le_refl t), HB9.out⟩
          case measure => simp [intOf]; omega
        · have hMt2 : t ≤ M := by omega
          have hC2 := HHo.out w7 t (HB4r.out.trans (HB7.out.mono HB4r.out.size))
          rw [hh] at hC2
          have HC2 := Lib.hid hC2
          clear hC2
          go_wp2_with fail
          refine HC2.out.mono ?_
          rintro e w9 ⟨rfl, hb9⟩
          have HB9 : Hid (Below w5.heap.size w5 w9) := HB.out.trans ((below_then HB7.out hb9).mono HB.out.size)
          clear hb9
          have hmx : max M t = M := by omega
          go_wp2
          go_roundw
          case rel =>
            exact ⟨j + 1, M, by omega, by go_num, rfl, by omega, by omega, HNew.out M (Int.le_refl M) hMt2, HB9.out⟩
          case measure => simp [intOf]; omega
      · have hv2 : t = na - std := HVal.out.trans ((if_neg (by omega)).trans (if_pos rfl))
        have hq : (t == na - std) = true := by rw [beq_iff_eq]; omega
        have hq2 : (t != na - std) = false := by rw [bne_eq_false_iff_eq]; omega
        clear hv2
        by_cases hMt : M < t
        · have hMt2 : M ≤ t := by omega
          have hC1 := HHo.out w6 (t - 1) (HB4r.out.trans (HB6.out.mono HB4r.out.size))
          rw [HLe1.out hMt] at hC1
          have HC1 := Lib.hid hC1
          clear hC1
          go_wp2_with fail
          refine HC1.out.mono ?_
          rintro e w8 ⟨rfl, hb8⟩
          have HB8 := Lib.hid (below_then HB6.out hb8)
          have hC2 := HHo.out w8 t (HB4r.out.trans (HB8.out.mono HB4r.out.size))
          rw [hh] at hC2
          have HC2 := Lib.hid hC2
          clear hC2 hb8
          go_wp2_with fail
          refine HC2.out.mono ?_
          rintro e w9 ⟨rfl, hb9⟩
          have HB9 : Hid (Below w5.heap.size w5 w9) := HB.out.trans ((below_then HB8.out hb9).mono HB.out.size)
          clear hb9
          have hmx : max M t = t := by omega
          go_wp2
          go_roundw
          case rel =>
            exact ⟨j + 1, t, by omega, by go_num, rfl, by omega, by omega, HNew.out t hMt2 (Int.le_refl t), HB9.out⟩
          case measure => simp [intOf]; omega
        · have hMt2 : t ≤ M := by omega
          have hC2 := HHo.out w6 t (HB4r.out.trans (HB6.out.mono HB4r.out.size))
          rw [hh] at hC2
          have HC2 := Lib.hid hC2
          clear hC2
          go_wp2_with fail
          refine HC2.out.mono ?_
          rintro e w9 ⟨rfl, hb9⟩
          have HB9 : Hid (Below w5.heap.size w5 w9) := HB.out.trans ((below_then HB6.out hb9).mono HB.out.size)
          clear hb9
          have hmx : max M t = M := by omega
          go_wp2
          go_roundw
          case rel =>
            exact ⟨j + 1, M, by omega, by go_num, rfl, by omega, by omega, HNew.out M (Int.le_refl M) hMt2, HB9.out⟩
          case measure => simp [intOf]; omega
      · have hv2 : t = na := HVal.out.trans ((if_neg (by omega)).trans (if_neg (by omega)))
        have hq : (t == na) = true := by rw [beq_iff_eq]; omega
        have hq2 : (t != na) = false := by rw [bne_eq_false_iff_eq]; omega
        clear hv2
        by_cases hMt : M < t
        · have hMt2 : M ≤ t := by omega
          have hC1 := HHo.out w6 (t - 1) (HB4r.out.trans (HB6.out.mono HB4r.out.size))
          rw [HLe1.out hMt] at hC1
          have HC1 := Lib.hid hC1
          clear hC1
          go_wp2_with fail
          refine HC1.out.mono ?_
          rintro e w8 ⟨rfl, hb8⟩
          have HB8 := Lib.hid (below_then HB6.out hb8)
          have hC2 := HHo.out w8 t (HB4r.out.trans (HB8.out.mono HB4r.out.size))
          rw [hh] at hC2
          have HC2 := Lib.hid hC2
          clear hC2 hb8
          go_wp2_with fail
          refine HC2.out.mono ?_
          rintro e w9 ⟨rfl, hb9⟩
          have HB9 : Hid (Below w5.heap.size w5 w9) := HB.out.trans ((below_then HB8.out hb9).mono HB.out.size)
          clear hb9
          have hmx : max M t = t := by omega
          go_wp2
          go_roundw
          case rel =>
            exact ⟨j + 1, t, by omega, by go_num, rfl, by omega, by omega, HNew.out t hMt2 (Int.le_refl t), HB9.out⟩
          case measure => simp [intOf]; omega
        · have hMt2 : t ≤ M := by omega
          have hC2 := HHo.out w6 t (HB4r.out.trans (HB6.out.mono HB4r.out.size))
          rw [hh] at hC2
          have HC2 := Lib.hid hC2
          clear hC2
          go_wp2_with fail
          refine HC2.out.mono ?_
          rintro e w9 ⟨rfl, hb9⟩
          have HB9 : Hid (Below w5.heap.size w5 w9) := HB.out.trans ((below_then HB6.out hb9).mono HB.out.size)
          clear hb9
          have hmx : max M t = M := by omega
          go_wp2
          go_roundw
          case rel =>
            exact ⟨j + 1, M, by omega, by go_num, rfl, by omega, by omega, HNew.out M (Int.le_refl M) hMt2, HB9.out⟩
          case measure => simp [intOf]; omega
    · obtain rfl : j = m0 := by omega
      have p2 : ¬ (j : Int) < (j : Int) := by omega
      have hC := HHo.out wr 4611686018427387904 hb4r
      rw [Ln.hold_is L 4611686018427387904 j (by rw [HLl.out]; exact Nat.le_refl _) (fun i x hi hx => by have := HBd.out x (List.mem_of_getElem? hx); omega) (fun x hx => by rw [List.getElem?_eq_none (by rw [HLl.out]; exact Nat.le_refl _)] at hx; cases hx)] at hC
      have HC := Lib.hid hC
      have HBr := Lib.hid hbr
      clear hC hbr hb4r
      go_wp2_with fail
      refine HC.out.mono ?_
      rintro e w9 ⟨rfl, hb9⟩
      have HB9 := Lib.hid (below_then HBr.out hb9)
      clear hb9
      go_wp2
      go_ret
      exact ⟨rfl, HB9.out⟩
end Go.Proofs.YtdanbnolbaelhaaGreatDoor

/- Small functions of package line: where years begin, the year of an instant, a piece; how many pieces there are. -/
namespace Go.Proofs.YtdanbnolbaelhaaGreatDoor
open Go.RowKit

namespace Ln
end Ln
end Go.Proofs.YtdanbnolbaelhaaGreatDoor

/- drawing.while: how long an era holds, as far as it is drawn. -/
namespace Go.Proofs.YtdanbnolbaelhaaGreatDoor
open Go.RowKit

namespace Ln
def i64s (l : List Int) : List Value := l.map fun t => .int .i64 t
end Ln
end Go.Proofs.YtdanbnolbaelhaaGreatDoor

/- solsticeref18.Same: whether two lists of spans are one. -/
namespace Go.Proofs.YtdanbnolbaelhaaGreatDoor
open Go.RowKit

namespace Ln
theorem take_more {α : Type} {l m : List α} {k : Nat} {a : α} (h : l.take k = m.take k) (h1 : l[k]? = some a) (h2 : m[k]? = some a) : l.take (k + 1) = m.take (k + 1) := by
  rw [List.take_add_one, List.take_add_one, h, h1, h2]
end Ln
end Go.Proofs.YtdanbnolbaelhaaGreatDoor

/- solsticeref16.Same: whether two lists of numbers are one. -/
namespace Go.Proofs.YtdanbnolbaelhaaGreatDoor
open Go.RowKit

set_option maxHeartbeats 2000000 in
set_option maxRecDepth 100000 in
theorem same16_any (A A' : Option Addr) (n n' c c' : Nat) (l l' : List Int) (w : World) (hn : n ≤ maxLen) (hn' : n' ≤ maxLen) (h1 : l.length = n) (h2 : l'.length = n') (hr : Reads w w.heap.size 1 A n (Ln.i64s l)) (hr' : Reads w w.heap.size 1 A' n' (Ln.i64s l')) :
    Calls Tryz.prog 40 #[.slice A n c, .slice A' n' c'] w fun e w' => e = .returned (.bool (decide (l = l'))) ∧ Drew w w' := by
  unfold maxLen at hn hn'
  by_cases he : n = n'
  · subst he
    have q0 : ((n : Int) != (n : Int)) = false := by simp
    have H1 := Lib.hid h1
    have H2 := Lib.hid h2
    have HR := Lib.hid hr
    have HR' := Lib.hid hr'
    clear h1 h2 hr hr'
    go_enter Tryz.func40, Tryz.ntmps40
    go_wp2
    go_loopw [13] (fun i wr => ∃ k : Nat, k ≤ n ∧ i = .int .i64 k ∧ Hid (Drew w wr) ∧ Hid (l.take k = l'.take k)) (fun i _ => n - (intOf i).toNat)
    case atStart => exact ⟨0, Nat.zero_le _, rfl, Drew.refl w, rfl⟩
    case round =>
      obtain ⟨k, hk, rfl, HD, HE⟩ := hrel
      by_cases hlt : k < n
      · obtain ⟨x, hx⟩ : ∃ m, l[k]? = some m := ⟨_, List.getElem?_eq_getElem (by rw [H1.out]; exact hlt)⟩
        obtain ⟨y, hy⟩ : ∃ m, l'[k]? = some m := ⟨_, List.getElem?_eq_getElem (by rw [H2.out]; exact hlt)⟩
        obtain ⟨ad, u, rfl, _, hu, c0⟩ := (HR.out.of_drew HD.out).at_ hlt
        obtain ⟨ad', u', rfl, _, hu', d0⟩ := (HR'.out.of_drew HD.out).at_ hlt
        obtain rfl : u = .int .i64 x := by
          unfold Ln.i64s at hu
          rw [List.getElem?_map, hx] at hu
          exact (Option.some.inj hu).symm
        obtain rfl : u' = .int .i64 y := by
          unfold Ln.i64s at hu'
          rw [List.getElem?_map, hy] at hu'
          exact (Option.some.inj hu').symm
        clear hu hu'
        have q1 : (0 : Int) ≤ (k : Int) := by omega
        have q2 : (k : Int) < (n : Int) := by omega
        by_cases hxy : x = y
        · subst hxy
          have HN := Lib.hid (Ln.take_more HE.out hx hy)
          have hq : (x != x) = false := by simp
          clear hx hy
          go_wp2
          go_quiet (fail)
          go_wp2
          go_roundw
          case rel => exact ⟨k + 1, by omega, by go_num, by first | exact HD.out | exact HD.out.drewN _, HN⟩
          case measure => simp [intOf]; omega
        · have hq : (x != y) = true := by simpa using hxy
          have HN : Hid (decide (l = l') = false) := by
            show decide (l = l') = false
            apply decide_eq_false
            intro e
            apply hxy
            rw [e, hy] at hx
            exact (Option.some.inj hx).symm
          clear hx hy hxy
          go_wp2
          go_quiet (fail)
          go_wp2
          go_ret
          exact ⟨by rw [HN.out]; rfl, by first | exact HD.out | exact HD.out.drewN _⟩
      · have q2 : ¬ (k : Int) < (n : Int) := by omega
        have hkn : k = n := by omega
        have HN : Hid (decide (l = l') = true) := by
          show decide (l = l') = true
          apply decide_eq_true
          have := HE.out
          rwa [List.take_of_length_le (by rw [H1.out]; omega), List.take_of_length_le (by rw [H2.out]; omega)] at this
        go_wp2
        go_ret
        exact ⟨by rw [HN.out]; rfl, HD.out⟩
  · have q0 : ((n : Int) != (n' : Int)) = true := by simp; omega
    have q0' : ¬ (n : Int) = (n' : Int) := by omega
    have HN : Hid (decide (l = l') = false) := by
      show decide (l = l') = false
      apply decide_eq_false
      intro e
      apply he
      rw [← h1, ← h2, e]
    clear h1 h2 hr hr' he
    go_enter Tryz.func40, Tryz.ntmps40
    go_wp2
    go_ret
    exact ⟨by rw [HN.out]; rfl, Drew.refl w⟩
end Go.Proofs.YtdanbnolbaelhaaGreatDoor
