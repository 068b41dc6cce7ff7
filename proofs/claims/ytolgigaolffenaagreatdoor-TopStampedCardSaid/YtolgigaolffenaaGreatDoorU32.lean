/- The statement's Near; lists of times compared. -/
import Derived.Test.YtolgigaolffenaaGreatDoorU31
import Derived.Test.YtolgigaolffenaaGreatDoorU27
import Derived.Test.YtolgigaolffenaaGreatDoorU29
import Derived.Test.YtolgigaolffenaaGreatDoorU24
import Derived.Test.YtolgigaolffenaaGreatDoorU06
import Derived.Test.YtolgigaolffenaaGreatDoorU08
import Derived.Test.YtolgigaolffenaaGreatDoorU01
import Derived.Deep.QuietTactic
import Derived.BigQuiet

namespace Go.Proofs.YtolgigaolffenaaGreatDoor
open Go.RowKit

namespace Eg
def Near (s : Src.S) (w : World) (e : Ending) (w' : World) : Prop := (e = .returned (.int .i64 0) ∨ (e = .returned (.int .i64 1) ∧ Src.Few s)) ∧ Below w.heap.size w w'
end Eg
set_option maxHeartbeats 4000000 in
set_option maxRecDepth 100000 in
theorem near16_some (s : Src.S) (rv zv lv : Value) (evs : List Value) (hi : Int) (w : World) (hR : Src.SrcR w w.heap.size s rv zv lv evs) (hw : Src.Wide s) (hhi : 0 ≤ hi ∧ hi ≤ 10000) :
    Calls Tryz.prog 11 #[.agg #[rv, zv, lv], .int .i64 hi] w (Eg.Near s w) := by
  have hlen : (s.zones.zip evs).length = s.zones.length := by rw [List.length_zip, hR.len]; omega
  have hers := hR.eras
  have hrs : ∀ r ∈ s.rules, r.nm.size ≤ maxLen ∧ r.lt.size ≤ maxLen := fun r hr => (hw.rules r hr).2
  obtain ⟨rA, rc, rfl, hr1, hr2, hrr⟩ := hR.rules
  obtain ⟨zA, zc, rfl, hz1, hzc, hrz⟩ := hR.zones
  obtain ⟨lA, lc, rfl, _⟩ := hR.links
  obtain ⟨W1, hW1⟩ : ∃ W, w.alloc (.cells #[.slice rA s.rules.length rc, .slice zA s.zones.length zc, .slice lA s.links.length lc] 26) = W := ⟨_, rfl⟩
  have hb1 : Below w.heap.size w W1 := by rw [← hW1]; exact (Below.refl _ _).alloc (Nat.le_refl _) _
  have hA1 : At W1 w.heap.size [.slice rA s.rules.length rc, .slice zA s.zones.length zc, .slice lA s.links.length lc] := by rw [← hW1]; exact At.new _ _ _
  have HCf := Lib.hid (few_any s _ _ _ evs W1 (hR.call hb1) hw)
  have HCn : Hid (∀ W, Below w.heap.size w W → Calls Tryz.prog 42 #[.slice rA s.rules.length rc, .int .i64 hi] W (Eg.SomeZ W)) := fun W hb => near15_some s.rules rA rc hi W ((hrr.below hb).more hb.size) hrs hhi
  obtain ⟨n1, hn1⟩ : ∃ n, s.rules.length = n := ⟨_, rfl⟩
  obtain ⟨n2, hn2⟩ : ∃ n, s.zones.length = n := ⟨_, rfl⟩
  obtain ⟨n3, hn3⟩ : ∃ n, s.links.length = n := ⟨_, rfl⟩
  rw [hn1, hn2, hn3] at HCf hA1 hW1 ⊢
  rw [hn1] at HCn hr1
  rw [hn2] at hrz hlen hz1
  unfold maxLen at hzc hr2
  have HB1 := Lib.hid hb1
  have HW1 := Lib.hid hW1
  have HA1 := Lib.hid hA1
  have HRz := Lib.hid hrz
  have HLen := Lib.hid hlen
  have HErs := Lib.hid hers
  obtain ⟨b0, b1, b2, _⟩ := hA1.three
  clear hR hw hb1 hW1 hA1 hrz hlen hers hrs hrr hn1 hn2 hn3
  go_enter Tryz.func11, Tryz.ntmps11
  go_wp2_with fail
  rw [HW1.out]
  refine HCf.out.mono ?_
  rintro e w2 ⟨he, hb2⟩
  have HA2 := Lib.hid (HA1.out.call hb2)
  have HB2 := Lib.hid (below_then HB1.out hb2)
  clear hb2 b0 b1 b2
  obtain ⟨b0, b1, b2, _⟩ := HA2.out.three
  rcases he with rfl | ⟨rfl, hfew⟩
  · go_wp2
    go_ret
    exact ⟨.inl rfl, HB2.out⟩
  have HF := Lib.hid hfew
  clear hfew
  by_cases h12 : (12 : Int) < (n1 : Int)
  · go_wp2
    go_ret
    exact ⟨.inl rfl, HB2.out⟩
  have HCn2 := Lib.hid (HCn.out w2 HB2.out)
  clear HCn
  go_wp2_with fail
  refine HCn2.out.mono ?_
  rintro e w3 ⟨he, hb3⟩
  have HA3 := Lib.hid (HA2.out.call hb3)
  have HB3 := Lib.hid (below_then HB2.out hb3)
  clear hb3 b0 b1 b2
  obtain ⟨b0, b1, b2, _⟩ := HA3.out.three
  rcases he with rfl | rfl
  · go_wp2
    go_ret
    exact ⟨.inl rfl, HB3.out⟩
  go_wp2
  clear b0 b1 b2
  go_loopw [28] (fun i wr => ∃ k : Nat, k ≤ n2 ∧ i = .int .i64 (k : Int) ∧ Hid (Below w.heap.size w wr)) (fun i _ => n2 - (intOf i).toNat)
  case atStart => exact ⟨0, Nat.zero_le _, rfl, HB3.out⟩
  case round =>
    obtain ⟨k, hk, rfl, HB⟩ := hrel
    by_cases hlt : k < n2
    · have q1 : (0 : Int) ≤ (k : Int) := by omega
      have q3 : (k : Int) < (n2 : Int) := by omega
      obtain ⟨adz, x, rfl, hab, Hx, HL⟩ := Ix.reads_cells (enc := Src.zc) (m := 2) (fun _ => rfl) HLen.out (HRz.out.below HB.out) hlt
      obtain ⟨eA, ec, he2, hme1, hec, hre⟩ := HErs.out x (List.mem_of_getElem? Hx.out)
      obtain ⟨zb, hzb⟩ : ∃ t, Src.bts x.1.1 = t := ⟨_, rfl⟩
      obtain ⟨es, hes⟩ : ∃ l, x.1.2 = l := ⟨_, rfl⟩
      obtain ⟨me, hme⟩ : ∃ l, es.length = l := ⟨_, rfl⟩
      rw [hes, hme] at he2 hre hme1
      have c0 : wr.cell? (adz.add (k * 2)) = some (.string zb) := by rw [← hzb]; exact HL.out 0 _ rfl
      have c1 : wr.cell? ⟨(adz.add (k * 2)).block, (adz.add (k * 2)).off + 1, none⟩ = some (.slice eA me ec) := by rw [← he2]; exact HL.out 1 _ rfl
      have HBa := Lib.hid (HB.out.alloc HB.out.size (.cells #[.string zb, .slice eA me ec] 56))
      have HMe := Lib.hid hme
      have HRe := Lib.hid hre
      unfold maxLen at hec
      clear HL he2 hre hzb hes hme HB
      go_wp2
      clear c0 c1
      go_loopw [35] (fun i wr => ∃ j : Nat, j ≤ me ∧ i = .int .i64 (j : Int) ∧ Hid (Below w.heap.size w wr)) (fun i _ => me - (intOf i).toNat)
      case atStart => exact ⟨0, Nat.zero_le _, rfl, HBa.out⟩
      case round =>
        clear HBa
        obtain ⟨j, hj, rfl, HB⟩ := hrel
        by_cases hlt3 : j < me
        · have q4 : (0 : Int) ≤ (j : Int) := by omega
          have q5 : (j : Int) < (me : Int) := by omega
          obtain ⟨ad, x9, rfl, habe, Hx9, HLe⟩ := Ix.reads_cells (enc := Er.E.cells) (m := 13) (fun _ => rfl) HMe.out (HRe.out.below HB.out) hlt3
          obtain ⟨std, ek, esv, ru, fm, en, ⟨y, m, dk, dn, dd, us, cc⟩⟩ := x9
          have y0 : wr.cell? (ad.add (j * 13)) = some (.int .i64 std) := HLe.out 0 _ rfl
          have y1 : wr.cell? ⟨(ad.add (j * 13)).block, (ad.add (j * 13)).off + 1, none⟩ = some (.int .u8 ek) := HLe.out 1 _ rfl
          have y2 : wr.cell? ⟨(ad.add (j * 13)).block, (ad.add (j * 13)).off + 2, none⟩ = some (.int .i64 esv) := HLe.out 2 _ rfl
          have y3 : wr.cell? ⟨(ad.add (j * 13)).block, (ad.add (j * 13)).off + 3, none⟩ = some (.string ru) := HLe.out 3 _ rfl
          have y4 : wr.cell? ⟨(ad.add (j * 13)).block, (ad.add (j * 13)).off + 4, none⟩ = some (.string fm) := HLe.out 4 _ rfl
          have y5 : wr.cell? ⟨(ad.add (j * 13)).block, (ad.add (j * 13)).off + 5, none⟩ = some (.bool en) := HLe.out 5 _ rfl
          have y6 : wr.cell? ⟨(ad.add (j * 13)).block, (ad.add (j * 13)).off + 6, none⟩ = some (.int .i64 y) := HLe.out 6 _ rfl
          have y7 : wr.cell? ⟨(ad.add (j * 13)).block, (ad.add (j * 13)).off + 7, none⟩ = some (.int .i64 m) := HLe.out 7 _ rfl
          have y8 : wr.cell? ⟨(ad.add (j * 13)).block, (ad.add (j * 13)).off + 8, none⟩ = some (.int .u8 dk) := HLe.out 8 _ rfl
          have y9 : wr.cell? ⟨(ad.add (j * 13)).block, (ad.add (j * 13)).off + 9, none⟩ = some (.int .i64 dn) := HLe.out 9 _ rfl
          have y10 : wr.cell? ⟨(ad.add (j * 13)).block, (ad.add (j * 13)).off + 10, none⟩ = some (.int .i64 dd) := HLe.out 10 _ rfl
          have y11 : wr.cell? ⟨(ad.add (j * 13)).block, (ad.add (j * 13)).off + 11, none⟩ = some (.int .i64 us) := HLe.out 11 _ rfl
          have y12 : wr.cell? ⟨(ad.add (j * 13)).block, (ad.add (j * 13)).off + 12, none⟩ = some (.int .u8 cc) := HLe.out 12 _ rfl
          have HB9 := Lib.hid (HB.out.alloc HB.out.size (.cells #[.int .i64 std, .int .u8 ek, .int .i64 esv, .string ru, .string fm, .bool en, .int .i64 y, .int .i64 m, .int .u8 dk, .int .i64 dn, .int .i64 dd, .int .i64 us, .int .u8 cc] 53))
          clear Hx9 HLe HB
          cases en with
          | false =>
            go_wp2
            go_roundw
            case rel => exact ⟨j + 1, by omega, by go_num, HB9.out⟩
            case measure => simp [intOf]; omega
          | true =>
            by_cases l1 : hi < y
            · by_cases l2 : y ≤ 9999
              · go_wp2
                go_ret
                exact ⟨.inl rfl, HB9.out⟩
              · go_wp2
                go_roundw
                case rel => exact ⟨j + 1, by omega, by go_num, HB9.out⟩
                case measure => simp [intOf]; omega
            · go_wp2
              go_roundw
              case rel => exact ⟨j + 1, by omega, by go_num, HB9.out⟩
              case measure => simp [intOf]; omega
        · obtain rfl : j = me := by omega
          have q5 : ¬ (j : Int) < (j : Int) := by omega
          go_wp2
          go_roundw
          case rel => exact ⟨k + 1, by omega, by go_num, HB.out⟩
          case measure => simp [intOf]; omega
    · obtain rfl : k = n2 := by omega
      have q3 : ¬ (k : Int) < (k : Int) := by omega
      go_wp2
      go_ret
      exact ⟨.inr ⟨rfl, HF.out⟩, HB.out⟩
end Go.Proofs.YtolgigaolffenaaGreatDoor

/- A source with other eras in one zone. -/
namespace Go.Proofs.YtolgigaolffenaaGreatDoor
open Go.RowKit

namespace Ea
theorem out {s : Src.S} {z lo hi : Int} {B : Nat} {e : Ending} {w : World} {x : Src.Txt × List Er.E} (h : Ln.OfRet s z lo hi B e w) (hw : Vd.well s = true) (hx : Eg.zoneAt s z = some x) (hin : ¬ Ln.InY lo hi) : e = .returned (.tuple #[.slice none 0 0, .int .i64 1]) := by
  rcases h with ⟨h, _⟩ | ⟨_, h, _⟩ | ⟨_, _, _, _, h⟩ | ⟨_, _, _, _, h, _⟩
  · rw [hw] at h; cases h
  · rw [hx] at h; cases h
  · exact h
  · exact absurd h hin
theorem off_bd {s : Src.S} {eras : List Er.E} {lo hi : Int} (hr : Eg.RulesOk s.rules) (hz : Eg.ZoneOk eras) (h : Ln.InY lo hi) {k : Nat} {p : Ln.Sp} (hp : (Ln.lineOf s eras lo hi)[k]? = some p) : -1209600 ≤ p.off ∧ p.off ≤ 1209600 := by
  have hf := (Ln.Cov.in_ (Ln.lineOf_cov hr hz h) k p hp).2.2
  unfold Ln.st at hf
  have hk := Ln.hold_le (Eg.ends s.rules eras) p.fr
  rw [Eg.ends_len] at hk
  have hl := hz.len.1
  obtain ⟨e, he⟩ : ∃ e, eras[Ln.hold (Eg.ends s.rules eras) p.fr]? = some e := ⟨_, List.getElem?_eq_getElem (by omega)⟩
  rw [List.getD_eq_getElem?_getD, he] at hf
  have hok := hz.ok e (List.mem_of_getElem? he)
  have hs := (Ln.saved_ok hr (Ln.ok_sv hok) p.fr).1
  rw [Ln.savedAt_one] at hs
  have h1 := hok.1
  unfold Ln.setAt at hf
  injection hf with e1 _
  have e2 : e.std + Ln.saveAt s.rules e p.fr = p.off := e1
  unfold IsTime at hs h1
  omega
end Ea
end Go.Proofs.YtolgigaolffenaaGreatDoor

/- Package stamp: an instant as a stamp with a year, and back. -/
namespace Go.Proofs.YtolgigaolffenaaGreatDoor
open Go.RowKit Go.Sort

namespace Sm
structure S where
  y : Int
  mo : Int
  dw : Int
  d : Int
  h : Int
  mi : Int
  s : Int
  ms : Int
def S.v (s : S) : Value := .agg #[.int .u16 s.y, .int .u16 s.mo, .int .u16 s.dw, .int .u16 s.d, .int .u16 s.h, .int .u16 s.mi, .int .u16 s.s, .int .u16 s.ms]
def exact (n o : Int) : S := ⟨Cv.yearOf n, Cv.monthOf n, dow n, Cv.dayOf n, o / 3600000, o / 60000 % 60, o / 1000 % 60, o % 1000⟩
theorem day_in {n : Int} (h1 : -719162 ≤ n) (h2 : n < 2932897) : Cv.Valid (Cv.yearOf n) (Cv.monthOf n) (Cv.dayOf n) ∧ 1 ≤ Cv.dayOf n ∧ Cv.dayOf n ≤ 31 ∧ 1 ≤ Cv.monthOf n ∧ Cv.monthOf n ≤ 12 ∧ Cv.yearOf n ≤ 9999 := by
  have h := (Cv.num_of n h1 h2).1
  have k := valid_31 h
  obtain ⟨a1, a2, a3, a4, a5, a6⟩ := h
  exact ⟨⟨a1, a2, a3, a4, a5, a6⟩, k.1, k.2, a3, a4, a2⟩
theorem dow_in (n : Int) : 0 ≤ dow n ∧ dow n ≤ 6 := by unfold dow; omega
theorem wr16 {x : Int} (h : 0 ≤ x) (h2 : x < 65536) : IntKind.u16.wrap x = x := by
  rw [IntKind.wrap_u16]
  omega
theorem hour {o : Int} (h1 : 0 ≤ o) (h2 : o < 86400000) : o.tdiv 3600000 = o / 3600000 ∧ 0 ≤ o / 3600000 ∧ o / 3600000 ≤ 23 := ⟨Int.tdiv_eq_ediv_of_nonneg h1, by omega, by omega⟩
theorem minutes {o : Int} (h1 : 0 ≤ o) (h2 : o < 86400000) : o.tdiv 60000 = o / 60000 ∧ 0 ≤ o / 60000 ∧ o / 60000 < 1440 := ⟨Int.tdiv_eq_ediv_of_nonneg h1, by omega, by omega⟩
theorem seconds {o : Int} (h1 : 0 ≤ o) (h2 : o < 86400000) : o.tdiv 1000 = o / 1000 ∧ 0 ≤ o / 1000 ∧ o / 1000 < 86400 := ⟨Int.tdiv_eq_ediv_of_nonneg h1, by omega, by omega⟩
theorem mills {o : Int} (h1 : 0 ≤ o) : o.tmod 1000 = o % 1000 ∧ 0 ≤ o % 1000 ∧ o % 1000 ≤ 999 := ⟨Int.tmod_eq_emod_of_nonneg h1, by omega, by omega⟩
theorem sixty {m : Int} (h1 : 0 ≤ m) : m.tmod 60 = m % 60 ∧ 0 ≤ m % 60 ∧ m % 60 ≤ 59 := ⟨Int.tmod_eq_emod_of_nonneg h1, by omega, by omega⟩
theorem over (x : Int) : 0 ≤ x % 86400000 ∧ x % 86400000 < 86400000 ∧ x = x / 86400000 * 86400000 + x % 86400000 := by omega
theorem quo (x : Int) : (x.tdiv 86400000 = x / 86400000 ∧ x.tmod 86400000 = x % 86400000) ∨ (x.tdiv 86400000 = x / 86400000 + 1 ∧ x.tmod 86400000 = x % 86400000 - 86400000) := by
  by_cases hp : 0 ≤ x
  · exact .inl ⟨Int.tdiv_eq_ediv_of_nonneg hp, Int.tmod_eq_emod_of_nonneg hp⟩
  · obtain ⟨u, rfl⟩ : ∃ u, x = -u := ⟨-x, by omega⟩
    rw [Int.neg_tdiv, Int.neg_tmod, Int.tdiv_eq_ediv_of_nonneg (by omega), Int.tmod_eq_emod_of_nonneg (by omega)]
    omega
end Sm
theorem exact_results {tmps : Array Value} {w : World} {a : Nat} {Y m dw d hh mi ss mx : Int} (h2 : tmps[2]?.getD undef = .pointer (some ⟨a, 0, none⟩)) (h3 : tmps[3]?.getD undef = .int .i64 0) (hA : At w a [.int .u16 Y, .int .u16 m, .int .u16 dw, .int .u16 d, .int .u16 hh, .int .u16 mi, .int .u16 ss, .int .u16 mx]) :
    (results Tryz.f30 tmps).run Tryz.prog w = .ok (.tuple #[.agg #[.int .u16 Y, .int .u16 m, .int .u16 dw, .int .u16 d, .int .u16 hh, .int .u16 mi, .int .u16 ss, .int .u16 mx], .int .i64 0]) w := by
  have c0 := hA.cell 0 _ rfl
  have c1 := hA.cell 1 _ rfl
  have c2 := hA.cell 2 _ rfl
  have c3 := hA.cell 3 _ rfl
  have c4 := hA.cell 4 _ rfl
  have c5 := hA.cell 5 _ rfl
  have c6 := hA.cell 6 _ rfl
  have c7 := hA.cell 7 _ rfl
  simp [results, Tryz.f30, go_sem, h2, h3, c0, c1, c2, c3, c4, c5, c6, c7]
set_option maxHeartbeats 16000000 in
set_option maxRecDepth 100000 in
theorem stampExact_any (x : Int) (w : World) (h1 : -719162 ≤ x / 86400000) (h2 : x / 86400000 < 2932897) (hy : 1601 ≤ Cv.yearOf (x / 86400000)) :
    Calls Tryz.prog 30 #[.int .i64 x] w fun e w' => e = .returned (.tuple #[(Sm.exact (x / 86400000) (x % 86400000)).v, .int .i64 0]) ∧ Below w.heap.size w w' := by
  have hqu := Sm.quo x
  obtain ⟨ho3, ho2, hx⟩ := Sm.over x
  obtain ⟨n, hn⟩ : ∃ n, x / 86400000 = n := ⟨_, rfl⟩
  obtain ⟨o, ho⟩ : ∃ o, x % 86400000 = o := ⟨_, rfl⟩
  rw [hn] at h1 h2 hy
  rw [hn, ho] at hqu hx
  rw [ho] at ho3 ho2
  rw [hn, ho]
  have t1 : -62135596800000 ≤ x := by omega
  have t2 : x ≤ 253402300800000 := by omega
  clear hn ho hx
  obtain ⟨_, d1, d2, m1, m2, y2⟩ := Sm.day_in h1 h2
  have w1 := Sm.dow_in n
  have HO := Lib.hid fun W => of_ok n W h1 h2
  have HWd := Lib.hid fun W => (civWeekday_any n W).mono fun e w' h => (⟨h.1, h.2.symm⟩ : _ ∧ w' = W)
  unfold Sm.exact Sm.S.v
  simp only
  obtain ⟨Y, hY⟩ : ∃ q, Cv.yearOf n = q := ⟨_, rfl⟩
  obtain ⟨m, hm⟩ : ∃ q, Cv.monthOf n = q := ⟨_, rfl⟩
  obtain ⟨d, hd⟩ : ∃ q, Cv.dayOf n = q := ⟨_, rfl⟩
  obtain ⟨dw, hdw⟩ : ∃ q, dow n = q := ⟨_, rfl⟩
  rw [hY, hm, hd] at HO
  rw [hY, hm, hd, hdw]
  rw [hY] at hy y2
  rw [hm] at m1 m2
  rw [hd] at d1 d2
  rw [hdw] at w1 HWd
  obtain ⟨g, hg⟩ : ∃ g, w.heap.size = g := ⟨_, rfl⟩
  obtain ⟨W1, hW1⟩ : ∃ W, w.alloc (.cells #[.int .u16 0, .int .u16 0, .int .u16 0, .int .u16 0, .int .u16 0, .int .u16 0, .int .u16 0, .int .u16 0] 84) = W := ⟨_, rfl⟩
  have hb1 : Below w.heap.size w W1 := by rw [← hW1]; exact (Below.refl _ _).alloc (Nat.le_refl _) _
  have hX1 : At W1 g [.int .u16 0, .int .u16 0, .int .u16 0, .int .u16 0, .int .u16 0, .int .u16 0, .int .u16 0, .int .u16 0] := by rw [← hW1, ← hg]; exact At.new _ _ _
  have hgw : w.heap.size ≤ g := by omega
  have HB1 := Lib.hid hb1
  have HX1 := Lib.hid hX1
  have HW1 := Lib.hid hW1
  obtain ⟨a1, b11, b12⟩ := Sm.hour ho3 ho2
  obtain ⟨a2, b21, b22⟩ := Sm.minutes ho3 ho2
  obtain ⟨a4, b41, b42⟩ := Sm.seconds ho3 ho2
  obtain ⟨a6, b61, b62⟩ := Sm.mills ho3
  obtain ⟨a3, b31, b32⟩ := Sm.sixty b21
  obtain ⟨a5, b51, b52⟩ := Sm.sixty b41
  obtain ⟨hh, hhh⟩ : ∃ q, o / 3600000 = q := ⟨_, rfl⟩
  obtain ⟨mt, hmt⟩ : ∃ q, o / 60000 = q := ⟨_, rfl⟩
  rw [hmt] at a2 a3 b21 b22 b31 b32 ⊢
  obtain ⟨mi, hmi⟩ : ∃ q, mt % 60 = q := ⟨_, rfl⟩
  obtain ⟨sx, hsx⟩ : ∃ q, o / 1000 = q := ⟨_, rfl⟩
  rw [hsx] at a4 a5 b41 b42 b51 b52 ⊢
  obtain ⟨ss, hss⟩ : ∃ q, sx % 60 = q := ⟨_, rfl⟩
  obtain ⟨mx, hmx⟩ : ∃ q, o % 1000 = q := ⟨_, rfl⟩
  rw [hhh] at a1 b11 b12
  rw [hmi] at a3 b31 b32
  rw [hss] at a5 b51 b52
  rw [hmx] at a6 b61 b62
  rw [hhh, hmi, hss, hmx]
  clear hhh hmt hmi hsx hss hmx
  have u1 : IntKind.u16.wrap Y = Y := Sm.wr16 (by omega) (by omega)
  have u2 : IntKind.u16.wrap m = m := Sm.wr16 (by omega) (by omega)
  have u3 : IntKind.u16.wrap dw = dw := Sm.wr16 (by omega) (by omega)
  have u4 : IntKind.u16.wrap d = d := Sm.wr16 (by omega) (by omega)
  have u5 : IntKind.u16.wrap hh = hh := Sm.wr16 (by omega) (by omega)
  have u6 : IntKind.u16.wrap mi = mi := Sm.wr16 (by omega) (by omega)
  have u7 : IntKind.u16.wrap ss = ss := Sm.wr16 (by omega) (by omega)
  have u8 : IntKind.u16.wrap mx = mx := Sm.wr16 (by omega) (by omega)
  have v1 : IntKind.i64.wrap hh = hh := by rw [IntKind.wrap_i64]; omega
  have v2 : IntKind.i64.wrap mt = mt := by rw [IntKind.wrap_i64]; omega
  have v3 : IntKind.i64.wrap mi = mi := by rw [IntKind.wrap_i64]; omega
  have v4 : IntKind.i64.wrap sx = sx := by rw [IntKind.wrap_i64]; omega
  have v5 : IntKind.i64.wrap ss = ss := by rw [IntKind.wrap_i64]; omega
  have v6 : IntKind.i64.wrap mx = mx := by rw [IntKind.wrap_i64]; omega
  have p1 : ¬ Y < 1601 := by omega
  have p2 : ¬ 9999 < Y := by omega
  have HA := Lib.hid (And.intro a1 (And.intro a2 (And.intro a3 (And.intro a4 (And.intro a5 a6)))))
  have HU := Lib.hid (And.intro u1 (And.intro u2 (And.intro u3 (And.intro u4 (And.intro u5 (And.intro u6 (And.intro u7 u8)))))))
  have HV := Lib.hid (And.intro v1 (And.intro v2 (And.intro v3 (And.intro v4 (And.intro v5 v6)))))
  clear hY hm hd hdw hb1 hX1 hW1 d1 d2 m1 m2 y2 w1 hy b11 b12 b21 b22 b31 b32 b41 b42 b51 b52 b61 b62 a1 a2 a3 a4 a5 a6 u1 u2 u3 u4 u5 u6 u7 u8 v1 v2 v3 v4 v5 v6
  rcases hqu with ⟨e1, e2⟩ | ⟨e1, e2⟩
  · have hno : ¬ o < 0 := by omega
    go_enter Tryz.func30, Tryz.ntmps30
    go_wp2_with fail
    rw [HW1.out]
    refine (HO.out _).mono ?_
    rintro e v2 ⟨rfl, hb⟩
    obtain ⟨W2, hW2⟩ : ∃ W, v2.alloc (.cells #[.int .i64 Y, .int .i64 m, .int .i64 d] 152) = W := ⟨_, rfl⟩
    have hbn : Below v2.heap.size v2 W2 := by rw [← hW2]; exact (Below.refl _ _).alloc (Nat.le_refl _) _
    obtain ⟨g2, hg2⟩ : ∃ g, v2.heap.size = g := ⟨_, rfl⟩
    have hA2 : At W2 g2 [.int .i64 Y, .int .i64 m, .int .i64 d] := by rw [← hW2, ← hg2]; exact At.new _ _ _
    have hbb : Below W1.heap.size W1 W2 := hb.trans (hbn.mono hb.size)
    have HB2 := Lib.hid (HB1.out.trans (hbb.mono HB1.out.size))
    have HX2 := Lib.hid (HX1.out.call hbb)
    have HW2 := Lib.hid hW2
    have HG2 := Lib.hid hg2
    obtain ⟨c0, c1, c2, _⟩ := hA2.three
    have zc := hA2.lt
    clear hb hbn hbb hW2 hg2 hA2
    go_upto_region 5 with fail
    rw [HW2.out]
    try rw [HG2.out]
    go_upto_region 7 with fail
    obtain ⟨a1, a2, a3, a4, a5, a6⟩ := HA.out
    obtain ⟨u1, u2, u3, u4, u5, u6, u7, u8⟩ := HU.out
    obtain ⟨v1, v2, v3, v4, v5, v6⟩ := HV.out
    refine wp_region_quiet_tail (C := fun w' => ∃ j, w' = W2.drewN j) 27 (by kernel_rfl) (by kernel_rfl) ⟨1, rfl⟩ ?_
    repeat (quiet_step (first | (go_at_call 65; exact Calls.quiet_of_same (HWd.out _))))
    refine wpQuiet_nil ?_
    intro wz hwz
    obtain ⟨nq, rfl⟩ := hwz
    obtain ⟨W3, hW3⟩ : ∃ X, W2.drewN nq = X := ⟨_, rfl⟩
    have hb3 : Below W2.heap.size W2 W3 := by rw [← hW3]; exact (show Drew W2 (W2.drewN nq) from ⟨nq, rfl⟩).below _
    rw [hW3]
    have HB3 := Lib.hid (HB2.out.trans (hb3.mono HB2.out.size))
    have hX3 := HX2.out.call hb3
    have y0 := hX3.cell 0 _ rfl
    have y1 := hX3.cell 1 _ rfl
    have y2 := hX3.cell 2 _ rfl
    have y3 := hX3.cell 3 _ rfl
    have y4 := hX3.cell 4 _ rfl
    have y5 := hX3.cell 5 _ rfl
    have y6 := hX3.cell 6 _ rfl
    have y7 := hX3.cell 7 _ rfl
    have f0 := hX3.free 0 _ rfl
    have f1 := hX3.free 1 _ rfl
    have f2 := hX3.free 2 _ rfl
    have f3 := hX3.free 3 _ rfl
    have f4 := hX3.free 4 _ rfl
    have f5 := hX3.free 5 _ rfl
    have f6 := hX3.free 6 _ rfl
    have f7 := hX3.free 7 _ rfl
    have zy := hX3.lt
    clear hW3 hb3 c0 c1 c2 zc
    show wpList _ _ _ (_ :: _) _ _
    go_wp2_with fail
    have hF := (((((((hX3.set 0 (.int .u16 Y)).set 1 (.int .u16 m)).set 2 (.int .u16 dw)).set 3 (.int .u16 d)).set 4 (.int .u16 hh)).set 5 (.int .u16 mi)).set 6 (.int .u16 ss)).set 7 (.int .u16 mx)
    refine bodyPost_ret (exact_results rfl rfl hF) rfl ⟨rfl, ?_⟩
    exact (((((((HB3.out.setCell (p := ⟨g, 0, none⟩) hgw _).setCell (p := ⟨g, 1, none⟩) hgw _).setCell (p := ⟨g, 2, none⟩) hgw _).setCell (p := ⟨g, 3, none⟩) hgw _).setCell (p := ⟨g, 4, none⟩) hgw _).setCell (p := ⟨g, 5, none⟩) hgw _).setCell (p := ⟨g, 6, none⟩) hgw _).setCell (p := ⟨g, 7, none⟩) hgw _
  · have hno : o - 86400000 < 0 := by omega
    go_enter Tryz.func30, Tryz.ntmps30
    go_wp2_with fail
    rw [HW1.out]
    refine (HO.out _).mono ?_
    rintro e v2 ⟨rfl, hb⟩
    obtain ⟨W2, hW2⟩ : ∃ W, v2.alloc (.cells #[.int .i64 Y, .int .i64 m, .int .i64 d] 152) = W := ⟨_, rfl⟩
    have hbn : Below v2.heap.size v2 W2 := by rw [← hW2]; exact (Below.refl _ _).alloc (Nat.le_refl _) _
    obtain ⟨g2, hg2⟩ : ∃ g, v2.heap.size = g := ⟨_, rfl⟩
    have hA2 : At W2 g2 [.int .i64 Y, .int .i64 m, .int .i64 d] := by rw [← hW2, ← hg2]; exact At.new _ _ _
    have hbb : Below W1.heap.size W1 W2 := hb.trans (hbn.mono hb.size)
    have HB2 := Lib.hid (HB1.out.trans (hbb.mono HB1.out.size))
    have HX2 := Lib.hid (HX1.out.call hbb)
    have HW2 := Lib.hid hW2
    have HG2 := Lib.hid hg2
    obtain ⟨c0, c1, c2, _⟩ := hA2.three
    have zc := hA2.lt
    clear hb hbn hbb hW2 hg2 hA2
    go_upto_region 5 with fail
    rw [HW2.out]
    try rw [HG2.out]
    go_upto_region 7 with fail
    obtain ⟨a1, a2, a3, a4, a5, a6⟩ := HA.out
    obtain ⟨u1, u2, u3, u4, u5, u6, u7, u8⟩ := HU.out
    obtain ⟨v1, v2, v3, v4, v5, v6⟩ := HV.out
    refine wp_region_quiet_tail (C := fun w' => ∃ j, w' = W2.drewN j) 27 (by kernel_rfl) (by kernel_rfl) ⟨1, rfl⟩ ?_
    repeat (quiet_step (first | (go_at_call 65; exact Calls.quiet_of_same (HWd.out _))))
    refine wpQuiet_nil ?_
    intro wz hwz
    obtain ⟨nq, rfl⟩ := hwz
    obtain ⟨W3, hW3⟩ : ∃ X, W2.drewN nq = X := ⟨_, rfl⟩
    have hb3 : Below W2.heap.size W2 W3 := by rw [← hW3]; exact (show Drew W2 (W2.drewN nq) from ⟨nq, rfl⟩).below _
    rw [hW3]
    have HB3 := Lib.hid (HB2.out.trans (hb3.mono HB2.out.size))
    have hX3 := HX2.out.call hb3
    have y0 := hX3.cell 0 _ rfl
    have y1 := hX3.cell 1 _ rfl
    have y2 := hX3.cell 2 _ rfl
    have y3 := hX3.cell 3 _ rfl
    have y4 := hX3.cell 4 _ rfl
    have y5 := hX3.cell 5 _ rfl
    have y6 := hX3.cell 6 _ rfl
    have y7 := hX3.cell 7 _ rfl
    have f0 := hX3.free 0 _ rfl
    have f1 := hX3.free 1 _ rfl
    have f2 := hX3.free 2 _ rfl
    have f3 := hX3.free 3 _ rfl
    have f4 := hX3.free 4 _ rfl
    have f5 := hX3.free 5 _ rfl
    have f6 := hX3.free 6 _ rfl
    have f7 := hX3.free 7 _ rfl
    have zy := hX3.lt
    clear hW3 hb3 c0 c1 c2 zc
    show wpList _ _ _ (_ :: _) _ _
    go_wp2_with fail
    have hF := (((((((hX3.set 0 (.int .u16 Y)).set 1 (.int .u16 m)).set 2 (.int .u16 dw)).set 3 (.int .u16 d)).set 4 (.int .u16 hh)).set 5 (.int .u16 mi)).set 6 (.int .u16 ss)).set 7 (.int .u16 mx)
    refine bodyPost_ret (exact_results rfl rfl hF) rfl ⟨rfl, ?_⟩
    exact (((((((HB3.out.setCell (p := ⟨g, 0, none⟩) hgw _).setCell (p := ⟨g, 1, none⟩) hgw _).setCell (p := ⟨g, 2, none⟩) hgw _).setCell (p := ⟨g, 3, none⟩) hgw _).setCell (p := ⟨g, 4, none⟩) hgw _).setCell (p := ⟨g, 5, none⟩) hgw _).setCell (p := ⟨g, 6, none⟩) hgw _).setCell (p := ⟨g, 7, none⟩) hgw _
end Go.Proofs.YtolgigaolffenaaGreatDoor

/- Package stamp: whether a stamp with a year is right; its date, and when it is. -/
namespace Go.Proofs.YtolgigaolffenaaGreatDoor
open Go.RowKit

namespace Sm
structure Ok (s : S) : Prop where
  y1 : 1601 ≤ s.y
  y2 : s.y ≤ 9999
  m1 : 1 ≤ s.mo
  m2 : s.mo ≤ 12
  w1 : 0 ≤ s.dw
  w2 : s.dw ≤ 6
  d1 : 1 ≤ s.d
  d2 : s.d ≤ Cv.len s.y s.mo
  h1 : 0 ≤ s.h
  h2 : s.h ≤ 23
  i1 : 0 ≤ s.mi
  i2 : s.mi ≤ 59
  s1 : 0 ≤ s.s
  s2 : s.s ≤ 59
  k1 : 0 ≤ s.ms
  k2 : s.ms ≤ 999
theorem len_in {y m : Int} (h1 : 1 ≤ m) (h2 : m ≤ 12) : 28 ≤ Cv.len y m ∧ Cv.len y m ≤ 31 := by
  rw [Cv.len_month y m h1 h2]
  split
  · split <;> omega
  · split <;> omega
theorem exact_ok {n o : Int} (h1 : -719162 ≤ n) (h2 : n < 2932897) (hy : 1601 ≤ Cv.yearOf n) (ho1 : 0 ≤ o) (ho2 : o < 86400000) : Ok (exact n o) := by
  obtain ⟨hv, d1, d2, m1, m2, y2⟩ := day_in h1 h2
  have hw := dow_in n
  obtain ⟨a1, b11, b12⟩ := hour ho1 ho2
  obtain ⟨a2, b21, b22⟩ := minutes ho1 ho2
  obtain ⟨a4, b41, b42⟩ := seconds ho1 ho2
  obtain ⟨a6, b61, b62⟩ := mills ho1
  obtain ⟨a3, b31, b32⟩ := sixty b21
  obtain ⟨a5, b51, b52⟩ := sixty b41
  exact ⟨hy, y2, m1, m2, hw.1, hw.2, d1, hv.2.2.2.2.2, b11, b12, b31, b32, b51, b52, b61, b62⟩
def S.at (s : S) : Int := Cv.num s.y s.mo s.d * 86400000 + s.h * 3600000 + s.mi * 60000 + s.s * 1000 + s.ms
theorem parts (o : Int) : o / 3600000 * 3600000 + o / 60000 % 60 * 60000 + o / 1000 % 60 * 1000 + o % 1000 = o := by
  have e1 : o / 60000 = o / 1000 / 60 := by omega
  have e2 : o / 3600000 = o / 1000 / 60 / 60 := by omega
  rw [e1, e2]
  obtain ⟨a, ha⟩ : ∃ a, o / 1000 = a := ⟨_, rfl⟩
  rw [ha]
  omega
theorem exact_at {n o : Int} (h1 : -719162 ≤ n) (h2 : n < 2932897) : (exact n o).at = n * 86400000 + o := by
  have e := (Cv.num_of n h1 h2).2
  have k := parts o
  show Cv.num (Cv.yearOf n) (Cv.monthOf n) (Cv.dayOf n) * 86400000 + o / 3600000 * 3600000 + o / 60000 % 60 * 60000 + o / 1000 % 60 * 1000 + o % 1000 = _
  rw [e]
  omega
end Sm
theorem stamp_ne (y mo dw d h mi ss ms : Int) (hy : 1601 ≤ y) (w : World) : (Op.equalIn 10000 84 (.agg #[.int .u16 y, .int .u16 mo, .int .u16 dw, .int .u16 d, .int .u16 h, .int .u16 mi, .int .u16 ss, .int .u16 ms]) (.agg #[.int .u16 0, .int .u16 0, .int .u16 0, .int .u16 0, .int .u16 0, .int .u16 0, .int .u16 0, .int .u16 0])).run Tryz.prog w = .ok false w := by
  have hn : ¬ y = 0 := by omega
  go_simp
set_option maxHeartbeats 8000000 in
set_option maxRecDepth 100000 in
theorem stampCheck_ok (s : Sm.S) (w : World) (hL : Lens w) (hs : Sm.Ok s) : Calls Tryz.prog 32 #[s.v] w fun e w' => e = .returned (.int .i64 0) ∧ Below w.heap.size w w' := by
  have hli := Sm.len_in (y := s.y) hs.m1 hs.m2
  obtain ⟨y1, y2, m1, m2, w1, w2, d1, d2, h1, h2, i1, i2, s1, s2, k1, k2⟩ := hs
  obtain ⟨y, mo, dw, d, h, mi, ss, ms⟩ := s
  simp only at y1 y2 m1 m2 w1 w2 d1 d2 h1 h2 i1 i2 s1 s2 k1 k2 hli
  unfold Sm.S.v
  simp only
  obtain ⟨W1, hW1⟩ : ∃ W, w.alloc (.cells #[.int .u16 y, .int .u16 mo, .int .u16 dw, .int .u16 d, .int .u16 h, .int .u16 mi, .int .u16 ss, .int .u16 ms] 84) = W := ⟨_, rfl⟩
  have hb1 : Below w.heap.size w W1 := by rw [← hW1]; exact (Below.refl _ _).alloc (Nat.le_refl _) _
  have hA1 : At W1 w.heap.size [.int .u16 y, .int .u16 mo, .int .u16 dw, .int .u16 d, .int .u16 h, .int .u16 mi, .int .u16 ss, .int .u16 ms] := by rw [← hW1]; exact At.new _ _ _
  have HLn := Lib.hid (length_ok y mo W1 (hL.below hb1) ⟨by omega, y2, m1, m2⟩)
  obtain ⟨L, hLn⟩ : ∃ L, Cv.len y mo = L := ⟨_, rfl⟩
  rw [hLn] at HLn d2 hli
  have HB1 := Lib.hid hb1
  have HW1 := Lib.hid hW1
  have hq := stamp_ne y mo dw d h mi ss ms y1
  have p1 : ¬ mo < 1 := by omega
  have p2 : ¬ 12 < mo := by omega
  have p3 : ¬ 6 < dw := by omega
  have p4 : ¬ 23 < h := by omega
  have p5 : ¬ 59 < mi := by omega
  have p6 : ¬ 59 < ss := by omega
  have p7 : ¬ 999 < ms := by omega
  have p8 : ¬ d < 1 := by omega
  have p9 : (y != 0) = true := by rw [bne_iff_ne]; omega
  have p10 : ¬ y < 1601 := by omega
  have p11 : ¬ 9999 < y := by omega
  have p12 : ¬ L < d := by omega
  have c0 := hA1.cell 0 _ rfl
  have c1 := hA1.cell 1 _ rfl
  have c2 := hA1.cell 2 _ rfl
  have c3 := hA1.cell 3 _ rfl
  have c4 := hA1.cell 4 _ rfl
  have c5 := hA1.cell 5 _ rfl
  have c6 := hA1.cell 6 _ rfl
  have c7 := hA1.cell 7 _ rfl
  have zc := hA1.lt
  clear hb1 hA1 hW1 hLn hL
  go_enter Tryz.func32, Tryz.ntmps32
  go_upto_region 1 with fail
  rw [HW1.out]
  go_wp2_with fail
  refine HLn.out.mono ?_
  rintro e w2 ⟨rfl, rfl⟩
  go_wp2
  go_ret
  exact ⟨rfl, HB1.out⟩
theorem date_results {tmps : Array Value} {w : World} {a : Nat} {y m d : Int} (h4 : tmps[4]?.getD undef = .pointer (some ⟨a, 0, none⟩)) (h5 : tmps[5]?.getD undef = .int .i64 0) (c0 : w.cell? ⟨a, 0, none⟩ = some (.int .i64 y)) (c1 : w.cell? ⟨a, 1, none⟩ = some (.int .i64 m)) (c2 : w.cell? ⟨a, 2, none⟩ = some (.int .i64 d)) :
    (results Tryz.f66 tmps).run Tryz.prog w = .ok (.tuple #[.agg #[.int .i64 y, .int .i64 m, .int .i64 d], .int .i64 0]) w := by
  simp [results, Tryz.f66, go_sem, h4, h5, c0, c1, c2]
set_option maxHeartbeats 8000000 in
set_option maxRecDepth 100000 in
theorem stampDate_ok (s : Sm.S) (w : World) (hL : Lens w) (hs : Sm.Ok s) : Calls Tryz.prog 66 #[s.v, .int .i64 s.y] w fun e w' => e = .returned (.tuple #[.agg #[.int .i64 s.y, .int .i64 s.mo, .int .i64 s.d], .int .i64 0]) ∧ Below w.heap.size w w' := by
  have hCk := fun W (hb : Below w.heap.size w W) => stampCheck_ok s W (hL.below hb) hs
  obtain ⟨y1, y2, m1, m2, w1, w2, d1, d2, h1, h2, i1, i2, s1, s2, k1, k2⟩ := hs
  have hli := Sm.len_in (y := s.y) m1 m2
  obtain ⟨y, mo, dw, d, h, mi, ss, ms⟩ := s
  simp only at y1 y2 m1 m2 w1 w2 d1 d2 h1 h2 i1 i2 s1 s2 k1 k2 hli
  have d3 : d ≤ 31 := by omega
  unfold Sm.S.v at hCk ⊢
  simp only at hCk ⊢
  obtain ⟨W1, hW1⟩ : ∃ W, (w.alloc (.cells #[.int .u16 y, .int .u16 mo, .int .u16 dw, .int .u16 d, .int .u16 h, .int .u16 mi, .int .u16 ss, .int .u16 ms] 84)).alloc (.cells #[.int .i64 0, .int .i64 0, .int .i64 0] 152) = W := ⟨_, rfl⟩
  obtain ⟨g, hg⟩ : ∃ g, w.heap.size = g := ⟨_, rfl⟩
  have hb1 : Below w.heap.size w W1 := by rw [← hW1]; exact ((Below.refl _ _).alloc (Nat.le_refl _) _).alloc (by simp) _
  have hA1 : At W1 g [.int .u16 y, .int .u16 mo, .int .u16 dw, .int .u16 d, .int .u16 h, .int .u16 mi, .int .u16 ss, .int .u16 ms] := by rw [← hW1, ← hg]; exact (At.new _ _ _).allocO _
  have hX1 : At W1 (g + 1) [.int .i64 0, .int .i64 0, .int .i64 0] := by
    have h := At.new (w.alloc (.cells #[.int .u16 y, .int .u16 mo, .int .u16 dw, .int .u16 d, .int .u16 h, .int .u16 mi, .int .u16 ss, .int .u16 ms] 84)) #[.int .i64 0, .int .i64 0, .int .i64 0] 152
    rw [hW1, World.size_alloc, hg] at h
    exact h
  have hgw : w.heap.size ≤ g + 1 := by omega
  have HCk := Lib.hid (hCk W1 hb1)
  have HB1 := Lib.hid hb1
  have HA1 := Lib.hid hA1
  have HX1 := Lib.hid hX1
  have HW1 := Lib.hid hW1
  have HG := Lib.hid hg
  have hq := stamp_ne y mo dw d h mi ss ms y1
  have p1 : ¬ mo < 1 := by omega
  have p2 : ¬ 12 < mo := by omega
  have p3 : ¬ 6 < dw := by omega
  have p4 : ¬ 23 < h := by omega
  have p5 : ¬ 59 < mi := by omega
  have p6 : ¬ 59 < ss := by omega
  have p7 : ¬ 999 < ms := by omega
  have p8 : ¬ d < 1 := by omega
  have p9 : (y != 0) = true := by rw [bne_iff_ne]; omega
  have p10 : ¬ y < 1601 := by omega
  have p11 : ¬ 9999 < y := by omega
  have p12 : (y != y) = false := by simp
  have c0 := hA1.cell 0 _ rfl
  have c1 := hA1.cell 1 _ rfl
  have c2 := hA1.cell 2 _ rfl
  have c3 := hA1.cell 3 _ rfl
  have c4 := hA1.cell 4 _ rfl
  have c5 := hA1.cell 5 _ rfl
  have c6 := hA1.cell 6 _ rfl
  have c7 := hA1.cell 7 _ rfl
  have zc := hA1.lt
  clear hb1 hA1 hX1 hW1 hL hCk d2 hg
  go_enter Tryz.func66, Tryz.ntmps66
  go_upto_region 1 with fail
  try rw [HW1.out]
  try rw [HG.out]
  go_wp2_with fail
  refine HCk.out.mono ?_
  rintro e w2 ⟨rfl, hb2⟩
  have HB2 := Lib.hid (HB1.out.trans (hb2.mono HB1.out.size))
  have hA2 := HA1.out.call hb2
  have HX2 := Lib.hid (HX1.out.call hb2)
  clear hb2 c0 c1 c2 c3 c4 c5 c6 c7 zc
  have c0 := hA2.cell 0 _ rfl
  have c1 := hA2.cell 1 _ rfl
  have c2 := hA2.cell 2 _ rfl
  have c3 := hA2.cell 3 _ rfl
  have c4 := hA2.cell 4 _ rfl
  have c5 := hA2.cell 5 _ rfl
  have c6 := hA2.cell 6 _ rfl
  have c7 := hA2.cell 7 _ rfl
  have zc := hA2.lt
  go_upto_region 9 with fail
  obtain ⟨W3, hW3⟩ : ∃ W, w2.alloc (.cells #[.int .i64 y, .int .i64 mo, .int .i64 d] 152) = W := ⟨_, rfl⟩
  have hb3 : Below w2.heap.size w2 W3 := by rw [← hW3]; exact (Below.refl _ _).alloc (Nat.le_refl _) _
  obtain ⟨g3, hg3⟩ : ∃ g, w2.heap.size = g := ⟨_, rfl⟩
  have hA3 : At W3 g3 [.int .i64 y, .int .i64 mo, .int .i64 d] := by rw [← hW3, ← hg3]; exact At.new _ _ _
  rw [hW3]
  try rw [hg3]
  have HB3 := Lib.hid (HB2.out.trans (hb3.mono HB2.out.size))
  have hX3 := HX2.out.call hb3
  have hA4 := hA2.call hb3
  clear hW3 hb3 hg3 c0 c1 c2 c3 c4 c5 c6 c7 zc
  have c0 := hA4.cell 0 _ rfl
  have c1 := hA4.cell 1 _ rfl
  have c2 := hA4.cell 2 _ rfl
  have c3 := hA4.cell 3 _ rfl
  have c4 := hA4.cell 4 _ rfl
  have c5 := hA4.cell 5 _ rfl
  have c6 := hA4.cell 6 _ rfl
  have c7 := hA4.cell 7 _ rfl
  have zc := hA4.lt
  obtain ⟨b0, b1, b2, _⟩ := hA3.three
  have zb := hA3.lt
  obtain ⟨u0, u1, u2, v0, v1, v2⟩ := hX3.three
  have zu := hX3.lt
  go_wp2_with fail
  try rw [HG.out]
  have hF := ((hX3.set 0 (.int .i64 y)).set 1 (.int .i64 mo)).set 2 (.int .i64 d)
  refine bodyPost_ret (date_results rfl rfl (hF.cell 0 _ rfl) (hF.cell 1 _ rfl) (hF.cell 2 _ rfl)) rfl ⟨rfl, ?_⟩
  have hz := ((HB3.out.setCell (p := ⟨g + 1, 0, none⟩) hgw (.int .i64 y)).setCell (p := ⟨g + 1, 1, none⟩) hgw (.int .i64 mo)).setCell (p := ⟨g + 1, 2, none⟩) hgw (.int .i64 d)
  first | exact hz | (rw [HG.out] at hz; exact hz)
set_option maxHeartbeats 8000000 in
set_option maxRecDepth 100000 in
theorem stampLocal_ok (s : Sm.S) (w : World) (hL : Lens w) (hs : Sm.Ok s) (hn : -719162 ≤ Cv.num s.y s.mo s.d ∧ Cv.num s.y s.mo s.d < 2932897) : Calls Tryz.prog 31 #[s.v, .int .i64 s.y] w fun e w' => e = .returned (.tuple #[.int .i64 s.at, .int .i64 0]) ∧ Below w.heap.size w w' := by
  have HDt := Lib.hid fun W (hb : Below w.heap.size w W) => stampDate_ok s W (hL.below hb) hs
  have HDy := Lib.hid fun W (hb : Below w.heap.size w W) => days_ok s.y s.mo s.d W (hL.below hb) ⟨by have := hs.y1; omega, hs.y2, hs.m1, hs.m2, hs.d1, hs.d2⟩
  obtain ⟨y1, y2, m1, m2, w1, w2, d1, d2, h1, h2, i1, i2, s1, s2, k1, k2⟩ := hs
  obtain ⟨y, mo, dw, d, h, mi, ss, ms⟩ := s
  unfold Sm.S.v at HDt ⊢
  unfold Sm.S.at
  simp only at y1 y2 m1 m2 w1 w2 d1 d2 h1 h2 i1 i2 s1 s2 k1 k2 hn HDt HDy ⊢
  obtain ⟨n, hnn⟩ : ∃ n, Cv.num y mo d = n := ⟨_, rfl⟩
  rw [hnn] at hn HDy
  rw [hnn]
  obtain ⟨n1, n2⟩ := hn
  obtain ⟨g, hg⟩ : ∃ g, w.heap.size = g := ⟨_, rfl⟩
  obtain ⟨W1, hW1⟩ : ∃ W, w.alloc (.cells #[.int .u16 y, .int .u16 mo, .int .u16 dw, .int .u16 d, .int .u16 h, .int .u16 mi, .int .u16 ss, .int .u16 ms] 84) = W := ⟨_, rfl⟩
  have hb1 : Below w.heap.size w W1 := by rw [← hW1]; exact (Below.refl _ _).alloc (Nat.le_refl _) _
  have hA1 : At W1 g [.int .u16 y, .int .u16 mo, .int .u16 dw, .int .u16 d, .int .u16 h, .int .u16 mi, .int .u16 ss, .int .u16 ms] := by rw [← hW1, ← hg]; exact At.new _ _ _
  have HB1 := Lib.hid hb1
  have HA1 := Lib.hid hA1
  have HW1 := Lib.hid hW1
  have HG := Lib.hid hg
  have c0 := hA1.cell 0 _ rfl
  have c1 := hA1.cell 1 _ rfl
  have c2 := hA1.cell 2 _ rfl
  have c3 := hA1.cell 3 _ rfl
  have c4 := hA1.cell 4 _ rfl
  have c5 := hA1.cell 5 _ rfl
  have c6 := hA1.cell 6 _ rfl
  have c7 := hA1.cell 7 _ rfl
  have zc := hA1.lt
  clear hb1 hA1 hW1 hL hnn d2 hg
  go_enter Tryz.func31, Tryz.ntmps31
  go_upto_region 1 with fail
  try rw [HW1.out]
  try rw [HG.out]
  go_wp2_with fail
  refine (HDt.out W1 HB1.out).mono ?_
  rintro e v2 ⟨rfl, hb⟩
  obtain ⟨W2, hW2⟩ : ∃ W, v2.alloc (.cells #[.int .i64 y, .int .i64 mo, .int .i64 d] 152) = W := ⟨_, rfl⟩
  have hbn : Below v2.heap.size v2 W2 := by rw [← hW2]; exact (Below.refl _ _).alloc (Nat.le_refl _) _
  obtain ⟨g2, hg2⟩ : ∃ g, v2.heap.size = g := ⟨_, rfl⟩
  have hA2 : At W2 g2 [.int .i64 y, .int .i64 mo, .int .i64 d] := by rw [← hW2, ← hg2]; exact At.new _ _ _
  have hbb : Below W1.heap.size W1 W2 := hb.trans (hbn.mono hb.size)
  have HB2 := Lib.hid (HB1.out.trans (hbb.mono HB1.out.size))
  have HA12 := Lib.hid (HA1.out.call hbb)
  have HW2 := Lib.hid hW2
  have HG2 := Lib.hid hg2
  obtain ⟨b0, b1, b2, _⟩ := hA2.three
  have zb := hA2.lt
  clear hb hbn hbb hW2 hg2 hA2 c0 c1 c2 c3 c4 c5 c6 c7 zc
  go_upto_region 2 with fail
  rw [HW2.out]
  try rw [HG2.out]
  go_wp2_with fail
  refine (HDy.out W2 HB2.out).mono ?_
  rintro e w3 ⟨rfl, hb3⟩
  have HB3 := Lib.hid (HB2.out.trans (hb3.mono HB2.out.size))
  have hA3 := HA12.out.call hb3
  have c0 := hA3.cell 0 _ rfl
  have c1 := hA3.cell 1 _ rfl
  have c2 := hA3.cell 2 _ rfl
  have c3 := hA3.cell 3 _ rfl
  have c4 := hA3.cell 4 _ rfl
  have c5 := hA3.cell 5 _ rfl
  have c6 := hA3.cell 6 _ rfl
  have c7 := hA3.cell 7 _ rfl
  have zc := hA3.lt
  clear hb3 b0 b1 b2 zb
  go_wp2
  go_ret2
  exact ⟨by first | rfl | (congr 1), HB3.out⟩
end Go.Proofs.YtolgigaolffenaaGreatDoor
