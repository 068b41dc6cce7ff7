/- The statement's Near; lists of times compared. -/
import Derived.Test.YtjobhjemnmleaaaGreatDoorQ48
set_option maxRecDepth 100000
set_option maxHeartbeats 4000000
namespace Go.Proofs.YtjobhjemnmleaaaGreatDoor
open Go.RowKit
namespace Eg
def Near (s : Src.S) (w : World) (e : Ending) (w' : World) : Prop := (e = .returned (.int .i64 0) ∨ (e = .returned (.int .i64 1) ∧ Src.Few s)) ∧ Below w.heap.size w w'
end Eg
theorem near16_some (s : Src.S) (rv zv lv : Value) (evs : List Value) (hi : Int) (w : World) (hR : Src.SrcR w w.heap.size s rv zv lv evs) (hw : Src.Wide s) (hhi : 0 ≤ hi ∧ hi ≤ 10000) :
  Calls Tryz.prog 49 #[.agg #[rv, zv, lv], .int .i64 hi] w (Eg.Near s w) := by
 have hlen : (s.zones.zip evs).length = s.zones.length := by rw [List.length_zip, hR.len]; omega
 have hers := hR.eras;have hrs : ∀ r ∈ s.rules, r.nm.size ≤ maxLen ∧ r.lt.size ≤ maxLen := fun r hr => (hw.rules r hr).2
 obtain ⟨rA, rc, rfl, hr1, hr2, hrr⟩ := hR.rules;obtain ⟨zA, zc, rfl, hz1, hzc, hrz⟩ := hR.zones;obtain ⟨lA, lc, rfl, _⟩ := hR.links;obtain ⟨W1, hW1⟩ : ∃ W, w.alloc (.cells #[.slice rA s.rules.length rc, .slice zA s.zones.length zc, .slice lA s.links.length lc] 26) = W := ⟨_, rfl⟩
 have hb1 : Below w.heap.size w W1 := by rw [← hW1]; exact (Below.refl _ _).alloc (Nat.le_refl _) _
 have hA1 : At W1 w.heap.size [.slice rA s.rules.length rc, .slice zA s.zones.length zc, .slice lA s.links.length lc] := by rw [← hW1]; exact At.new _ _ _
 have HCf := Lib.hid (few_any s _ _ _ evs W1 (hR.call hb1) hw);have HCn : Hid (∀ W, Below w.heap.size w W → Calls Tryz.prog 86 #[.slice rA s.rules.length rc, .int .i64 hi] W (Eg.SomeZ W)) := fun W hb => near15_some s.rules rA rc hi W ((hrr.below hb).more hb.size) hrs hhi
 obtain ⟨n1, hn1⟩ : ∃ n, s.rules.length = n := ⟨_, rfl⟩
 obtain ⟨n2, hn2⟩ : ∃ n, s.zones.length = n := ⟨_, rfl⟩
 obtain ⟨n3, hn3⟩ : ∃ n, s.links.length = n := ⟨_, rfl⟩
 rw [hn1, hn2, hn3] at HCf hA1 hW1 ⊢;rw [hn1] at HCn hr1;rw [hn2] at hrz hlen hz1;unfold maxLen at hzc hr2;have HB1 := Lib.hid hb1;have HW1 := Lib.hid hW1;have HA1 := Lib.hid hA1;have HRz := Lib.hid hrz;have HLen := Lib.hid hlen;have HErs := Lib.hid hers;obtain ⟨b0, b1, b2, _⟩ := hA1.three;clear hR hw hb1 hW1 hA1 hrz hlen hers hrs hrr hn1 hn2 hn3;go_enter Tryz.func49, Tryz.ntmps49
 go_wp2_with fail
 rw [HW1.out];refine HCf.out.mono ?_;rintro e w2 ⟨he, hb2⟩;have HA2 := Lib.hid (HA1.out.call hb2);have HB2 := Lib.hid (below_then HB1.out hb2);clear hb2 b0 b1 b2;obtain ⟨b0, b1, b2, _⟩ := HA2.out.three;rcases he with rfl | ⟨rfl, hfew⟩
 ·go_wp2;go_ret
  exact ⟨.inl rfl, HB2.out⟩
 have HF := Lib.hid hfew;clear hfew
 by_cases h12 : (12 : Int) < (n1 : Int)
 ·go_wp2;go_ret
  exact ⟨.inl rfl, HB2.out⟩
 have HCn2 := Lib.hid (HCn.out w2 HB2.out);clear HCn;go_wp2_with fail
 refine HCn2.out.mono ?_;rintro e w3 ⟨he, hb3⟩;have HA3 := Lib.hid (HA2.out.call hb3);have HB3 := Lib.hid (below_then HB2.out hb3);clear hb3 b0 b1 b2;obtain ⟨b0, b1, b2, _⟩ := HA3.out.three;rcases he with rfl | rfl
 ·go_wp2;go_ret
  exact ⟨.inl rfl, HB3.out⟩
 go_wp2;clear b0 b1 b2;go_loopw [28] (fun i wr => ∃ k : Nat, k ≤ n2 ∧ i = .int .i64 (k : Int) ∧ Hid (Below w.heap.size w wr)) (fun i _ => n2 - (intOf i).toNat)
 case atStart => exact ⟨0, Nat.zero_le _, rfl, HB3.out⟩
 case round =>
  obtain ⟨k, hk, rfl, HB⟩ := hrel
  by_cases hlt : k < n2
  ·have q1 : (0 : Int) ≤ (k : Int) := by omega
   have q3 : (k : Int) < (n2 : Int) := by omega
   obtain ⟨adz, x, rfl, hab, Hx, HL⟩ := Ix.reads_cells (enc := Src.zc) (m := 2) (fun _ => rfl) HLen.out (HRz.out.below HB.out) hlt;obtain ⟨eA, ec, he2, hme1, hec, hre⟩ := HErs.out x (List.mem_of_getElem? Hx.out);obtain ⟨zb, hzb⟩ : ∃ t, Src.bts x.1.1 = t := ⟨_, rfl⟩
   obtain ⟨es, hes⟩ : ∃ l, x.1.2 = l := ⟨_, rfl⟩
   obtain ⟨me, hme⟩ : ∃ l, es.length = l := ⟨_, rfl⟩
   rw [hes, hme] at he2 hre hme1;have c0 : wr.cell? (adz.add (k * 2)) = some (.string zb) := by rw [← hzb]; exact HL.out 0 _ rfl
   have c1 : wr.cell? ⟨(adz.add (k * 2)).block, (adz.add (k * 2)).off + 1, none⟩ = some (.slice eA me ec) := by rw [← he2]; exact HL.out 1 _ rfl
   have HBa := Lib.hid (HB.out.alloc HB.out.size (.cells #[.string zb, .slice eA me ec] 117));have HMe := Lib.hid hme;have HRe := Lib.hid hre;unfold maxLen at hec;clear HL he2 hre hzb hes hme HB;go_wp2;clear c0 c1;go_loopw [35] (fun i wr => ∃ j : Nat, j ≤ me ∧ i = .int .i64 (j : Int) ∧ Hid (Below w.heap.size w wr)) (fun i _ => me - (intOf i).toNat)
   case atStart => exact ⟨0, Nat.zero_le _, rfl, HBa.out⟩
   case round =>
    clear HBa;obtain ⟨j, hj, rfl, HB⟩ := hrel
    by_cases hlt3 : j < me
    ·have q4 : (0 : Int) ≤ (j : Int) := by omega
     have q5 : (j : Int) < (me : Int) := by omega
     obtain ⟨ad, x9, rfl, habe, Hx9, HLe⟩ := Ix.reads_cells (enc := Er.E.cells) (m := 13) (fun _ => rfl) HMe.out (HRe.out.below HB.out) hlt3;obtain ⟨std, ek, esv, ru, fm, en, ⟨y, m, dk, dn, dd, us, cc⟩⟩ := x9;have y0 : wr.cell? (ad.add (j * 13)) = some (.int .i64 std) := HLe.out 0 _ rfl;have y1 : wr.cell? ⟨(ad.add (j * 13)).block, (ad.add (j * 13)).off + 1, none⟩ = some (.int .u8 ek) := HLe.out 1 _ rfl;have y2 : wr.cell? ⟨(ad.add (j * 13)).block, (ad.add (j * 13)).off + 2, none⟩ = some (.int .i64 esv) := HLe.out 2 _ rfl;have y3 : wr.cell? ⟨(ad.add (j * 13)).block, (ad.add (j * 13)).off + 3, none⟩ = some (.string ru) := HLe.out 3 _ rfl;have y4 : wr.cell? ⟨(ad.add (j * 13)).block, (ad.add (j * 13)).off + 4, none⟩ = some (.string fm) := HLe.out 4 _ rfl;have y5 : wr.cell? ⟨(ad.add (j * 13)).block, (ad.add (j * 13)).off + 5, none⟩ = some (.bool en) := HLe.out 5 _ rfl;have y6 : wr.cell? ⟨(ad.add (j * 13)).block, (ad.add (j * 13)).off + 6, none⟩ = some (.int .i64 y) := HLe.out 6 _ rfl;have y7 : wr.cell? ⟨(ad.add (j * 13)).block, (ad.add (j * 13)).off + 7, none⟩ = some (.int .i64 m) := HLe.out 7 _ rfl;have y8 : wr.cell? ⟨(ad.add (j * 13)).block, (ad.add (j * 13)).off + 8, none⟩ = some (.int .u8 dk) := HLe.out 8 _ rfl;have y9 : wr.cell? ⟨(ad.add (j * 13)).block, (ad.add (j * 13)).off + 9, none⟩ = some (.int .i64 dn) := HLe.out 9 _ rfl;have y10 : wr.cell? ⟨(ad.add (j * 13)).block, (ad.add (j * 13)).off + 10, none⟩ = some (.int .i64 dd) := HLe.out 10 _ rfl;have y11 : wr.cell? ⟨(ad.add (j * 13)).block, (ad.add (j * 13)).off + 11, none⟩ = some (.int .i64 us) := HLe.out 11 _ rfl
     have y12 : wr.cell? ⟨(ad.add (j * 13)).block, (ad.add (j * 13)).off + 12, none⟩ = some (.int .u8 cc) := HLe.out 12 _ rfl;have HB9 := Lib.hid (HB.out.alloc HB.out.size (.cells #[.int .i64 std, .int .u8 ek, .int .i64 esv, .string ru, .string fm, .bool en, .int .i64 y, .int .i64 m, .int .u8 dk, .int .i64 dn, .int .i64 dd, .int .i64 us, .int .u8 cc] 191));clear Hx9 HLe HB;cases en with
     | false =>
      go_wp2;go_roundw
      case rel => exact ⟨j + 1, by omega, by go_num, HB9.out⟩
      case measure => simp [intOf]; omega
     | true =>
      by_cases l1 : hi < y
      ·by_cases l2 : y ≤ 9999
       ·go_wp2;go_ret
        exact ⟨.inl rfl, HB9.out⟩
       ·go_wp2;go_roundw
        case rel => exact ⟨j + 1, by omega, by go_num, HB9.out⟩
        case measure => simp [intOf]; omega
      ·go_wp2;go_roundw
       case rel => exact ⟨j + 1, by omega, by go_num, HB9.out⟩
       case measure => simp [intOf]; omega
    ·obtain rfl : j = me := by omega
     have q5 : ¬ (j : Int) < (j : Int) := by omega
     go_wp2;go_roundw
     case rel => exact ⟨k + 1, by omega, by go_num, HB.out⟩
     case measure => simp [intOf]; omega
  ·obtain rfl : k = n2 := by omega
   have q3 : ¬ (k : Int) < (k : Int) := by omega
   go_wp2;go_ret
   exact ⟨.inr ⟨rfl, HF.out⟩, HB.out⟩
end Go.Proofs.YtjobhjemnmleaaaGreatDoor
namespace Go.Proofs.YtjobhjemnmleaaaGreatDoor
open Go.RowKit
namespace Cp
def Near (s : Src.S) (lo hi : Int) (w : World) (e : Ending) (w' : World) : Prop := (e = .returned (.int .i64 0) ∨ (e = .returned (.int .i64 1) ∧ Src.Few s ∧ hi ≤ 2098 ∧ 1500 ≤ lo ∧ (lo ≤ hi → hi - lo ≤ 30))) ∧ Below w.heap.size w w'
end Cp
theorem near27_some (s : Src.S) (rv zv lv : Value) (evs : List Value) (lo hi : Int) (w : World) (hR : Src.SrcR w w.heap.size s rv zv lv evs) (hw : Src.Wide s) (hlo : -9223372036854775808 ≤ lo ∧ lo < 9223372036854775808) (hhi : -9223372036854775808 ≤ hi ∧ hi < 9223372036854775808) :
  Calls Tryz.prog 12 #[.agg #[rv, zv, lv], .int .i64 lo, .int .i64 hi] w (Cp.Near s lo hi w) := by
 have HNe0 := Lib.hid fun W (hb : Below w.heap.size w W) => near16_some s rv zv lv evs 2100 W (hR.call hb) hw (by omega)
 obtain ⟨rA, rc, rfl, _⟩ := hR.rules;obtain ⟨zA, zc, rfl, _⟩ := hR.zones;obtain ⟨lA, lc, rfl, _⟩ := hR.links;obtain ⟨n1, hn1⟩ : ∃ n, s.rules.length = n := ⟨_, rfl⟩
 obtain ⟨n2, hn2⟩ : ∃ n, s.zones.length = n := ⟨_, rfl⟩
 obtain ⟨n3, hn3⟩ : ∃ n, s.links.length = n := ⟨_, rfl⟩
 rw [hn1, hn2, hn3] at HNe0;rw [hn1, hn2, hn3];clear hn1 hn2 hn3 hR hw;obtain ⟨V1, hV1⟩ : ∃ X, (w.alloc (.cells #[.slice rA n1 rc, .slice zA n2 zc, .slice lA n3 lc] 26)) = X := ⟨_, rfl⟩
 obtain ⟨gA, hgA⟩ : ∃ q, w.heap.size = q := ⟨_, rfl⟩
 have hbn : Below w.heap.size w V1 := by rw [← hV1]; exact (Below.refl _ _).alloc (Nat.le_refl _) _
 have hAA : At V1 gA [.slice rA n1 rc, .slice zA n2 zc, .slice lA n3 lc] := by
  have h := (At.new w #[.slice rA n1 rc, .slice zA n2 zc, .slice lA n3 lc] 26)
  rw [hV1] at h
  try rw [hgA] at h
  exact h
 have geA : w.heap.size ≤ gA := by have := (Below.refl w.heap.size w).size; omega
 have hBz := below_then (Below.refl w.heap.size w) hbn;have HB := Lib.hid hBz;clear hBz;have HAA := Lib.hid hAA;have HEV1 := Lib.hid hV1;have HGgA := Lib.hid hgA;clear hbn hV1 hgA hAA;have HNe := Lib.hid (HNe0.out _ HB.out);clear HNe0;have A0 := HAA.out.cell 0 _ rfl;have A1 := HAA.out.cell 1 _ rfl;have A2 := HAA.out.cell 2 _ rfl;have zA := HAA.out.lt;go_enter Tryz.func12, Tryz.ntmps12
 go_upto_region 1 with fail
 rw [HEV1.out]
 try rw [HGgA.out]
 go_wp2_with fail
 clear A0 A1 A2 zA;refine HNe.out.mono ?_;rintro e V2 ⟨he, hb⟩;have hBz := below_then HB.out hb;clear HB;have HB := Lib.hid hBz;clear hBz;have hAz := HAA.out.call hb;clear HAA;have HAA := Lib.hid hAz;clear hAz;clear hb;rcases he with rfl | ⟨rfl, hf⟩
 ·have HF : Hid (Cp.Near s lo hi w (.returned (.int .i64 0)) V2) := ⟨.inl rfl, HB.out⟩
  go_wp2;go_ret
  exact HF.out
 have HFw := Lib.hid hf;clear hf;have hc : (2098 < hi) ∨ (¬ 2098 < hi ∧ lo < 1500) ∨ (¬ 2098 < hi ∧ ¬ lo < 1500 ∧ 30 < hi - lo) ∨ (¬ 2098 < hi ∧ ¬ lo < 1500 ∧ ¬ 30 < hi - lo) := by omega
 have HF0 : Hid (Cp.Near s lo hi w (.returned (.int .i64 0)) V2) := ⟨.inl rfl, HB.out⟩
 rcases hc with p1 | ⟨p1, p2⟩ | ⟨p1, p2, p3⟩ | ⟨p1, p2, p3⟩
 ·go_wp2;go_ret
  exact HF0.out
 ·go_wp2;go_ret
  exact HF0.out
 ·go_wp2;go_ret
  exact HF0.out
 ·by_cases hw1 : hi - lo < -9223372036854775808
  ·have u1 : wrap64 (hi - lo) = hi - lo + 18446744073709551616 := by unfold wrap64; omega
   have u2 : IntKind.i64.wrap (hi - lo) = hi - lo + 18446744073709551616 := by rw [IntKind.wrap_i64]; omega
   have HF1 : Hid (Cp.Near s lo hi w (.returned (.int .i64 1)) V2) := ⟨.inr ⟨rfl, HFw.out, by omega, by omega, fun h => by omega⟩, HB.out⟩
   obtain ⟨q, hq⟩ : ∃ q, hi - lo + 18446744073709551616 = q := ⟨_, rfl⟩
   rw [hq] at u1 u2;clear hq hw1 p3
   by_cases u3 : 30 < q
   ·go_wp2;go_ret
    exact HF0.out
   ·go_wp2;go_ret
    exact HF1.out
  ·have HF1 : Hid (Cp.Near s lo hi w (.returned (.int .i64 1)) V2) := ⟨.inr ⟨rfl, HFw.out, by omega, by omega, fun _ => by omega⟩, HB.out⟩
   go_wp2;go_ret
   exact HF1.out
end Go.Proofs.YtjobhjemnmleaaaGreatDoor
namespace Go.Proofs.YtjobhjemnmleaaaGreatDoor
open Go.RowKit
theorem i64_range {z : Int} (h : (Lit.int .i64 z).wf = true) : -9223372036854775808 ≤ z ∧ z ≤ 9223372036854775807 := by
 simpa [Lit.wf, IntKind.min, IntKind.max, IntKind.signed, IntKind.bits] using h
end Go.Proofs.YtjobhjemnmleaaaGreatDoor
