/- hive.Check of any hive. -/
import Derived.Test.YtmnolcjmnddbnaaGreatDoorP04
import Derived.Test.YtmnolcjmnddbnaaGreatDoorP10
import Derived.Test.YtmnolcjmnddbnaaGreatDoorP01
import Derived.Shelf.Abstract
import Derived.Deep.QuietTactic
import Derived.Test.YtmnolcjmnddbnaaGreatDoorP09
import Derived.Test.YtmnolcjmnddbnaaGreatDoorP06
import Derived.Test.YtmnolcjmnddbnaaGreatDoorP07
import Derived.Lib.SliceRun

namespace Go.Proofs.YtmnolcjmnddbnaaGreatDoor
open Go.RowKit

set_option maxHeartbeats 4000000 in
set_option maxRecDepth 100000 in
theorem hvCheck_any (l : List Hv.K) (hl : ∀ k ∈ l, k.Ok) (A : Option Addr) (n c : Nat) (evs : List Value) (w : World) (hn : l.length = n) (hnm : n ≤ maxLen) (hr : Hv.HR w w.heap.size l (.slice A n c) evs) (hW : Wl w) :
    Calls Tryz.prog 30 #[.agg #[.slice A n c]] w fun e w' => e = .returned (.int .i64 (if Hv.hiveB l = true then 0 else 2)) ∧ Below w.heap.size w w' := by
  have hmk := Hv.make_set (n : Int)
  obtain ⟨X, hX⟩ : ∃ X : Int, (if Hv.hiveB l = true then (0 : Int) else 2) = X := ⟨_, rfl⟩
  rw [hX]
  unfold Hv.hiveB at hX
  rw [hn] at hX
  have HR := Lib.hid hr
  have HN := Lib.hid hn
  have HO := Lib.hid hl
  have HX := Lib.hid hX
  have HW := Lib.hid hW
  unfold maxLen at hnm
  obtain ⟨W0, hW0⟩ : ∃ W, w.alloc (.cells #[.slice A n c] 36) = W := ⟨_, rfl⟩
  have HB0 : Hid (Below w.heap.size w W0) := by show Below _ _ _; rw [← hW0]; exact Hv.bl1 _ _
  have HA0 : Hid (At W0 w.heap.size [.slice A n c]) := by show At _ _ _; rw [← hW0]; exact At.new _ _ _
  have a0 := HA0.out.cell 0 _ rfl
  have hlt0 := HA0.out.lt
  have HW0 := Lib.hid hW0
  clear hW0 hX hr hn hl hW
  go_enter Tryz.func30, Tryz.ntmps30
  by_cases hn5 : n ≤ 4096
  case neg =>
    have p5 : (4096 : Int) < (n : Int) := by omega
    have HE : Hid (X = 2) := by show X = 2; rw [← HX.out, decide_eq_false hn5]; rfl
    go_wp2_with fail
    rw [HW0.out]
    go_wp2
    go_ret
    exact ⟨by rw [HE.out]; rfl, HB0.out⟩
  have p5 : ¬ (4096 : Int) < (n : Int) := by omega
  have hx := HX.out
  rw [decide_eq_true hn5, Bool.true_and] at hx
  have HX := Lib.hid hx
  obtain ⟨bm, hbm⟩ : ∃ b, W0.heap.size = b := ⟨_, rfl⟩
  obtain ⟨W2, hW2⟩ : ∃ W, W0.alloc (.map #[] 0) = W := ⟨_, rfl⟩
  have HB2 : Hid (Below w.heap.size w W2) := by show Below _ _ _; rw [← hW2]; exact Hv.bl HB0.out _
  have HM2 : Hid (MapF Tryz.prog 9 W2 bm 0 (Hv.sf [])) := by show MapF _ _ _ _ _ _; rw [← hW2, ← hbm]; exact MapF.made W0
  have HBm : Hid (w.heap.size ≤ bm) := by show _ ≤ _; rw [← hbm]; exact HB0.out.size
  have HW2 : Hid ((w.alloc (.cells #[.slice A n c] 36)).alloc (.map #[] 0) = W2) := by show _ = _; rw [HW0.out]; exact hW2
  have HBq : Hid (w.heap.size + 1 = bm) := by show _ = _; rw [← hbm, ← HW0.out]; simp
  clear hW2 hbm hx
  go_wp2_with fail
  rw [HW2.out, HBq.out]
  clear hmk a0 hlt0
  go_loopw [19] (fun i wr => ∃ k : Nat, k ≤ n ∧ i = .int .i64 (k : Int) ∧ Hid (Below w.heap.size w wr) ∧ Hid (MapF Tryz.prog 9 wr bm k (Hv.sf (Hv.paths (l.take k)))) ∧ Hid ((if Hv.keysB (Hv.paths (l.take k)) (l.drop k) = true then (0 : Int) else 2) = X)) (fun i _ => n - (intOf i).toNat)
  case atStart => exact ⟨0, Nat.zero_le _, rfl, HB2.out, HM2.out, HX.out⟩
  case round =>
    obtain ⟨k, hk, rfl, HB, HM, HV⟩ := hrel
    by_cases hlt : k < n
    · have q1 : (0 : Int) ≤ (k : Int) := by omega
      have q2 : (k : Int) < (n : Int) := by omega
      obtain ⟨ad, x, vA, m, vc, rfl, hab, Hx, c0, c1, HVl, hv1, hv2, HRv⟩ := (HR.out.below HB.out).at_ HN.out hlt
      have hxo := HO.out x (List.mem_of_getElem? Hx.out)
      have h1 := hxo.path
      have hv := HV.out
      rw [Hv.drop_next Hx.out] at hv
      unfold Hv.keysB at hv
      obtain ⟨pt, vs⟩ := x
      simp only at c0 c1 h1 hv HVl HRv
      have hm : m ≤ maxLen := by omega
      have HCk : Hid (∀ W, Below wr.heap.size wr W → Calls Tryz.prog 52 #[.agg #[.string pt, .slice vA m vc]] W fun e w' => e = .returned (.bool (Hv.keyB ⟨pt, vs⟩)) ∧ Below W.heap.size W w') := fun W hb => hvKey_any pt h1 vs hxo.vals vA m vc W HVl.out hm (((HRv.out.more HB.out.size).below hb).more hb.size) (HW.out.below (below_then HB.out hb))
      obtain ⟨vb, hvb⟩ : ∃ b, Hv.keyB ⟨pt, vs⟩ = b := ⟨_, rfl⟩
      rw [hvb] at hv HCk
      have HT := Lib.hid (Hv.paths_next Hx.out)
      obtain ⟨W3, hW3⟩ : ∃ W, wr.alloc (.cells #[.string pt, .slice vA m vc] 44) = W := ⟨_, rfl⟩
      have HB3r : Hid (Below wr.heap.size wr W3) := by show Below _ _ _; rw [← hW3]; exact Hv.bl1 _ _
      have HB3 : Hid (Below w.heap.size w W3) := by show Below _ _ _; rw [← hW3]; exact Hv.bl HB.out _
      have HM3 : Hid (MapF Tryz.prog 9 W3 bm k (Hv.sf (Hv.paths (l.take k)))) := by show MapF _ _ _ _ _ _; rw [← hW3]; exact HM.out.alloc _
      have HA3 : Hid (At W3 wr.heap.size [.string pt, .slice vA m vc]) := by show At _ _ _; rw [← hW3]; exact At.new _ _ _
      have HW3 := Lib.hid hW3
      have hkm : k < maxLen := by unfold maxLen; omega
      clear hW3 hvb hxo hv1 hv2
      go_wp2_with fail
      rw [HW3.out]
      go_wp2_with fail
      refine (HCk.out _ HB3r.out).mono ?_
      rintro e w4 ⟨rfl, hb4⟩
      have HB4 := Lib.hid (below_then HB3.out hb4)
      have HM4 := Lib.hid (HM3.out.below hb4)
      have HA4 := Lib.hid (HA3.out.call hb4)
      have d0 := HA4.out.cell 0 _ rfl
      have hlt4 := HA4.out.lt
      clear hb4 c0 c1 HCk HW3 HA3 HB3 HM3
      cases vb with
      | false =>
        have HE : Hid (X = 2) := by show X = 2; rw [← hv]; rfl
        go_wp2
        go_ret
        exact ⟨by rw [HE.out]; rfl, HB4.out⟩
      | true =>
        rw [Bool.true_and] at hv
        obtain ⟨N, hN⟩ : ∃ N, Hv.paths (l.take k) = N := ⟨_, rfl⟩
        rw [hN] at hv HM4 HT
        by_cases hin : pt ∈ N
        · have hq := Hv.has_iff.2 hin
          rw [hq] at hv
          have HE : Hid (X = 2) := by show X = 2; rw [← hv]; rfl
          have HB5 := Lib.hid (Hv.bl HB4.out (.cells #[] 99))
          clear hin hN hv
          go_wp2_with (at_lookup; refine Hv.look_set _ rfl _ _ bm k _ pt h1 rfl rfl rfl HM4.out true hq ?_)
          go_ret
          exact ⟨by rw [HE.out]; rfl, HB5.out⟩
        · have hq := Hv.has_not hin
          rw [hq, Bool.not_false, Bool.true_and] at hv
          have HB5 := Lib.hid (Hv.bl HB4.out (.cells #[] 99))
          have HM5 := Lib.hid (HM4.out.alloc (.cells #[] 99))
          have HV2 := Lib.hid hv
          clear hin hN hv
          go_wp2_with (first | (at_lookup; refine Hv.look_set _ rfl _ _ bm k _ pt h1 rfl rfl rfl HM4.out false hq ?_) | (at_mapUpdate; refine Hv.store_set _ rfl _ _ _ bm k _ pt h1 hkm rfl rfl rfl rfl HM5.out ?_; intro w6 hM6 hg6; have HM6 := Lib.hid hM6; have HB6 := Lib.hid (HB5.out.grown hg6 HB5.out.size (fun j e => by cases e; exact HBm.out)); clear hM6 hg6))
          go_roundw
          case rel => exact ⟨k + 1, by omega, by go_num, HB6.out, by show MapF _ _ _ _ _ _; rw [HT.out]; exact HM6.out, by show (if Hv.keysB _ _ = true then (0 : Int) else 2) = X; rw [HT.out]; exact HV2.out⟩
          case measure => simp [intOf]; omega
    · have q2 : ¬ (k : Int) < (n : Int) := by omega
      have HE : Hid (X = 0) := by
        show X = 0
        rw [← HV.out, List.drop_eq_nil_of_le (by rw [HN.out]; omega)]
        rfl
      go_wp2
      go_ret
      exact ⟨by rw [HE.out]; rfl, HB.out⟩
end Go.Proofs.YtmnolcjmnddbnaaGreatDoor

/- emit.Value: a value's lines. -/
namespace Go.Proofs.YtmnolcjmnddbnaaGreatDoor
open Go.RowKit

/-- What the world says: no text is longer than may be, and the library's table. -/
structure Wg (w : World) : Prop where
  l : Wl w
  h : Wh w
theorem Wg.below {w w' : World} (h : Wg w) (hb : Below w.heap.size w w') : Wg w' := ⟨h.l.below hb, h.h.below hb⟩
theorem Wh.lt {w : World} (h : Wh w) : 7 < w.heap.size := block_lt_of_cell h.t
theorem write_any (g : Nat) (L : Em.Txt) (nm : ByteArray) (kd : Int) (tx : ByteArray) (nu : Int) (by_ : ByteArray) (hv : Hv.valB ⟨nm, kd, tx, nu, by_⟩ = true) (ho : Hv.V.Ok ⟨nm, kd, tx, nu, by_⟩) (w : World) (hI : Em.IsB w g L) (hL : L.length ≤ 10000000000000) (hW : Wh w) (hgt : 7 < g) :
    Calls Tryz.prog 15 #[.pointer (some ⟨g, 0, none⟩), .agg #[.string nm, .int .u8 kd, .string tx, .int .u32 nu, .string by_]] w fun e w' => e = .returned (.tuple #[]) ∧ Em.IsB w' g (L ++ Em.val ⟨nm, kd, tx, nu, by_⟩) ∧ Below g w w' := by
  obtain ⟨h1, h2, h3, h4, _⟩ := Em.val_small hv
  simp only at h1 h2 h3 h4
  rcases h4 with rfl | rfl | rfl
  · exact write_text g L nm tx by_ nu h1 h2 h3 w hI hL
  · obtain ⟨n, rfl⟩ : ∃ n : Nat, nu = (n : Int) := ⟨nu.toNat, by have := ho.n0; simp only at this; omega⟩
    exact write_num g L nm tx by_ n (by have := ho.n1; simp only at this; omega) h1 h2 h3 w hW hgt hI hL
  · exact write_bytes g L nm tx by_ nu h1 h2 h3 w hI hL
set_option maxHeartbeats 4000000 in
set_option maxRecDepth 100000 in
theorem emValue_any (nm : ByteArray) (kd : Int) (tx : ByteArray) (nu : Int) (by_ : ByteArray) (ho : Hv.V.Ok ⟨nm, kd, tx, nu, by_⟩) (w : World) (hW : Wg w) :
    Calls Tryz.prog 5 #[.agg #[.string nm, .int .u8 kd, .string tx, .int .u32 nu, .string by_]] w fun e w' => e = .returned (if Hv.valB ⟨nm, kd, tx, nu, by_⟩ = true then .tuple #[.string (Em.bts (Em.val ⟨nm, kd, tx, nu, by_⟩)), .int .i64 0] else .tuple #[.string ⟨#[]⟩, .int .i64 2]) ∧ Below w.heap.size w w' := by
  have HC := Lib.hid fun W => hvValue_any ⟨nm, kd, tx, nu, by_⟩ ho W
  obtain ⟨X, hX⟩ : ∃ X : Value, (if Hv.valB ⟨nm, kd, tx, nu, by_⟩ = true then Value.tuple #[.string (Em.bts (Em.val ⟨nm, kd, tx, nu, by_⟩)), .int .i64 0] else .tuple #[.string ⟨#[]⟩, .int .i64 2]) = X := ⟨_, rfl⟩
  rw [hX]
  obtain ⟨W1, hW1⟩ : ∃ W, w.alloc (.cells #[.string nm, .int .u8 kd, .string tx, .int .u32 nu, .string by_] 25) = W := ⟨_, rfl⟩
  have hA1 : At W1 w.heap.size [.string nm, .int .u8 kd, .string tx, .int .u32 nu, .string by_] := by rw [← hW1]; exact At.new _ _ _
  have hB1 : Below w.heap.size w W1 := by rw [← hW1]; exact Hv.bl1 _ _
  have HA1 := Lib.hid hA1
  have HB1 := Lib.hid hB1
  have HW1 := Lib.hid hW1
  have HW := Lib.hid hW
  have HO := Lib.hid ho
  clear hA1 hB1 hW1 hW ho
  cases hv : Hv.valB ⟨nm, kd, tx, nu, by_⟩ with
  | false =>
    rw [hv] at hX HC
    have HE := Lib.hid hX
    clear hX hv
    go_enter Tryz.func5, Tryz.ntmps5
    go_wp2_with fail
    rw [HW1.out]
    refine (HC.out _).mono ?_
    rintro e w2 ⟨rfl, hb⟩
    have HB2 := Lib.hid (below_then HB1.out hb)
    clear hb
    go_wp2
    go_ret2
    exact ⟨by rw [← HE.out]; rfl, HB2.out⟩
  | true =>
    have hl2 := Em.val_len2 hv
    rw [hv] at hX HC
    have HE := Lib.hid hX
    have HV := Lib.hid hv
    have HLn := Lib.hid hl2
    clear hX hv hl2
    go_enter Tryz.func5, Tryz.ntmps5
    go_wp2_with fail
    rw [HW1.out]
    refine (HC.out _).mono ?_
    rintro e w2 ⟨rfl, hb⟩
    have HB2 := Lib.hid (below_then HB1.out hb)
    have hA2 := HA1.out.call hb
    have hhl := hA2.lt
    have c0 := hA2.cell 0 _ rfl
    have c1 := hA2.cell 1 _ rfl
    have c2 := hA2.cell 2 _ rfl
    have c3 := hA2.cell 3 _ rfl
    have c4 := hA2.cell 4 _ rfl
    obtain ⟨g, hg⟩ : ∃ g, w2.heap.size = g := ⟨_, rfl⟩
    obtain ⟨W3, hW3⟩ : ∃ W, w2.alloc (.cells #[.pointer none, .slice none 0 0] 54) = W := ⟨_, rfl⟩
    have hI3 : Em.IsB W3 g [] := by rw [← hW3, ← hg]; exact Lib.IsBuilderF.of (Lib.fresh_isBuilder _ _ w2)
    have hB3 : Below w.heap.size w W3 := by rw [← hW3]; exact Hv.bl HB2.out _
    have HG := Lib.hid hg
    have HW3 := Lib.hid hW3
    have HI3 := Lib.hid hI3
    have HB3 := Lib.hid hB3
    have HGw : Hid (w.heap.size ≤ g) := by show _ ≤ _; rw [← hg]; exact HB2.out.size
    clear hb hA2 hg hW3 hI3 hB3
    go_wp2_with fail
    rw [HW3.out, HG.out]
    refine (write_any g [] nm kd tx nu by_ HV.out HO.out W3 HI3.out (by simp) (HW.out.below HB3.out).h (by have := HW.out.h.lt; have := HGw.out; omega)).mono ?_
    rintro e w4 ⟨rfl, hI, hb⟩
    have HI4 := Lib.hid hI
    have HB4 := Lib.hid (HB3.out.trans (hb.mono HGw.out))
    clear hI hb c0 c1 c2 c3 c4 hhl
    go_wp2_with fail
    refine (Tryz.Builder_String_any_k g g _ w4 HI4.out (Nat.le_of_lt HI4.out.lt)).mono ?_
    rintro e w5 ⟨rfl, _, hb, _⟩
    have HB5 := Lib.hid (HB4.out.trans (hb.mono HGw.out))
    clear hb
    go_wp2
    go_ret2
    exact ⟨by rw [← HE.out]; rfl, HB5.out⟩
end Go.Proofs.YtmnolcjmnddbnaaGreatDoor

/- emit.Text: a hive's text. -/
namespace Go.Proofs.YtmnolcjmnddbnaaGreatDoor
open Go.RowKit

namespace Em
theorem keyHead_eq (p : ByteArray) : tl ((⟨#[10, 91]⟩ : ByteArray) ++ p ++ ⟨#[93, 10]⟩) = [10, 91] ++ tl p ++ [93, 10] := by
  unfold tl
  simp
theorem vals_take {l : List Hv.V} {k : Nat} {v : Hv.V} (h : l[k]? = some v) : vals (l.take (k + 1)) = vals (l.take k) ++ (val v ++ [10]) := by rw [Hv.take_next h, vals_snoc]
theorem text_take {l : List Hv.K} {k : Nat} {v : Hv.K} (h : l[k]? = some v) : text (l.take (k + 1)) = text (l.take k) ++ key v := by rw [Hv.take_next h, text_snoc]
theorem text_len_take (l : List Hv.K) (k : Nat) (h : ∀ x ∈ l, Hv.keyB x = true) (hn : l.length ≤ 4096) : (text (l.take k)).length ≤ 700000000000 := by
  have h1 := text_len (l.take k) fun x hx => h x (List.mem_of_mem_take hx)
  rw [List.length_take] at h1
  omega
theorem vals_len_take (l : List Hv.V) (k : Nat) (h : ∀ x ∈ l, Hv.valB x = true) (hn : l.length ≤ 512) : (vals (l.take k)).length ≤ 160000000 := by
  have h1 := vals_len (l.take k) fun x hx => h x (List.mem_of_mem_take hx)
  rw [List.length_take] at h1
  omega
theorem hive_parts {l : List Hv.K} (h : Hv.hiveB l = true) : l.length ≤ 4096 ∧ ∀ k ∈ l, Hv.keyB k = true := by
  unfold Hv.hiveB at h
  rw [Bool.and_eq_true, decide_eq_true_eq] at h
  exact ⟨h.1, keysB_all l [] h.2⟩
end Em
set_option maxHeartbeats 4000000 in
set_option maxRecDepth 100000 in
theorem emText_any (l : List Hv.K) (hl : ∀ k ∈ l, k.Ok) (A : Option Addr) (n c : Nat) (evs : List Value) (w : World) (hn : l.length = n) (hnm : n ≤ maxLen) (hr : Hv.HR w w.heap.size l (.slice A n c) evs) (hW : Wg w) :
    Calls Tryz.prog 12 #[.agg #[.slice A n c]] w fun e w' => e = .returned (if Hv.hiveB l = true then .tuple #[.string (Em.bts (Em.text l)), .int .i64 0] else .tuple #[.string ⟨#[]⟩, .int .i64 2]) ∧ Below w.heap.size w w' := by
  have HC : Hid (∀ W, Below w.heap.size w W → Calls Tryz.prog 30 #[.agg #[.slice A n c]] W fun e w' => e = .returned (.int .i64 (if Hv.hiveB l = true then 0 else 2)) ∧ Below W.heap.size W w') := fun W hb => hvCheck_any l hl A n c evs W hn hnm ((hr.below hb).more hb.size) (hW.l.below hb)
  obtain ⟨X, hX⟩ : ∃ X : Value, (if Hv.hiveB l = true then Value.tuple #[.string (Em.bts (Em.text l)), .int .i64 0] else .tuple #[.string ⟨#[]⟩, .int .i64 2]) = X := ⟨_, rfl⟩
  rw [hX]
  obtain ⟨W1, hW1⟩ : ∃ W, w.alloc (.cells #[.slice A n c] 36) = W := ⟨_, rfl⟩
  have hA1 : At W1 w.heap.size [.slice A n c] := by rw [← hW1]; exact At.new _ _ _
  have hB1 : Below w.heap.size w W1 := by rw [← hW1]; exact Hv.bl1 _ _
  have HA1 := Lib.hid hA1
  have HB1 := Lib.hid hB1
  have HW1 := Lib.hid hW1
  have HW := Lib.hid hW
  have HO := Lib.hid hl
  have HN := Lib.hid hn
  have HR := Lib.hid hr
  unfold maxLen at hnm
  clear hA1 hB1 hW1 hW hl hn hr
  cases hv : Hv.hiveB l with
  | false =>
    rw [hv] at hX HC
    have HE := Lib.hid hX
    clear hX hv
    go_enter Tryz.func12, Tryz.ntmps12
    go_wp2_with fail
    rw [HW1.out]
    refine (HC.out _ HB1.out).mono ?_
    rintro e w2 ⟨rfl, hb⟩
    have HB2 := Lib.hid (below_then HB1.out hb)
    clear hb
    go_wp2
    go_ret2
    exact ⟨by rw [← HE.out]; rfl, HB2.out⟩
  | true =>
    obtain ⟨hp1, hp2⟩ := Em.hive_parts hv
    rw [hv] at hX HC
    have HE := Lib.hid hX
    have HP2 := Lib.hid hp2
    have HTl := Lib.hid (fun k => Em.text_len_take l k hp2 hp1)
    rw [HN.out] at hp1
    clear hX hv hp2
    go_enter Tryz.func12, Tryz.ntmps12
    go_wp2_with fail
    rw [HW1.out]
    refine (HC.out _ HB1.out).mono ?_
    rintro e w2 ⟨rfl, hb⟩
    have HB2 := Lib.hid (below_then HB1.out hb)
    have hA2 := HA1.out.call hb
    obtain ⟨g, hg⟩ : ∃ g, w2.heap.size = g := ⟨_, rfl⟩
    obtain ⟨W3, hW3⟩ : ∃ W, w2.alloc (.cells #[.pointer none, .slice none 0 0] 54) = W := ⟨_, rfl⟩
    have hI3 : Em.IsB W3 g [] := by rw [← hW3, ← hg]; exact Lib.IsBuilderF.of (Lib.fresh_isBuilder _ _ w2)
    have hB3 : Below w.heap.size w W3 := by rw [← hW3]; exact Hv.bl HB2.out _
    have hgw : w.heap.size < g := by rw [← hg]; exact hA2.lt
    have HA3 : Hid (At W3 w.heap.size [.slice A n c]) := by show At _ _ _; rw [← hW3]; exact hA2.allocO _
    have HG := Lib.hid hg
    have HW3 := Lib.hid hW3
    have HI3 := Lib.hid hI3
    have HB3 := Lib.hid hB3
    have HGw : Hid (w.heap.size ≤ g) := Nat.le_of_lt hgw
    have HGt : Hid (7 < g) := by show _ < _; have := HW.out.h.lt; omega
    clear hb hA2 hg hW3 hI3 hB3
    go_wp2_with fail
    rw [HW3.out, HG.out]
    refine (Em.putS (l := []) ⟨#[82, 69, 71, 73, 83, 84, 69, 82, 32, 49, 10]⟩ HI3.out (by simp) (by decide)).mono ?_
    rintro e w4 ⟨rfl, hI, hb, _⟩
    have HI4 : Hid (Em.IsB w4 g (Em.text (l.take 0))) := hI
    have HB4 := Lib.hid (HB3.out.trans (hb.mono HGw.out))
    have hA4 := HA3.out.below hb hgw
    have a0 := hA4.cell 0 _ rfl
    have hal := hA4.lt
    clear hI hb hA4
    go_wp2_with fail
    go_loopw [16] (fun i wr => ∃ k : Nat, k ≤ n ∧ i = .int .i64 (k : Int) ∧ Hid (Em.IsB wr g (Em.text (l.take k))) ∧ Hid (Below w.heap.size w wr)) (fun i _ => n - (intOf i).toNat)
    case atStart => exact ⟨0, Nat.zero_le _, rfl, HI4.out, HB4.out⟩
    case round =>
      clear a0 hal
      obtain ⟨k, hk, rfl, HI, HB⟩ := hrel
      by_cases hlt : k < n
      · have q1 : (0 : Int) ≤ (k : Int) := by omega
        have q2 : (k : Int) < (n : Int) := by omega
        obtain ⟨ad, x, vA, m, vc, rfl, hab, Hx, c0, c1, HVl, hv1, hv2, HRv⟩ := (HR.out.below HB.out).at_ HN.out hlt
        have hxm := List.mem_of_getElem? Hx.out
        have hkp := Em.key_parts (HP2.out x hxm)
        have hxo := HO.out x hxm
        have HT := Lib.hid (Em.text_take Hx.out)
        obtain ⟨pt, vs⟩ := x
        simp only at c0 c1 HVl HRv
        obtain ⟨hk1, hk2, hk3⟩ := hkp
        simp only at hk1 hk2 hk3
        have HVs := Lib.hid hk3
        have HVo := Lib.hid hxo.vals
        have hm5 : m ≤ 512 := by rw [← HVl.out]; exact hk2
        have HLt := Lib.hid (HTl.out k)
        have HVt := Lib.hid (fun j => Em.vals_len_take vs j hk3 hk2)
        obtain ⟨W5, hW5⟩ : ∃ W, wr.alloc (.cells #[.string pt, .slice vA m vc] 44) = W := ⟨_, rfl⟩
        have HB5 : Hid (Below w.heap.size w W5) := by show Below _ _ _; rw [← hW5]; exact Hv.bl HB.out _
        have HI5 : Hid (Em.IsB W5 g (Em.text (l.take k))) := by show Em.IsB _ _ _; rw [← hW5]; exact HI.out.call (Hv.bl1 _ _)
        have hA5 : At W5 wr.heap.size [.string pt, .slice vA m vc] := by rw [← hW5]; exact At.new _ _ _
        have HA5 := Lib.hid hA5
        have HRv5 : Hid (Reads W5 w.heap.size 5 vA m (vs.flatMap Hv.V.cells)) := by
          show Reads _ _ _ _ _ _
          rw [← hW5]
          exact HRv.out.below ((Hv.bl1 wr _).mono HB.out.size)
        have HW5 := Lib.hid hW5
        have hgr := HI.out.lt
        obtain ⟨P, hP⟩ : ∃ P : ByteArray, (⟨#[10, 91]⟩ : ByteArray) ++ pt ++ ⟨#[93, 10]⟩ = P := ⟨_, rfl⟩
        have hPs : P.size ≤ 300 := by rw [← hP]; simp; show 2 + pt.size + 2 ≤ 300; omega
        have hPt : tl P = [10, 91] ++ tl pt ++ [93, 10] := by rw [← hP]; exact Em.keyHead_eq pt
        have s1 : ∀ W, (Op.stringOp .add ⟨#[10, 91]⟩ pt).run Tryz.prog W = .ok (.string (⟨#[10, 91]⟩ ++ pt)) W := fun W => run_string_add_sum W _ _ (by have : (⟨#[10, 91]⟩ : ByteArray).size = 2 := rfl; omega)
        have s2 : ∀ W, (Op.stringOp .add (⟨#[10, 91]⟩ ++ pt) ⟨#[93, 10]⟩).run Tryz.prog W = .ok (.string P) W := fun W => by
          rw [← hP]
          exact run_string_add_sum W _ _ (by rw [ByteArray.size_append]; have h1 : (⟨#[10, 91]⟩ : ByteArray).size = 2 := rfl; have h2 : (⟨#[93, 10]⟩ : ByteArray).size = 2 := rfl; omega)
        have HPs := Lib.hid hPs
        have HPt := Lib.hid hPt
        clear hW5 hA5 hxm hxo hk3 hk2 hk1 hP hPs hPt
        go_wp2_with fail
        rw [HW5.out]
        refine (Em.putS P HI5.out (by have := HLt.out; omega) (by have := HPs.out; omega)).mono ?_
        rintro e w6 ⟨rfl, hI, hb, ho⟩
        have HB6 := Lib.hid (HB5.out.trans (hb.mono HGw.out))
        have hA6 : At w6 wr.heap.size [.string pt, .slice vA m vc] := by
          have hbk : Em.Blk W5 wr.heap.size #[.string pt, .slice vA m vc] 44 := by rw [← HW5.out]; exact Em.Blk.new _ _ _
          exact (hbk.others ho (by omega) (by decide)).at_
        have d1 := hA6.cell 1 _ rfl
        have dl := hA6.lt
        have HRv6 : Hid (Reads w6 w.heap.size 5 vA m (vs.flatMap Hv.V.cells)) := HRv5.out.below (hb.mono HGw.out)
        have HI6 : Hid (Em.IsB w6 g (Em.text (l.take k) ++ Em.keyHead ⟨pt, vs⟩ ++ Em.vals (vs.take 0))) := by
          show Em.IsB _ _ _
          rw [HPt.out] at hI
          have e : Em.text (l.take k) ++ Em.keyHead ⟨pt, vs⟩ ++ Em.vals (vs.take 0) = Em.text (l.take k) ++ ([10, 91] ++ tl pt ++ [93, 10]) := by
            show _ ++ _ ++ [] = _
            rw [List.append_nil]
            rfl
          rw [e]
          exact hI
        clear hI hb ho hA6 c0 c1 HA5 HRv5 HRv HI5 HB5 s1 s2
        go_wp2_with fail
        clear d1 dl
        go_loopw [28] (fun i wi => ∃ j : Nat, j ≤ m ∧ i = .int .i64 (j : Int) ∧ Hid (Em.IsB wi g (Em.text (l.take k) ++ Em.keyHead ⟨pt, vs⟩ ++ Em.vals (vs.take j))) ∧ Hid (Below w.heap.size w wi) ∧ Hid (Below w.heap.size w6 wi)) (fun i _ => m - (intOf i).toNat)
        case atStart => exact ⟨0, Nat.zero_le _, rfl, HI6.out, HB6.out, Below.refl _ _⟩
        case round =>
          obtain ⟨j, hj, rfl, HIi, HBi, HBj⟩ := hrel
          by_cases hlj : j < m
          · have q3 : (0 : Int) ≤ (j : Int) := by omega
            have q4 : (j : Int) < (m : Int) := by omega
            obtain ⟨ad2, y, rfl, hab2, Hy, e0, e1, e2, e3, e4⟩ := Hv.val_at (HRv6.out.below HBj.out) HVl.out hlj
            have hym := List.mem_of_getElem? Hy.out
            have hyo := HVo.out y hym
            have hyb := HVs.out y hym
            have HTv := Lib.hid (Em.vals_take Hy.out)
            obtain ⟨nm, kd, tx, nu, by_⟩ := y
            simp only at e0 e1 e2 e3 e4
            have HYo := Lib.hid hyo
            have HYb := Lib.hid hyb
            have HYl := Lib.hid (Em.val_len2 hyb)
            have hLj := HVt.out j
            have HLen : Hid ((Em.text (l.take k) ++ Em.keyHead ⟨pt, vs⟩ ++ Em.vals (vs.take j)).length ≤ 800000000000) := by
              show _ ≤ _
              have h1 := HLt.out
              have h2 : (Em.keyHead ⟨pt, vs⟩).length ≤ 300 := by
                show ([10, 91] ++ tl pt ++ [93, 10] : Em.Txt).length ≤ 300
                rw [← HPt.out, tl_length]
                exact HPs.out
              rw [List.length_append, List.length_append]
              omega
            obtain ⟨W7, hW7⟩ : ∃ W, wr.alloc (.cells #[.string nm, .int .u8 kd, .string tx, .int .u32 nu, .string by_] 25) = W := ⟨_, rfl⟩
            have HB7 : Hid (Below w.heap.size w W7) := by show Below _ _ _; rw [← hW7]; exact Hv.bl HBi.out _
            have HJ7 : Hid (Below w.heap.size w6 W7) := by show Below _ _ _; rw [← hW7]; exact HBj.out.trans ((Hv.bl1 wr _).mono HBi.out.size)
            have HI7 : Hid (Em.IsB W7 g (Em.text (l.take k) ++ Em.keyHead ⟨pt, vs⟩ ++ Em.vals (vs.take j))) := by show Em.IsB _ _ _; rw [← hW7]; exact HIi.out.call (Hv.bl1 _ _)
            have HW7 := Lib.hid hW7
            clear hym hyo hyb hLj hW7
            go_wp2_with fail
            rw [HW7.out]
            refine (write_any g _ nm kd tx nu by_ HYb.out HYo.out W7 HI7.out (by have := HLen.out; omega) (HW.out.below HB7.out).h HGt.out).mono ?_
            rintro e w8 ⟨rfl, hI, hb⟩
            have HI8 := Lib.hid hI
            have HB8 := Lib.hid (HB7.out.trans (hb.mono HGw.out))
            have HJ8 := Lib.hid (HJ7.out.trans (hb.mono HGw.out))
            clear hI hb e0 e1 e2 e3 e4
            go_wp2_with fail
            refine (Em.putB 10 HI8.out (by rw [List.length_append]; have := HLen.out; have := HYl.out; omega)).mono ?_
            rintro e w9 ⟨rfl, hI, hb, _⟩
            have HI9 : Hid (Em.IsB w9 g (Em.text (l.take k) ++ Em.keyHead ⟨pt, vs⟩ ++ Em.vals (vs.take (j + 1)))) := by
              show Em.IsB _ _ _
              rw [HTv.out, ← List.append_assoc, ← List.append_assoc]
              exact hI
            have HB9 := Lib.hid (HB8.out.trans (hb.mono HGw.out))
            have HJ9 := Lib.hid (HJ8.out.trans (hb.mono HGw.out))
            clear hI hb
            go_wp2
            go_roundw
            case rel => exact ⟨j + 1, by omega, by go_num, HI9.out, HB9.out, HJ9.out⟩
            case measure => simp [intOf]; omega
          · have q4 : ¬ (j : Int) < (m : Int) := by omega
            have HI9 : Hid (Em.IsB wr g (Em.text (l.take (k + 1)))) := by
              show Em.IsB _ _ _
              rw [HT.out]
              have h := HIi.out
              have hT : vs.take j = vs := List.take_of_length_le (by rw [HVl.out]; omega)
              rw [hT, List.append_assoc] at h
              exact h
            go_wp2
            go_roundw
            case rel => exact ⟨k + 1, by omega, by go_num, HI9.out, HBi.out⟩
            case measure => simp [intOf]; omega
      · have q2 : ¬ (k : Int) < (n : Int) := by omega
        have hI := HI.out
        rw [List.take_of_length_le (by rw [HN.out]; omega)] at hI
        have HI9 := Lib.hid hI
        clear hI
        go_wp2_with fail
        refine (Tryz.Builder_String_any_k g g _ _ HI9.out (Nat.le_of_lt HI9.out.lt)).mono ?_
        rintro e w5 ⟨rfl, _, hb, _⟩
        have HB5 := Lib.hid (HB.out.trans (hb.mono HGw.out))
        clear hb
        go_wp2
        go_ret2
        exact ⟨by rw [← HE.out]; rfl, HB5.out⟩
end Go.Proofs.YtmnolcjmnddbnaaGreatDoor

/- hive.Same: two hives that hold the same. -/
namespace Go.Proofs.YtmnolcjmnddbnaaGreatDoor
open Go.RowKit

theorem hvEq_val (a : ByteArray) (k : Int) (b : ByteArray) (n : Int) (c : ByteArray) (w : World) : (Op.equalIn 10000 25 (.agg #[.string a, .int .u8 k, .string b, .int .u32 n, .string c]) (.agg #[.string a, .int .u8 k, .string b, .int .u32 n, .string c])).run Tryz.prog w = .ok true w := by
  go_simp
end Go.Proofs.YtmnolcjmnddbnaaGreatDoor

/- solsticetop.begins18. -/
namespace Go.Proofs.YtmnolcjmnddbnaaGreatDoor
open Go.RowKit

namespace Ink
theorem headT : Em.bts (Lib.join (headL :: lns [It.blank]) [10]) = (⟨#[82, 69, 71, 73, 83, 84, 69, 82, 32, 49, 10]⟩ : ByteArray) := by rfl
theorem empty_fl : Fl [] := ⟨by decide, by decide⟩
end Ink
set_option maxHeartbeats 4000000 in
set_option maxRecDepth 100000 in
theorem begins18 (w : World) (hW : Wg w) : Calls Tryz.prog 4 #[] w fun e w' => e = .returned (.bool true) ∧ Below w.heap.size w w' := by
  have H1 : Hid (∀ W, Below w.heap.size w W → Calls Tryz.prog 8 #[.string ⟨#[82, 69, 71, 73, 83, 84, 69, 82, 32, 49, 10]⟩] W fun e w' => ∃ A c evs, e = .returned (.tuple #[.agg #[.slice A 0 c], .agg #[.int .i64 0, .int .i64 0, .int .i64 0]]) ∧ Hv.HR w' w'.heap.size [] (.slice A 0 c) evs ∧ Below W.heap.size W w') := by
    intro W hb
    have h := inParse_any [.blank] ⟨#[82, 69, 71, 73, 83, 84, 69, 82, 32, 49, 10]⟩ (by rw [← Ink.headT]; exact Em.tl_bts _) (by decide)
      (by
        intro i hi
        obtain rfl := List.mem_singleton.1 hi
        trivial)
      (by
        intro x hx
        have hx : x = [] := by simpa [Ink.lns, Ink.It.ls] using hx
        subst hx
        exact Ink.empty_fl) ⟨trivial, Nat.zero_le _, fun _ _ => trivial⟩ W (hW.l.below hb)
    refine h.mono ?_
    rintro e w' ⟨hb, kv, evs, rfl, hR⟩
    obtain ⟨A, c, rfl, h1, h2, h3⟩ := hR.row
    exact ⟨A, c, evs, rfl, hR, hb⟩
  have H2 : Hid (∀ W, Below w.heap.size w W → ∀ A c evs, Hv.HR W W.heap.size [] (.slice A 0 c) evs → Calls Tryz.prog 12 #[.agg #[.slice A 0 c]] W fun e w' => e = .returned (.tuple #[.string ⟨#[82, 69, 71, 73, 83, 84, 69, 82, 32, 49, 10]⟩, .int .i64 0]) ∧ Below W.heap.size W w') := fun W hb A c evs hR => emText_any [] (fun k hk => by cases hk) A 0 c evs W rfl (Nat.zero_le _) hR (hW.below hb)
  have H3 : Hid (∀ W, Calls Tryz.prog 13 #[.string ⟨#[1]⟩] W fun e w' => e = .returned (.string ⟨#[48, 49]⟩) ∧ Below W.heap.size W w') := fun W => hex_any ⟨#[1]⟩ (by decide) W
  clear hW
  have HB0 := Lib.hid (Below.refl w.heap.size w)
  go_enter Tryz.func4, Tryz.ntmps4
  go_wp2_with fail
  refine (H1.out _ HB0.out).mono ?_
  rintro e w1 ⟨A, c, evs, rfl, hR, hb⟩
  have HR := Lib.hid hR
  have HB1 := Lib.hid hb
  clear hR hb
  go_wp2_with fail
  have HB2 := Lib.hid (Hv.bl (Hv.bl HB1.out (.cells #[.slice A 0 c] 36)) (.cells #[.int .i64 0, .int .i64 0, .int .i64 0] 38))
  have HR2 := Lib.hid (HR.out.call (Hv.bl (Hv.bl1 w1 (.cells #[.slice A 0 c] 36)) (.cells #[.int .i64 0, .int .i64 0, .int .i64 0] 38)))
  have hF := At.new (w1.alloc (.cells #[.slice A 0 c] 36)) #[.int .i64 0, .int .i64 0, .int .i64 0] 38
  rw [World.size_alloc] at hF
  have HF := Lib.hid hF
  clear hF
  refine (H2.out _ HB2.out A c evs HR2.out).mono ?_
  rintro e w3 ⟨rfl, hb⟩
  have HF3 := Lib.hid (HF.out.call hb)
  have HB3 := Lib.hid (below_then HB2.out hb)
  obtain ⟨c0, c1, c2, f0, f1, f2⟩ := HF3.out.three
  have z1 := HF3.out.lt
  clear hb
  go_wp2_with fail
  refine (H3.out _).mono ?_
  rintro e w4 ⟨rfl, hb⟩
  have HB4 := Lib.hid (below_then HB3.out hb)
  clear hb
  go_wp2
  go_ret
  exact ⟨rfl, HB4.out⟩
end Go.Proofs.YtmnolcjmnddbnaaGreatDoor

/- Texts of right hives are put together of parts that can be read in turn. -/
namespace Go.Proofs.YtmnolcjmnddbnaaGreatDoor
open Go.RowKit

namespace Ink
open Em
theorem gr_vals : ∀ (l done : List Hv.V) (st : List Hv.K) (p : ByteArray) (r : List It), Hv.valsB (Hv.names done) l = true → (∀ v ∈ l, v.Ok) → done.length + l.length ≤ 512 → st.length + 1 ≤ 4096 → Gr (st ++ [⟨p, done ++ l⟩]) r → Gr (st ++ [⟨p, done⟩]) (l.map .val ++ r)
  | [], done, st, p, r, _, _, _, _, hg => by
    rw [List.append_nil] at hg
    exact hg
  | v :: l, done, st, p, r, h, ho, hn, hs, hg => by
    unfold Hv.valsB at h
    simp only [Bool.and_eq_true, Bool.not_eq_true'] at h
    have e : step (st ++ [⟨p, done⟩]) (.val v) = .inr (st ++ [⟨p, done ++ [v]⟩]) := by
      unfold step
      simp only [List.getLast?_concat, List.dropLast_concat]
      rw [h.2.1, if_neg (by simp), if_neg (by rw [List.length_cons] at hn; omega)]
    have h2 : Hv.valsB (Hv.names (done ++ [v])) l = true := by rw [names_app]; exact h.2.2
    rw [List.map_cons, List.cons_append]
    refine ⟨⟨h.1, ho v List.mem_cons_self, _, e⟩, by rw [List.length_append]; exact hs, fun st' hst => ?_⟩
    rw [e] at hst
    injection hst with hst
    subst hst
    refine gr_vals l (done ++ [v]) st p r h2 (fun x hx => ho x (List.mem_cons_of_mem _ hx)) (by rw [List.length_append]; rw [List.length_cons] at hn; simp only [List.length_cons, List.length_nil]; omega) hs ?_
    rw [List.append_assoc]
    exact hg
theorem gr_key (k : Hv.K) (st : List Hv.K) (r : List It) (hk : Hv.keyB k = true) (ho : k.Ok) (hn : st.length + 1 ≤ 4096) (hg : Gr (st ++ [k]) r) : Gr st (kits k ++ r) := by
  unfold Hv.keyB at hk
  simp only [Bool.and_eq_true, decide_eq_true_eq] at hk
  have hp := Hv.path_size hk.1
  refine ⟨trivial, by omega, fun st' hst => ?_⟩
  have hst : Sum.inr st = (Sum.inr st' : Int ⊕ List Hv.K) := hst
  injection hst with hst
  subst hst
  refine ⟨⟨by omega, by omega⟩, by omega, fun st' hst => ?_⟩
  by_cases h : Hv.has (Hv.paths st) k.path = true
  · have e : step st (.path k.path) = .inl 8 := by unfold step; simp only; rw [if_pos hk.1, if_pos h]
    rw [e] at hst
    cases hst
  · have e : step st (.path k.path) = .inr (st ++ [⟨k.path, []⟩]) := by unfold step; simp only; rw [if_pos hk.1, if_neg h, if_neg (by omega)]
    rw [e] at hst
    injection hst with hst
    subst hst
    exact gr_vals k.vals [] st k.path r hk.2.2 ho.vals (by simpa using hk.2.1) hn hg
theorem gr_keys : ∀ (l st : List Hv.K) (r : List It), (∀ k ∈ l, Hv.keyB k = true) → (∀ k ∈ l, k.Ok) → st.length + l.length ≤ 4096 → Gr (st ++ l) r → Gr st (its l ++ r)
  | [], st, r, _, _, _, hg => by
    rw [List.append_nil] at hg
    exact hg
  | k :: l, st, r, h, ho, hn, hg => by
    rw [List.length_cons] at hn
    have e : its (k :: l) ++ r = kits k ++ (its l ++ r) := by simp [its]
    rw [e]
    refine gr_key k st _ (h k List.mem_cons_self) (ho k List.mem_cons_self) (by omega) ?_
    refine gr_keys l (st ++ [k]) r (fun x hx => h x (List.mem_cons_of_mem _ hx)) (fun x hx => ho x (List.mem_cons_of_mem _ hx)) (by rw [List.length_append]; simp only [List.length_cons, List.length_nil]; omega) ?_
    rw [List.append_assoc]
    exact hg
theorem gr_two (a b : List Hv.K) (ha : ∀ k ∈ a, Hv.keyB k = true) (hoa : ∀ k ∈ a, k.Ok) (hb : ∀ k ∈ b, Hv.keyB k = true) (hob : ∀ k ∈ b, k.Ok) (hn : a.length + b.length ≤ 4096) : Gr [] (its a ++ its b ++ [.blank]) := by
  rw [List.append_assoc]
  refine gr_keys a [] _ ha hoa (by simp; omega) ?_
  rw [List.nil_append]
  refine gr_keys b a _ hb hob hn ?_
  exact ⟨trivial, by rw [List.length_append]; exact hn, fun _ _ => trivial⟩
theorem path_plain {s : ByteArray} (h : Hv.path s = true) : Te.plain s = true := by
  unfold Hv.path at h
  simp only [Bool.and_eq_true, decide_eq_true_eq] at h
  exact h.2.2.1
theorem vals_all : ∀ (l : List Hv.V) (s : List ByteArray), Hv.valsB s l = true → ∀ v ∈ l, Hv.valB v = true
  | [], _, _, v, hv => by cases hv
  | x :: l, s, h, v, hv => by
    unfold Hv.valsB at h
    simp only [Bool.and_eq_true] at h
    rcases List.mem_cons.1 hv with rfl | hv
    · exact h.1
    · exact vals_all l _ h.2.2 v hv
theorem path_fl {p : ByteArray} (h : ∀ b ∈ tl p, b ≠ 10) : Fl (91 :: (tl p ++ [93])) := by
  refine ⟨fun b hb => ?_, ?_⟩
  · rcases List.mem_cons.1 hb with rfl | hb
    · decide
    · rcases List.mem_append.1 hb with hb | hb
      · exact h b hb
      · obtain rfl := List.mem_singleton.1 hb
        decide
  · rw [← List.cons_append, List.getLast?_concat]
    decide
theorem its_ok (l : List Hv.K) (h : ∀ k ∈ l, Hv.keyB k = true) (ho : ∀ k ∈ l, k.Ok) : ∀ i ∈ its l, Ok1 i ∧ ∀ x ∈ i.ls, Fl x := by
  intro i hi
  obtain ⟨k, hk, hi⟩ := List.mem_flatMap.1 hi
  have hkb := h k hk
  unfold Hv.keyB at hkb
  simp only [Bool.and_eq_true, decide_eq_true_eq] at hkb
  have hp := Hv.path_size hkb.1
  rcases List.mem_cons.1 hi with rfl | hi
  · refine ⟨trivial, fun x hx => ?_⟩
    obtain rfl : x = [] := by simpa [It.ls] using hx
    exact ⟨by decide, by decide⟩
  · rcases List.mem_cons.1 hi with rfl | hi
    · refine ⟨show k.path.size ≤ 100000 by omega, fun x hx => ?_⟩
      obtain rfl : x = 91 :: (tl k.path ++ [93]) := by simpa [It.ls] using hx
      exact path_fl fun b hb => (plain_no (path_plain hkb.1) b hb).1
    · obtain ⟨v, hv, rfl⟩ := List.mem_map.1 hi
      have hvb := vals_all k.vals [] hkb.2.2 v hv
      have hvo := (ho k hk).vals v hv
      exact ⟨⟨hvb, hvo⟩, vlines_fl hvb hvo⟩
theorem two_ok (a b : List Hv.K) (ha : ∀ k ∈ a, Hv.keyB k = true) (hoa : ∀ k ∈ a, k.Ok) (hb : ∀ k ∈ b, Hv.keyB k = true) (hob : ∀ k ∈ b, k.Ok) : ∀ i ∈ its a ++ its b ++ [.blank], Ok1 i ∧ ∀ x ∈ i.ls, Fl x := by
  intro i hi
  rcases List.mem_append.1 hi with hi | hi
  · rcases List.mem_append.1 hi with hi | hi
    · exact its_ok a ha hoa i hi
    · exact its_ok b hb hob i hi
  · obtain rfl := List.mem_singleton.1 hi
    refine ⟨trivial, fun x hx => ?_⟩
    obtain rfl : x = [] := by simpa [It.ls] using hx
    exact ⟨by decide, by decide⟩
theorem lns_fl {l : List It} (h : ∀ i ∈ l, Ok1 i ∧ ∀ x ∈ i.ls, Fl x) : ∀ x ∈ lns l, Fl x := by
  intro x hx
  obtain ⟨i, hi, hx⟩ := List.mem_flatMap.1 hx
  exact (h i hi).2 x hx
/-- A right hive's text begins with the head. -/
theorem text_front (l : List Hv.K) : ∃ r, Em.text l = [82, 69, 71, 73, 83, 84, 69, 82, 32, 49, 10] ++ r := ⟨_, rfl⟩
theorem hive_keys {l : List Hv.K} (h : Hv.hiveB l = true) : ∀ k ∈ l, Hv.keyB k = true := by
  unfold Hv.hiveB at h
  simp only [Bool.and_eq_true, decide_eq_true_eq] at h
  exact Em.keysB_all l [] h.2
end Ink
/-- intake.Parse of two right hives' texts, one behind the other. -/
theorem inParse_two (a b : List Hv.K) (ha : Hv.hiveB a = true) (hb : Hv.hiveB b = true) (hoa : ∀ k ∈ a, k.Ok) (hob : ∀ k ∈ b, k.Ok) (hn : a.length + b.length ≤ 4096) (s : ByteArray) (hs : tl s = Em.text a ++ (Em.text b).drop 11) (hsz : s.size ≤ 1048576) (w : World) (hW : Wl w) :
    Calls Tryz.prog 8 #[.string s] w (Ink.PRet (if Hv.hiveB (a ++ b) = true then .inr (a ++ b) else .inl 8) w) := by
  have h2 := Ink.two_ok a b (Ink.hive_keys ha) hoa (Ink.hive_keys hb) hob
  have h := inParse_any (Ink.its a ++ Ink.its b ++ [.blank]) s (by rw [hs, Ink.two_texts]) hsz (fun i hi => (h2 i hi).1) (Ink.lns_fl h2) (Ink.gr_two a b (Ink.hive_keys ha) hoa (Ink.hive_keys hb) hob hn) w hW
  rw [Ink.run_two a b ha hb hn] at h
  exact h
end Go.Proofs.YtmnolcjmnddbnaaGreatDoor

/- TopValues: a text of one key and one value. -/
namespace Go.Proofs.YtmnolcjmnddbnaaGreatDoor
open Go.RowKit

namespace Ink
open Em
theorem join_unl : ∀ l : List Txt, l ≠ [] → unl l = Lib.join l [10] ++ [10]
  | [], h => absurd rfl h
  | [x], _ => by simp [unl, Lib.join, List.intercalate]
  | x :: y :: r, _ => by
    have e : unl (x :: y :: r) = x ++ [10] ++ unl (y :: r) := by simp [unl]
    rw [e, join_unl (y :: r) (by simp), join_cons2]
    simp
theorem tv_text (p : ByteArray) (v : Hv.V) : headL ++ 10 :: 91 :: (tl p ++ 93 :: 10 :: val v) = Lib.join (headL :: lns [.path p, .val v]) [10] := by
  have h := join_unl (headL :: lns [.path p, .val v]) (by simp)
  have e : unl (headL :: lns [.path p, .val v]) = headL ++ [10] ++ (91 :: (tl p ++ [93]) ++ [10]) ++ unl (vlines v) := by simp [unl, lns, It.ls]
  rw [e, unl_vlines] at h
  have h2 : (headL ++ 10 :: 91 :: (tl p ++ 93 :: 10 :: val v)) ++ [10] = Lib.join (headL :: lns [.path p, .val v]) [10] ++ [10] := by
    rw [← h]
    simp
  exact List.append_cancel_right h2
theorem tv_step (p : ByteArray) (v : Hv.V) : step [⟨p, []⟩] (.val v) = .inr [⟨p, [v]⟩] := rfl
theorem tv_run (p : ByteArray) (v : Hv.V) : run [] [.path p, .val v] = if Hv.path p = true then .inr [⟨p, [v]⟩] else .inl 2 := by
  by_cases h : Hv.path p = true
  · have e : step [] (.path p) = .inr [⟨p, []⟩] := by unfold step; simp only; rw [if_pos h]; rfl
    rw [if_pos h, run, e]
    rfl
  · have e : step [] (.path p) = .inl 2 := by unfold step; simp only; rw [if_neg h]
    rw [if_neg h, run, e]
theorem tv_gr (p : ByteArray) (v : Hv.V) (hp : p.size ≤ 100000) (hv : Hv.valB v = true) (ho : v.Ok) : Gr [] [.path p, .val v] := by
  refine ⟨⟨hp, by simp⟩, by simp, fun st' hst => ?_⟩
  have e2 : st' = [⟨p, []⟩] := by
    unfold step at hst
    simp only at hst
    split at hst
    · split at hst
      · cases hst
      · split at hst
        · cases hst
        · injection hst with hst
          exact hst.symm
    · cases hst
  subst e2
  exact ⟨⟨hv, ho, _, tv_step p v⟩, by simp, fun _ _ => trivial⟩
end Ink
/-- intake.Parse of one key's text. -/
theorem inParse_tv (p : ByteArray) (v : Hv.V) (hp : p.size ≤ 100000) (hn : ∀ b ∈ tl p, b ≠ 10) (hv : Hv.valB v = true) (ho : v.Ok) (s : ByteArray) (hs : tl s = Ink.headL ++ 10 :: 91 :: (tl p ++ 93 :: 10 :: Em.val v)) (hsz : s.size ≤ 1048576) (w : World) (hW : Wl w) :
    Calls Tryz.prog 8 #[.string s] w (Ink.PRet (if Hv.path p = true then .inr [⟨p, [v]⟩] else .inl 2) w) := by
  have h2 : ∀ i ∈ [Ink.It.path p, .val v], Ink.Ok1 i ∧ ∀ x ∈ i.ls, Ink.Fl x := by
    intro i hi
    rcases List.mem_cons.1 hi with rfl | hi
    · refine ⟨hp, fun x hx => ?_⟩
      obtain rfl : x = 91 :: (tl p ++ [93]) := by simpa [Ink.It.ls] using hx
      exact Ink.path_fl hn
    · obtain rfl := List.mem_singleton.1 hi
      exact ⟨⟨hv, ho⟩, Ink.vlines_fl hv ho⟩
  have h := inParse_any [.path p, .val v] s (by rw [hs, Ink.tv_text]) hsz (fun i hi => (h2 i hi).1) (Ink.lns_fl h2) (Ink.tv_gr p v hp hv ho) w hW
  rw [Ink.tv_run] at h
  exact h
end Go.Proofs.YtmnolcjmnddbnaaGreatDoor

/- TopValues: what stands behind each place of the text that is written. -/
namespace Go.Proofs.YtmnolcjmnddbnaaGreatDoor
open Go.RowKit

namespace Tv
open Em Ink
/-- What is still to be written at place i. -/
def post (m : Bool) (f : Nat) (l : Txt) (i : Nat) : Txt := if m = true then (if i < f then (l.drop i).take (f - i) ++ ovL (l.drop f) else ovL (l.drop i)) else l.drop i
theorem post_plain {m : Bool} {f : Nat} {l : Txt} {i : Nat} {c : UInt8} (h : l[i]? = some c) (hm : m = false ∨ i < f) : post m f l i = c :: post m f l (i + 1) := by
  obtain ⟨hi, hc⟩ := List.getElem?_eq_some_iff.1 h
  have hd : l.drop i = c :: l.drop (i + 1) := by rw [List.drop_eq_getElem_cons hi, hc]
  unfold post
  cases m with
  | false => rw [if_neg (by decide), if_neg (by decide), hd]
  | true =>
    have hf : i < f := by
      rcases hm with h | h
      · cases h
      · exact h
    rw [if_pos rfl, if_pos rfl, if_pos hf, hd]
    obtain ⟨k, hk⟩ : ∃ k, f - i = k + 1 := ⟨f - i - 1, by omega⟩
    rw [hk, List.take_succ_cons]
    by_cases h2 : i + 1 < f
    · rw [if_pos h2, show f - (i + 1) = k by omega]
      rfl
    · rw [if_neg h2, show k = 0 by omega, List.take_zero, show f = i + 1 by omega]
      rfl
theorem post_skip {f : Nat} {l : Txt} {i : Nat} (h : l[i]? = some 92) (hf : f ≤ i) : post true f l i = post true f l (i + 4) := by
  obtain ⟨hi, hc⟩ := List.getElem?_eq_some_iff.1 h
  have hd : l.drop i = 92 :: l.drop (i + 1) := by rw [List.drop_eq_getElem_cons hi, hc]
  unfold post
  rw [if_pos rfl, if_pos rfl, if_neg (by omega), if_neg (by omega), hd, ovL_skip, List.drop_drop]
theorem post_up {f : Nat} {l : Txt} {i : Nat} {c : UInt8} (h : l[i]? = some c) (hf : f ≤ i) (hc : c ≠ 92) : post true f l i = up c :: post true f l (i + 1) := by
  obtain ⟨hi, he⟩ := List.getElem?_eq_some_iff.1 h
  have hd : l.drop i = c :: l.drop (i + 1) := by rw [List.drop_eq_getElem_cons hi, he]
  unfold post
  rw [if_pos rfl, if_pos rfl, if_neg (by omega), if_neg (by omega), hd, ovL_cons _ hc]
theorem post_end {m : Bool} {f : Nat} {l : Txt} {i : Nat} (hf : f ≤ l.length) (hi : l.length ≤ i) : post m f l i = [] := by
  unfold post
  rw [List.drop_eq_nil_of_le hi]
  cases m with
  | false => rfl
  | true => rw [if_pos rfl, if_neg (by omega), ovL_nil]
theorem val_bytes (v : Hv.V) (hk : v.kind = 3) : val v = bpre v ++ Em.bytes (tl v.bytes) := by
  unfold val bpre rest
  rw [hk]
  simp
/-- At the start: all that intake.Value is asked. -/
theorem post_start (v : Hv.V) : post (decide (v.kind = 3)) (bpre v).length (val v) 0 = vlineM true v := by
  by_cases hk : v.kind = 3
  · rw [decide_eq_true hk]
    have e := val_bytes v hk
    have hp : 0 < (bpre v).length := by
      unfold bpre
      rw [List.length_append]
      show 0 < _ + 7
      omega
    unfold post vlineM
    rw [if_pos rfl, if_pos hp, if_pos hk, List.drop_zero, Nat.sub_zero, e, List.take_left, List.drop_left, ov_bytes]
  · rw [decide_eq_false hk]
    unfold post vlineM
    rw [if_neg (by decide), if_neg hk, List.drop_zero]
theorem front_le (v : Hv.V) (hk : v.kind = 3) : (bpre v).length ≤ (val v).length := by
  have e := val_bytes v hk
  rw [e, List.length_append]
  omega
theorem more {out : ByteArray} {d : UInt8} {m : Bool} {f k : Nat} {l G : Txt} (h : tl out ++ post m f l k = G) (hp : post m f l k = d :: post m f l (k + 1)) : tl (out ++ ⟨#[d]⟩) ++ post m f l (k + 1) = G := by
  rw [← h, hp]
  simp [tl]
theorem one_cell (w : World) (d : UInt8) (T : TypeId) : ∀ j, (hj : j < [d].length) → (w.alloc (.cells #[.int .u8 (d.toNat : Int)] T)).cell? ((⟨w.heap.size, 0, none⟩ : Addr).add j) = some (.int .u8 (([d][j]'hj).toNat : Int)) := by
  intro j hj
  rw [Ink.add_none]
  obtain rfl : j = 0 := by simpa using hj
  exact (At.new w #[.int .u8 (d.toNat : Int)] T).cell 0 _ rfl
theorem ne_at {b : UInt8} {k : Nat} (h : b.toNat ≠ k) : ((b.toNat : Int) == (k : Int)) = false ∧ ((b.toNat : Int) != (k : Int)) = true ∧ ¬ (b.toNat : Int) = (k : Int) := Ink.ne_int h
theorem le_nat {a b : UInt8} : a ≤ b ↔ a.toNat ≤ b.toNat := UInt8.le_iff_toNat_le
theorem up_yes {c : UInt8} (h1 : 97 ≤ c.toNat) (h2 : c.toNat ≤ 102) : up c = c - 32 := by
  unfold up
  rw [if_pos ⟨le_nat.2 h1, le_nat.2 h2⟩]
theorem up_no1 {c : UInt8} (h : ¬ 97 ≤ c.toNat) : up c = c := by
  unfold up
  exact if_neg fun e => h (show (97 : UInt8).toNat ≤ c.toNat from le_nat.1 e.1)
theorem up_no2 {c : UInt8} (h : ¬ c.toNat ≤ 102) : up c = c := by
  unfold up
  exact if_neg fun e => h (show c.toNat ≤ (102 : UInt8).toNat from le_nat.1 e.2)
theorem up_wrap {c : UInt8} (h1 : 97 ≤ c.toNat) (h2 : c.toNat ≤ 102) : IntKind.u8.wrap ((c.toNat : Int) - 32) = ((up c).toNat : Int) := by
  rw [up_yes h1 h2, UInt8.toNat_sub_of_le _ _ (le_nat.2 (show (32 : UInt8).toNat ≤ c.toNat by show 32 ≤ c.toNat; omega))]
  show IntKind.u8.wrap ((c.toNat : Int) - 32) = ((c.toNat - 32 : Nat) : Int)
  have e : (c.toNat : Int) - 32 = ((c.toNat - 32 : Nat) : Int) := by omega
  rw [e]
  unfold IntKind.wrap
  simp [IntKind.signed, IntKind.bits]
  omega
end Tv
end Go.Proofs.YtmnolcjmnddbnaaGreatDoor

/- hive.Find and hive.Get, where a hive has one key and the key one value. -/
namespace Go.Proofs.YtmnolcjmnddbnaaGreatDoor
open Go.RowKit

theorem Hv.row_own {w : World} {B size n : Nat} {e : TypeId} {v : Value} {xs : List Value} (ho : w.ownsRow B e size v n xs) : Hv.Row w w.heap.size size n v xs := by
  have hr := ho
  obtain ⟨A, c, rfl, h1, h2⟩ : ∃ A c, v = .slice A n c ∧ n ≤ c ∧ c ≤ maxLen := by
    rcases ho.2 with ⟨rfl, rfl⟩ | ⟨g, cap, cur, rfl, _, _, h1, h2, _⟩
    · exact ⟨none, 0, rfl, Nat.le_refl _, Nat.zero_le _⟩
    · exact ⟨_, cap, rfl, h1, h2⟩
  exact ⟨A, c, rfl, h1, h2, Reads.of_own hr⟩
theorem hvFind_results {tmps : Array Value} {w : World} {g : Nat} {x y : Value} (h4 : tmps[4]?.getD undef = .pointer (some ⟨g, 0, none⟩)) (h5 : tmps[5]?.getD undef = .bool true) (hA : At w g [x, y]) :
    (results Tryz.f10 tmps).run Tryz.prog w = .ok (.tuple #[.agg #[x, y], .bool true]) w := by
  have c0 := hA.cell 0 _ rfl
  have c1 := hA.cell 1 _ rfl
  simp [results, Tryz.results10, go_sem, h4, h5, c0, c1]
theorem hvGet_results {tmps : Array Value} {w : World} {g : Nat} {a b c d e : Value} (h4 : tmps[4]?.getD undef = .pointer (some ⟨g, 0, none⟩)) (h5 : tmps[5]?.getD undef = .bool true) (hA : At w g [a, b, c, d, e]) :
    (results Tryz.f11 tmps).run Tryz.prog w = .ok (.tuple #[.agg #[a, b, c, d, e], .bool true]) w := by
  have c0 := hA.cell 0 _ rfl
  have c1 := hA.cell 1 _ rfl
  have c2 := hA.cell 2 _ rfl
  have c3 := hA.cell 3 _ rfl
  have c4 := hA.cell 4 _ rfl
  simp [results, Tryz.results11, go_sem, h4, h5, c0, c1, c2, c3, c4]
/-- The comparison of a key's path. -/
theorem hvPlace1 (path : ByteArray) (v : Value) (A : Option Addr) (m c : Nat) (g : Nat) (W : World) (hv : v = .slice A m c) (h : W.cell? ⟨g, 0, none⟩ = some (.string path)) :
    Calls Tryz.prog 51 #[.agg #[.string path, v], .pointer (some ⟨g, 0, none⟩)] W fun e w' => e = .returned (.bool true) ∧ Below W.heap.size W w' := by
  subst hv
  have hlt := block_lt_of_cell h
  have HB := Lib.hid (Hv.bl1 W (.cells #[.string path, .slice A m c] 44))
  go_enter Tryz.func51, Tryz.ntmps51
  go_wp2
  go_ret
  exact ⟨rfl, HB.out⟩
set_option maxHeartbeats 2000000 in
set_option maxRecDepth 100000 in
theorem hvIndex_one (path : ByteArray) (A : Option Addr) (c g : Nat) (vs : List Hv.V) (evs : List Value) (w : World) (hr : Hv.HR w w.heap.size [⟨path, vs⟩] (.slice A 1 c) evs) (h : w.cell? ⟨g, 0, none⟩ = some (.string path)) :
    Calls Tryz.prog 50 #[.slice A 1 c, .func (.func 51) #[] #[.pointer (some ⟨g, 0, none⟩)]] w fun e w' => e = .returned (.int .i64 0) ∧ Below w.heap.size w w' := by
  have eg := enters_of Tryz.func51 (by kernel_rfl) rfl
  obtain ⟨ad, x, vA, m, vc, rfl, hab, Hx, c0, c1, HVl, hv1, hv2, HRv⟩ := hr.at_ (k := 0) rfl (by decide)
  obtain rfl : (⟨path, vs⟩ : Hv.K) = x := Option.some.inj Hx.out
  have HC := Lib.hid (hvPlace1 path (.slice vA m vc) vA m vc g w rfl h)
  simp only at c0 c1
  have hz : ad.add (0 * 2) = ad := by
    show ad.add 0 = ad
    unfold Addr.add
    rw [if_pos rfl]
  rw [hz] at c0 c1
  clear hr h hz
  go_enter Tryz.func50, Tryz.ntmps50
  go_wp2
  go_loopw [5, 8] (fun _ i wr => i = .int .i64 0 ∧ wr = w) (fun _ _ _ => 0)
  case atStart => exact ⟨rfl, rfl⟩
  case round =>
    obtain ⟨rfl, e9⟩ := hrel
    subst e9
    go_wp2_with fail
    refine HC.out.mono ?_
    rintro e w' ⟨rfl, hb⟩
    have HB := Lib.hid hb
    clear hb
    go_wp2
    go_ret
    exact ⟨rfl, HB.out⟩
set_option maxHeartbeats 2000000 in
set_option maxRecDepth 100000 in
/-- hive.place. -/
theorem hvPlace_one (path : ByteArray) (A : Option Addr) (c : Nat) (vs : List Hv.V) (evs : List Value) (w : World) (hr : Hv.HR w w.heap.size [⟨path, vs⟩] (.slice A 1 c) evs) :
    Calls Tryz.prog 28 #[.agg #[.slice A 1 c], .string path] w fun e w' => e = .returned (.int .i64 0) ∧ Below w.heap.size w w' := by
  obtain ⟨W1, hW1⟩ : ∃ W, (w.alloc (.cells #[.slice A 1 c] 36)).alloc (.cells #[.string path] 9) = W := ⟨_, rfl⟩
  have HB1 : Hid (Below w.heap.size w W1) := by show Below _ _ _; rw [← hW1]; exact Hv.bl (Hv.bl1 _ _) _
  have hA := At.new (w.alloc (.cells #[.slice A 1 c] 36)) #[.string path] 9
  rw [World.size_alloc, hW1] at hA
  have HC := Lib.hid (hvIndex_one path A c (w.heap.size + 1) vs evs W1 (hr.call HB1.out) (hA.cell 0 _ rfl))
  have HW1 := Lib.hid hW1
  clear hr hA hW1
  go_enter Tryz.func28, Tryz.ntmps28
  go_wp2_with fail
  rw [HW1.out]
  refine HC.out.mono ?_
  rintro e w2 ⟨rfl, hb⟩
  have HB2 := Lib.hid (below_then HB1.out hb)
  clear hb
  go_wp2
  go_ret
  exact ⟨rfl, HB2.out⟩
set_option maxHeartbeats 2000000 in
set_option maxRecDepth 100000 in
theorem hvClone (A : Option Addr) (n c : Nat) (vs : List Hv.V) (w : World) (hn : 1 ≤ n) (hb : n ≤ 1000000) (hl : vs.length = n) (hr : Reads w w.heap.size 5 A n (vs.flatMap Hv.V.cells)) :
    Calls Tryz.prog 29 #[.slice A n c] w fun e w' => ∃ v', e = .returned v' ∧ w'.ownsRow w.heap.size 25 5 v' n (vs.flatMap Hv.V.cells) ∧ Below w.heap.size w w' := by
  obtain ⟨ad, rfl, _⟩ := hr.2 (by omega)
  have HR := Lib.hid hr
  have h1 : ∀ u ∈ vs.flatMap Hv.V.cells, u.oneCell' = true := by
    intro u hu
    obtain ⟨x, _, hu⟩ := List.mem_flatMap.1 hu
    simp only [Hv.V.cells, List.mem_cons, List.not_mem_nil, or_false] at hu
    rcases hu with rfl | rfl | rfl | rfl | rfl <;> rfl
  have H1 := Lib.hid h1
  have q24 : ∀ (w : World) (a : Option Addr) (n c n' c' : Nat), (binOp .eql 42 (.slice a n c) (.slice none n' c')).run Tryz.prog w = .ok (.bool a.isNone) w := fun w a n c n' c' => Lib.run_eql_slice_nil w _ _ a n c n' c' Tryz.underlying42
  clear hr h1
  obtain ⟨i0, hi0, hz0, hz1, hz2⟩ := info_parts Ink.val_info
  go_enter Tryz.func29, Tryz.ntmps29
  go_wp2_with (at_builtin; refine wpList_append_any _ rfl (.tmp 5) (.tmp 6) 42 rfl w.heap.size 25 i0 _ 5 64 Tryz.underlying42 hi0 hz0 hz1 hz2 rfl (by decide) _ 0 [] rfl (World.ownsRow_made w #[] 0 (Nat.le_refl _) (Nat.zero_le _) rfl) _ (some ad) n c _ rfl (HR.out.below (Hv.bl1 w _)) H1.out (by unfold maxLen; omega) (by omega) (by simp) ?_)
  intro v' w1 hown hgrow hat
  have HO := Lib.hid hown
  have HBl := Lib.hid (((Below.refl w.heap.size w).alloc (Nat.le_refl _) (.cells #[] 25)).grown hgrow (by simp) (by intro k hk; simp [Value.ownBlock] at hk; omega))
  clear hown hgrow hat
  go_wp2
  go_ret
  exact ⟨_, rfl, HO.out, HBl.out⟩
set_option maxHeartbeats 2000000 in
set_option maxRecDepth 100000 in
theorem hvFind_one (path : ByteArray) (A : Option Addr) (c : Nat) (vs : List Hv.V) (evs : List Value) (w : World) (hv1 : 1 ≤ vs.length) (hv2 : vs.length ≤ 1000000) (hr : Hv.HR w w.heap.size [⟨path, vs⟩] (.slice A 1 c) evs) :
    Calls Tryz.prog 10 #[.agg #[.slice A 1 c], .string path] w fun e w' => ∃ v', e = .returned (.tuple #[.agg #[.string path, v'], .bool true]) ∧ Hv.Row w' w'.heap.size 5 vs.length v' (vs.flatMap Hv.V.cells) ∧ Below w.heap.size w w' := by
  obtain ⟨W1, hW1⟩ : ∃ W, (w.alloc (.cells #[.slice A 1 c] 36)).alloc (.cells #[.string ⟨#[]⟩, .slice none 0 0] 44) = W := ⟨_, rfl⟩
  have HB1 : Hid (Below w.heap.size w W1) := by show Below _ _ _; rw [← hW1]; exact Hv.bl (Hv.bl1 _ _) _
  have HA1 : Hid (At W1 w.heap.size [.slice A 1 c]) := by show At _ _ _; rw [← hW1]; exact (At.new _ _ _).allocO _
  have HZ1 : Hid (At W1 (w.heap.size + 1) [.string ⟨#[]⟩, .slice none 0 0]) := by
    have h := At.new (w.alloc (.cells #[.slice A 1 c] 36)) #[.string ⟨#[]⟩, .slice none 0 0] 44
    rw [World.size_alloc, hW1] at h
    exact h
  have HC := Lib.hid (hvPlace_one path A c vs evs W1 (hr.call HB1.out))
  have HR := Lib.hid hr
  have HW1 := Lib.hid hW1
  clear hr hW1
  go_enter Tryz.func10, Tryz.ntmps10
  go_wp2_with fail
  rw [HW1.out]
  refine HC.out.mono ?_
  rintro e w2 ⟨rfl, hb⟩
  have HB2 := Lib.hid (below_then HB1.out hb)
  have HA2 := Lib.hid (HA1.out.call hb)
  have HZ2 := Lib.hid (HZ1.out.call hb)
  obtain ⟨ad, x, vA, m, vc, rfl, hab, Hx, c0, c1, HVl, hm1, hm2, HRv⟩ := ((HR.out.call HB2.out)).at_ (k := 0) rfl (by decide)
  obtain rfl : (⟨path, vs⟩ : Hv.K) = x := Option.some.inj Hx.out
  simp only at c0 c1 HVl HRv
  have hz : ad.add (0 * 2) = ad := by
    show ad.add 0 = ad
    unfold Addr.add
    rw [if_pos rfl]
  rw [hz] at c0 c1
  have a0 := HA2.out.cell 0 _ rfl
  have a1 := HA2.out.lt
  have HCl := Lib.hid (hvClone vA m vc vs w2 (by rw [← HVl.out]; exact hv1) (by rw [← HVl.out]; exact hv2) HVl.out HRv.out)
  clear hb hz
  go_wp2_with fail
  refine HCl.out.mono ?_
  rintro e w3 ⟨v', rfl, hown, hb⟩
  obtain ⟨vB, vd, rfl, _⟩ := own_slice hown
  have HO := Lib.hid hown
  have HB3 := Lib.hid (below_then HB2.out hb)
  have HZ3 := Lib.hid (HZ2.out.call hb)
  obtain ⟨z0, z1, f0, f1⟩ := HZ3.out.two
  have z2 := HZ3.out.lt
  have hsz := HB2.out.size
  clear hb hown a0 a1 c0 c1
  go_wp2
  have hlt := HZ2.out.lt
  have hA9 : At ((w3.setCell ⟨w.heap.size + 1, 0, none⟩ (.string path)).setCell ⟨w.heap.size + 1, 1, none⟩ (.slice vB m vd)) (w.heap.size + 1) [.string path, .slice vB m vd] := (HZ3.out.set 0 (.string path)).set 1 (.slice vB m vd)
  refine bodyPost_ret (hvFind_results rfl rfl hA9) rfl ⟨_, rfl, ?_, (HB3.out.setCell (p := ⟨w.heap.size + 1, 0, none⟩) (Nat.le_succ _) _).setCell (p := ⟨w.heap.size + 1, 1, none⟩) (Nat.le_succ _) _⟩
  rw [HVl.out]
  exact Hv.row_own (ownsRow_setCell_below (ownsRow_setCell_below HO.out (show w.heap.size + 1 < w2.heap.size from hlt) _) (show w.heap.size + 1 < w2.heap.size from hlt) _)
set_option maxHeartbeats 2000000 in
set_option maxRecDepth 100000 in
/-- hive.Get of a key of one value. -/
theorem hvGet_one (path : ByteArray) (nm : ByteArray) (kd : Int) (tx : ByteArray) (nu : Int) (by_ : ByteArray) (v : Value) (w : World) (hr : Hv.Row w w.heap.size 5 1 v (Hv.V.cells ⟨nm, kd, tx, nu, by_⟩)) :
    Calls Tryz.prog 11 #[.agg #[.string path, v], .string nm] w fun e w' => e = .returned (.tuple #[.agg #[.string nm, .int .u8 kd, .string tx, .int .u32 nu, .string by_], .bool true]) ∧ Below w.heap.size w w' := by
  obtain ⟨A, c, rfl, h1, h2, h3⟩ := hr
  obtain ⟨W1, hW1⟩ : ∃ W, (w.alloc (.cells #[.string path, .slice A 1 c] 44)).alloc (.cells #[.string ⟨#[]⟩, .int .u8 0, .string ⟨#[]⟩, .int .u32 0, .string ⟨#[]⟩] 25) = W := ⟨_, rfl⟩
  have hB1 : Below w.heap.size w W1 := by rw [← hW1]; exact Hv.bl (Hv.bl1 _ _) _
  have HB1 := Lib.hid hB1
  obtain ⟨ad, x, rfl, hab, Hx, d0, d1, d2, d3, d4⟩ := Hv.val_at (l := [⟨nm, kd, tx, nu, by_⟩]) (n := 1) (k := 0) ((h3.below hB1).more hB1.size) rfl (by decide)
  obtain rfl : (⟨nm, kd, tx, nu, by_⟩ : Hv.V) = x := Option.some.inj Hx.out
  simp only at d0 d1 d2 d3 d4
  have hz : ad.add (0 * 5) = ad := by
    show ad.add 0 = ad
    unfold Addr.add
    rw [if_pos rfl]
  rw [hz] at d0 d1 d2 d3 d4
  have HZ1 : Hid (At W1 (w.heap.size + 1) [.string ⟨#[]⟩, .int .u8 0, .string ⟨#[]⟩, .int .u32 0, .string ⟨#[]⟩]) := by
    have h := At.new (w.alloc (.cells #[.string path, .slice (some ad) 1 c] 44)) #[.string ⟨#[]⟩, .int .u8 0, .string ⟨#[]⟩, .int .u32 0, .string ⟨#[]⟩] 25
    rw [World.size_alloc, hW1] at h
    exact h
  have HW1 := Lib.hid hW1
  clear hW1 hB1 hz h3
  go_enter Tryz.func11, Tryz.ntmps11
  go_wp2_with fail
  rw [HW1.out]
  go_loopw [11] (fun i wr => i = .int .i64 0 ∧ wr = W1) (fun _ _ => 0)
  case atStart => exact ⟨rfl, rfl⟩
  case round =>
    obtain ⟨rfl, e9⟩ := hrel
    subst e9
    have z2 := HZ1.out.lt
    obtain ⟨z0, z1, z2', z3, z4, f0, f1, f2, f3, f4⟩ := Ink.At.fiveI HZ1.out
    go_wp2
    have hA9 : At (((((((wr.setCell ⟨w.heap.size + 1, 0, none⟩ (.string nm)).setCell ⟨w.heap.size + 1, 1, none⟩ (.int .u8 kd)).setCell ⟨w.heap.size + 1, 2, none⟩ (.string tx)).setCell ⟨w.heap.size + 1, 3, none⟩ (.int .u32 nu)).setCell ⟨w.heap.size + 1, 4, none⟩ (.string by_)).alloc (.cells #[.string nm, .int .u8 kd, .string tx, .int .u32 nu, .string by_] 25))) (w.heap.size + 1) [.string nm, .int .u8 kd, .string tx, .int .u32 nu, .string by_] := (((((HZ1.out.set 0 (.string nm)).set 1 (.int .u8 kd)).set 2 (.string tx)).set 3 (.int .u32 nu)).set 4 (.string by_)).allocO _
    refine bodyPost_ret (hvGet_results rfl rfl hA9) rfl ⟨rfl, ?_⟩
    exact (((((HB1.out.setCell (p := ⟨w.heap.size + 1, 0, none⟩) (Nat.le_succ _) _).setCell (p := ⟨w.heap.size + 1, 1, none⟩) (Nat.le_succ _) _).setCell (p := ⟨w.heap.size + 1, 2, none⟩) (Nat.le_succ _) _).setCell (p := ⟨w.heap.size + 1, 3, none⟩) (Nat.le_succ _) _).setCell (p := ⟨w.heap.size + 1, 4, none⟩) (Nat.le_succ _) _).alloc (by have := HB1.out.size; simpa using this) _
end Go.Proofs.YtmnolcjmnddbnaaGreatDoor
