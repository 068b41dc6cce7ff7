/- hive.Check of any hive. -/
import Derived.Test.YthmhadgbhakdlaaGreatDoorK05
import Derived.Test.YthmhadgbhakdlaaGreatDoorK16
import Derived.Test.YthmhadgbhakdlaaGreatDoorK01
import Derived.Shelf.Abstract
import Derived.Deep.QuietTactic
import Derived.Test.YthmhadgbhakdlaaGreatDoorK14

namespace Go.Proofs.YthmhadgbhakdlaaGreatDoor
open Go.RowKit

set_option maxHeartbeats 4000000 in
set_option maxRecDepth 100000 in
theorem hvCheck_any (l : List Hv.K) (hl : ∀ k ∈ l, k.Ok) (A : Option Addr) (n c : Nat) (evs : List Value) (w : World) (hn : l.length = n) (hnm : n ≤ maxLen) (hr : Hv.HR w w.heap.size l (.slice A n c) evs) (hW : Wl w) :
    Calls Tryz.prog 22 #[.agg #[.slice A n c]] w fun e w' => e = .returned (.int .i64 (if Hv.hiveB l = true then 0 else 2)) ∧ Below w.heap.size w w' := by
  have hmk := Hv.make_set (n : Int)
  obtain ⟨X, hX⟩ : ∃ X : Int, (if Hv.hiveB l = true then (0 : Int) else 2) = X := ⟨_, rfl⟩
  rw [hX]
  unfold Hv.hiveB at hX
  rw [hn] at hX
  have HR := Lib.hid hr
  have HN := Lib.hid hn
  have HO := Lib.hid hl
  have HX := Lib.hid hX
  have HW := Lib.hid hW
  unfold maxLen at hnm
  obtain ⟨W0, hW0⟩ : ∃ W, w.alloc (.cells #[.slice A n c] 43) = W := ⟨_, rfl⟩
  have HB0 : Hid (Below w.heap.size w W0) := by show Below _ _ _; rw [← hW0]; exact Hv.bl1 _ _
  have HA0 : Hid (At W0 w.heap.size [.slice A n c]) := by show At _ _ _; rw [← hW0]; exact At.new _ _ _
  have a0 := HA0.out.cell 0 _ rfl
  have hlt0 := HA0.out.lt
  have HW0 := Lib.hid hW0
  clear hW0 hX hr hn hl hW
  go_enter Tryz.func22, Tryz.ntmps22
  by_cases hn5 : n ≤ 4096
  case neg =>
    have p5 : (4096 : Int) < (n : Int) := by omega
    have HE : Hid (X = 2) := by show X = 2; rw [← HX.out, decide_eq_false hn5]; rfl
    go_wp2_with fail
    rw [HW0.out]
    go_wp2
    go_ret
    exact ⟨by rw [HE.out]; rfl, HB0.out⟩
  have p5 : ¬ (4096 : Int) < (n : Int) := by omega
  have hx := HX.out
  rw [decide_eq_true hn5, Bool.true_and] at hx
  have HX := Lib.hid hx
  obtain ⟨bm, hbm⟩ : ∃ b, W0.heap.size = b := ⟨_, rfl⟩
  obtain ⟨W2, hW2⟩ : ∃ W, W0.alloc (.map #[] 0) = W := ⟨_, rfl⟩
  have HB2 : Hid (Below w.heap.size w W2) := by show Below _ _ _; rw [← hW2]; exact Hv.bl HB0.out _
  have HM2 : Hid (MapF Tryz.prog 9 W2 bm 0 (Hv.sf [])) := by show MapF _ _ _ _ _ _; rw [← hW2, ← hbm]; exact MapF.made W0
  have HBm : Hid (w.heap.size ≤ bm) := by show _ ≤ _; rw [← hbm]; exact HB0.out.size
  have HW2 : Hid ((w.alloc (.cells #[.slice A n c] 43)).alloc (.map #[] 0) = W2) := by show _ = _; rw [HW0.out]; exact hW2
  have HBq : Hid (w.heap.size + 1 = bm) := by show _ = _; rw [← hbm, ← HW0.out]; simp
  clear hW2 hbm hx
  go_wp2_with fail
  rw [HW2.out, HBq.out]
  clear hmk a0 hlt0
  go_loopw [19] (fun i wr => ∃ k : Nat, k ≤ n ∧ i = .int .i64 (k : Int) ∧ Hid (Below w.heap.size w wr) ∧ Hid (MapF Tryz.prog 9 wr bm k (Hv.sf (Hv.paths (l.take k)))) ∧ Hid ((if Hv.keysB (Hv.paths (l.take k)) (l.drop k) = true then (0 : Int) else 2) = X)) (fun i _ => n - (intOf i).toNat)
  case atStart => exact ⟨0, Nat.zero_le _, rfl, HB2.out, HM2.out, HX.out⟩
  case round =>
    obtain ⟨k, hk, rfl, HB, HM, HV⟩ := hrel
    by_cases hlt : k < n
    · have q1 : (0 : Int) ≤ (k : Int) := by omega
      have q2 : (k : Int) < (n : Int) := by omega
      obtain ⟨ad, x, vA, m, vc, rfl, hab, Hx, c0, c1, HVl, hv1, hv2, HRv⟩ := (HR.out.below HB.out).at_ HN.out hlt
      have hxo := HO.out x (List.mem_of_getElem? Hx.out)
      have h1 := hxo.path
      have hv := HV.out
      rw [Hv.drop_next Hx.out] at hv
      unfold Hv.keysB at hv
      obtain ⟨pt, vs⟩ := x
      simp only at c0 c1 h1 hv HVl HRv
      have hm : m ≤ maxLen := by omega
      have HCk : Hid (∀ W, Below wr.heap.size wr W → Calls Tryz.prog 51 #[.agg #[.string pt, .slice vA m vc]] W fun e w' => e = .returned (.bool (Hv.keyB ⟨pt, vs⟩)) ∧ Below W.heap.size W w') := fun W hb => hvKey_any pt h1 vs hxo.vals vA m vc W HVl.out hm (((HRv.out.more HB.out.size).below hb).more hb.size) (HW.out.below (below_then HB.out hb))
      obtain ⟨vb, hvb⟩ : ∃ b, Hv.keyB ⟨pt, vs⟩ = b := ⟨_, rfl⟩
      rw [hvb] at hv HCk
      have HT := Lib.hid (Hv.paths_next Hx.out)
      obtain ⟨W3, hW3⟩ : ∃ W, wr.alloc (.cells #[.string pt, .slice vA m vc] 64) = W := ⟨_, rfl⟩
      have HB3r : Hid (Below wr.heap.size wr W3) := by show Below _ _ _; rw [← hW3]; exact Hv.bl1 _ _
      have HB3 : Hid (Below w.heap.size w W3) := by show Below _ _ _; rw [← hW3]; exact Hv.bl HB.out _
      have HM3 : Hid (MapF Tryz.prog 9 W3 bm k (Hv.sf (Hv.paths (l.take k)))) := by show MapF _ _ _ _ _ _; rw [← hW3]; exact HM.out.alloc _
      have HA3 : Hid (At W3 wr.heap.size [.string pt, .slice vA m vc]) := by show At _ _ _; rw [← hW3]; exact At.new _ _ _
      have HW3 := Lib.hid hW3
      have hkm : k < maxLen := by unfold maxLen; omega
      clear hW3 hvb hxo hv1 hv2
      go_wp2_with fail
      rw [HW3.out]
      go_wp2_with fail
      refine (HCk.out _ HB3r.out).mono ?_
      rintro e w4 ⟨rfl, hb4⟩
      have HB4 := Lib.hid (below_then HB3.out hb4)
      have HM4 := Lib.hid (HM3.out.below hb4)
      have HA4 := Lib.hid (HA3.out.call hb4)
      have d0 := HA4.out.cell 0 _ rfl
      have hlt4 := HA4.out.lt
      clear hb4 c0 c1 HCk HW3 HA3 HB3 HM3
      cases vb with
      | false =>
        have HE : Hid (X = 2) := by show X = 2; rw [← hv]; rfl
        go_wp2
        go_ret
        exact ⟨by rw [HE.out]; rfl, HB4.out⟩
      | true =>
        rw [Bool.true_and] at hv
        obtain ⟨N, hN⟩ : ∃ N, Hv.paths (l.take k) = N := ⟨_, rfl⟩
        rw [hN] at hv HM4 HT
        by_cases hin : pt ∈ N
        · have hq := Hv.has_iff.2 hin
          rw [hq] at hv
          have HE : Hid (X = 2) := by show X = 2; rw [← hv]; rfl
          have HB5 := Lib.hid (Hv.bl HB4.out (.cells #[] 105))
          clear hin hN hv
          go_wp2_with (at_lookup; refine Hv.look_set _ rfl _ _ bm k _ pt h1 rfl rfl rfl HM4.out true hq ?_)
          go_ret
          exact ⟨by rw [HE.out]; rfl, HB5.out⟩
        · have hq := Hv.has_not hin
          rw [hq, Bool.not_false, Bool.true_and] at hv
          have HB5 := Lib.hid (Hv.bl HB4.out (.cells #[] 105))
          have HM5 := Lib.hid (HM4.out.alloc (.cells #[] 105))
          have HV2 := Lib.hid hv
          clear hin hN hv
          go_wp2_with (first | (at_lookup; refine Hv.look_set _ rfl _ _ bm k _ pt h1 rfl rfl rfl HM4.out false hq ?_) | (at_mapUpdate; refine Hv.store_set _ rfl _ _ _ bm k _ pt h1 hkm rfl rfl rfl rfl HM5.out ?_; intro w6 hM6 hg6; have HM6 := Lib.hid hM6; have HB6 := Lib.hid (HB5.out.grown hg6 HB5.out.size (fun j e => by cases e; exact HBm.out)); clear hM6 hg6))
          go_roundw
          case rel => exact ⟨k + 1, by omega, by go_num, HB6.out, by show MapF _ _ _ _ _ _; rw [HT.out]; exact HM6.out, by show (if Hv.keysB _ _ = true then (0 : Int) else 2) = X; rw [HT.out]; exact HV2.out⟩
          case measure => simp [intOf]; omega
    · have q2 : ¬ (k : Int) < (n : Int) := by omega
      have HE : Hid (X = 0) := by
        show X = 0
        rw [← HV.out, List.drop_eq_nil_of_le (by rw [HN.out]; omega)]
        rfl
      go_wp2
      go_ret
      exact ⟨by rw [HE.out]; rfl, HB.out⟩
end Go.Proofs.YthmhadgbhakdlaaGreatDoor

/- emit.Value: a value's lines. -/
namespace Go.Proofs.YthmhadgbhakdlaaGreatDoor
open Go.RowKit

/-- What the world says: no text is longer than may be, and the library's table. -/
structure Wg (w : World) : Prop where
  l : Wl w
  h : Wh w
theorem Wg.below {w w' : World} (h : Wg w) (hb : Below w.heap.size w w') : Wg w' := ⟨h.l.below hb, h.h.below hb⟩
theorem Wh.lt {w : World} (h : Wh w) : 8 < w.heap.size := block_lt_of_cell h.t
theorem write_any (g : Nat) (L : Em.Txt) (nm : ByteArray) (kd : Int) (tx : ByteArray) (nu : Int) (by_ : ByteArray) (hv : Hv.valB ⟨nm, kd, tx, nu, by_⟩ = true) (ho : Hv.V.Ok ⟨nm, kd, tx, nu, by_⟩) (w : World) (hI : Em.IsB w g L) (hL : L.length ≤ 10000000000000) (hW : Wh w) (hgt : 8 < g) :
    Calls Tryz.prog 44 #[.pointer (some ⟨g, 0, none⟩), .agg #[.string nm, .int .u8 kd, .string tx, .int .u32 nu, .string by_]] w fun e w' => e = .returned (.tuple #[]) ∧ Em.IsB w' g (L ++ Em.val ⟨nm, kd, tx, nu, by_⟩) ∧ Below g w w' := by
  obtain ⟨h1, h2, h3, h4, _⟩ := Em.val_small hv
  simp only at h1 h2 h3 h4
  rcases h4 with rfl | rfl | rfl
  · exact write_text g L nm tx by_ nu h1 h2 h3 w hI hL
  · obtain ⟨n, rfl⟩ : ∃ n : Nat, nu = (n : Int) := ⟨nu.toNat, by have := ho.n0; simp only at this; omega⟩
    exact write_num g L nm tx by_ n (by have := ho.n1; simp only at this; omega) h1 h2 h3 w hW hgt hI hL
  · exact write_bytes g L nm tx by_ nu h1 h2 h3 w hI hL
set_option maxHeartbeats 4000000 in
set_option maxRecDepth 100000 in
theorem emValue_any (nm : ByteArray) (kd : Int) (tx : ByteArray) (nu : Int) (by_ : ByteArray) (ho : Hv.V.Ok ⟨nm, kd, tx, nu, by_⟩) (w : World) (hW : Wg w) :
    Calls Tryz.prog 24 #[.agg #[.string nm, .int .u8 kd, .string tx, .int .u32 nu, .string by_]] w fun e w' => e = .returned (if Hv.valB ⟨nm, kd, tx, nu, by_⟩ = true then .tuple #[.string (Em.bts (Em.val ⟨nm, kd, tx, nu, by_⟩)), .int .i64 0] else .tuple #[.string ⟨#[]⟩, .int .i64 2]) ∧ Below w.heap.size w w' := by
  have HC := Lib.hid fun W => hvValue_any ⟨nm, kd, tx, nu, by_⟩ ho W
  obtain ⟨X, hX⟩ : ∃ X : Value, (if Hv.valB ⟨nm, kd, tx, nu, by_⟩ = true then Value.tuple #[.string (Em.bts (Em.val ⟨nm, kd, tx, nu, by_⟩)), .int .i64 0] else .tuple #[.string ⟨#[]⟩, .int .i64 2]) = X := ⟨_, rfl⟩
  rw [hX]
  obtain ⟨W1, hW1⟩ : ∃ W, w.alloc (.cells #[.string nm, .int .u8 kd, .string tx, .int .u32 nu, .string by_] 55) = W := ⟨_, rfl⟩
  have hA1 : At W1 w.heap.size [.string nm, .int .u8 kd, .string tx, .int .u32 nu, .string by_] := by rw [← hW1]; exact At.new _ _ _
  have hB1 : Below w.heap.size w W1 := by rw [← hW1]; exact Hv.bl1 _ _
  have HA1 := Lib.hid hA1
  have HB1 := Lib.hid hB1
  have HW1 := Lib.hid hW1
  have HW := Lib.hid hW
  have HO := Lib.hid ho
  clear hA1 hB1 hW1 hW ho
  cases hv : Hv.valB ⟨nm, kd, tx, nu, by_⟩ with
  | false =>
    rw [hv] at hX HC
    have HE := Lib.hid hX
    clear hX hv
    go_enter Tryz.func24, Tryz.ntmps24
    go_wp2_with fail
    rw [HW1.out]
    refine (HC.out _).mono ?_
    rintro e w2 ⟨rfl, hb⟩
    have HB2 := Lib.hid (below_then HB1.out hb)
    clear hb
    go_wp2
    go_ret2
    exact ⟨by rw [← HE.out]; rfl, HB2.out⟩
  | true =>
    have hl2 := Em.val_len2 hv
    rw [hv] at hX HC
    have HE := Lib.hid hX
    have HV := Lib.hid hv
    have HLn := Lib.hid hl2
    clear hX hv hl2
    go_enter Tryz.func24, Tryz.ntmps24
    go_wp2_with fail
    rw [HW1.out]
    refine (HC.out _).mono ?_
    rintro e w2 ⟨rfl, hb⟩
    have HB2 := Lib.hid (below_then HB1.out hb)
    have hA2 := HA1.out.call hb
    have hhl := hA2.lt
    have c0 := hA2.cell 0 _ rfl
    have c1 := hA2.cell 1 _ rfl
    have c2 := hA2.cell 2 _ rfl
    have c3 := hA2.cell 3 _ rfl
    have c4 := hA2.cell 4 _ rfl
    obtain ⟨g, hg⟩ : ∃ g, w2.heap.size = g := ⟨_, rfl⟩
    obtain ⟨W3, hW3⟩ : ∃ W, w2.alloc (.cells #[.pointer none, .slice none 0 0] 109) = W := ⟨_, rfl⟩
    have hI3 : Em.IsB W3 g [] := by rw [← hW3, ← hg]; exact Lib.IsBuilderF.of (Lib.fresh_isBuilder _ _ w2)
    have hB3 : Below w.heap.size w W3 := by rw [← hW3]; exact Hv.bl HB2.out _
    have HG := Lib.hid hg
    have HW3 := Lib.hid hW3
    have HI3 := Lib.hid hI3
    have HB3 := Lib.hid hB3
    have HGw : Hid (w.heap.size ≤ g) := by show _ ≤ _; rw [← hg]; exact HB2.out.size
    clear hb hA2 hg hW3 hI3 hB3
    go_wp2_with fail
    rw [HW3.out, HG.out]
    refine (write_any g [] nm kd tx nu by_ HV.out HO.out W3 HI3.out (by simp) (HW.out.below HB3.out).h (by have := HW.out.h.lt; have := HGw.out; omega)).mono ?_
    rintro e w4 ⟨rfl, hI, hb⟩
    have HI4 := Lib.hid hI
    have HB4 := Lib.hid (HB3.out.trans (hb.mono HGw.out))
    clear hI hb c0 c1 c2 c3 c4 hhl
    go_wp2_with fail
    refine (Tryz.Builder_String_any_k g g _ w4 HI4.out (Nat.le_of_lt HI4.out.lt)).mono ?_
    rintro e w5 ⟨rfl, _, hb, _⟩
    have HB5 := Lib.hid (HB4.out.trans (hb.mono HGw.out))
    clear hb
    go_wp2
    go_ret2
    exact ⟨by rw [← HE.out]; rfl, HB5.out⟩
end Go.Proofs.YthmhadgbhakdlaaGreatDoor

/- emit.Text: a hive's text. -/
namespace Go.Proofs.YthmhadgbhakdlaaGreatDoor
open Go.RowKit

namespace Em
theorem keyHead_eq (p : ByteArray) : tl ((⟨#[10, 91]⟩ : ByteArray) ++ p ++ ⟨#[93, 10]⟩) = [10, 91] ++ tl p ++ [93, 10] := by
  unfold tl
  simp
theorem vals_take {l : List Hv.V} {k : Nat} {v : Hv.V} (h : l[k]? = some v) : vals (l.take (k + 1)) = vals (l.take k) ++ (val v ++ [10]) := by rw [Hv.take_next h, vals_snoc]
theorem text_take {l : List Hv.K} {k : Nat} {v : Hv.K} (h : l[k]? = some v) : text (l.take (k + 1)) = text (l.take k) ++ key v := by rw [Hv.take_next h, text_snoc]
theorem text_len_take (l : List Hv.K) (k : Nat) (h : ∀ x ∈ l, Hv.keyB x = true) (hn : l.length ≤ 4096) : (text (l.take k)).length ≤ 700000000000 := by
  have h1 := text_len (l.take k) fun x hx => h x (List.mem_of_mem_take hx)
  rw [List.length_take] at h1
  omega
theorem vals_len_take (l : List Hv.V) (k : Nat) (h : ∀ x ∈ l, Hv.valB x = true) (hn : l.length ≤ 512) : (vals (l.take k)).length ≤ 160000000 := by
  have h1 := vals_len (l.take k) fun x hx => h x (List.mem_of_mem_take hx)
  rw [List.length_take] at h1
  omega
theorem hive_parts {l : List Hv.K} (h : Hv.hiveB l = true) : l.length ≤ 4096 ∧ ∀ k ∈ l, Hv.keyB k = true := by
  unfold Hv.hiveB at h
  rw [Bool.and_eq_true, decide_eq_true_eq] at h
  exact ⟨h.1, keysB_all l [] h.2⟩
end Em
set_option maxHeartbeats 4000000 in
set_option maxRecDepth 100000 in
theorem emText_any (l : List Hv.K) (hl : ∀ k ∈ l, k.Ok) (A : Option Addr) (n c : Nat) (evs : List Value) (w : World) (hn : l.length = n) (hnm : n ≤ maxLen) (hr : Hv.HR w w.heap.size l (.slice A n c) evs) (hW : Wg w) :
    Calls Tryz.prog 20 #[.agg #[.slice A n c]] w fun e w' => e = .returned (if Hv.hiveB l = true then .tuple #[.string (Em.bts (Em.text l)), .int .i64 0] else .tuple #[.string ⟨#[]⟩, .int .i64 2]) ∧ Below w.heap.size w w' := by
  have HC : Hid (∀ W, Below w.heap.size w W → Calls Tryz.prog 22 #[.agg #[.slice A n c]] W fun e w' => e = .returned (.int .i64 (if Hv.hiveB l = true then 0 else 2)) ∧ Below W.heap.size W w') := fun W hb => hvCheck_any l hl A n c evs W hn hnm ((hr.below hb).more hb.size) (hW.l.below hb)
  obtain ⟨X, hX⟩ : ∃ X : Value, (if Hv.hiveB l = true then Value.tuple #[.string (Em.bts (Em.text l)), .int .i64 0] else .tuple #[.string ⟨#[]⟩, .int .i64 2]) = X := ⟨_, rfl⟩
  rw [hX]
  obtain ⟨W1, hW1⟩ : ∃ W, w.alloc (.cells #[.slice A n c] 43) = W := ⟨_, rfl⟩
  have hA1 : At W1 w.heap.size [.slice A n c] := by rw [← hW1]; exact At.new _ _ _
  have hB1 : Below w.heap.size w W1 := by rw [← hW1]; exact Hv.bl1 _ _
  have HA1 := Lib.hid hA1
  have HB1 := Lib.hid hB1
  have HW1 := Lib.hid hW1
  have HW := Lib.hid hW
  have HO := Lib.hid hl
  have HN := Lib.hid hn
  have HR := Lib.hid hr
  unfold maxLen at hnm
  clear hA1 hB1 hW1 hW hl hn hr
  cases hv : Hv.hiveB l with
  | false =>
    rw [hv] at hX HC
    have HE := Lib.hid hX
    clear hX hv
    go_enter Tryz.func20, Tryz.ntmps20
    go_wp2_with fail
    rw [HW1.out]
    refine (HC.out _ HB1.out).mono ?_
    rintro e w2 ⟨rfl, hb⟩
    have HB2 := Lib.hid (below_then HB1.out hb)
    clear hb
    go_wp2
    go_ret2
    exact ⟨by rw [← HE.out]; rfl, HB2.out⟩
  | true =>
    obtain ⟨hp1, hp2⟩ := Em.hive_parts hv
    rw [hv] at hX HC
    have HE := Lib.hid hX
    have HP2 := Lib.hid hp2
    have HTl := Lib.hid (fun k => Em.text_len_take l k hp2 hp1)
    rw [HN.out] at hp1
    clear hX hv hp2
    go_enter Tryz.func20, Tryz.ntmps20
    go_wp2_with fail
    rw [HW1.out]
    refine (HC.out _ HB1.out).mono ?_
    rintro e w2 ⟨rfl, hb⟩
    have HB2 := Lib.hid (below_then HB1.out hb)
    have hA2 := HA1.out.call hb
    obtain ⟨g, hg⟩ : ∃ g, w2.heap.size = g := ⟨_, rfl⟩
    obtain ⟨W3, hW3⟩ : ∃ W, w2.alloc (.cells #[.pointer none, .slice none 0 0] 109) = W := ⟨_, rfl⟩
    have hI3 : Em.IsB W3 g [] := by rw [← hW3, ← hg]; exact Lib.IsBuilderF.of (Lib.fresh_isBuilder _ _ w2)
    have hB3 : Below w.heap.size w W3 := by rw [← hW3]; exact Hv.bl HB2.out _
    have hgw : w.heap.size < g := by rw [← hg]; exact hA2.lt
    have HA3 : Hid (At W3 w.heap.size [.slice A n c]) := by show At _ _ _; rw [← hW3]; exact hA2.allocO _
    have HG := Lib.hid hg
    have HW3 := Lib.hid hW3
    have HI3 := Lib.hid hI3
    have HB3 := Lib.hid hB3
    have HGw : Hid (w.heap.size ≤ g) := Nat.le_of_lt hgw
    have HGt : Hid (8 < g) := by show _ < _; have := HW.out.h.lt; omega
    clear hb hA2 hg hW3 hI3 hB3
    go_wp2_with fail
    rw [HW3.out, HG.out]
    refine (Em.putS (l := []) ⟨#[82, 69, 71, 73, 83, 84, 69, 82, 32, 49, 10]⟩ HI3.out (by simp) (by decide)).mono ?_
    rintro e w4 ⟨rfl, hI, hb, _⟩
    have HI4 : Hid (Em.IsB w4 g (Em.text (l.take 0))) := hI
    have HB4 := Lib.hid (HB3.out.trans (hb.mono HGw.out))
    have hA4 := HA3.out.below hb hgw
    have a0 := hA4.cell 0 _ rfl
    have hal := hA4.lt
    clear hI hb hA4
    go_wp2_with fail
    go_loopw [16] (fun i wr => ∃ k : Nat, k ≤ n ∧ i = .int .i64 (k : Int) ∧ Hid (Em.IsB wr g (Em.text (l.take k))) ∧ Hid (Below w.heap.size w wr)) (fun i _ => n - (intOf i).toNat)
    case atStart => exact ⟨0, Nat.zero_le _, rfl, HI4.out, HB4.out⟩
    case round =>
      clear a0 hal
      obtain ⟨k, hk, rfl, HI, HB⟩ := hrel
      by_cases hlt : k < n
      · have q1 : (0 : Int) ≤ (k : Int) := by omega
        have q2 : (k : Int) < (n : Int) := by omega
        obtain ⟨ad, x, vA, m, vc, rfl, hab, Hx, c0, c1, HVl, hv1, hv2, HRv⟩ := (HR.out.below HB.out).at_ HN.out hlt
        have hxm := List.mem_of_getElem? Hx.out
        have hkp := Em.key_parts (HP2.out x hxm)
        have hxo := HO.out x hxm
        have HT := Lib.hid (Em.text_take Hx.out)
        obtain ⟨pt, vs⟩ := x
        simp only at c0 c1 HVl HRv
        obtain ⟨hk1, hk2, hk3⟩ := hkp
        simp only at hk1 hk2 hk3
        have HVs := Lib.hid hk3
        have HVo := Lib.hid hxo.vals
        have hm5 : m ≤ 512 := by rw [← HVl.out]; exact hk2
        have HLt := Lib.hid (HTl.out k)
        have HVt := Lib.hid (fun j => Em.vals_len_take vs j hk3 hk2)
        obtain ⟨W5, hW5⟩ : ∃ W, wr.alloc (.cells #[.string pt, .slice vA m vc] 64) = W := ⟨_, rfl⟩
        have HB5 : Hid (Below w.heap.size w W5) := by show Below _ _ _; rw [← hW5]; exact Hv.bl HB.out _
        have HI5 : Hid (Em.IsB W5 g (Em.text (l.take k))) := by show Em.IsB _ _ _; rw [← hW5]; exact HI.out.call (Hv.bl1 _ _)
        have hA5 : At W5 wr.heap.size [.string pt, .slice vA m vc] := by rw [← hW5]; exact At.new _ _ _
        have HA5 := Lib.hid hA5
        have HRv5 : Hid (Reads W5 w.heap.size 5 vA m (vs.flatMap Hv.V.cells)) := by
          show Reads _ _ _ _ _ _
          rw [← hW5]
          exact HRv.out.below ((Hv.bl1 wr _).mono HB.out.size)
        have HW5 := Lib.hid hW5
        have hgr := HI.out.lt
        obtain ⟨P, hP⟩ : ∃ P : ByteArray, (⟨#[10, 91]⟩ : ByteArray) ++ pt ++ ⟨#[93, 10]⟩ = P := ⟨_, rfl⟩
        have hPs : P.size ≤ 300 := by rw [← hP]; simp; show 2 + pt.size + 2 ≤ 300; omega
        have hPt : tl P = [10, 91] ++ tl pt ++ [93, 10] := by rw [← hP]; exact Em.keyHead_eq pt
        have s1 : ∀ W, (Op.stringOp .add ⟨#[10, 91]⟩ pt).run Tryz.prog W = .ok (.string (⟨#[10, 91]⟩ ++ pt)) W := fun W => run_string_add_sum W _ _ (by have : (⟨#[10, 91]⟩ : ByteArray).size = 2 := rfl; omega)
        have s2 : ∀ W, (Op.stringOp .add (⟨#[10, 91]⟩ ++ pt) ⟨#[93, 10]⟩).run Tryz.prog W = .ok (.string P) W := fun W => by
          rw [← hP]
          exact run_string_add_sum W _ _ (by rw [ByteArray.size_append]; have h1 : (⟨#[10, 91]⟩ : ByteArray).size = 2 := rfl; have h2 : (⟨#[93, 10]⟩ : ByteArray).size = 2 := rfl; omega)
        have HPs := Lib.hid hPs
        have HPt := Lib.hid hPt
        clear hW5 hA5 hxm hxo hk3 hk2 hk1 hP hPs hPt
        go_wp2_with fail
        rw [HW5.out]
        refine (Em.putS P HI5.out (by have := HLt.out; omega) (by have := HPs.out; omega)).mono ?_
        rintro e w6 ⟨rfl, hI, hb, ho⟩
        have HB6 := Lib.hid (HB5.out.trans (hb.mono HGw.out))
        have hA6 : At w6 wr.heap.size [.string pt, .slice vA m vc] := by
          have hbk : Em.Blk W5 wr.heap.size #[.string pt, .slice vA m vc] 64 := by rw [← HW5.out]; exact Em.Blk.new _ _ _
          exact (hbk.others ho (by omega) (by decide)).at_
        have d1 := hA6.cell 1 _ rfl
        have dl := hA6.lt
        have HRv6 : Hid (Reads w6 w.heap.size 5 vA m (vs.flatMap Hv.V.cells)) := HRv5.out.below (hb.mono HGw.out)
        have HI6 : Hid (Em.IsB w6 g (Em.text (l.take k) ++ Em.keyHead ⟨pt, vs⟩ ++ Em.vals (vs.take 0))) := by
          show Em.IsB _ _ _
          rw [HPt.out] at hI
          have e : Em.text (l.take k) ++ Em.keyHead ⟨pt, vs⟩ ++ Em.vals (vs.take 0) = Em.text (l.take k) ++ ([10, 91] ++ tl pt ++ [93, 10]) := by
            show _ ++ _ ++ [] = _
            rw [List.append_nil]
            rfl
          rw [e]
          exact hI
        clear hI hb ho hA6 c0 c1 HA5 HRv5 HRv HI5 HB5 s1 s2
        go_wp2_with fail
        clear d1 dl
        go_loopw [28] (fun i wi => ∃ j : Nat, j ≤ m ∧ i = .int .i64 (j : Int) ∧ Hid (Em.IsB wi g (Em.text (l.take k) ++ Em.keyHead ⟨pt, vs⟩ ++ Em.vals (vs.take j))) ∧ Hid (Below w.heap.size w wi) ∧ Hid (Below w.heap.size w6 wi)) (fun i _ => m - (intOf i).toNat)
        case atStart => exact ⟨0, Nat.zero_le _, rfl, HI6.out, HB6.out, Below.refl _ _⟩
        case round =>
          obtain ⟨j, hj, rfl, HIi, HBi, HBj⟩ := hrel
          by_cases hlj : j < m
          · have q3 : (0 : Int) ≤ (j : Int) := by omega
            have q4 : (j : Int) < (m : Int) := by omega
            obtain ⟨ad2, y, rfl, hab2, Hy, e0, e1, e2, e3, e4⟩ := Hv.val_at (HRv6.out.below HBj.out) HVl.out hlj
            have hym := List.mem_of_getElem? Hy.out
            have hyo := HVo.out y hym
            have hyb := HVs.out y hym
            have HTv := Lib.hid (Em.vals_take Hy.out)
            obtain ⟨nm, kd, tx, nu, by_⟩ := y
            simp only at e0 e1 e2 e3 e4
            have HYo := Lib.hid hyo
            have HYb := Lib.hid hyb
            have HYl := Lib.hid (Em.val_len2 hyb)
            have hLj := HVt.out j
            have HLen : Hid ((Em.text (l.take k) ++ Em.keyHead ⟨pt, vs⟩ ++ Em.vals (vs.take j)).length ≤ 800000000000) := by
              show _ ≤ _
              have h1 := HLt.out
              have h2 : (Em.keyHead ⟨pt, vs⟩).length ≤ 300 := by
                show ([10, 91] ++ tl pt ++ [93, 10] : Em.Txt).length ≤ 300
                rw [← HPt.out, tl_length]
                exact HPs.out
              rw [List.length_append, List.length_append]
              omega
            obtain ⟨W7, hW7⟩ : ∃ W, wr.alloc (.cells #[.string nm, .int .u8 kd, .string tx, .int .u32 nu, .string by_] 55) = W := ⟨_, rfl⟩
            have HB7 : Hid (Below w.heap.size w W7) := by show Below _ _ _; rw [← hW7]; exact Hv.bl HBi.out _
            have HJ7 : Hid (Below w.heap.size w6 W7) := by show Below _ _ _; rw [← hW7]; exact HBj.out.trans ((Hv.bl1 wr _).mono HBi.out.size)
            have HI7 : Hid (Em.IsB W7 g (Em.text (l.take k) ++ Em.keyHead ⟨pt, vs⟩ ++ Em.vals (vs.take j))) := by show Em.IsB _ _ _; rw [← hW7]; exact HIi.out.call (Hv.bl1 _ _)
            have HW7 := Lib.hid hW7
            clear hym hyo hyb hLj hW7
            go_wp2_with fail
            rw [HW7.out]
            refine (write_any g _ nm kd tx nu by_ HYb.out HYo.out W7 HI7.out (by have := HLen.out; omega) (HW.out.below HB7.out).h HGt.out).mono ?_
            rintro e w8 ⟨rfl, hI, hb⟩
            have HI8 := Lib.hid hI
            have HB8 := Lib.hid (HB7.out.trans (hb.mono HGw.out))
            have HJ8 := Lib.hid (HJ7.out.trans (hb.mono HGw.out))
            clear hI hb e0 e1 e2 e3 e4
            go_wp2_with fail
            refine (Em.putB 10 HI8.out (by rw [List.length_append]; have := HLen.out; have := HYl.out; omega)).mono ?_
            rintro e w9 ⟨rfl, hI, hb, _⟩
            have HI9 : Hid (Em.IsB w9 g (Em.text (l.take k) ++ Em.keyHead ⟨pt, vs⟩ ++ Em.vals (vs.take (j + 1)))) := by
              show Em.IsB _ _ _
              rw [HTv.out, ← List.append_assoc, ← List.append_assoc]
              exact hI
            have HB9 := Lib.hid (HB8.out.trans (hb.mono HGw.out))
            have HJ9 := Lib.hid (HJ8.out.trans (hb.mono HGw.out))
            clear hI hb
            go_wp2
            go_roundw
            case rel => exact ⟨j + 1, by omega, by go_num, HI9.out, HB9.out, HJ9.out⟩
            case measure => simp [intOf]; omega
          · have q4 : ¬ (j : Int) < (m : Int) := by omega
            have HI9 : Hid (Em.IsB wr g (Em.text (l.take (k + 1)))) := by
              show Em.IsB _ _ _
              rw [HT.out]
              have h := HIi.out
              have hT : vs.take j = vs := List.take_of_length_le (by rw [HVl.out]; omega)
              rw [hT, List.append_assoc] at h
              exact h
            go_wp2
            go_roundw
            case rel => exact ⟨k + 1, by omega, by go_num, HI9.out, HBi.out⟩
            case measure => simp [intOf]; omega
      · have q2 : ¬ (k : Int) < (n : Int) := by omega
        have hI := HI.out
        rw [List.take_of_length_le (by rw [HN.out]; omega)] at hI
        have HI9 := Lib.hid hI
        clear hI
        go_wp2_with fail
        refine (Tryz.Builder_String_any_k g g _ _ HI9.out (Nat.le_of_lt HI9.out.lt)).mono ?_
        rintro e w5 ⟨rfl, _, hb, _⟩
        have HB5 := Lib.hid (HB.out.trans (hb.mono HGw.out))
        clear hb
        go_wp2
        go_ret2
        exact ⟨by rw [← HE.out]; rfl, HB5.out⟩
end Go.Proofs.YthmhadgbhakdlaaGreatDoor

/- hive.Same: two hives that hold the same. -/
namespace Go.Proofs.YthmhadgbhakdlaaGreatDoor
open Go.RowKit

theorem hvEq_val (a : ByteArray) (k : Int) (b : ByteArray) (n : Int) (c : ByteArray) (w : World) : (Op.equalIn 10000 55 (.agg #[.string a, .int .u8 k, .string b, .int .u32 n, .string c]) (.agg #[.string a, .int .u8 k, .string b, .int .u32 n, .string c])).run Tryz.prog w = .ok true w := by
  go_simp
set_option maxHeartbeats 2000000 in
set_option maxRecDepth 100000 in
theorem hvEqs (A A' : Option Addr) (n c c' : Nat) (vs : List Hv.V) (w : World) (hn : n ≤ maxLen) (hl : vs.length = n) (hr : Reads w w.heap.size 5 A n (vs.flatMap Hv.V.cells)) (hr' : Reads w w.heap.size 5 A' n (vs.flatMap Hv.V.cells)) :
    Calls Tryz.prog 54 #[.slice A n c, .slice A' n c'] w fun e w' => e = .returned (.bool true) ∧ Drew w w' := by
  unfold maxLen at hn
  have HR := Lib.hid hr
  have HR' := Lib.hid hr'
  have HL := Lib.hid hl
  clear hr hr' hl
  go_enter Tryz.func54, Tryz.ntmps54
  go_wp2
  go_loopw [5, 13] (fun _ i wr => ∃ k : Nat, k ≤ n ∧ i = .int .i64 k ∧ Hid (Drew w wr)) (fun _ i _ => n - (intOf i).toNat)
  case atStart => exact ⟨0, Nat.zero_le _, rfl, Drew.refl _⟩
  case round =>
    obtain ⟨k, hk, rfl, HD⟩ := hrel
    by_cases hlt : k < n
    · have q2 : (k : Int) < (n : Int) := by omega
      have q1 : (0 : Int) ≤ (k : Int) := by omega
      obtain ⟨ad, x, rfl, hab, Hx, d0, d1, d2, d3, d4⟩ := Hv.val_at (HR.out.of_drew HD.out) HL.out hlt
      obtain ⟨ad', y, rfl, hab', Hy, e0, e1, e2, e3, e4⟩ := Hv.val_at (HR'.out.of_drew HD.out) HL.out hlt
      obtain rfl : x = y := Option.some.inj (Hx.out.symm.trans Hy.out)
      obtain ⟨xn, xk, xt, xu, xb⟩ := x
      simp only at d0 d1 d2 d3 d4 e0 e1 e2 e3 e4
      have hE : ∀ W, (Op.equalIn 10000 55 (.agg #[.string xn, .int .u8 xk, .string xt, .int .u32 xu, .string xb]) (.agg #[.string xn, .int .u8 xk, .string xt, .int .u32 xu, .string xb])).run Tryz.prog W = .ok true W := fun W => hvEq_val xn xk xt xu xb W
      go_wp2_with fail
      go_quiet (fail)
      go_wp2
      go_roundw
      case rel => exact ⟨k + 1, by omega, by go_num, HD.out.drewN _⟩
      case measure => simp [intOf]; omega
    · have q2 : ¬ (k : Int) < (n : Int) := by omega
      go_wp2
      go_ret
      exact ⟨rfl, HD.out⟩
set_option maxHeartbeats 1000000 in
/-- The comparison of two keys. -/
theorem hvSameKey (p : ByteArray) (vs : List Hv.V) (v v' : Value) (w : World) (hp : Hv.Row w w.heap.size 5 vs.length v (vs.flatMap Hv.V.cells)) (hq : Hv.Row w w.heap.size 5 vs.length v' (vs.flatMap Hv.V.cells)) :
    Calls Tryz.prog 53 #[.agg #[.string p, v], .agg #[.string p, v']] w fun e w' => e = .returned (.bool true) ∧ Below w.heap.size w w' := by
  obtain ⟨A, c, rfl, h1, h2, h3⟩ := hp
  obtain ⟨A', c', rfl, h1', h2', h3'⟩ := hq
  have hC := fun W (hb : Below w.heap.size w W) => hvEqs A A' vs.length c c' vs W (Nat.le_trans h1 h2) rfl ((h3.below hb).more hb.size) ((h3'.below hb).more hb.size)
  obtain ⟨n1, hn1⟩ : ∃ n, vs.length = n := ⟨_, rfl⟩
  simp only [hn1] at hC
  rw [hn1]
  have HC := Lib.hid hC
  clear hC h1 h2 h3 h1' h2' h3' hn1
  have HB := Lib.hid (((Below.refl w.heap.size w).alloc (Nat.le_refl _) (.cells #[.string p, .slice A n1 c] 64)).alloc (by simp) (.cells #[.string p, .slice A' n1 c'] 64))
  go_enter Tryz.func53, Tryz.ntmps53
  go_wp2_with fail
  refine (HC.out _ HB.out).mono ?_
  rintro e w1 ⟨rfl, hd⟩
  replace HB := Lib.hid (below_drew HB.out hd)
  clear hd
  go_wp2
  go_ret
  exact ⟨rfl, HB.out⟩
set_option maxHeartbeats 2000000 in
set_option maxRecDepth 100000 in
theorem hvEqf (A A' : Option Addr) (n c c' : Nat) (l : List Hv.K) (evs evs' : List Value) (w : World) (hn : n ≤ maxLen) (hl : l.length = n) (hr : Hv.HR w w.heap.size l (.slice A n c) evs) (hr' : Hv.HR w w.heap.size l (.slice A' n c') evs') :
    Calls Tryz.prog 52 #[.slice A n c, .slice A' n c', .func (.func 53) #[] #[]] w fun e w' => e = .returned (.bool true) ∧ Below w.heap.size w w' := by
  have eg := enters_of Tryz.func53 (by kernel_rfl) rfl
  unfold maxLen at hn
  have HR := Lib.hid hr
  have HR' := Lib.hid hr'
  have HL := Lib.hid hl
  clear hr hr' hl
  go_enter Tryz.func52, Tryz.ntmps52
  go_wp2
  go_loopw [17] (fun i wr => ∃ k : Nat, k ≤ n ∧ i = .int .i64 k ∧ Hid (Below w.heap.size w wr)) (fun i _ => n - (intOf i).toNat)
  case atStart => exact ⟨0, Nat.zero_le _, rfl, Below.refl _ _⟩
  case round =>
    obtain ⟨k, hk, rfl, HB⟩ := hrel
    by_cases hlt : k < n
    · have q2 : (k : Int) < (n : Int) := by omega
      have q1 : (0 : Int) ≤ (k : Int) := by omega
      obtain ⟨ad, x, vA, m, vc, rfl, hab, Hx, c0, c1, HVl, hv1, hv2, HRv⟩ := (HR.out.below HB.out).at_ HL.out hlt
      obtain ⟨W3, hW3⟩ : ∃ W, wr.alloc (.cells #[.string x.path, .slice vA m vc] 64) = W := ⟨_, rfl⟩
      have HB3 : Hid (Below w.heap.size w W3) := by show Below _ _ _; rw [← hW3]; exact Hv.bl HB.out _
      have HB3r : Hid (Below wr.heap.size wr W3) := by show Below _ _ _; rw [← hW3]; exact Hv.bl1 _ _
      obtain ⟨ad', y, vA', m', vc', rfl, hab', Hy, d0, d1, HVl', hv1', hv2', HRv'⟩ := (HR'.out.below HB3.out).at_ HL.out hlt
      obtain rfl : x = y := Option.some.inj (Hx.out.symm.trans Hy.out)
      obtain rfl : m = m' := HVl.out.symm.trans HVl'.out
      obtain ⟨W4, hW4⟩ : ∃ W, W3.alloc (.cells #[.string x.path, .slice vA' m vc'] 64) = W := ⟨_, rfl⟩
      have HB4 : Hid (Below w.heap.size w W4) := by show Below _ _ _; rw [← hW4]; exact Hv.bl HB3.out _
      have HB43 : Hid (Below w.heap.size W3 W4) := by show Below _ _ _; rw [← hW4]; exact (Hv.bl1 _ _).mono HB3.out.size
      have hC := hvSameKey x.path x.vals (.slice vA m vc) (.slice vA' m vc') W4 ⟨vA, vc, by rw [HVl.out], by rw [HVl.out]; exact hv1, hv2, by rw [HVl.out]; exact ((HRv.out.below ((HB3r.out.mono HB.out.size).trans HB43.out)).more HB4.out.size)⟩ ⟨vA', vc', by rw [HVl.out], by rw [HVl.out]; exact hv1', hv2', by rw [HVl.out]; exact ((HRv'.out.below HB43.out).more HB4.out.size)⟩
      have HC := Lib.hid hC
      obtain ⟨pt, vs⟩ := x
      simp only at c0 c1 d0 d1 hW3 hW4 HC
      have HW3 := Lib.hid hW3
      have HW4 := Lib.hid hW4
      have hsz := HB.out.size
      rw [← hW3] at d0 d1
      clear hC hW3 hW4
      go_wp2_with fail
      rw [HW3.out, HW4.out]
      refine HC.out.mono ?_
      rintro e w' ⟨rfl, hb⟩
      have HB5 := Lib.hid (below_then HB4.out hb)
      clear hb d0 d1 c0 c1
      go_wp2
      go_roundw
      case rel => exact ⟨k + 1, by omega, by go_num, HB5.out⟩
      case measure => simp [intOf]; omega
    · have q2 : ¬ (k : Int) < (n : Int) := by omega
      go_wp2
      go_ret
      exact ⟨rfl, HB.out⟩
set_option maxHeartbeats 2000000 in
/-- hive.Same, at two that hold the same. -/
theorem hvSame_any (A A' : Option Addr) (n c c' : Nat) (l : List Hv.K) (evs evs' : List Value) (w : World) (hn : n ≤ maxLen) (hl : l.length = n) (hr : Hv.HR w w.heap.size l (.slice A n c) evs) (hr' : Hv.HR w w.heap.size l (.slice A' n c') evs') :
    Calls Tryz.prog 23 #[.agg #[.slice A n c], .agg #[.slice A' n c']] w fun e w' => e = .returned (.bool true) ∧ Below w.heap.size w w' := by
  obtain ⟨w0, hw0⟩ : ∃ x, (w.alloc (.cells #[.slice A n c] 43)).alloc (.cells #[.slice A' n c'] 43) = x := ⟨_, rfl⟩
  have HB : Hid (Below w.heap.size w w0) := by show Below _ _ _; rw [← hw0]; exact Hv.bl (Hv.bl1 _ _) _
  have HC := Lib.hid (hvEqf A A' n c c' l evs evs' w0 hn hl (hr.call HB.out) (hr'.call HB.out))
  have HW0 := Lib.hid hw0
  clear hw0 hr hr'
  go_enter Tryz.func23, Tryz.ntmps23
  go_wp2_with fail
  rw [HW0.out]
  refine HC.out.mono ?_
  rintro e w1 ⟨rfl, hb⟩
  replace HB := Lib.hid (below_then HB.out hb)
  clear hb
  go_wp2
  go_ret
  exact ⟨rfl, HB.out⟩
end Go.Proofs.YthmhadgbhakdlaaGreatDoor

/- solsticetop.begins18. -/
namespace Go.Proofs.YthmhadgbhakdlaaGreatDoor
open Go.RowKit

namespace Ink
theorem headT : Em.bts (Lib.join (headL :: lns [It.blank]) [10]) = (⟨#[82, 69, 71, 73, 83, 84, 69, 82, 32, 49, 10]⟩ : ByteArray) := by rfl
theorem empty_fl : Fl [] := ⟨by decide, by decide⟩
end Ink
set_option maxHeartbeats 4000000 in
set_option maxRecDepth 100000 in
theorem begins18 (w : World) (hW : Wg w) : Calls Tryz.prog 18 #[] w fun e w' => e = .returned (.bool true) ∧ Below w.heap.size w w' := by
  have H1 : Hid (∀ W, Below w.heap.size w W → Calls Tryz.prog 21 #[.string ⟨#[82, 69, 71, 73, 83, 84, 69, 82, 32, 49, 10]⟩] W fun e w' => ∃ A c evs, e = .returned (.tuple #[.agg #[.slice A 0 c], .agg #[.int .i64 0, .int .i64 0, .int .i64 0]]) ∧ Hv.HR w' w'.heap.size [] (.slice A 0 c) evs ∧ Below W.heap.size W w') := by
    intro W hb
    have h := inParse_any [.blank] ⟨#[82, 69, 71, 73, 83, 84, 69, 82, 32, 49, 10]⟩ (by rw [← Ink.headT]; exact Em.tl_bts _) (by decide)
      (by
        intro i hi
        obtain rfl := List.mem_singleton.1 hi
        trivial)
      (by
        intro x hx
        have hx : x = [] := by simpa [Ink.lns, Ink.It.ls] using hx
        subst hx
        exact Ink.empty_fl) ⟨trivial, Nat.zero_le _, fun _ _ => trivial⟩ W (hW.l.below hb)
    refine h.mono ?_
    rintro e w' ⟨hb, kv, evs, rfl, hR⟩
    obtain ⟨A, c, rfl, h1, h2, h3⟩ := hR.row
    exact ⟨A, c, evs, rfl, hR, hb⟩
  have H2 : Hid (∀ W, Below w.heap.size w W → ∀ A c evs, Hv.HR W W.heap.size [] (.slice A 0 c) evs → Calls Tryz.prog 20 #[.agg #[.slice A 0 c]] W fun e w' => e = .returned (.tuple #[.string ⟨#[82, 69, 71, 73, 83, 84, 69, 82, 32, 49, 10]⟩, .int .i64 0]) ∧ Below W.heap.size W w') := fun W hb A c evs hR => emText_any [] (fun k hk => by cases hk) A 0 c evs W rfl (Nat.zero_le _) hR (hW.below hb)
  have H3 : Hid (∀ W, Calls Tryz.prog 42 #[.string ⟨#[1]⟩] W fun e w' => e = .returned (.string ⟨#[48, 49]⟩) ∧ Below W.heap.size W w') := fun W => hex_any ⟨#[1]⟩ (by decide) W
  clear hW
  have HB0 := Lib.hid (Below.refl w.heap.size w)
  go_enter Tryz.func18, Tryz.ntmps18
  go_wp2_with fail
  refine (H1.out _ HB0.out).mono ?_
  rintro e w1 ⟨A, c, evs, rfl, hR, hb⟩
  have HR := Lib.hid hR
  have HB1 := Lib.hid hb
  clear hR hb
  go_wp2_with fail
  have HB2 := Lib.hid (Hv.bl (Hv.bl HB1.out (.cells #[.slice A 0 c] 43)) (.cells #[.int .i64 0, .int .i64 0, .int .i64 0] 47))
  have HR2 := Lib.hid (HR.out.call (Hv.bl (Hv.bl1 w1 (.cells #[.slice A 0 c] 43)) (.cells #[.int .i64 0, .int .i64 0, .int .i64 0] 47)))
  have hF := At.new (w1.alloc (.cells #[.slice A 0 c] 43)) #[.int .i64 0, .int .i64 0, .int .i64 0] 47
  rw [World.size_alloc] at hF
  have HF := Lib.hid hF
  clear hF
  refine (H2.out _ HB2.out A c evs HR2.out).mono ?_
  rintro e w3 ⟨rfl, hb⟩
  have HF3 := Lib.hid (HF.out.call hb)
  have HB3 := Lib.hid (below_then HB2.out hb)
  obtain ⟨c0, c1, c2, f0, f1, f2⟩ := HF3.out.three
  have z1 := HF3.out.lt
  clear hb
  go_wp2_with fail
  refine (H3.out _).mono ?_
  rintro e w4 ⟨rfl, hb⟩
  have HB4 := Lib.hid (below_then HB3.out hb)
  clear hb
  go_wp2
  go_ret
  exact ⟨rfl, HB4.out⟩
end Go.Proofs.YthmhadgbhakdlaaGreatDoor
