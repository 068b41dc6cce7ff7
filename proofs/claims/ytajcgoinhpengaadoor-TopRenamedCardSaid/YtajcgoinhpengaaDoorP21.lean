/- chart.territory and chart.right. -/
import Derived.Test.YtajcgoinhpengaaDoorP19
import Derived.Test.YtajcgoinhpengaaDoorP20
import Derived.Test.YtajcgoinhpengaaDoorP17

namespace Go.Proofs.YtajcgoinhpengaaDoor
open Go.RowKit

namespace Ca
theorem all_next {α : Type} {p : α → Bool} {l : List α} {k : Nat} {x : α} {X : Bool} (h : X = (l.drop k).all p) (hx : l[k]? = some x) : X = (p x && (l.drop (k + 1)).all p) := by
  rw [List.drop_eq_getElem_cons (List.getElem?_eq_some_iff.1 hx).1] at h
  rw [h, List.all_cons, (List.getElem?_eq_some_iff.1 hx).2]
theorem all_end {α : Type} {p : α → Bool} {l : List α} {k : Nat} {X : Bool} (h : X = (l.drop k).all p) (hk : l.length ≤ k) : X = true := by
  rw [h, List.drop_eq_nil_of_le hk]
  rfl
theorem sign_cases (c : UInt8) : (sign c = true ∧ 65 ≤ (c.toNat : Int) ∧ (c.toNat : Int) ≤ 90) ∨ (sign c = true ∧ ¬ 65 ≤ (c.toNat : Int) ∧ 48 ≤ (c.toNat : Int) ∧ (c.toNat : Int) ≤ 57) ∨ (sign c = false ∧ 65 ≤ (c.toNat : Int) ∧ ¬ (c.toNat : Int) ≤ 90 ∧ 48 ≤ (c.toNat : Int) ∧ ¬ (c.toNat : Int) ≤ 57) ∨
    (sign c = false ∧ ¬ 65 ≤ (c.toNat : Int) ∧ 48 ≤ (c.toNat : Int) ∧ ¬ (c.toNat : Int) ≤ 57) ∨ (sign c = false ∧ ¬ 65 ≤ (c.toNat : Int) ∧ ¬ 48 ≤ (c.toNat : Int)) := by
  unfold sign
  simp only [Bool.or_eq_true, Bool.and_eq_true, decide_eq_true_eq, Bool.or_eq_false_iff, Bool.and_eq_false_iff, decide_eq_false_iff_not]
  omega
end Ca
set_option maxHeartbeats 2000000 in
set_option maxRecDepth 100000 in
theorem caTerr_any (s : ByteArray) (hs : s.size ≤ maxLen) (w : World) :
    Calls Tryd.prog 45 #[.string s] w fun e w' => e = .returned (.bool (Ca.terrB (tl s))) ∧ Below w.heap.size w w' := by
  unfold maxLen at hs
  obtain ⟨X, hX⟩ : ∃ X, Ca.terrB (tl s) = X := ⟨_, rfl⟩
  rw [hX]
  unfold Ca.terrB at hX
  rw [tl_length] at hX
  by_cases h1 : 1 ≤ s.size
  · have q1 : ¬ (s.size : Int) < 1 := by omega
    by_cases h2 : s.size ≤ 8
    · have q2 : ¬ (8 : Int) < (s.size : Int) := by omega
      rw [decide_eq_true ⟨h1, h2⟩, Bool.true_and] at hX
      have H0 : Hid (X = ((tl s).drop 0).all Ca.sign) := hX.symm
      have HL : Hid ((tl s).length = s.size) := tl_length s
      clear hX
      go_enter Tryd.func45, Tryd.ntmps45
      go_wp2
      go_loop [3] (fun i => ∃ k : Nat, k ≤ s.size ∧ i = .int .i64 k ∧ Hid (X = ((tl s).drop k).all Ca.sign)) (fun i => s.size - (intOf i).toNat)
      case atStart => exact ⟨0, Nat.zero_le _, rfl, H0.out⟩
      case round =>
        obtain ⟨k, hk, rfl, HK⟩ := hrel
        by_cases hlt : k < s.size
        · have p1 : (0 : Int) ≤ (k : Int) := by omega
          have p2 : (k : Int) < (s.size : Int) := by omega
          have HN := Lib.hid (Ca.all_next HK.out (Dy.tl_get s k hlt))
          obtain ⟨c, hc⟩ : ∃ c, s[k] = c := ⟨_, rfl⟩
          rw [hc] at HN
          have hcs := Ca.sign_cases c
          rcases hcs with ⟨hq, i1, i2⟩ | ⟨hq, i1, i2, i3⟩ | ⟨hq, i1, i2, i3, i4⟩ | ⟨hq, i1, i2, i3⟩ | ⟨hq, i1, i2⟩
          · have HG : Hid (X = ((tl s).drop (k + 1)).all Ca.sign) := by
              have h := HN.out
              rw [hq, Bool.true_and] at h
              exact h
            clear hq
            go_wp2
            go_round
            case rel => exact ⟨k + 1, by omega, by go_num, HG.out⟩
            case measure => simp [intOf]; omega
          · have HG : Hid (X = ((tl s).drop (k + 1)).all Ca.sign) := by
              have h := HN.out
              rw [hq, Bool.true_and] at h
              exact h
            clear hq
            go_wp2
            go_round
            case rel => exact ⟨k + 1, by omega, by go_num, HG.out⟩
            case measure => simp [intOf]; omega
          · have HG : Hid (X = false) := by
              have h := HN.out
              rw [hq, Bool.false_and] at h
              exact h
            clear hq
            go_wp2
            go_ret
            exact ⟨ret_bool HG.out.symm, Below.refl _ _⟩
          · have HG : Hid (X = false) := by
              have h := HN.out
              rw [hq, Bool.false_and] at h
              exact h
            clear hq
            go_wp2
            go_ret
            exact ⟨ret_bool HG.out.symm, Below.refl _ _⟩
          · have HG : Hid (X = false) := by
              have h := HN.out
              rw [hq, Bool.false_and] at h
              exact h
            clear hq
            go_wp2
            go_ret
            exact ⟨ret_bool HG.out.symm, Below.refl _ _⟩
        · have HE := Lib.hid (Ca.all_end HK.out (by rw [HL.out]; omega))
          have p2 : ¬ (k : Int) < (s.size : Int) := by omega
          go_wp2
          go_ret
          exact ⟨ret_bool HE.out.symm, Below.refl _ _⟩
    · have q2 : (8 : Int) < (s.size : Int) := by omega
      rw [decide_eq_false (fun h => h2 h.2), Bool.false_and] at hX
      have HG := Lib.hid hX
      clear hX
      go_enter Tryd.func45, Tryd.ntmps45
      go_wp2
      go_ret
      exact ⟨ret_bool HG.out, Below.refl _ _⟩
  · have q1 : (s.size : Int) < 1 := by omega
    rw [decide_eq_false (fun h => h1 h.1), Bool.false_and] at hX
    have HG := Lib.hid hX
    clear hX
    go_enter Tryd.func45, Tryd.ntmps45
    go_wp2
    go_ret
    exact ⟨ret_bool HG.out, Below.refl _ _⟩
set_option maxHeartbeats 2000000 in
set_option maxRecDepth 100000 in
theorem caRight_any (x : Ca.E) (A : Option Addr) (c : Nat) (w : World) (hr : Reads w w.heap.size 1 A x.zones.length (x.zones.map Value.string)) (hc : x.zones.length ≤ c) (h1 : x.key.size ≤ maxLen) (h2 : x.terr.size ≤ maxLen) (h3 : ∀ z ∈ x.zones, z.size ≤ maxLen) :
    Calls Tryd.prog 22 #[.agg #[.string x.key, .string x.terr, .slice A x.zones.length c]] w fun e w' => e = .returned (.bool (Ca.right x)) ∧ Below w.heap.size w w' := by
  obtain ⟨ky, te, zs⟩ := x
  simp only at hr hc h1 h2 h3 ⊢
  obtain ⟨n, hn⟩ : ∃ n, zs.length = n := ⟨_, rfl⟩
  obtain ⟨X, hX⟩ : ∃ X, Ca.right ⟨ky, te, zs⟩ = X := ⟨_, rfl⟩
  rw [hX]
  unfold Ca.right at hX
  simp only at hX
  rw [hn] at hr hc hX ⊢
  obtain ⟨b1, hb1⟩ : ∃ b, Te.key ky = b := ⟨_, rfl⟩
  obtain ⟨b2, hb2⟩ : ∃ b, Ca.terrB (tl te) = b := ⟨_, rfl⟩
  have HK := Lib.hid fun W => chartKey_any ky h1 W
  have HT := Lib.hid fun W => caTerr_any te h2 W
  have HNm := Lib.hid fun (z : ByteArray) (hz : z ∈ zs) W => name_all z W (h3 z hz)
  rw [hb1] at HK hX
  rw [hb2] at HT hX
  obtain ⟨W0, hW0⟩ : ∃ W, w.alloc (.cells #[.string ky, .string te, .slice A n c] 45) = W := ⟨_, rfl⟩
  have hB0 : Below w.heap.size w W0 := by rw [← hW0]; exact (Below.refl _ _).alloc (Nat.le_refl _) _
  have hA0 : At W0 w.heap.size [.string ky, .string te, .slice A n c] := by rw [← hW0]; exact At.new _ _ _
  have HRw := Lib.hid hr
  have HB0 := Lib.hid hB0
  have HA0 := Lib.hid hA0
  have HW0 := Lib.hid hW0
  have HN := Lib.hid hn
  have HX := Lib.hid hX
  obtain ⟨c0, c1, c2, _⟩ := hA0.three
  clear hW0 hX hr hB0 hA0 hn h1 h2 h3 hb1 hb2
  go_enter Tryd.func22, Tryd.ntmps22
  go_wp2_with fail
  rw [HW0.out]
  refine (HK.out _).mono ?_
  rintro e w1 ⟨rfl, hb⟩
  have HB1 := Lib.hid (below_then HB0.out hb)
  have HA1 := Lib.hid (HA0.out.call hb)
  obtain ⟨d0, d1, d2, _⟩ := HA1.out.three
  clear hb c0 c1 c2
  cases b1 with
  | false =>
    have HE : Hid (X = false) := by
      have h := HX.out
      simp only [Bool.false_and] at h
      exact h.symm
    go_wp2
    go_ret
    exact ⟨ret_bool HE.out.symm, HB1.out⟩
  | true =>
    go_wp2_with fail
    refine (HT.out _).mono ?_
    rintro e w2 ⟨rfl, hb⟩
    have HB2 := Lib.hid (below_then HB1.out hb)
    have HA2 := Lib.hid (HA1.out.call hb)
    obtain ⟨e0, e1, e2, _⟩ := HA2.out.three
    have HR2 := Lib.hid (HRw.out.below HB2.out)
    clear hb d0 d1 d2
    cases b2 with
    | false =>
      have HE : Hid (X = false) := by
        have h := HX.out
        simp only [Bool.true_and, Bool.false_and] at h
        exact h.symm
      go_wp2
      go_ret
      exact ⟨ret_bool HE.out.symm, HB2.out⟩
    | true =>
      by_cases hn1 : 1 ≤ n
      · have q1 : ¬ (n : Int) < 1 := by omega
        by_cases hn2 : n ≤ 32
        · have q2 : ¬ (32 : Int) < (n : Int) := by omega
          have H0 : Hid (X = (zs.drop 0).all fun z => Ru.name (tl z)) := by
            have h := HX.out
            rw [decide_eq_true ⟨hn1, hn2⟩] at h
            show X = _
            simpa using h.symm
          clear HX
          go_wp2
          go_loopw [28] (fun i wr => ∃ k : Nat, k ≤ n ∧ i = .int .i64 k ∧ Hid (X = (zs.drop k).all fun z => Ru.name (tl z)) ∧ Hid (Below w2.heap.size w2 wr)) (fun i _ => n - (intOf i).toNat)
          case atStart => exact ⟨0, Nat.zero_le _, rfl, H0.out, Below.refl _ _⟩
          case round =>
            obtain ⟨k, hk, rfl, HKk, HBr⟩ := hrel
            by_cases hlt : k < n
            · have p1 : (0 : Int) ≤ (k : Int) := by omega
              have p2 : (k : Int) < (n : Int) := by omega
              obtain ⟨ad, x, rfl, Hx, hcell⟩ : ∃ ad nm, A = some ad ∧ Hid (zs[k]? = some nm) ∧ wr.cell? (ad.add k) = some (.string nm) := reads_str (HR2.out.below (HBr.out.mono HB2.out.size)) hlt
              have HNx := Lib.hid (HNm.out x (List.mem_of_getElem? Hx.out))
              have HNn := Lib.hid (Ca.all_next HKk.out Hx.out)
              obtain ⟨bx, hbx⟩ : ∃ b, Ru.name (tl x) = b := ⟨_, rfl⟩
              rw [hbx] at HNx HNn
              clear hbx
              go_wp2_with fail
              refine (HNx.out _).mono ?_
              rintro e w3 ⟨rfl, hb⟩
              have HB3 := Lib.hid (below_then HBr.out hb)
              clear hb hcell
              cases bx with
              | true =>
                have HG : Hid (X = (zs.drop (k + 1)).all fun z => Ru.name (tl z)) := by
                  have h := HNn.out
                  rw [Bool.true_and] at h
                  exact h
                go_wp2
                go_roundw
                case rel => exact ⟨k + 1, by omega, by go_num, HG.out, HB3.out⟩
                case measure => simp [intOf]; omega
              | false =>
                have HG : Hid (X = false) := by
                  have h := HNn.out
                  rw [Bool.false_and] at h
                  exact h
                go_wp2
                go_ret
                exact ⟨ret_bool HG.out.symm, below_then HB2.out HB3.out⟩
            · have p2 : ¬ (k : Int) < (n : Int) := by omega
              have HE := Lib.hid (Ca.all_end HKk.out (by rw [HN.out]; omega))
              go_wp2
              go_ret
              exact ⟨ret_bool HE.out.symm, below_then HB2.out HBr.out⟩
        · have q2 : (32 : Int) < (n : Int) := by omega
          have HE : Hid (X = false) := by
            have h := HX.out
            rw [decide_eq_false (fun h => hn2 h.2)] at h
            show X = _
            simpa using h.symm
          clear HX
          go_wp2
          go_ret
          exact ⟨ret_bool HE.out.symm, HB2.out⟩
      · have q1 : (n : Int) < 1 := by omega
        have HE : Hid (X = false) := by
          have h := HX.out
          rw [decide_eq_false (fun h => hn1 h.1)] at h
          show X = _
          simpa using h.symm
        clear HX
        go_wp2
        go_ret
        exact ⟨ret_bool HE.out.symm, HB2.out⟩
end Go.Proofs.YtajcgoinhpengaaDoor

/- chart.twice and chart.alone. -/
namespace Go.Proofs.YtajcgoinhpengaaDoor
open Go.RowKit

theorem bal {a w : World} (h : Below a.heap.size a w) (o : Obj) : Below a.heap.size a (w.alloc o) := h.alloc h.size o
theorem bal1 (w : World) (o : Obj) : Below w.heap.size w (w.alloc o) := bal (Below.refl _ _) o
namespace Ca
theorem dup_yes {l : List E} {k : Nat} {x : E} (h : l[k]? = some x) (hm : kb x ∈ (l.take k).map kb) : dup l = true := by
  unfold dup
  rw [Bool.not_eq_true', decide_eq_false_iff_not]
  intro hn
  obtain ⟨y, hy, e⟩ := List.mem_map.1 hm
  obtain ⟨j, hj⟩ := List.mem_iff_getElem?.1 hy
  have hjk : j < k := by
    have := (List.getElem?_eq_some_iff.1 hj).1
    rw [List.length_take] at this
    omega
  rw [List.getElem?_take, if_pos hjk] at hj
  have g1 : (l.map kb)[j]? = some (kb x) := by rw [List.getElem?_map, hj]; simp [e]
  have g2 : (l.map kb)[k]? = some (kb x) := by rw [List.getElem?_map, h]; rfl
  have := (List.getElem?_inj (List.getElem?_eq_some_iff.1 g1).1 hn).1 (g1.trans g2.symm)
  omega
theorem nodup_snoc {l : List ByteArray} {x : ByteArray} (h : l.Nodup) (hx : x ∉ l) : (l ++ [x]).Nodup := by
  rw [List.nodup_append]
  exact ⟨h, by simp, fun a ha b hb => by rw [List.mem_singleton.1 hb]; exact fun e => hx (e ▸ ha)⟩
theorem dup_no {l : List E} (h : (l.map kb).Nodup) : dup l = false := by
  unfold dup
  rw [decide_eq_true h]
  rfl
theorem kb_take {l : List E} {k : Nat} {x : E} (h : l[k]? = some x) : (l.take (k + 1)).map kb = (l.take k).map kb ++ [kb x] := by
  rw [List.take_add_one, h]
  simp
theorem has_not {a : List ByteArray} {k : ByteArray} (h : k ∉ a) : has a k = false := by
  cases e : has a k with
  | true => exact absurd (has_iff.1 e) h
  | false => rfl
end Ca
set_option maxHeartbeats 2000000 in
set_option maxRecDepth 100000 in
theorem caTwice_any (l : List Ca.E) (A : Option Addr) (n c : Nat) (evs : List Value) (w : World) (hR : Ca.EntR w w.heap.size l (.slice A n c) evs) (hl : l.length = n) (hW : Ca.Wd l) :
    Calls Tryd.prog 23 #[.slice A n c] w fun e w' => e = .returned (.bool (Ca.dup l)) ∧ Below w.heap.size w w' := by
  have hn : n ≤ 4096 := by rw [← hl]; exact hW.n
  obtain ⟨X, hX⟩ : ∃ X, Ca.dup l = X := ⟨_, rfl⟩
  rw [hX]
  obtain ⟨bm, hbm⟩ : ∃ b, w.heap.size = b := ⟨_, rfl⟩
  obtain ⟨W0, hW0⟩ : ∃ W, w.alloc (.map #[] 0) = W := ⟨_, rfl⟩
  have hB0 : Below w.heap.size w W0 := by rw [← hW0]; exact bal1 _ _
  have hM0 : MapF Tryd.prog 104 W0 bm 0 (Ca.sf []) := by
    rw [← hW0, ← hbm]
    exact MapF.made w
  have HR := Lib.hid hR
  have HL := Lib.hid hl
  have HW := Lib.hid hW
  have HX := Lib.hid hX
  have HB0 := Lib.hid hB0
  have HM0 := Lib.hid hM0
  have HBm := Lib.hid hbm
  have HW0 := Lib.hid hW0
  clear hR hl hW hX hB0 hM0 hbm hW0
  have hmk := make_row (n : Int)
  go_enter Tryd.func23, Tryd.ntmps23
  go_wp2_with fail
  rw [HW0.out, HBm.out]
  go_loopw [14] (fun i wr => ∃ k : Nat, k ≤ n ∧ i = .int .i64 (k : Int) ∧ Hid (Below w.heap.size w wr) ∧ Hid (MapF Tryd.prog 104 wr bm k (Ca.sf ((l.take k).map Ca.kb))) ∧ Hid (((l.take k).map Ca.kb).Nodup)) (fun i _ => n - (intOf i).toNat)
  case atStart => exact ⟨0, Nat.zero_le _, rfl, HB0.out, HM0.out, List.nodup_nil⟩
  case round =>
    clear hmk
    obtain ⟨k, hk, rfl, HB, HM, HD⟩ := hrel
    by_cases hlt : k < n
    · have q1 : (0 : Int) ≤ (k : Int) := by omega
      have q2 : (k : Int) < (n : Int) := by omega
      obtain ⟨ad, x, zA, m, zc, rfl, hab, Hx, c0, c1, c2, HZl, hz1, hz2, HZr, HEv⟩ := (HR.out.below HB.out).at_ HL.out hlt
      obtain ⟨h1, h2, h3⟩ := HW.out.all x (List.mem_of_getElem? Hx.out)
      have hkm : k < maxLen := by unfold maxLen; omega
      clear h3 HZl HZr HEv
      by_cases hin : Ca.kb x ∈ (l.take k).map Ca.kb
      · have hq := Ca.has_iff.2 hin
        have HE : Hid (X = true) := HX.out.symm.trans (Ca.dup_yes Hx.out hin)
        have HBe := Lib.hid (bal (bal (bal HB.out (.cells #[.string x.key, .string x.terr, .slice zA m zc] 45)) (.cells #[.string x.key, .string x.terr] 104)) (.cells #[] 85))
        clear hin
        go_wp2_with (at_lookup; refine look_row _ rfl _ _ bm k _ x h1 h2 rfl rfl rfl ((HM.out.alloc _).alloc _) true hq ?_)
        go_ret
        exact ⟨ret_bool HE.out.symm, HBe.out⟩
      · have hq := Ca.has_not hin
        have HBe := Lib.hid (bal (bal (bal HB.out (.cells #[.string x.key, .string x.terr, .slice zA m zc] 45)) (.cells #[.string x.key, .string x.terr] 104)) (.cells #[] 85))
        have HMe := Lib.hid (((HM.out.alloc (.cells #[.string x.key, .string x.terr, .slice zA m zc] 45)).alloc (.cells #[.string x.key, .string x.terr] 104)).alloc (.cells #[] 85))
        have HDn := Lib.hid (Ca.nodup_snoc HD.out hin)
        have HT := Lib.hid (Ca.kb_take Hx.out)
        clear hin
        go_wp2_with (first | (at_lookup; refine look_row _ rfl _ _ bm k _ x h1 h2 rfl rfl rfl ((HM.out.alloc _).alloc _) false hq ?_) | (at_mapUpdate; refine store_row _ rfl _ _ _ bm k _ x h1 h2 hkm rfl rfl rfl rfl HMe.out ?_; intro w3 hM3 hg3; have HM3 := Lib.hid hM3; have HG3 := Lib.hid hg3; clear hM3 hg3))
        go_roundw
        case rel => exact ⟨k + 1, by omega, by go_num, HBe.out.grown HG3.out HBe.out.size (fun j e => by cases e; exact Nat.le_of_eq HBm.out), by show MapF _ _ _ _ _ (Ca.sf ((l.take (k + 1)).map Ca.kb)); rw [HT.out]; exact HM3.out, by show ((l.take (k + 1)).map Ca.kb).Nodup; rw [HT.out]; exact HDn.out⟩
        case measure => simp [intOf]; omega
    · have p2 : ¬ (k : Int) < (n : Int) := by omega
      have HE : Hid (X = false) := by
        show X = false
        rw [← HX.out]
        have h := HD.out
        rw [List.take_of_length_le (by rw [HL.out]; omega)] at h
        exact Ca.dup_no h
      go_wp2
      go_ret
      exact ⟨ret_bool HE.out.symm, HB.out⟩
end Go.Proofs.YtajcgoinhpengaaDoor

/- chart.alone: whether each key has just one zone in the territory of all. -/
namespace Go.Proofs.YtajcgoinhpengaaDoor
open Go.RowKit

namespace Ca
/-- What the map of chart.alone holds. -/
def zf (l : List E) : Mp.Fn := fun s => (zn l s).map fun (n : Nat) => Value.int .i64 (n : Int)
theorem zf_nil : zf [] = fun _ => none := rfl
theorem zn_snoc (l : List E) (x : E) (s : ByteArray) : zn (l ++ [x]) s = if x.terr = world ∧ x.key = s then some x.zones.length else zn l s := by
  unfold zn
  rw [List.filter_append]
  by_cases h : x.terr = world ∧ x.key = s
  · rw [if_pos h]
    simp [h]
  · rw [if_neg h]
    simp [h]
theorem zf_in {l : List E} {x : E} (h : x.terr = world) : Mp.put (zf l) x.key (.int .i64 (x.zones.length : Int)) = zf (l ++ [x]) := by
  funext s
  unfold Mp.put zf
  rw [zn_snoc]
  by_cases e : s = x.key
  · rw [if_pos e, if_pos ⟨h, e.symm⟩]; rfl
  · rw [if_neg e, if_neg (fun q => e q.2.symm)]
theorem zf_out {l : List E} {x : E} (h : x.terr ≠ world) : zf (l ++ [x]) = zf l := by
  funext s
  unfold zf
  rw [zn_snoc, if_neg (fun q => h q.1)]
theorem zf_get (l : List E) (s : ByteArray) : (zf l s).getD (.int .i64 0) = .int .i64 ((cnt l s : Nat) : Int) := by
  unfold zf cnt
  cases zn l s <;> rfl
theorem take_next {α : Type} {l : List α} {k : Nat} {x : α} (h : l[k]? = some x) : l.take (k + 1) = l.take k ++ [x] := by
  rw [List.take_add_one, h]; rfl
theorem any_zip (p : E → Bool) : ∀ (l : List E) (evs : List Value), evs.length = l.length → ((l.zip evs).any fun q => p q.1) = l.any p
  | [], _, _ => by simp
  | x :: l, [], h => by simp at h
  | x :: l, v :: evs, h => by
    rw [List.zip_cons_cons, List.any_cons, List.any_cons, any_zip p l evs (by simpa using h)]
theorem mem_zip_fst {l : List E} {evs : List Value} {p : E × Value} (h : p ∈ l.zip evs) : p.1 ∈ l := (List.of_mem_zip h).1
theorem bytes_eq {a b : ByteArray} (h : a = b) : (a.toList == b.toList) = true := by rw [h]; simp
theorem bytes_ne {a b : ByteArray} (h : a ≠ b) : (a.toList == b.toList) = false ∧ ¬ a.toList = b.toList := by
  have h2 : ¬ a.toList = b.toList := by
    intro e
    rw [ByteArray.toList_eq, ByteArray.toList_eq] at e
    exact h (ByteArray.ext (Array.ext' e))
  exact ⟨by rw [beq_eq_false_iff_ne]; exact h2, h2⟩
theorem world_yes {t : ByteArray} (h : t = world) : (t.toList == [48, 48, 49]) = true := by
  have := bytes_eq h
  rw [show world.toList = [48, 48, 49] by decide +kernel] at this
  exact this
theorem world_no {t : ByteArray} (h : t ≠ world) : (t.toList == [48, 48, 49]) = false ∧ ¬ t.toList = [48, 48, 49] := by
  have := bytes_ne h
  rw [show world.toList = [48, 48, 49] by decide +kernel] at this
  exact this
end Ca
set_option maxHeartbeats 2000000 in
set_option maxRecDepth 100000 in
theorem caAlone1_any (l : List Ca.E) (x : Ca.E) (A : Option Addr) (m c bm b n : Nat) (w : World) (hM : MapF Tryd.prog 9 w bm n (Ca.zf l)) (hb : w.cell? ⟨b, 0, none⟩ = some (.map (some bm))) (hs : x.key.size ≤ maxLen) :
    Calls Tryd.prog 46 #[.agg #[.string x.key, .string x.terr, .slice A m c], .pointer (some ⟨b, 0, none⟩)] w fun e w' => e = .returned (.bool (decide (Ca.cnt l x.key ≠ 1))) ∧ Below w.heap.size w w' := by
  obtain ⟨v, hv⟩ : ∃ v, Ca.cnt l x.key = v := ⟨_, rfl⟩
  have hg := Ca.zf_get l x.key
  rw [hv] at hg ⊢
  have hlt := block_lt_of_cell hb
  have hb2 : (w.alloc (.cells #[.string x.key, .string x.terr, .slice A m c] 45)).cell? ⟨b, 0, none⟩ = some (.map (some bm)) := ((bal1 w _).cell hlt).trans hb
  have HM := Lib.hid (hM.alloc (.cells #[.string x.key, .string x.terr, .slice A m c] 45))
  have HB := Lib.hid (bal1 w (.cells #[.string x.key, .string x.terr, .slice A m c] 45))
  have hq : decide (v ≠ 1) = ((v : Int) != 1) := by
    rw [Bool.eq_iff_iff]
    simp only [decide_eq_true_eq, bne_iff_ne, ne_eq]
    omega
  obtain ⟨q, hqq⟩ : ∃ q, decide (v ≠ 1) = q := ⟨_, rfl⟩
  rw [hqq] at hq ⊢
  have HQ := Lib.hid hq
  clear hM hb hv hq hqq
  go_enter Tryd.func46, Tryd.ntmps46
  go_wp2_with (at_lookup; refine look_num1 _ rfl _ _ bm n _ x.key hs rfl rfl rfl HM.out _ hg ?_)
  go_ret
  exact ⟨ret_bool HQ.out.symm, HB.out⟩
set_option maxHeartbeats 2000000 in
set_option maxRecDepth 100000 in
theorem caAlone_any (l : List Ca.E) (A : Option Addr) (n c : Nat) (evs : List Value) (w : World) (hR : Ca.EntR w w.heap.size l (.slice A n c) evs) (hl : l.length = n) (hW : Ca.Wd l) :
    Calls Tryd.prog 24 #[.slice A n c] w fun e w' => e = .returned (.bool (Ca.alone l)) ∧ Below w.heap.size w w' := by
  have hn : n ≤ 4096 := by rw [← hl]; exact hW.n
  obtain ⟨bm, hbm⟩ : ∃ b, w.heap.size = b := ⟨_, rfl⟩
  obtain ⟨W0, hW0⟩ : ∃ W, (w.alloc (.map #[] 0)).alloc (.cells #[.map (some bm)] 105) = W := ⟨_, rfl⟩
  have hB0 : Below w.heap.size w W0 := by rw [← hW0]; exact bal (bal1 _ _) _
  have hM0 : MapF Tryd.prog 9 W0 bm 0 (Ca.zf []) := by
    rw [← hW0, ← hbm]
    exact (MapF.made w).alloc _
  have hC0 : At W0 (bm + 1) [.map (some bm)] := by
    rw [← hW0]
    have h := At.new (w.alloc (.map #[] 0)) #[Value.map (some bm)] 105
    rw [World.size_alloc, hbm] at h
    exact h
  obtain ⟨Y, hY⟩ : ∃ Y, Ca.alone l = Y := ⟨_, rfl⟩
  rw [hY]
  unfold Ca.alone at hY
  have HY := Lib.hid hY
  have HR := Lib.hid hR
  have HL := Lib.hid hl
  have HW := Lib.hid hW
  have HB0 := Lib.hid hB0
  have HM0 := Lib.hid hM0
  have HC0 := Lib.hid hC0
  have HBm := Lib.hid hbm
  have HW0 := Lib.hid hW0
  clear hR hl hW hB0 hM0 hbm hW0 hC0 hY
  have hmk := make_int (n : Int)
  go_enter Tryd.func24, Tryd.ntmps24
  go_wp2_with fail
  rw [HBm.out, HW0.out]
  go_loopw [11] (fun i wr => ∃ k : Nat, k ≤ n ∧ i = .int .i64 (k : Int) ∧ Hid (Below w.heap.size w wr) ∧ Hid (MapF Tryd.prog 9 wr bm k (Ca.zf (l.take k))) ∧ Hid (At wr (bm + 1) [.map (some bm)])) (fun i _ => n - (intOf i).toNat)
  case atStart => exact ⟨0, Nat.zero_le _, rfl, HB0.out, HM0.out, HC0.out⟩
  case round =>
    clear hmk
    obtain ⟨k, hk, rfl, HB, HM, HC⟩ := hrel
    by_cases hlt : k < n
    · have q1 : (0 : Int) ≤ (k : Int) := by omega
      have q2 : (k : Int) < (n : Int) := by omega
      obtain ⟨ad, x, zA, m, zc, rfl, hab, Hx, c0, c1, c2, HZl, hz1, hz2, HZr, HEv⟩ := (HR.out.below HB.out).at_ HL.out hlt
      obtain ⟨h1, h2, h3⟩ := HW.out.all x (List.mem_of_getElem? Hx.out)
      have hkm : k < maxLen := by unfold maxLen; omega
      have HT := Lib.hid (Ca.take_next Hx.out)
      have HBe := Lib.hid (bal HB.out (.cells #[.string x.key, .string x.terr, .slice zA m zc] 45))
      have HMe := Lib.hid (HM.out.alloc (.cells #[.string x.key, .string x.terr, .slice zA m zc] 45))
      have HCe := Lib.hid (HC.out.allocO (.cells #[.string x.key, .string x.terr, .slice zA m zc] 45))
      have k0 := HCe.out.cell 0 _ rfl
      clear h3 HZr HEv
      by_cases hw : x.terr = Ca.world
      · have qw := Ca.world_yes hw
        have HZ := Lib.hid (Ca.zf_in (l := l.take k) hw)
        clear hw
        go_wp2_with (at_mapUpdate; refine store_num _ rfl _ _ _ bm k _ x.key h1 hkm (m : Int) rfl rfl rfl rfl HMe.out ?_; intro w3 hM3 hg3; have HM3 := Lib.hid hM3; have HG3 := Lib.hid hg3; clear hM3 hg3)
        go_roundw
        case rel => exact ⟨k + 1, by omega, by go_num, HBe.out.grown HG3.out HBe.out.size (fun j e => by cases e; exact Nat.le_of_eq HBm.out), by show MapF _ _ _ _ _ (Ca.zf (l.take (k + 1))); rw [HT.out, ← HZ.out, HZl.out]; exact HM3.out, Sc.At.grownO HCe.out HG3.out (fun j e => by cases e; omega)⟩
        case measure => simp [intOf]; omega
      · obtain ⟨qw, qw'⟩ := Ca.world_no hw
        have HZ := Lib.hid (Ca.zf_out (l := l.take k) hw)
        clear hw
        go_wp2
        go_roundw
        case rel => exact ⟨k + 1, by omega, by go_num, HBe.out, by show MapF _ _ _ _ _ (Ca.zf (l.take (k + 1))); rw [HT.out, HZ.out]; exact HMe.out.more (Nat.le_succ k), HCe.out⟩
        case measure => simp [intOf]; omega
    · have p2 : ¬ (k : Int) < (n : Int) := by omega
      have hM := HM.out
      rw [List.take_of_length_le (by rw [HL.out]; omega)] at hM
      have hRr := HR.out.below HB.out
      have hr := hRr.row
      rw [HL.out] at hr
      obtain ⟨A', c', e9, _, hc9, hr9⟩ := hr
      injection e9 with e91 e92 e93
      rw [← e91] at hr9
      have hlz : (l.zip evs).length = n := by rw [List.length_zip, HR.out.len, HL.out]; omega
      have hzz : ∀ p ∈ l.zip evs, ∃ A m c, p.2 = .slice A m c := fun p hp => by
        obtain ⟨A2, c2, e2, _⟩ := HR.out.zns p hp
        exact ⟨A2, _, c2, e2⟩
      have hT : Ix.Tells 46 #[.pointer (some ⟨bm + 1, 0, none⟩)] Ca.ev (fun q => decide (Ca.cnt l q.1.key ≠ 1)) (l.zip evs) wr := by
        intro W p hp hb
        obtain ⟨A2, m2, c2, e2⟩ := hzz p hp
        have := caAlone1_any l p.1 A2 m2 c2 bm (bm + 1) k W (hM.below hb) ((HC.out.call hb).cell 0 _ rfl) (HW.out.all _ (Ca.mem_zip_fst hp)).1
        unfold Ca.ev
        rw [e2]
        exact this.mono fun e w' h => ⟨h.1, below_then hb h.2⟩
      have hH := has_entry (fun q => decide (Ca.cnt l q.1.key ≠ 1)) 46 #[.pointer (some ⟨bm + 1, 0, none⟩)] (enters_of Tryd.func46 (by kernel_rfl) rfl) A n c (l.zip evs) wr (by unfold maxLen; omega) hlz (hr9.more HB.out.size) hzz hT
      rw [Ca.any_zip (fun e => decide (Ca.cnt l e.key ≠ 1)) l evs HR.out.len] at hH
      obtain ⟨b, hb⟩ : ∃ b, (l.any fun e => decide (Ca.cnt l e.key ≠ 1)) = b := ⟨_, rfl⟩
      have hye := HY.out
      rw [hb] at hH hye
      have HE := Lib.hid hye
      have HH := Lib.hid hH
      clear hb hye hM hRr hr9 hlz hzz hT hH e91 e92 e93 hc9
      go_wp2_with fail
      refine HH.out.mono ?_
      rintro e w2 ⟨rfl, hb⟩
      have HB2 := Lib.hid (below_then HB.out hb)
      clear hb HH
      go_wp2
      go_ret
      exact ⟨ret_bool HE.out, HB2.out⟩
end Go.Proofs.YtajcgoinhpengaaDoor
