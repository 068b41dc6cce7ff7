/- emit.Text: a hive's text. -/
import Derived.Test.YteacncdpjbcinaaDoorEmValue
namespace Go.Proofs.YteacncdpjbcinaaDoor
open Go.RowKit

namespace Em
theorem keyHead_eq (p : ByteArray) : tl ((⟨#[10, 91]⟩ : ByteArray) ++ p ++ ⟨#[93, 10]⟩) = [10, 91] ++ tl p ++ [93, 10] := by
  unfold tl
  simp
theorem vals_take {l : List Hv.V} {k : Nat} {v : Hv.V} (h : l[k]? = some v) : vals (l.take (k + 1)) = vals (l.take k) ++ (val v ++ [10]) := by rw [Hv.take_next h, vals_snoc]
theorem text_take {l : List Hv.K} {k : Nat} {v : Hv.K} (h : l[k]? = some v) : text (l.take (k + 1)) = text (l.take k) ++ key v := by rw [Hv.take_next h, text_snoc]
theorem text_len_take (l : List Hv.K) (k : Nat) (h : ∀ x ∈ l, Hv.keyB x = true) (hn : l.length ≤ 4096) : (text (l.take k)).length ≤ 700000000000 := by
  have h1 := text_len (l.take k) fun x hx => h x (List.mem_of_mem_take hx)
  rw [List.length_take] at h1
  omega
theorem vals_len_take (l : List Hv.V) (k : Nat) (h : ∀ x ∈ l, Hv.valB x = true) (hn : l.length ≤ 512) : (vals (l.take k)).length ≤ 160000000 := by
  have h1 := vals_len (l.take k) fun x hx => h x (List.mem_of_mem_take hx)
  rw [List.length_take] at h1
  omega
theorem hive_parts {l : List Hv.K} (h : Hv.hiveB l = true) : l.length ≤ 4096 ∧ ∀ k ∈ l, Hv.keyB k = true := by
  unfold Hv.hiveB at h
  rw [Bool.and_eq_true, decide_eq_true_eq] at h
  exact ⟨h.1, keysB_all l [] h.2⟩
end Em
set_option maxHeartbeats 4000000 in
set_option maxRecDepth 100000 in
theorem emText_any (l : List Hv.K) (hl : ∀ k ∈ l, k.Ok) (A : Option Addr) (n c : Nat) (evs : List Value) (w : World) (hn : l.length = n) (hnm : n ≤ maxLen) (hr : Hv.HR w w.heap.size l (.slice A n c) evs) (hW : Wg w) :
    Calls Tryd.prog 7 #[.agg #[.slice A n c]] w fun e w' => e = .returned (if Hv.hiveB l = true then .tuple #[.string (Em.bts (Em.text l)), .int .i64 0] else .tuple #[.string ⟨#[]⟩, .int .i64 2]) ∧ Below w.heap.size w w' := by
  have HC : Hid (∀ W, Below w.heap.size w W → Calls Tryd.prog 13 #[.agg #[.slice A n c]] W fun e w' => e = .returned (.int .i64 (if Hv.hiveB l = true then 0 else 2)) ∧ Below W.heap.size W w') := fun W hb => hvCheck_any l hl A n c evs W hn hnm ((hr.below hb).more hb.size) (hW.l.below hb)
  obtain ⟨X, hX⟩ : ∃ X : Value, (if Hv.hiveB l = true then Value.tuple #[.string (Em.bts (Em.text l)), .int .i64 0] else .tuple #[.string ⟨#[]⟩, .int .i64 2]) = X := ⟨_, rfl⟩
  rw [hX]
  obtain ⟨W1, hW1⟩ : ∃ W, w.alloc (.cells #[.slice A n c] 24) = W := ⟨_, rfl⟩
  have hA1 : At W1 w.heap.size [.slice A n c] := by rw [← hW1]; exact At.new _ _ _
  have hB1 : Below w.heap.size w W1 := by rw [← hW1]; exact Hv.bl1 _ _
  have HA1 := Lib.hid hA1
  have HB1 := Lib.hid hB1
  have HW1 := Lib.hid hW1
  have HW := Lib.hid hW
  have HO := Lib.hid hl
  have HN := Lib.hid hn
  have HR := Lib.hid hr
  unfold maxLen at hnm
  clear hA1 hB1 hW1 hW hl hn hr
  cases hv : Hv.hiveB l with
  | false =>
    rw [hv] at hX HC
    have HE := Lib.hid hX
    clear hX hv
    go_enter Tryd.func7, Tryd.ntmps7
    go_wp2_with fail
    rw [HW1.out]
    refine (HC.out _ HB1.out).mono ?_
    rintro e w2 ⟨rfl, hb⟩
    have HB2 := Lib.hid (below_then HB1.out hb)
    clear hb
    go_wp2
    go_ret2
    exact ⟨by rw [← HE.out]; rfl, HB2.out⟩
  | true =>
    obtain ⟨hp1, hp2⟩ := Em.hive_parts hv
    rw [hv] at hX HC
    have HE := Lib.hid hX
    have HP2 := Lib.hid hp2
    have HTl := Lib.hid (fun k => Em.text_len_take l k hp2 hp1)
    rw [HN.out] at hp1
    clear hX hv hp2
    go_enter Tryd.func7, Tryd.ntmps7
    go_wp2_with fail
    rw [HW1.out]
    refine (HC.out _ HB1.out).mono ?_
    rintro e w2 ⟨rfl, hb⟩
    have HB2 := Lib.hid (below_then HB1.out hb)
    have hA2 := HA1.out.call hb
    obtain ⟨g, hg⟩ : ∃ g, w2.heap.size = g := ⟨_, rfl⟩
    obtain ⟨W3, hW3⟩ : ∃ W, w2.alloc (.cells #[.pointer none, .slice none 0 0] 45) = W := ⟨_, rfl⟩
    have hI3 : Em.IsB W3 g [] := by rw [← hW3, ← hg]; exact Lib.IsBuilderF.of (Lib.fresh_isBuilder _ _ w2)
    have hB3 : Below w.heap.size w W3 := by rw [← hW3]; exact Hv.bl HB2.out _
    have hgw : w.heap.size < g := by rw [← hg]; exact hA2.lt
    have HA3 : Hid (At W3 w.heap.size [.slice A n c]) := by show At _ _ _; rw [← hW3]; exact hA2.allocO _
    have HG := Lib.hid hg
    have HW3 := Lib.hid hW3
    have HI3 := Lib.hid hI3
    have HB3 := Lib.hid hB3
    have HGw : Hid (w.heap.size ≤ g) := Nat.le_of_lt hgw
    have HGt : Hid (3 < g) := by show _ < _; have := HW.out.h.lt; omega
    clear hb hA2 hg hW3 hI3 hB3
    go_wp2_with fail
    rw [HW3.out, HG.out]
    refine (Em.putS (l := []) ⟨#[82, 69, 71, 73, 83, 84, 69, 82, 32, 49, 10]⟩ HI3.out (by simp) (by decide)).mono ?_
    rintro e w4 ⟨rfl, hI, hb, _⟩
    have HI4 : Hid (Em.IsB w4 g (Em.text (l.take 0))) := hI
    have HB4 := Lib.hid (HB3.out.trans (hb.mono HGw.out))
    have hA4 := HA3.out.below hb hgw
    have a0 := hA4.cell 0 _ rfl
    have hal := hA4.lt
    clear hI hb hA4
    go_wp2_with fail
    go_loopw [16] (fun i wr => ∃ k : Nat, k ≤ n ∧ i = .int .i64 (k : Int) ∧ Hid (Em.IsB wr g (Em.text (l.take k))) ∧ Hid (Below w.heap.size w wr)) (fun i _ => n - (intOf i).toNat)
    case atStart => exact ⟨0, Nat.zero_le _, rfl, HI4.out, HB4.out⟩
    case round =>
      clear a0 hal
      obtain ⟨k, hk, rfl, HI, HB⟩ := hrel
      by_cases hlt : k < n
      · have q1 : (0 : Int) ≤ (k : Int) := by omega
        have q2 : (k : Int) < (n : Int) := by omega
        obtain ⟨ad, x, vA, m, vc, rfl, hab, Hx, c0, c1, HVl, hv1, hv2, HRv⟩ := (HR.out.below HB.out).at_ HN.out hlt
        have hxm := List.mem_of_getElem? Hx.out
        have hkp := Em.key_parts (HP2.out x hxm)
        have hxo := HO.out x hxm
        have HT := Lib.hid (Em.text_take Hx.out)
        obtain ⟨pt, vs⟩ := x
        simp only at c0 c1 HVl HRv
        obtain ⟨hk1, hk2, hk3⟩ := hkp
        simp only at hk1 hk2 hk3
        have HVs := Lib.hid hk3
        have HVo := Lib.hid hxo.vals
        have hm5 : m ≤ 512 := by rw [← HVl.out]; exact hk2
        have HLt := Lib.hid (HTl.out k)
        have HVt := Lib.hid (fun j => Em.vals_len_take vs j hk3 hk2)
        obtain ⟨W5, hW5⟩ : ∃ W, wr.alloc (.cells #[.string pt, .slice vA m vc] 40) = W := ⟨_, rfl⟩
        have HB5 : Hid (Below w.heap.size w W5) := by show Below _ _ _; rw [← hW5]; exact Hv.bl HB.out _
        have HI5 : Hid (Em.IsB W5 g (Em.text (l.take k))) := by show Em.IsB _ _ _; rw [← hW5]; exact HI.out.call (Hv.bl1 _ _)
        have hA5 : At W5 wr.heap.size [.string pt, .slice vA m vc] := by rw [← hW5]; exact At.new _ _ _
        have HA5 := Lib.hid hA5
        have HRv5 : Hid (Reads W5 w.heap.size 5 vA m (vs.flatMap Hv.V.cells)) := by
          show Reads _ _ _ _ _ _
          rw [← hW5]
          exact HRv.out.below ((Hv.bl1 wr _).mono HB.out.size)
        have HW5 := Lib.hid hW5
        have hgr := HI.out.lt
        obtain ⟨P, hP⟩ : ∃ P : ByteArray, (⟨#[10, 91]⟩ : ByteArray) ++ pt ++ ⟨#[93, 10]⟩ = P := ⟨_, rfl⟩
        have hPs : P.size ≤ 300 := by rw [← hP]; simp; show 2 + pt.size + 2 ≤ 300; omega
        have hPt : tl P = [10, 91] ++ tl pt ++ [93, 10] := by rw [← hP]; exact Em.keyHead_eq pt
        have s1 : ∀ W, (Op.stringOp .add ⟨#[10, 91]⟩ pt).run Tryd.prog W = .ok (.string (⟨#[10, 91]⟩ ++ pt)) W := fun W => run_string_add_sum W _ _ (by have : (⟨#[10, 91]⟩ : ByteArray).size = 2 := rfl; omega)
        have s2 : ∀ W, (Op.stringOp .add (⟨#[10, 91]⟩ ++ pt) ⟨#[93, 10]⟩).run Tryd.prog W = .ok (.string P) W := fun W => by
          rw [← hP]
          exact run_string_add_sum W _ _ (by rw [ByteArray.size_append]; have h1 : (⟨#[10, 91]⟩ : ByteArray).size = 2 := rfl; have h2 : (⟨#[93, 10]⟩ : ByteArray).size = 2 := rfl; omega)
        have HPs := Lib.hid hPs
        have HPt := Lib.hid hPt
        clear hW5 hA5 hxm hxo hk3 hk2 hk1 hP hPs hPt
        go_wp2_with fail
        rw [HW5.out]
        refine (Em.putS P HI5.out (by have := HLt.out; omega) (by have := HPs.out; omega)).mono ?_
        rintro e w6 ⟨rfl, hI, hb, ho⟩
        have HB6 := Lib.hid (HB5.out.trans (hb.mono HGw.out))
        have hA6 : At w6 wr.heap.size [.string pt, .slice vA m vc] := by
          have hbk : Em.Blk W5 wr.heap.size #[.string pt, .slice vA m vc] 40 := by rw [← HW5.out]; exact Em.Blk.new _ _ _
          exact (hbk.others ho (by omega) (by decide)).at_
        have d1 := hA6.cell 1 _ rfl
        have dl := hA6.lt
        have HRv6 : Hid (Reads w6 w.heap.size 5 vA m (vs.flatMap Hv.V.cells)) := HRv5.out.below (hb.mono HGw.out)
        have HI6 : Hid (Em.IsB w6 g (Em.text (l.take k) ++ Em.keyHead ⟨pt, vs⟩ ++ Em.vals (vs.take 0))) := by
          show Em.IsB _ _ _
          rw [HPt.out] at hI
          have e : Em.text (l.take k) ++ Em.keyHead ⟨pt, vs⟩ ++ Em.vals (vs.take 0) = Em.text (l.take k) ++ ([10, 91] ++ tl pt ++ [93, 10]) := by
            show _ ++ _ ++ [] = _
            rw [List.append_nil]
            rfl
          rw [e]
          exact hI
        clear hI hb ho hA6 c0 c1 HA5 HRv5 HRv HI5 HB5 s1 s2
        go_wp2_with fail
        clear d1 dl
        go_loopw [28] (fun i wi => ∃ j : Nat, j ≤ m ∧ i = .int .i64 (j : Int) ∧ Hid (Em.IsB wi g (Em.text (l.take k) ++ Em.keyHead ⟨pt, vs⟩ ++ Em.vals (vs.take j))) ∧ Hid (Below w.heap.size w wi) ∧ Hid (Below w.heap.size w6 wi)) (fun i _ => m - (intOf i).toNat)
        case atStart => exact ⟨0, Nat.zero_le _, rfl, HI6.out, HB6.out, Below.refl _ _⟩
        case round =>
          obtain ⟨j, hj, rfl, HIi, HBi, HBj⟩ := hrel
          by_cases hlj : j < m
          · have q3 : (0 : Int) ≤ (j : Int) := by omega
            have q4 : (j : Int) < (m : Int) := by omega
            obtain ⟨ad2, y, rfl, hab2, Hy, e0, e1, e2, e3, e4⟩ := Hv.val_at (HRv6.out.below HBj.out) HVl.out hlj
            have hym := List.mem_of_getElem? Hy.out
            have hyo := HVo.out y hym
            have hyb := HVs.out y hym
            have HTv := Lib.hid (Em.vals_take Hy.out)
            obtain ⟨nm, kd, tx, nu, by_⟩ := y
            simp only at e0 e1 e2 e3 e4
            have HYo := Lib.hid hyo
            have HYb := Lib.hid hyb
            have HYl := Lib.hid (Em.val_len2 hyb)
            have hLj := HVt.out j
            have HLen : Hid ((Em.text (l.take k) ++ Em.keyHead ⟨pt, vs⟩ ++ Em.vals (vs.take j)).length ≤ 800000000000) := by
              show _ ≤ _
              have h1 := HLt.out
              have h2 : (Em.keyHead ⟨pt, vs⟩).length ≤ 300 := by
                show ([10, 91] ++ tl pt ++ [93, 10] : Em.Txt).length ≤ 300
                rw [← HPt.out, tl_length]
                exact HPs.out
              rw [List.length_append, List.length_append]
              omega
            obtain ⟨W7, hW7⟩ : ∃ W, wr.alloc (.cells #[.string nm, .int .u8 kd, .string tx, .int .u32 nu, .string by_] 28) = W := ⟨_, rfl⟩
            have HB7 : Hid (Below w.heap.size w W7) := by show Below _ _ _; rw [← hW7]; exact Hv.bl HBi.out _
            have HJ7 : Hid (Below w.heap.size w6 W7) := by show Below _ _ _; rw [← hW7]; exact HBj.out.trans ((Hv.bl1 wr _).mono HBi.out.size)
            have HI7 : Hid (Em.IsB W7 g (Em.text (l.take k) ++ Em.keyHead ⟨pt, vs⟩ ++ Em.vals (vs.take j))) := by show Em.IsB _ _ _; rw [← hW7]; exact HIi.out.call (Hv.bl1 _ _)
            have HW7 := Lib.hid hW7
            clear hym hyo hyb hLj hW7
            go_wp2_with fail
            rw [HW7.out]
            refine (write_any g _ nm kd tx nu by_ HYb.out HYo.out W7 HI7.out (by have := HLen.out; omega) (HW.out.below HB7.out).h HGt.out).mono ?_
            rintro e w8 ⟨rfl, hI, hb⟩
            have HI8 := Lib.hid hI
            have HB8 := Lib.hid (HB7.out.trans (hb.mono HGw.out))
            have HJ8 := Lib.hid (HJ7.out.trans (hb.mono HGw.out))
            clear hI hb e0 e1 e2 e3 e4
            go_wp2_with fail
            refine (Em.putB 10 HI8.out (by rw [List.length_append]; have := HLen.out; have := HYl.out; omega)).mono ?_
            rintro e w9 ⟨rfl, hI, hb, _⟩
            have HI9 : Hid (Em.IsB w9 g (Em.text (l.take k) ++ Em.keyHead ⟨pt, vs⟩ ++ Em.vals (vs.take (j + 1)))) := by
              show Em.IsB _ _ _
              rw [HTv.out, ← List.append_assoc, ← List.append_assoc]
              exact hI
            have HB9 := Lib.hid (HB8.out.trans (hb.mono HGw.out))
            have HJ9 := Lib.hid (HJ8.out.trans (hb.mono HGw.out))
            clear hI hb
            go_wp2
            go_roundw
            case rel => exact ⟨j + 1, by omega, by go_num, HI9.out, HB9.out, HJ9.out⟩
            case measure => simp [intOf]; omega
          · have q4 : ¬ (j : Int) < (m : Int) := by omega
            have HI9 : Hid (Em.IsB wr g (Em.text (l.take (k + 1)))) := by
              show Em.IsB _ _ _
              rw [HT.out]
              have h := HIi.out
              have hT : vs.take j = vs := List.take_of_length_le (by rw [HVl.out]; omega)
              rw [hT, List.append_assoc] at h
              exact h
            go_wp2
            go_roundw
            case rel => exact ⟨k + 1, by omega, by go_num, HI9.out, HBi.out⟩
            case measure => simp [intOf]; omega
      · have q2 : ¬ (k : Int) < (n : Int) := by omega
        have hI := HI.out
        rw [List.take_of_length_le (by rw [HN.out]; omega)] at hI
        have HI9 := Lib.hid hI
        clear hI
        go_wp2_with fail
        refine (Tryd.Builder_String_any_k g g _ _ HI9.out (Nat.le_of_lt HI9.out.lt)).mono ?_
        rintro e w5 ⟨rfl, _, hb, _⟩
        have HB5 := Lib.hid (HB.out.trans (hb.mono HGw.out))
        clear hb
        go_wp2
        go_ret2
        exact ⟨by rw [← HE.out]; rfl, HB5.out⟩
end Go.Proofs.YteacncdpjbcinaaDoor
