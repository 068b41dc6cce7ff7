/- hive.CheckValue: whether a value is right. -/
import Derived.Test.YteacncdpjbcinaaDoorHvKit
import Derived.Test.YteacncdpjbcinaaDoorUtf
namespace Go.Proofs.YteacncdpjbcinaaDoor
open Go.RowKit

namespace Hv
def nameB (v : V) : Bool := decide (1 ≤ v.name.size) && (decide (v.name.size ≤ 64) && Te.plain v.name)
def kindB (v : V) : Bool :=
  if v.kind = 1 then decide (v.text.size ≤ 4096) && (Te.plain v.text && (decide (v.num = 0) && decide (v.bytes.size = 0)))
  else if v.kind = 2 then decide (v.text.size = 0) && decide (v.bytes.size = 0)
  else if v.kind = 3 then decide (v.bytes.size ≤ 4096) && (decide (v.text.size = 0) && decide (v.num = 0))
  else false
def valB (v : V) : Bool := nameB v && kindB v
theorem emp_yes {s : ByteArray} (h : s.size = 0) : s.toList.isEmpty = true := by
  rw [ByteArray.toList_eq, List.isEmpty_iff]
  apply List.eq_nil_of_length_eq_zero
  simpa using h
theorem emp_no {s : ByteArray} (h : ¬ s.size = 0) : s.toList.isEmpty = false := by
  cases e : s.toList.isEmpty with
  | false => rfl
  | true =>
    rw [ByteArray.toList_eq, List.isEmpty_iff] at e
    exact absurd (by have := congrArg List.length e; simpa using this) h
end Hv
set_option maxHeartbeats 4000000 in
set_option maxRecDepth 100000 in
theorem hvValue_any (v : Hv.V) (hv : v.Ok) (w : World) :
    Calls Tryd.prog 19 #[v.v] w fun e w' => e = .returned (.int .i64 (if Hv.valB v = true then 0 else 2)) ∧ Below w.heap.size w w' := by
  obtain ⟨nm, kd, tx, nu, bs⟩ := v
  obtain ⟨h1, h2, h3, k0, k1, n0, n1⟩ := hv
  simp only at h1 h2 h3 k0 k1 n0 n1
  unfold Hv.V.v
  simp only
  have HPn := Lib.hid (fun W => utfPlain_any nm h1 W)
  have HPt := Lib.hid (fun W => utfPlain_any tx h2 W)
  unfold maxLen at h1 h2 h3
  obtain ⟨X, hX⟩ : ∃ X : Int, (if Hv.valB ⟨nm, kd, tx, nu, bs⟩ = true then (0 : Int) else 2) = X := ⟨_, rfl⟩
  rw [hX]
  unfold Hv.valB Hv.nameB Hv.kindB at hX
  simp only at hX
  obtain ⟨W0, hW0⟩ : ∃ W, w.alloc (.cells #[.string nm, .int .u8 kd, .string tx, .int .u32 nu, .string bs] 28) = W := ⟨_, rfl⟩
  have HB0 : Hid (Below w.heap.size w W0) := by show Below _ _ _; rw [← hW0]; exact Hv.bl1 _ _
  have HA0 : Hid (At W0 w.heap.size [.string nm, .int .u8 kd, .string tx, .int .u32 nu, .string bs]) := by show At _ _ _; rw [← hW0]; exact At.new _ _ _
  have HW0 := Lib.hid hW0
  have HX := Lib.hid hX
  clear hW0 hX
  have c0 := HA0.out.cell 0 _ rfl
  go_enter Tryd.func19, Tryd.ntmps19
  by_cases q1 : nm.size < 1
  · have p1 : (nm.size : Int) < 1 := by omega
    have HE : Hid (X = 2) := by show X = 2; rw [← HX.out, decide_eq_false (by omega)]; rfl
    go_wp2_with fail
    rw [HW0.out]
    go_ret
    exact ⟨by rw [HE.out]; rfl, HB0.out⟩
  have p1 : ¬ (nm.size : Int) < 1 := by omega
  by_cases q2 : 64 < nm.size
  · have p2 : (64 : Int) < (nm.size : Int) := by omega
    have HE : Hid (X = 2) := by show X = 2; rw [← HX.out, decide_eq_false (show ¬ nm.size ≤ 64 by omega)]; simp
    go_wp2_with fail
    rw [HW0.out]
    go_ret
    exact ⟨by rw [HE.out]; rfl, HB0.out⟩
  have p2 : ¬ (64 : Int) < (nm.size : Int) := by omega
  have HX := Lib.hid HX.out
  have hx := HX.out
  rw [decide_eq_true (show 1 ≤ nm.size by omega), decide_eq_true (show nm.size ≤ 64 by omega), Bool.true_and, Bool.true_and] at hx
  clear HX
  go_wp2_with fail
  rw [HW0.out]
  refine (HPn.out _).mono ?_
  rintro e w1 ⟨rfl, hb1⟩
  have HB1 := Lib.hid (below_then HB0.out hb1)
  have HA1 := Lib.hid (HA0.out.call hb1)
  clear hb1 c0 HW0 HPn
  obtain ⟨pn, hpn⟩ : ∃ b, Te.plain nm = b := ⟨_, rfl⟩
  rw [hpn] at hx ⊢
  clear hpn
  have c1 := HA1.out.cell 1 _ rfl
  have c2 := HA1.out.cell 2 _ rfl
  have c3 := HA1.out.cell 3 _ rfl
  have c4 := HA1.out.cell 4 _ rfl
  cases pn with
  | false =>
    have HE : Hid (X = 2) := by show X = 2; rw [← hx]; rfl
    clear hx
    go_wp2
    go_ret
    exact ⟨by rw [HE.out]; rfl, HB1.out⟩
  | true =>
    rw [Bool.true_and] at hx
    by_cases hk1 : kd = 1
    · subst hk1
      rw [if_pos rfl] at hx
      by_cases ht : tx.size ≤ 4096
      case neg =>
        have p3 : ¬ (tx.size : Int) ≤ 4096 := by omega
        have p3' : (4096 : Int) < (tx.size : Int) := by omega
        rw [decide_eq_false ht] at hx
        have HE : Hid (X = 2) := by show X = 2; rw [← hx]; rfl
        clear hx
        go_wp2
        go_ret
        exact ⟨by rw [HE.out]; rfl, HB1.out⟩
      have p3 : (tx.size : Int) ≤ 4096 := by omega
      rw [decide_eq_true ht, Bool.true_and] at hx
      go_wp2_with fail
      refine (HPt.out _).mono ?_
      rintro e w2 ⟨rfl, hb2⟩
      have HB2 := Lib.hid (below_then HB1.out hb2)
      have d3 := (HA1.out.call hb2).cell 3 _ rfl
      have d4 := (HA1.out.call hb2).cell 4 _ rfl
      clear hb2 c1 c2 c3 c4 HPt
      obtain ⟨pt, hpt⟩ : ∃ b, Te.plain tx = b := ⟨_, rfl⟩
      rw [hpt] at hx ⊢
      clear hpt
      cases pt with
      | false =>
        have HE : Hid (X = 2) := by show X = 2; rw [← hx]; rfl
        clear hx
        go_wp2
        go_ret
        exact ⟨by rw [HE.out]; rfl, HB2.out⟩
      | true =>
        rw [Bool.true_and] at hx
        by_cases hn : nu = 0
        case neg =>
          have qn : (nu == 0) = false := by simpa using hn
          rw [decide_eq_false hn] at hx
          have HE : Hid (X = 2) := by show X = 2; rw [← hx]; rfl
          clear hx
          go_wp2
          go_ret
          exact ⟨by rw [HE.out]; rfl, HB2.out⟩
        subst hn
        rw [decide_eq_true rfl, Bool.true_and] at hx
        by_cases hb : bs.size = 0
        · have qb := Hv.emp_yes hb
          rw [decide_eq_true hb] at hx
          have HE : Hid (X = 0) := by show X = 0; rw [← hx]; rfl
          clear hx
          go_wp2
          go_ret
          exact ⟨by rw [HE.out]; rfl, HB2.out⟩
        · have qb := Hv.emp_no hb
          rw [decide_eq_false hb] at hx
          have HE : Hid (X = 2) := by show X = 2; rw [← hx]; rfl
          clear hx
          go_wp2
          go_ret
          exact ⟨by rw [HE.out]; rfl, HB2.out⟩
    rw [if_neg hk1] at hx
    have qk1 : (kd == 1) = false := by simpa using hk1
    by_cases hk2 : kd = 2
    · subst hk2
      rw [if_pos rfl] at hx
      by_cases ht : tx.size = 0
      · have qt := Hv.emp_yes ht
        rw [decide_eq_true ht, Bool.true_and] at hx
        by_cases hb : bs.size = 0
        · have qb := Hv.emp_yes hb
          rw [decide_eq_true hb] at hx
          have HE : Hid (X = 0) := by show X = 0; rw [← hx]; rfl
          clear hx
          go_wp2
          go_ret
          exact ⟨by rw [HE.out]; rfl, HB1.out⟩
        · have qb := Hv.emp_no hb
          rw [decide_eq_false hb] at hx
          have HE : Hid (X = 2) := by show X = 2; rw [← hx]; rfl
          clear hx
          go_wp2
          go_ret
          exact ⟨by rw [HE.out]; rfl, HB1.out⟩
      · have qt := Hv.emp_no ht
        rw [decide_eq_false ht] at hx
        have HE : Hid (X = 2) := by show X = 2; rw [← hx]; rfl
        clear hx
        go_wp2
        go_ret
        exact ⟨by rw [HE.out]; rfl, HB1.out⟩
    rw [if_neg hk2] at hx
    have qk2 : (kd == 2) = false := by simpa using hk2
    by_cases hk3 : kd = 3
    · subst hk3
      rw [if_pos rfl] at hx
      by_cases hb : bs.size ≤ 4096
      · have p4 : (bs.size : Int) ≤ 4096 := by omega
        rw [decide_eq_true hb, Bool.true_and] at hx
        by_cases ht : tx.size = 0
        · have qt := Hv.emp_yes ht
          rw [decide_eq_true ht, Bool.true_and] at hx
          by_cases hn : nu = 0
          · subst hn
            have HE : Hid (X = 0) := by show X = 0; rw [← hx]; rfl
            clear hx
            go_wp2
            go_ret
            exact ⟨by rw [HE.out]; rfl, HB1.out⟩
          · have qn : (nu == 0) = false := by simpa using hn
            rw [decide_eq_false hn] at hx
            have HE : Hid (X = 2) := by show X = 2; rw [← hx]; rfl
            clear hx
            go_wp2
            go_ret
            exact ⟨by rw [HE.out]; rfl, HB1.out⟩
        · have qt := Hv.emp_no ht
          rw [decide_eq_false ht] at hx
          have HE : Hid (X = 2) := by show X = 2; rw [← hx]; rfl
          clear hx
          go_wp2
          go_ret
          exact ⟨by rw [HE.out]; rfl, HB1.out⟩
      · have p4 : ¬ (bs.size : Int) ≤ 4096 := by omega
        rw [decide_eq_false hb] at hx
        have HE : Hid (X = 2) := by show X = 2; rw [← hx]; rfl
        clear hx
        go_wp2
        go_ret
        exact ⟨by rw [HE.out]; rfl, HB1.out⟩
    rw [if_neg hk3] at hx
    have qk3 : (kd == 3) = false := by simpa using hk3
    have HE : Hid (X = 2) := by show X = 2; rw [← hx]; rfl
    clear hx
    go_wp2
    go_ret
    exact ⟨by rw [HE.out]; rfl, HB1.out⟩
end Go.Proofs.YteacncdpjbcinaaDoor
