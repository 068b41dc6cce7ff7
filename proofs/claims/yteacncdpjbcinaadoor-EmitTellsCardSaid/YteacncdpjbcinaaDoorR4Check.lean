/- solsticeref34.Check: whether a small hive is right. -/
import Derived.Test.YteacncdpjbcinaaDoorR4Val
import Derived.Test.YteacncdpjbcinaaDoorHvCheck
import Derived.Test.YteacncdpjbcinaaDoorHvSmall
namespace Go.Proofs.YteacncdpjbcinaaDoor
open Go.RowKit

namespace R4
theorem yes_list {a b : ByteArray} (h : a = b) : (a.toList == b.toList) = true := by rw [h]; simp
theorem paths_not {l : List Hv.K} {k : Nat} {p : ByteArray} (h : ∀ q x, q < k → l[q]? = some x → x.path ≠ p) : Hv.has (Hv.paths (l.take k)) p = false := by
  apply Hv.has_not
  intro hm
  unfold Hv.paths at hm
  obtain ⟨x, hx, e⟩ := List.mem_map.1 hm
  obtain ⟨q, hq, e2⟩ := List.mem_iff_getElem.1 hx
  rw [List.length_take] at hq
  exact h q x (by omega) (by rw [← e2, List.getElem_take, List.getElem?_eq_getElem]) e
theorem paths_has {l : List Hv.K} {k q : Nat} {x : Hv.K} {p : ByteArray} (hq : q < k) (hx : l[q]? = some x) (h : x.path = p) : Hv.has (Hv.paths (l.take k)) p = true := by
  apply Hv.has_iff.2
  unfold Hv.paths
  refine List.mem_map.2 ⟨x, ?_, h⟩
  exact List.mem_of_getElem? (by rw [List.getElem?_take_of_lt hq]; exact hx)
theorem names_not {l : List Hv.V} {k : Nat} {p : ByteArray} (h : ∀ q x, q < k → l[q]? = some x → x.name ≠ p) : Hv.has (Hv.names (l.take k)) p = false := by
  apply Hv.has_not
  intro hm
  unfold Hv.names at hm
  obtain ⟨x, hx, e⟩ := List.mem_map.1 hm
  obtain ⟨q, hq, e2⟩ := List.mem_iff_getElem.1 hx
  rw [List.length_take] at hq
  exact h q x (by omega) (by rw [← e2, List.getElem_take, List.getElem?_eq_getElem]) e
theorem names_has {l : List Hv.V} {k q : Nat} {x : Hv.V} {p : ByteArray} (hq : q < k) (hx : l[q]? = some x) (h : x.name = p) : Hv.has (Hv.names (l.take k)) p = true := by
  apply Hv.has_iff.2
  unfold Hv.names
  refine List.mem_map.2 ⟨x, ?_, h⟩
  exact List.mem_of_getElem? (by rw [List.getElem?_take_of_lt hq]; exact hx)
theorem not_next {α : Type} {l : List α} {f : α → ByteArray} {j : Nat} {y : α} {p : ByteArray} (h : ∀ q x, q < j → l[q]? = some x → f x ≠ p) (hy : l[j]? = some y) (hp : ¬ f y = p) : ∀ q x, q < j + 1 → l[q]? = some x → f x ≠ p := by
  intro q x hq hx
  by_cases e : q = j
  · subst e
    rw [hx] at hy
    cases hy
    exact hp
  · exact h q x (by omega) hx
end R4
set_option maxHeartbeats 8000000 in
set_option maxRecDepth 100000 in
theorem check4_any (l : List Hv.K) (hfw : Hv.Few l) (A : Option Addr) (n c : Nat) (evs : List Value) (w : World) (hn : l.length = n) (hr : Hv.HR w w.heap.size l (.slice A n c) evs) :
    Calls Tryd.prog 18 #[.agg #[.slice A n c]] w fun e w' => e = .returned (.int .i64 (if Hv.hiveB l = true then 0 else 2)) ∧ Below w.heap.size w w' := by
  obtain ⟨X, hX⟩ : ∃ X : Int, (if Hv.hiveB l = true then (0 : Int) else 2) = X := ⟨_, rfl⟩
  rw [hX]
  have hn30 : n ≤ 30 := by rw [← hn]; exact hfw.n
  unfold Hv.hiveB at hX
  rw [decide_eq_true (by omega), Bool.true_and] at hX
  have hnc : n ≤ c := by obtain ⟨A', c', e, h1, _⟩ := hr.row; injection e with _ e2 e3; omega
  have HF := Lib.hid hfw.all
  have HR := Lib.hid hr
  have HN := Lib.hid hn
  have HX := Lib.hid hX
  obtain ⟨W0, hW0⟩ : ∃ W, w.alloc (.cells #[.slice A n c] 24) = W := ⟨_, rfl⟩
  have HB0 : Hid (Below w.heap.size w W0) := by show Below _ _ _; rw [← hW0]; exact Hv.bl1 _ _
  have HA0 : Hid (At W0 w.heap.size [.slice A n c]) := by show At _ _ _; rw [← hW0]; exact At.new _ _ _
  have HW0 := Lib.hid hW0
  have p5 : ¬ (4096 : Int) < (n : Int) := by omega
  clear hW0 hX hr hn hfw
  go_enter Tryd.func18, Tryd.ntmps18
  go_wp2_with fail
  rw [HW0.out]
  go_loopw [18] (fun i wr => ∃ k : Nat, k ≤ n ∧ i = .int .i64 (k : Int) ∧ Hid (Below w.heap.size w wr) ∧ Hid (At wr w.heap.size [.slice A n c]) ∧ Hid ((if Hv.keysB (Hv.paths (l.take k)) (l.drop k) = true then (0 : Int) else 2) = X)) (fun i _ => n - (intOf i).toNat)
  case atStart => exact ⟨0, Nat.zero_le _, rfl, HB0.out, HA0.out, HX.out⟩
  case round =>
    obtain ⟨k, hk, rfl, HB, HA, HV⟩ := hrel
    by_cases hlt : k < n
    · have q1 : (0 : Int) ≤ (k : Int) := by omega
      have q2 : (k : Int) < (n : Int) := by omega
      have q3 : (k : Int) ≤ (c : Int) := by omega
      obtain ⟨ad, x, vA, m, vc, rfl, hab, Hx, c0, c1, HVl, hv1, hv2, HRv⟩ := (HR.out.below HB.out).at_ HN.out hlt
      have hxf := HF.out x (List.mem_of_getElem? Hx.out)
      have hv := HV.out
      rw [Hv.drop_next Hx.out] at hv
      unfold Hv.keysB Hv.keyB at hv
      obtain ⟨pt, vs⟩ := x
      simp only at c0 c1 hv HVl HRv
      obtain ⟨f1, f2, f3⟩ := hxf
      simp only at f1 f2 f3
      have hm60 : m ≤ 60 := by rw [← HVl.out]; exact f2
      rw [decide_eq_true (show vs.length ≤ 512 by omega), Bool.true_and] at hv
      have HF3 := Lib.hid f3
      have HCp := Lib.hid (fun W => path4_any pt (by omega) W)
      obtain ⟨pb, hpb⟩ : ∃ b, Hv.path pt = b := ⟨_, rfl⟩
      rw [hpb] at hv HCp
      obtain ⟨Y, hY⟩ : ∃ Y, Hv.valsB [] vs = Y := ⟨_, rfl⟩
      rw [hY] at hv
      have HY := Lib.hid hY
      have HTk := Lib.hid (Hv.paths_next Hx.out)
      obtain ⟨W3, hW3⟩ : ∃ W, wr.alloc (.cells #[.string pt, .slice vA m vc] 40) = W := ⟨_, rfl⟩
      have HB3 : Hid (Below w.heap.size w W3) := by show Below _ _ _; rw [← hW3]; exact Hv.bl HB.out _
      have HK3 : Hid (At W3 wr.heap.size [.string pt, .slice vA m vc]) := by show At _ _ _; rw [← hW3]; exact At.new _ _ _
      have HA3 : Hid (At W3 w.heap.size [.slice (some ad) n c]) := by show At _ _ _; rw [← hW3]; exact HA.out.allocO _
      have HRv3 : Hid (Reads W3 w.heap.size 5 vA m (vs.flatMap Hv.V.cells)) := by show Reads _ _ _ _ _ _; rw [← hW3]; exact HRv.out.below ((Hv.bl1 wr _).mono HB.out.size)
      have HW3 := Lib.hid hW3
      have r1 : ¬ (512 : Int) < (m : Int) := by omega
      obtain ⟨g, hg⟩ : ∃ g, wr.heap.size = g := ⟨_, rfl⟩
      rw [hg] at HK3
      have HG := Lib.hid hg
      clear hW3 hpb hY f1 f2 f3 HRv hg
      go_wp2_with fail
      rw [HW3.out, HG.out]
      refine (HCp.out _).mono ?_
      rintro e w4 ⟨rfl, hb4⟩
      have HB4 := Lib.hid (below_then HB3.out hb4)
      have HK4 := Lib.hid (HK3.out.call hb4)
      have HA4 := Lib.hid (HA3.out.call hb4)
      have HRv4 : Hid (Reads w4 w.heap.size 5 vA m (vs.flatMap Hv.V.cells)) := HRv3.out.below (hb4.mono HB3.out.size)
      clear hb4 c0 c1 HCp HW3 HK3 HA3 HB3 HRv3
      cases pb with
      | false =>
        have HE : Hid (X = 2) := by show X = 2; rw [← hv]; rfl
        clear hv
        go_wp2
        go_ret
        exact ⟨by rw [HE.out]; rfl, HB4.out⟩
      | true =>
        rw [Bool.true_and] at hv
        have HV2 := Lib.hid hv
        have d0 := HK4.out.cell 0 _ rfl
        have d1 := HK4.out.cell 1 _ rfl
        have dl := HK4.out.lt
        have b0 := HA4.out.cell 0 _ rfl
        have bl := HA4.out.lt
        clear hv
        go_wp2_with fail
        clear d0 d1 dl b0 bl
        go_loopw [38] (fun i wi => ∃ j : Nat, j ≤ k ∧ i = .int .i64 (j : Int) ∧ Hid (Below w.heap.size w wi) ∧ Hid (At wi w.heap.size [.slice (some ad) n c]) ∧ Hid (At wi g [.string pt, .slice vA m vc]) ∧ Hid (Reads wi w.heap.size 5 vA m (vs.flatMap Hv.V.cells)) ∧ Hid (∀ q x, q < j → l[q]? = some x → x.path ≠ pt)) (fun i _ => k - (intOf i).toNat)
        case atStart => exact ⟨0, Nat.zero_le _, rfl, HB4.out, HA4.out, HK4.out, HRv4.out, fun q x h _ => absurd h (Nat.not_lt_zero _)⟩
        case round =>
          obtain ⟨j, hj, rfl, HBi, HAi, HKi, HRi, HQ⟩ := hrel
          by_cases hlj : j < k
          · have q4 : (0 : Int) ≤ (j : Int) := by omega
            have q5 : (j : Int) < (k : Int) := by omega
            obtain ⟨ad2, y, vA2, m2, vc2, hA2, hab2, Hy, e0, e1, _, _, _, _⟩ := (HR.out.below HBi.out).at_ HN.out (show j < n by omega)
            injection hA2 with hA2
            subst hA2
            obtain ⟨py, vy⟩ := y
            simp only at e0 e1
            have dl := HKi.out.lt
            have d0 := HKi.out.cell 0 _ rfl
            have HB5 := Lib.hid (Hv.bl HBi.out (.cells #[.string py, .slice vA2 m2 vc2] 40))
            have HA5 := Lib.hid (HAi.out.allocO (.cells #[.string py, .slice vA2 m2 vc2] 40))
            have HK5 := Lib.hid (HKi.out.allocO (.cells #[.string py, .slice vA2 m2 vc2] 40))
            have HR5 : Hid (Reads (wr.alloc (.cells #[.string py, .slice vA2 m2 vc2] 40)) w.heap.size 5 vA m (vs.flatMap Hv.V.cells)) := HRi.out.below ((Hv.bl1 wr _).mono HBi.out.size)
            by_cases heq : py = pt
            · have hq := R4.yes_list heq
              have HE : Hid (X = 2) := by show X = 2; rw [← HV2.out, R4.paths_has hlj Hy.out heq]; simp
              clear heq
              go_wp2
              go_ret
              exact ⟨by rw [HE.out]; rfl, HB5.out⟩
            · have hq := R3.ne_list heq
              have HQ2 := Lib.hid (R4.not_next (f := Hv.K.path) HQ.out Hy.out heq)
              clear heq
              go_wp2
              go_roundw
              case rel => exact ⟨j + 1, by omega, by go_num, HB5.out, HA5.out, HK5.out, HR5.out, HQ2.out⟩
              case measure => simp [intOf]; omega
          · have q5 : ¬ (j : Int) < (k : Int) := by omega
            have hjk : j = k := by omega
            have hnot := R4.paths_not (fun q x hq hx => HQ.out q x (by omega) hx) (k := k) (l := l) (p := pt)
            have hv3 := HV2.out
            rw [hnot, Bool.not_false, Bool.true_and, ← HTk.out] at hv3
            have HV3 := Lib.hid hv3
            have d0 := HKi.out.cell 0 _ rfl
            have d1 := HKi.out.cell 1 _ rfl
            have dl := HKi.out.lt
            clear hnot hv3 hjk
            go_wp2_with fail
            clear d0 d1 dl
            go_loopw [51] (fun i wi => ∃ j : Nat, j ≤ m ∧ i = .int .i64 (j : Int) ∧ Hid (Below w.heap.size w wi) ∧ Hid (At wi w.heap.size [.slice (some ad) n c]) ∧ Hid (At wi g [.string pt, .slice vA m vc]) ∧ Hid (Reads wi w.heap.size 5 vA m (vs.flatMap Hv.V.cells)) ∧ Hid (Hv.valsB (Hv.names (vs.take j)) (vs.drop j) = Y)) (fun i _ => m - (intOf i).toNat)
            case atStart => exact ⟨0, Nat.zero_le _, rfl, HBi.out, HAi.out, HKi.out, HRi.out, HY.out⟩
            case round =>
              clear HQ
              obtain ⟨t, ht, rfl, HBv, HAv, HKv, HRt, HYt⟩ := hrel
              by_cases hlv : t < m
              · have s1 : (0 : Int) ≤ (t : Int) := by omega
                have s2 : (t : Int) < (m : Int) := by omega
                have s3 : (t : Int) ≤ (vc : Int) := by omega
                obtain ⟨av, y, rfl, habv, Hyv, y0, y1, y2, y3, y4⟩ := Hv.val_at HRt.out HVl.out hlv
                have hsv := HF3.out y (List.mem_of_getElem? Hyv.out)
                have hyt := HYt.out
                rw [Hv.drop_next Hyv.out] at hyt
                unfold Hv.valsB at hyt
                have HNt := Lib.hid (Hv.names_next Hyv.out)
                obtain ⟨nm, kd, tx, nu, bs⟩ := y
                unfold Hv.SmV at hsv
                simp only at y0 y1 y2 y3 y4 hsv hyt
                have HCv := Lib.hid (fun W => r4val_any ⟨nm, kd, tx, nu, bs⟩ (by show nm.size ≤ _; omega) (by show tx.size ≤ _; omega) (by show bs.size ≤ _; omega) W)
                unfold Hv.V.v at HCv
                simp only at HCv
                obtain ⟨vb, hvb⟩ : ∃ b, Hv.valB ⟨nm, kd, tx, nu, bs⟩ = b := ⟨_, rfl⟩
                rw [hvb] at hyt HCv
                obtain ⟨W7, hW7⟩ : ∃ W, wr.alloc (.cells #[.string nm, .int .u8 kd, .string tx, .int .u32 nu, .string bs] 28) = W := ⟨_, rfl⟩
                have hb7 : Below wr.heap.size wr W7 := by rw [← hW7]; exact Hv.bl1 _ _
                have HB7 := Lib.hid (below_then HBv.out hb7)
                have HA7 := Lib.hid (HAv.out.call hb7)
                have HK7 := Lib.hid (HKv.out.call hb7)
                have HR7 : Hid (Reads W7 w.heap.size 5 (some av) m (vs.flatMap Hv.V.cells)) := HRt.out.below (hb7.mono HBv.out.size)
                have HZ7 : Hid (At W7 wr.heap.size [.string nm, .int .u8 kd, .string tx, .int .u32 nu, .string bs]) := by show At _ _ _; rw [← hW7]; exact At.new _ _ _
                have HW7 := Lib.hid hW7
                obtain ⟨gz, hgz⟩ : ∃ g, wr.heap.size = g := ⟨_, rfl⟩
                rw [hgz] at HZ7
                have HGz := Lib.hid hgz
                clear hW7 hvb hsv hb7 hgz
                go_wp2_with fail
                rw [HW7.out, HGz.out]
                refine (HCv.out _).mono ?_
                rintro e w8 ⟨rfl, hb8⟩
                have HB8 := Lib.hid (below_then HB7.out hb8)
                have HA8 := Lib.hid (HA7.out.call hb8)
                have HK8 := Lib.hid (HK7.out.call hb8)
                have HZ8 := Lib.hid (HZ7.out.call hb8)
                have HR8 : Hid (Reads w8 w.heap.size 5 (some av) m (vs.flatMap Hv.V.cells)) := HR7.out.below (hb8.mono HB7.out.size)
                clear hb8 y0 y1 y2 y3 y4 HCv HW7
                cases vb with
                | false =>
                  have HE : Hid (X = 2) := by
                    have : Y = false := hyt.symm
                    show X = 2
                    rw [← HV3.out, this]; rfl
                  clear hyt
                  go_wp2
                  go_ret
                  exact ⟨by rw [HE.out]; rfl, HB8.out⟩
                | true =>
                  rw [Bool.true_and] at hyt
                  have HYu := Lib.hid hyt
                  have d1 := HK8.out.cell 1 _ rfl
                  have dl := HK8.out.lt
                  clear hyt
                  go_wp2_with fail
                  clear d1 dl
                  go_loopw [64] (fun i wi => ∃ j : Nat, j ≤ t ∧ i = .int .i64 (j : Int) ∧ Hid (Below w.heap.size w wi) ∧ Hid (At wi w.heap.size [.slice (some ad) n c]) ∧ Hid (At wi g [.string pt, .slice (some av) m vc]) ∧ Hid (At wi gz [.string nm, .int .u8 kd, .string tx, .int .u32 nu, .string bs]) ∧ Hid (Reads wi w.heap.size 5 (some av) m (vs.flatMap Hv.V.cells)) ∧ Hid (∀ q x, q < j → vs[q]? = some x → x.name ≠ nm)) (fun i _ => t - (intOf i).toNat)
                  case atStart => exact ⟨0, Nat.zero_le _, rfl, HB8.out, HA8.out, HK8.out, HZ8.out, HR8.out, fun q x h _ => absurd h (Nat.not_lt_zero _)⟩
                  case round =>
                    obtain ⟨u, hu, rfl, HBu, HAu, HKu, HZu, HRu, HQu⟩ := hrel
                    by_cases hlu : u < t
                    · have s4 : (0 : Int) ≤ (u : Int) := by omega
                      have s5 : (u : Int) < (t : Int) := by omega
                      obtain ⟨av2, z, hz2, habz, Hz, z0, z1, z2, z3, z4⟩ := Hv.val_at HRu.out HVl.out (show u < m by omega)
                      injection hz2 with hz2
                      subst hz2
                      obtain ⟨nm2, kd2, tx2, nu2, bs2⟩ := z
                      simp only at z0 z1 z2 z3 z4
                      have dl := HZu.out.lt
                      have d0 := HZu.out.cell 0 _ rfl
                      have hb9 := Hv.bl1 wr (.cells #[.string nm2, .int .u8 kd2, .string tx2, .int .u32 nu2, .string bs2] 28)
                      have HB9 := Lib.hid (below_then HBu.out hb9)
                      have HA9 := Lib.hid (HAu.out.call hb9)
                      have HK9 := Lib.hid (HKu.out.call hb9)
                      have HZ9 := Lib.hid (HZu.out.call hb9)
                      have HR9 : Hid (Reads (wr.alloc (.cells #[.string nm2, .int .u8 kd2, .string tx2, .int .u32 nu2, .string bs2] 28)) w.heap.size 5 (some av) m (vs.flatMap Hv.V.cells)) := HRu.out.below (hb9.mono HBu.out.size)
                      clear hb9
                      by_cases heq : nm2 = nm
                      · have hq := R4.yes_list heq
                        have HE : Hid (X = 2) := by
                          have : Y = false := by rw [← HYu.out, R4.names_has hlu Hz.out heq]; simp
                          show X = 2
                          rw [← HV3.out, this]; rfl
                        clear heq
                        go_wp2
                        go_ret
                        exact ⟨by rw [HE.out]; rfl, HB9.out⟩
                      · have hq := R3.ne_list heq
                        have HQ2 := Lib.hid (R4.not_next (f := Hv.V.name) HQu.out Hz.out heq)
                        clear heq
                        go_wp2
                        go_roundw
                        case rel => exact ⟨u + 1, by omega, by go_num, HB9.out, HA9.out, HK9.out, HZ9.out, HR9.out, HQ2.out⟩
                        case measure => simp [intOf]; omega
                    · have s5 : ¬ (u : Int) < (t : Int) := by omega
                      have hnot := R4.names_not (fun q x hq hx => HQu.out q x (by omega) hx) (k := t) (l := vs) (p := nm)
                      have hy3 := HYu.out
                      rw [hnot, Bool.not_false, Bool.true_and, ← HNt.out] at hy3
                      have HY3 := Lib.hid hy3
                      clear hnot hy3
                      go_wp2
                      go_roundw
                      case rel => exact ⟨t + 1, by omega, by go_num, HBu.out, HAu.out, HKu.out, HRu.out, HY3.out⟩
                      case measure => simp [intOf]; omega
              · have s2 : ¬ (t : Int) < (m : Int) := by omega
                have hYt : Y = true := by
                  rw [← HYt.out, List.drop_eq_nil_of_le (by rw [HVl.out]; omega)]
                  rfl
                have hv4 := HV3.out
                rw [hYt, Bool.true_and] at hv4
                have HV4 := Lib.hid hv4
                clear hYt hv4
                go_wp2
                go_roundw
                case rel => exact ⟨k + 1, by omega, by go_num, HBv.out, HAv.out, HV4.out⟩
                case measure => simp [intOf]; omega
    · have q2 : ¬ (k : Int) < (n : Int) := by omega
      have HE : Hid (X = 0) := by
        show X = 0
        rw [← HV.out, List.drop_eq_nil_of_le (by rw [HN.out]; omega)]
        rfl
      go_wp2
      go_ret
      exact ⟨by rw [HE.out]; rfl, HB.out⟩
end Go.Proofs.YteacncdpjbcinaaDoor
