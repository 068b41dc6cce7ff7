/- solsticelaw34.Small: 0, or 1 and the hive is small. -/
import Derived.Test.YteacncdpjbcinaaDoorHvKit
namespace Go.Proofs.YteacncdpjbcinaaDoor
open Go.RowKit

namespace Hv
/-- No text is longer than a machine bears. -/
def far (s : ByteArray) : Prop := s.size ≤ 140737488355328
def V.Far (v : V) : Prop := far v.name ∧ far v.text ∧ far v.bytes
def SmV (v : V) : Prop := v.name.size + v.text.size + v.bytes.size ≤ 10000
def SmK (k : K) : Prop := k.path.size ≤ 1000 ∧ k.vals.length ≤ 60 ∧ ∀ v ∈ k.vals, SmV v
structure Few (l : List K) : Prop where
  n : l.length ≤ 30
  all : ∀ k ∈ l, SmK k
def SmRet (l : List K) (w : World) (e : Ending) (w' : World) : Prop := (e = .returned (.int .i64 0) ∨ (e = .returned (.int .i64 1) ∧ Few l)) ∧ Below w.heap.size w w'
theorem all_next {α : Type} {P : α → Prop} {l : List α} {k : Nat} {x : α} (h : ∀ a ∈ l.take k, P a) (hx : l[k]? = some x) (hp : P x) : ∀ a ∈ l.take (k + 1), P a := by
  rw [take_next hx]
  intro a ha
  rcases List.mem_append.1 ha with ha | ha
  · exact h a ha
  · rw [List.mem_singleton.1 ha]; exact hp
end Hv
set_option maxHeartbeats 4000000 in
set_option maxRecDepth 100000 in
theorem small34_any (l : List Hv.K) (hl : ∀ k ∈ l, k.path.size ≤ maxLen ∧ ∀ v ∈ k.vals, v.Far) (A : Option Addr) (n c : Nat) (evs : List Value) (w : World) (hn : l.length = n) (hnm : n ≤ maxLen) (hr : Hv.HR w w.heap.size l (.slice A n c) evs) :
    Calls Tryd.prog 5 #[.agg #[.slice A n c]] w (Hv.SmRet l w) := by
  have HR := Lib.hid hr
  have HN := Lib.hid hn
  have HO := Lib.hid hl
  unfold maxLen at hnm
  obtain ⟨W0, hW0⟩ : ∃ W, w.alloc (.cells #[.slice A n c] 24) = W := ⟨_, rfl⟩
  have HB0 : Hid (Below w.heap.size w W0) := by show Below _ _ _; rw [← hW0]; exact Hv.bl1 _ _
  have HA0 : Hid (At W0 w.heap.size [.slice A n c]) := by show At _ _ _; rw [← hW0]; exact At.new _ _ _
  have a0 := HA0.out.cell 0 _ rfl
  have HW0 := Lib.hid hW0
  clear hW0 hr hn hl
  go_enter Tryd.func5, Tryd.ntmps5
  by_cases hn5 : n ≤ 30
  case neg =>
    have p5 : (30 : Int) < (n : Int) := by omega
    go_wp2_with fail
    rw [HW0.out]
    go_ret
    exact ⟨.inl rfl, HB0.out⟩
  have p5 : ¬ (30 : Int) < (n : Int) := by omega
  go_wp2_with fail
  rw [HW0.out]
  go_wp2_with fail
  clear a0
  go_loopw [14] (fun i wr => ∃ k : Nat, k ≤ n ∧ i = .int .i64 (k : Int) ∧ Hid (Below w.heap.size w wr) ∧ Hid (∀ x ∈ l.take k, Hv.SmK x)) (fun i _ => n - (intOf i).toNat)
  case atStart => exact ⟨0, Nat.zero_le _, rfl, HB0.out, fun x hx => by cases hx⟩
  case round =>
    obtain ⟨k, hk, rfl, HB, HS⟩ := hrel
    by_cases hlt : k < n
    · have q1 : (0 : Int) ≤ (k : Int) := by omega
      have q2 : (k : Int) < (n : Int) := by omega
      obtain ⟨ad, x, vA, m, vc, rfl, hab, Hx, c0, c1, HVl, hv1, hv2, HRv⟩ := (HR.out.below HB.out).at_ HN.out hlt
      have hxo := HO.out x (List.mem_of_getElem? Hx.out)
      obtain ⟨pt, vs⟩ := x
      simp only at c0 c1 HVl HRv hxo
      have h1 := hxo.1
      unfold maxLen at h1 hv2
      have HF := Lib.hid hxo.2
      obtain ⟨W3, hW3⟩ : ∃ W, wr.alloc (.cells #[.string pt, .slice vA m vc] 40) = W := ⟨_, rfl⟩
      have HB3 : Hid (Below w.heap.size w W3) := by show Below _ _ _; rw [← hW3]; exact Hv.bl HB.out _
      have HB3r : Hid (Below wr.heap.size wr W3) := by show Below _ _ _; rw [← hW3]; exact Hv.bl1 _ _
      have HRv3 := Lib.hid (((HRv.out.more HB.out.size).below HB3r.out).more HB3r.out.size)
      have HW3 := Lib.hid hW3
      clear hW3 hxo
      by_cases hp1 : pt.size ≤ 1000
      case neg =>
        have p6 : (1000 : Int) < (pt.size : Int) := by omega
        go_wp2_with fail
        rw [HW3.out]
        go_ret
        exact ⟨.inl rfl, HB3.out⟩
      have p6 : ¬ (1000 : Int) < (pt.size : Int) := by omega
      by_cases hm1 : m ≤ 60
      case neg =>
        have p7 : (60 : Int) < (m : Int) := by omega
        go_wp2_with fail
        rw [HW3.out]
        go_ret
        exact ⟨.inl rfl, HB3.out⟩
      have p7 : ¬ (60 : Int) < (m : Int) := by omega
      go_wp2_with fail
      rw [HW3.out]
      go_wp2_with fail
      clear c0 c1
      go_loopw [31] (fun i wv => ∃ j : Nat, j ≤ m ∧ i = .int .i64 (j : Int) ∧ Hid (Below W3.heap.size W3 wv) ∧ Hid (∀ x ∈ vs.take j, Hv.SmV x)) (fun i _ => m - (intOf i).toNat)
      case atStart => exact ⟨0, Nat.zero_le _, rfl, Below.refl _ _, fun x hx => by cases hx⟩
      case round =>
        obtain ⟨j, hj, rfl, HBj, HSj⟩ := hrel
        have HBw := Lib.hid (below_then HB3.out HBj.out)
        by_cases hlj : j < m
        · have t1 : (0 : Int) ≤ (j : Int) := by omega
          have t2 : (j : Int) < (m : Int) := by omega
          obtain ⟨ad, y, rfl, hab, Hy, d0, d1, d2, d3, d4⟩ := Hv.val_at (HRv3.out.below HBj.out) HVl.out hlj
          obtain ⟨f1, f2, f3⟩ := HF.out y (List.mem_of_getElem? Hy.out)
          obtain ⟨nm, kd, tx, nu, bs⟩ := y
          unfold Hv.far at f1 f2 f3
          simp only at d0 d1 d2 d3 d4 f1 f2 f3
          have w1 : IntKind.i64.wrap ((nm.size : Int) + (tx.size : Int)) = (nm.size : Int) + (tx.size : Int) := IntWalk.i64_in _ (by omega)
          have w2 : IntKind.i64.wrap ((nm.size : Int) + (tx.size : Int) + (bs.size : Int)) = (nm.size : Int) + (tx.size : Int) + (bs.size : Int) := IntWalk.i64_in _ (by omega)
          have HB5 := Lib.hid (Hv.bl HBw.out (.cells #[.string nm, .int .u8 kd, .string tx, .int .u32 nu, .string bs] 28))
          have HB5j := Lib.hid (Hv.bl HBj.out (.cells #[.string nm, .int .u8 kd, .string tx, .int .u32 nu, .string bs] 28))
          by_cases hs : nm.size + tx.size + bs.size ≤ 10000
          · have p8 : ¬ (10000 : Int) < (nm.size : Int) + (tx.size : Int) + (bs.size : Int) := by omega
            have HS2 : Hid (∀ x ∈ vs.take (j + 1), Hv.SmV x) := Hv.all_next HSj.out Hy.out hs
            clear hs
            go_wp2
            go_roundw
            case rel => exact ⟨j + 1, by omega, by go_num, HB5j.out, HS2.out⟩
            case measure => simp [intOf]; omega
          · have p8 : (10000 : Int) < (nm.size : Int) + (tx.size : Int) + (bs.size : Int) := by omega
            clear hs
            go_wp2
            go_ret
            exact ⟨.inl rfl, HB5.out⟩
        · have t2 : ¬ (j : Int) < (m : Int) := by omega
          have HS2 : Hid (∀ x ∈ l.take (k + 1), Hv.SmK x) := by
            refine Hv.all_next HS.out Hx.out ⟨hp1, ?_, ?_⟩
            · show vs.length ≤ 60
              rw [HVl.out]; exact hm1
            · have h := HSj.out
              rwa [List.take_of_length_le (by rw [HVl.out]; omega)] at h
          go_wp2
          go_roundw
          case rel => exact ⟨k + 1, by omega, by go_num, HBw.out, HS2.out⟩
          case measure => simp [intOf]; omega
    · have q2 : ¬ (k : Int) < (n : Int) := by omega
      have HE : Hid (Hv.Few l) := by
        have h := HS.out
        rw [List.take_of_length_le (by rw [HN.out]; omega)] at h
        exact ⟨by rw [HN.out]; exact hn5, h⟩
      go_wp2
      go_ret
      exact ⟨.inr ⟨rfl, HE.out⟩, HB.out⟩
end Go.Proofs.YteacncdpjbcinaaDoor
