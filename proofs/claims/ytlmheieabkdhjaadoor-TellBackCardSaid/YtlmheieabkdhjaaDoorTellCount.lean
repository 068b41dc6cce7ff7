/- tell.Count: how many of a key there are, of each reason. -/
import Derived.Test.YtlmheieabkdhjaaDoorTellRuns
namespace Go.Proofs.YtlmheieabkdhjaaDoor
open Go.RowKit

namespace Te
def cnt (key : ByteArray) (l : List M) (j : Nat) : Nat := l.countP fun m => decide (m.k = key) && decide (m.r = j)
theorem cnt_le (key : ByteArray) (l : List M) (j : Nat) : cnt key l j ≤ l.length := List.countP_le_length
def cc (key : ByteArray) (l : List M) : List Value := (List.range 6).map fun j => .int .i64 ((cnt key l j : Nat) : Int)
theorem cc_get (key : ByteArray) (l : List M) (j : Nat) (h : j < 6) : (cc key l)[j]? = some (.int .i64 ((cnt key l j : Nat) : Int)) := by
  unfold cc
  rw [List.getElem?_map, List.getElem?_range h]
  rfl
theorem cnt_snoc (key : ByteArray) (l : List M) (m : M) (j : Nat) : cnt key (l ++ [m]) j = cnt key l j + if m.k = key ∧ m.r = j then 1 else 0 := by
  unfold cnt
  rw [List.countP_append, List.countP_singleton]
  by_cases h1 : m.k = key <;> by_cases h2 : m.r = j <;> simp [h1, h2]
theorem cc_set (key : ByteArray) (l : List M) (m : M) (hk : m.k = key) : (cc key l).set m.r (.int .i64 (((cnt key l m.r : Nat) : Int) + 1)) = cc key (l ++ [m]) := by
  apply List.ext_getElem?
  intro j
  have hl : (cc key l).length = 6 := by unfold cc; simp
  by_cases hj : j < 6
  · rw [cc_get key (l ++ [m]) j hj, cnt_snoc]
    by_cases e : m.r = j
    · subst e
      rw [List.getElem?_set_self (by rw [hl]; exact hj), if_pos ⟨hk, rfl⟩]
      simp
    · rw [List.getElem?_set_ne e, cc_get key l j hj, if_neg (fun h => e h.2)]
      simp
  · rw [List.getElem?_eq_none (by rw [List.length_set, hl]; omega), List.getElem?_eq_none (by unfold cc; simp; omega)]
theorem cc_same (key : ByteArray) (l : List M) (m : M) (h : ¬ (m.k = key ∧ m.r < 6)) : cc key (l ++ [m]) = cc key l := by
  apply List.ext_getElem?
  intro j
  by_cases hj : j < 6
  · rw [cc_get _ _ j hj, cc_get _ _ j hj, cnt_snoc, if_neg (fun e => h ⟨e.1, by omega⟩)]
    simp
  · rw [List.getElem?_eq_none (by unfold cc; simp; omega), List.getElem?_eq_none (by unfold cc; simp; omega)]
/-- What tell.Count hands back. -/
def cv (key : ByteArray) (l : List M) : Value := .agg #[.int .i64 ((cnt key l 0 : Nat) : Int), .int .i64 ((cnt key l 1 : Nat) : Int), .int .i64 ((cnt key l 2 : Nat) : Int), .int .i64 ((cnt key l 3 : Nat) : Int), .int .i64 ((cnt key l 4 : Nat) : Int), .int .i64 ((cnt key l 5 : Nat) : Int)]
/-- All of a key, whatever the reason. -/
def tot (key : ByteArray) (l : List M) : Nat := l.countP fun m => decide (m.k = key) && decide (m.r < 6)
theorem tot_snoc (key : ByteArray) (l : List M) (m : M) : tot key (l ++ [m]) = tot key l + if m.k = key ∧ m.r < 6 then 1 else 0 := by
  unfold tot
  rw [List.countP_append, List.countP_singleton]
  by_cases h1 : m.k = key <;> by_cases h2 : m.r < 6 <;> simp [h1, h2]
theorem tot_sum (key : ByteArray) : ∀ l : List M, tot key l = cnt key l 0 + cnt key l 1 + cnt key l 2 + cnt key l 3 + cnt key l 4 + cnt key l 5
  | [] => rfl
  | m :: l => by
    have ih := tot_sum key l
    unfold tot cnt at ih ⊢
    simp only [List.countP_cons]
    by_cases h1 : m.k = key
    · simp only [h1, decide_true, Bool.true_and]
      by_cases h2 : m.r < 6
      · rcases (by omega : m.r = 0 ∨ m.r = 1 ∨ m.r = 2 ∨ m.r = 3 ∨ m.r = 4 ∨ m.r = 5) with h | h | h | h | h | h <;> simp only [h] <;> simp <;> omega
      · simp only [h2]
        rw [decide_eq_false (show ¬ m.r = 0 by omega), decide_eq_false (show ¬ m.r = 1 by omega), decide_eq_false (show ¬ m.r = 2 by omega), decide_eq_false (show ¬ m.r = 3 by omega), decide_eq_false (show ¬ m.r = 4 by omega), decide_eq_false (show ¬ m.r = 5 by omega)]
        simpa using ih
    · simp only [h1, decide_false, Bool.false_and]
      simpa using ih
end Te
theorem at_six {w : World} {g : Nat} {a b c d e f : Value} (h : At w g [a, b, c, d, e, f]) :
    w.cell? ⟨g, 0, none⟩ = some a ∧ w.cell? ⟨g, 1, none⟩ = some b ∧ w.cell? ⟨g, 2, none⟩ = some c ∧ w.cell? ⟨g, 3, none⟩ = some d ∧ w.cell? ⟨g, 4, none⟩ = some e ∧ w.cell? ⟨g, 5, none⟩ = some f ∧
    w.frozen? ⟨g, 0, none⟩ = false ∧ w.frozen? ⟨g, 1, none⟩ = false ∧ w.frozen? ⟨g, 2, none⟩ = false ∧ w.frozen? ⟨g, 3, none⟩ = false ∧ w.frozen? ⟨g, 4, none⟩ = false ∧ w.frozen? ⟨g, 5, none⟩ = false :=
  ⟨h.cell 0 _ rfl, h.cell 1 _ rfl, h.cell 2 _ rfl, h.cell 3 _ rfl, h.cell 4 _ rfl, h.cell 5 _ rfl, h.free 0 _ rfl, h.free 1 _ rfl, h.free 2 _ rfl, h.free 3 _ rfl, h.free 4 _ rfl, h.free 5 _ rfl⟩
/-- Where tell.Count stands at a round's begin. -/
structure CtAt (key : ByteArray) (l : List Te.M) (w : World) (i : Value) (wr : World) : Prop where
  st : ∃ k : Nat, k ≤ l.length ∧ i = .int .i64 k ∧ At wr (w.heap.size + 1) (Te.cc key (l.take k))
  res : At wr w.heap.size [.int .i64 0, .int .i64 0, .int .i64 0, .int .i64 0, .int .i64 0, .int .i64 0]
  below : Below w.heap.size w wr
set_option maxHeartbeats 8000000 in
set_option maxRecDepth 100000 in
theorem tellCount_any (A : Option Addr) (n c : Nat) (l : List Te.M) (key : ByteArray) (w : World) (hn : l.length = n) (hn6 : n ≤ 1000000) (hr : Reads w w.heap.size 3 A n (Te.rows l)) :
    Calls Tryd.prog 10 #[.slice A n c, .string key] w fun e w' => e = .returned (Te.cv key l) ∧ Below w.heap.size w w' := by
  obtain ⟨v, hv⟩ : ∃ v, Te.cv key l = v := ⟨_, rfl⟩
  rw [hv]
  have HV := Lib.hid hv
  have HN := Lib.hid hn
  have HR := Lib.hid hr
  clear hn hr hv
  go_enter Tryd.func10, Tryd.ntmps10
  go_wp2
  go_loopw [10] (fun i wr => CtAt key l w i wr) (fun i _ => n - (intOf i).toNat)
  case atStart =>
    refine ⟨⟨0, Nat.zero_le _, rfl, ?_⟩, ?_, ?_⟩
    · have h := At.new (w.alloc (.cells #[.int .i64 0, .int .i64 0, .int .i64 0, .int .i64 0, .int .i64 0, .int .i64 0] 39)) #[.int .i64 0, .int .i64 0, .int .i64 0, .int .i64 0, .int .i64 0, .int .i64 0] 39
      rw [World.size_alloc] at h
      exact h
    · exact (At.new w #[.int .i64 0, .int .i64 0, .int .i64 0, .int .i64 0, .int .i64 0, .int .i64 0] 39).allocO _
    · exact ((Below.refl w.heap.size w).alloc (Nat.le_refl _) _).alloc (by simp) _
  case round =>
    obtain ⟨⟨k, hk, rfl, hC⟩, hZ, hB⟩ := hrel
    have HB := Lib.hid hB
    have HC := Lib.hid hC
    have HZ := Lib.hid hZ
    clear hB hC hZ
    by_cases hlt : k < n
    · obtain ⟨m, hm⟩ : ∃ m, l[k]? = some m := ⟨_, List.getElem?_eq_getElem (by rw [HN.out]; exact hlt)⟩
      obtain ⟨ad, rfl, hab, c0, c1, c2⟩ := Te.row_cells (HR.out.below HB.out) hm hlt
      have q1 : (0 : Int) ≤ (k : Int) := by omega
      have q2 : (k : Int) < (n : Int) := by omega
      have htk : l.take (k + 1) = l.take k ++ [m] := by rw [List.take_add_one, hm]; rfl
      have HTk := Lib.hid htk
      have HBa := Lib.hid (HB.out.alloc HB.out.size (.cells #[.string m.k, .int .i64 m.y, .int .u8 m.r] 37))
      have HCa := Lib.hid (HC.out.alloc #[.string m.k, .int .i64 m.y, .int .u8 m.r] 37)
      have HZa := Lib.hid (HZ.out.alloc #[.string m.k, .int .i64 m.y, .int .u8 m.r] 37)
      clear htk hm
      have hct := Te.cnt_le key (l.take k) m.r
      rw [List.length_take] at hct
      by_cases hok : m.k = key ∧ m.r < 6
      · have HS := Lib.hid (Te.cc_set key (l.take k) m hok.1)
        have hcl := HCa.out.cell m.r _ (Te.cc_get key (l.take k) m.r hok.2)
        have hfr := HCa.out.free m.r _ (Te.cc_get key (l.take k) m.r hok.2)
        obtain ⟨kk, y, r⟩ := m
        obtain ⟨rfl, hr6⟩ := hok
        simp only at c0 c1 c2 HBa HCa HZa HS hcl hfr hct hr6
        obtain ⟨x, hx⟩ : ∃ x, Te.cnt kk (l.take k) r = x := ⟨_, rfl⟩
        rw [hx] at HS hcl hct
        clear hx
        have q3 : (r : Int) < 6 := by omega
        have q4 : (0 : Int) ≤ (r : Int) := by omega
        have q5 : IntKind.i64.wrap ((x : Int) + 1) = (x : Int) + 1 := by rw [IntKind.wrap_i64]; omega
        have q6 : wrap64 ((x : Int) + 1) = (x : Int) + 1 := by unfold wrap64; omega
        go_wp2
        go_roundw
        case rel =>
          refine ⟨⟨k + 1, by rw [HN.out]; omega, by go_num, ?_⟩, HZa.out.set_other _ _ (by simp), HBa.out.setCell (p := ⟨w.heap.size + 1, r, none⟩) (Nat.le_succ _) _⟩
          rw [HTk.out, ← HS.out]
          exact HCa.out.set r _
        case measure => simp [intOf]; omega
      · have HS := Lib.hid (Te.cc_same key (l.take k) m hok)
        obtain ⟨kk, y, r⟩ := m
        simp only at c0 c1 c2 HBa HCa HZa HS hok
        clear hct
        by_cases hkk : kk = key
        · subst hkk
          have q3 : ¬ (r : Int) < 6 := fun e => hok ⟨rfl, by omega⟩
          have q4 : ¬ r < 6 := by omega
          clear hok
          go_wp2
          go_roundw
          case rel =>
            refine ⟨⟨k + 1, by rw [HN.out]; omega, by go_num, ?_⟩, HZa.out, HBa.out⟩
            rw [HTk.out, HS.out]
            exact HCa.out
          case measure => simp [intOf]; omega
        · have qe : (kk.toList == key.toList) = false := by
            rw [beq_eq_false_iff_ne]
            intro e
            exact hkk ((Te.tl_iff _ _).1 e)
          have qe' : ¬ kk.toList = key.toList := by simpa using qe
          clear hok hkk
          go_wp2
          go_roundw
          case rel =>
            refine ⟨⟨k + 1, by rw [HN.out]; omega, by go_num, ?_⟩, HZa.out, HBa.out⟩
            rw [HTk.out, HS.out]
            exact HCa.out
          case measure => simp [intOf]; omega
    · have q2 : ¬ (k : Int) < (n : Int) := by omega
      have hC6 := HC.out
      rw [List.take_of_length_le (by rw [HN.out]; omega)] at hC6
      have hu : Te.cc key l = [.int .i64 ((Te.cnt key l 0 : Nat) : Int), .int .i64 ((Te.cnt key l 1 : Nat) : Int), .int .i64 ((Te.cnt key l 2 : Nat) : Int), .int .i64 ((Te.cnt key l 3 : Nat) : Int), .int .i64 ((Te.cnt key l 4 : Nat) : Int), .int .i64 ((Te.cnt key l 5 : Nat) : Int)] := rfl
      rw [hu] at hC6
      have hV := HV.out
      unfold Te.cv at hV
      obtain ⟨x0, e0⟩ : ∃ x : Int, ((Te.cnt key l 0 : Nat) : Int) = x := ⟨_, rfl⟩
      obtain ⟨x1, e1⟩ : ∃ x : Int, ((Te.cnt key l 1 : Nat) : Int) = x := ⟨_, rfl⟩
      obtain ⟨x2, e2⟩ : ∃ x : Int, ((Te.cnt key l 2 : Nat) : Int) = x := ⟨_, rfl⟩
      obtain ⟨x3, e3⟩ : ∃ x : Int, ((Te.cnt key l 3 : Nat) : Int) = x := ⟨_, rfl⟩
      obtain ⟨x4, e4⟩ : ∃ x : Int, ((Te.cnt key l 4 : Nat) : Int) = x := ⟨_, rfl⟩
      obtain ⟨x5, e5⟩ : ∃ x : Int, ((Te.cnt key l 5 : Nat) : Int) = x := ⟨_, rfl⟩
      rw [e0, e1, e2, e3, e4, e5] at hC6 hV
      obtain ⟨c0, c1, c2, c3, c4, c5, _⟩ := at_six hC6
      obtain ⟨z0, z1, z2, z3, z4, z5, f0, f1, f2, f3, f4, f5⟩ := at_six HZ.out
      have zl := HZ.out.lt
      have HE := Lib.hid hV
      clear hC6 hu hV e0 e1 e2 e3 e4 e5 HC HV
      go_wp2
      refine bodyPost_ret (v := .agg #[.int .i64 x0, .int .i64 x1, .int .i64 x2, .int .i64 x3, .int .i64 x4, .int .i64 x5]) (by simp [results, Tryd.results10, go_sem, *]) rfl ?_
      exact ⟨by rw [← HE.out], (((((HB.out.setCell (p := ⟨w.heap.size, _, none⟩) (Nat.le_refl _) _).setCell (p := ⟨w.heap.size, _, none⟩) (Nat.le_refl _) _).setCell (p := ⟨w.heap.size, _, none⟩) (Nat.le_refl _) _).setCell (p := ⟨w.heap.size, _, none⟩) (Nat.le_refl _) _).setCell (p := ⟨w.heap.size, _, none⟩) (Nat.le_refl _) _).setCell (p := ⟨w.heap.size, _, none⟩) (Nat.le_refl _) _⟩
end Go.Proofs.YtlmheieabkdhjaaDoor
