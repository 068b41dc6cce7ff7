/- The contracts of package moment: Parse, Text. -/
import Derived.Test.YtokimlfbfbfenaaDoorMom
import Derived.Deep.DeepCutAuto
namespace Go.Proofs.YtokimlfbfbfenaaDoor
open Go.RowKit

namespace Mo
/-- By which clock a last letter tells; 3: it is none. -/
def by_ (c : Int) : Int := if c = 119 ∨ c = 87 then 0 else if c = 115 ∨ c = 83 then 1 else if c = 117 ∨ c = 85 ∨ c = 103 ∨ c = 71 ∨ c = 122 ∨ c = 90 then 2 else 3
def cutS (s : ByteArray) : ByteArray × Int :=
  if h : 0 < s.size then (if by_ (s[s.size - 1].toNat : Int) = 3 then (s, 0) else (s.extract 0 (s.size - 1), by_ (s[s.size - 1].toNat : Int))) else (s, 0)
def parse (s : ByteArray) : (Int × Int) × Int :=
  if s = ⟨#[45]⟩ then ((0, 0), 0) else if (Ck.parse (cutS s).1).2 = 0 then (((Ck.parse (cutS s).1).1, (cutS s).2), 0) else ((0, 0), (Ck.parse (cutS s).1).2)
end Mo
/-- A block of two cells, behind what a callee did. -/
theorem new2 {w w1 : World} {a b : Value} {t : TypeId} (hb : Below (w.heap.size + 1) (w.alloc (.cells #[a, b] t)) w1) :
    w1.cell? ⟨w.heap.size, 0, none⟩ = some a ∧ w1.cell? ⟨w.heap.size, 1, none⟩ = some b ∧ w1.frozen? ⟨w.heap.size, 0, none⟩ = false ∧ w1.frozen? ⟨w.heap.size, 1, none⟩ = false := by
  have h : ∀ i, w1.cell? ⟨w.heap.size, i, none⟩ = #[a, b][i]? := fun i => (hb.cell (p := ⟨w.heap.size, i, none⟩) (Nat.lt_succ_self _)).trans (cell_of_row _ w.heap.size i _ _ _ (heap_alloc_new w _))
  have hf : ∀ i, w1.frozen? ⟨w.heap.size, i, none⟩ = false := fun i => (hb.frozen (p := ⟨w.heap.size, i, none⟩) (Nat.lt_succ_self _)).trans (by have e := heap_alloc_new w (.cells #[a, b] t); unfold World.frozen?; simp only [e]; simp)
  exact ⟨h 0, h 1, hf 0, hf 1⟩

/-- A text that is another one, as the walk spells it. -/
theorem ba_ne (s : ByteArray) (l : List UInt8) (h : ¬ s = ⟨l.toArray⟩) : (s.toList == l) = false := by
  rw [beq_eq_false_iff_ne]
  intro e
  apply h
  apply ByteArray.ext
  rw [ByteArray.toList_eq] at e
  simp [← e]
namespace Mo
theorem cutS_zero (s : ByteArray) (h : ¬ 0 < s.size) (R : ByteArray) (V : Int) (hc : cutS s = (R, V)) : R = s ∧ V = 0 := by
  unfold cutS at hc
  rw [dif_neg h] at hc
  exact ⟨(Prod.mk.inj hc).1.symm, (Prod.mk.inj hc).2.symm⟩
theorem cutS_pos (s : ByteArray) (n : Nat) (h : s.size = n + 1) (hlt : n < s.size) (R : ByteArray) (V : Int) (hc : cutS s = (R, V)) :
    (by_ ((s[n]'hlt).toNat : Int) = 3 ∧ R = s ∧ V = 0) ∨ (by_ ((s[n]'hlt).toNat : Int) ≠ 3 ∧ R = s.extract 0 n ∧ V = by_ ((s[n]'hlt).toNat : Int)) := by
  unfold cutS at hc
  rw [dif_pos (by omega)] at hc
  have e : s.size - 1 = n := by omega
  simp only [e] at hc
  by_cases h3 : by_ ((s[n]'hlt).toNat : Int) = 3
  · rw [if_pos h3] at hc
    exact .inl ⟨h3, (Prod.mk.inj hc).1.symm, (Prod.mk.inj hc).2.symm⟩
  · rw [if_neg h3] at hc
    exact .inr ⟨h3, (Prod.mk.inj hc).1.symm, (Prod.mk.inj hc).2.symm⟩
/-- The letter, one by one. -/
theorem by_cases_ (c : Int) : (c = 119 ∨ c = 87 ∨ c = 115 ∨ c = 83 ∨ c = 117 ∨ c = 85 ∨ c = 103 ∨ c = 71 ∨ c = 122 ∨ c = 90) ∨ (by_ c = 3 ∧ (c == 119) = false ∧ (c == 87) = false ∧ (c == 115) = false ∧ (c == 83) = false ∧ (c == 117) = false ∧ (c == 85) = false ∧ (c == 103) = false ∧ (c == 71) = false ∧ (c == 122) = false ∧ (c == 90) = false) := by
  by_cases h : c = 119 ∨ c = 87 ∨ c = 115 ∨ c = 83 ∨ c = 117 ∨ c = 85 ∨ c = 103 ∨ c = 71 ∨ c = 122 ∨ c = 90
  · exact .inl h
  · right
    refine ⟨?_, ?_⟩
    · unfold by_
      rw [if_neg (by omega), if_neg (by omega), if_neg (by omega)]
    · simp only [beq_eq_false_iff_ne]
      omega
end Mo

set_option maxHeartbeats 2000000 in
set_option maxRecDepth 100000 in
theorem momParse_any (s : ByteArray) (w : World) (hW : Wp w) (hs : s.size ≤ 1000000) :
    Calls Tryd.prog 23 #[.string s] w fun e w' => e = .returned (.tuple #[.agg #[.int .i64 (Mo.parse s).1.1, .int .u8 (Mo.parse s).1.2], .int .i64 (Mo.parse s).2]) ∧ Below w.heap.size w w' := by
  by_cases hd : s = ⟨#[45]⟩
  · have HX : Hid (Mo.parse s = ((0, 0), 0)) := by show Mo.parse s = _; unfold Mo.parse; rw [if_pos hd]
    subst hd
    clear hs hW
    go_enter Tryd.func23, Tryd.ntmps23
    go_wp2
    refine bodyPost_ret (v := .tuple #[.agg #[.int .i64 0, .int .u8 0], .int .i64 0]) (by simp [results, Tryd.results23, go_sem]) rfl ⟨?_, ?_⟩
    · rw [HX.out]
    · exact (Below.refl _ _).alloc (Nat.le_refl _) _
  · obtain ⟨R, V, hc⟩ : ∃ R V, Mo.cutS s = (R, V) := ⟨_, _, rfl⟩
    have hR : R.size ≤ 1000000 := by
      have : R = (Mo.cutS s).1 := by rw [hc]
      rw [this]
      unfold Mo.cutS
      split
      · split
        · exact hs
        · simp only [ByteArray.size_extract]; omega
      · exact hs
    obtain ⟨a, b, hp⟩ : ∃ a b, Ck.parse R = (a, b) := ⟨_, _, rfl⟩
    have hX : Mo.parse s = if b = 0 then ((a, V), 0) else ((0, 0), b) := by unfold Mo.parse; rw [if_neg hd, hc]; simp only [hp]
    have HC := Lib.hid hc
    have HP := Lib.hid fun W hw => clockParse_all R W hw hR a b hp
    have HX := Lib.hid hX
    have HW := Lib.hid hW
    have hdb : (s.toList == [45]) = false := ba_ne s [45] hd
    clear hc hp hX hR hW
    go_enter Tryd.func23, Tryd.ntmps23
    go_upto_if 16 with fail
    go_cut [0, 4] (fun x g wx => x = .string R ∧ g = .int .u8 V ∧ w.alloc (.cells #[.int .i64 0, .int .u8 0] 32) = wx)
    case first =>
      by_cases h0 : 0 < s.size
      · obtain ⟨n, hn⟩ : ∃ n, s.size = n + 1 := ⟨s.size - 1, by omega⟩
        have hlt : n < s.size := by omega
        have q0 : (0 : Int) ≤ (n : Int) := by omega
        have q1 : (n : Int) < (s.size : Int) := by omega
        have q2 : (n : Int) ≤ (s.size : Int) := by omega
        have q3 : (s.size : Int) - 1 = (n : Int) := by omega
        have hcs := Mo.cutS_pos s n hn hlt R V HC.out
        have hl := Mo.by_cases_ ((s[n]'hlt).toNat : Int)
        clear h0 hn
        rcases hl with hl | ⟨h3, l0, l1, l2, l3, l4, l5, l6, l7, l8, l9⟩
        · rcases hl with hl | hl | hl | hl | hl | hl | hl | hl | hl | hl
          all_goals
            have hR2 : R = s.extract 0 n := by
              rcases hcs with ⟨h, _, _⟩ | ⟨_, h, _⟩
              · rw [hl] at h; exact absurd h (by decide)
              · exact h
            have hV2 : V = Mo.by_ (s[n].toNat : Int) := by
              rcases hcs with ⟨h, _, _⟩ | ⟨_, _, h⟩
              · rw [hl] at h; exact absurd h (by decide)
              · exact h
            rw [hl] at hV2
            have HR2 := Lib.hid hR2
            have HV2 := Lib.hid hV2
            clear hcs hR2 hV2
            go_wp2
            go_meet
            exact ⟨by rw [HR2.out], by rw [HV2.out]; rfl, rfl⟩
        · have hR2 : R = s ∧ V = 0 := by
            rcases hcs with ⟨_, h, h'⟩ | ⟨h, _, _⟩
            · exact ⟨h, h'⟩
            · exact absurd h3 h
          have HR2 := Lib.hid hR2
          clear hcs hR2 h3
          go_wp2
          go_meet
          exact ⟨by rw [HR2.out.1], by rw [HR2.out.2], rfl⟩
      · have HR2 := Lib.hid (Mo.cutS_zero s h0 R V HC.out)
        have q0 : ¬ (0 : Int) ≤ (s.size : Int) - 1 := by omega
        go_wp2
        go_meet
        exact ⟨by rw [HR2.out.1], by rw [HR2.out.2], rfl⟩
    case rest =>
      obtain ⟨rfl, rfl, rfl⟩ := hcut
      go_wp2_with fail
      refine (HP.out _ (HW.out.below ((Below.refl _ _).alloc (Nat.le_refl _) _))).mono ?_
      rintro e w1 ⟨rfl, hb1⟩
      have hb' : Below (w.heap.size + 1) (w.alloc (.cells #[.int .i64 0, .int .u8 0] 32)) w1 := hb1.mono (by simp)
      have hz : w.heap.size + 1 ≤ w1.heap.size := by have := hb'.size; simpa using this
      obtain ⟨c0, c1, f0, f1⟩ := new2 hb'
      have HB := Lib.hid (below_new hb')
      clear hb1 hb'
      by_cases hb0 : b = 0
      · have HX2 : Hid (Mo.parse s = ((a, V), 0)) := by show Mo.parse s = _; rw [HX.out, if_pos hb0]
        subst hb0
        go_wp2
        refine bodyPost_ret (v := .tuple #[.agg #[.int .i64 a, .int .u8 V], .int .i64 0]) (by simp [results, Tryd.results23, go_sem, *]) rfl ⟨?_, ?_⟩
        · rw [HX2.out]
        · exact (HB.out.setCell (p := ⟨w.heap.size, _, none⟩) (Nat.le_refl _) _).setCell (p := ⟨w.heap.size, _, none⟩) (Nat.le_refl _) _
      · have HX2 : Hid (Mo.parse s = ((0, 0), b)) := by show Mo.parse s = _; rw [HX.out, if_neg hb0]
        have q : (b != 0) = true := by simpa using hb0
        have q' : (b == 0) = false := by simpa using hb0
        clear hb0
        go_wp2
        refine bodyPost_ret (v := .tuple #[.agg #[.int .i64 0, .int .u8 0], .int .i64 b]) (by simp [results, Tryd.results23, go_sem, *]) rfl ⟨?_, ?_⟩
        · rw [HX2.out]
        · exact (HB.out.setCell (p := ⟨w.heap.size, _, none⟩) (Nat.le_refl _) _).setCell (p := ⟨w.heap.size, _, none⟩) (Nat.le_refl _) _
end Go.Proofs.YtokimlfbfbfenaaDoor
