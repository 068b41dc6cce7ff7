/- look.Tidy: spans without those that are like the ones ahead of them. -/
import Derived.Test.YtolgigaolffenaaGreatDoorU36
import Derived.Test.YtolgigaolffenaaGreatDoorU11
import Derived.Test.YtolgigaolffenaaGreatDoorU01
import Derived.Deep.QuietTactic
import Derived.BigQuiet
import Derived.Test.YtolgigaolffenaaGreatDoorU32
import Derived.Test.YtolgigaolffenaaGreatDoorU30

namespace Go.Proofs.YtolgigaolffenaaGreatDoor
open Go.RowKit Go.Shelf
attribute [local go_sem] Oper.semAt_some

namespace Lo
open Ln
theorem tidyGo_snoc : ∀ (l : List Sp) (p x : Sp), tidyGo p (l ++ [x]) = tidyGo p l ++ (if alike x (l.getLast?.getD p) = true then [] else [x])
  | [], p, x => rfl
  | a :: l, p, x => by
    have ih := tidyGo_snoc l a x
    have e : (a :: l).getLast?.getD p = l.getLast?.getD a := by rw [List.getLast?_cons]; rfl
    rw [e]
    show (if alike a p = true then tidyGo a (l ++ [x]) else a :: tidyGo a (l ++ [x])) = (if alike a p = true then tidyGo a l else a :: tidyGo a l) ++ _
    rw [ih]
    split <;> rfl
theorem tidy_next {l : List Sp} {k : Nat} {x y : Sp} (hx : l[k + 1]? = some x) (hy : l[k]? = some y) : tidy (l.take (k + 2)) = tidy (l.take (k + 1)) ++ (if alike x y = true then [] else [x]) := by
  have e1 : l.take (k + 2) = l.take (k + 1) ++ [x] := by rw [List.take_add_one, hx]; rfl
  have hlt := (List.getElem?_eq_some_iff.1 hx).1
  have e2 : (l.take (k + 1)).getLast? = some y := by rw [List.getLast?_eq_getElem?, List.length_take, Nat.min_eq_left (by omega), List.getElem?_take_of_lt (by omega)]; exact hy
  rw [e1]
  cases hl : l.take (k + 1) with
  | nil => rw [hl] at e2; cases e2
  | cons a r =>
    rw [hl, List.getLast?_cons] at e2
    have e3 : r.getLast?.getD a = y := Option.some.inj e2
    show a :: tidyGo a (r ++ [x]) = (a :: tidyGo a r) ++ _
    rw [tidyGo_snoc, e3]
    rfl
theorem tidy_one {l : List Sp} {x : Sp} (hx : l[0]? = some x) : tidy (l.take 1) = tidy (l.take 0) ++ [x] := by
  cases l with
  | nil => cases hx
  | cons a l =>
    obtain rfl : a = x := by simpa using hx
    rfl
theorem tidy_len (l : List Sp) : (tidy l).length ≤ l.length := by
  have key : ∀ (l : List Sp) (p : Sp), (tidyGo p l).length ≤ l.length := by
    intro l
    induction l with
    | nil => intro p; exact Nat.le_refl _
    | cons a l ih =>
      intro p
      have := ih a
      show (if alike a p = true then tidyGo a l else a :: tidyGo a l).length ≤ l.length + 1
      split
      · omega
      · simp only [List.length_cons]; omega
  cases l with
  | nil => exact Nat.le_refl _
  | cons a l =>
    have := key l a
    show (a :: tidyGo a l).length ≤ l.length + 1
    simp only [List.length_cons]
    omega
def TdRet (l : List Sp) (w : World) (e : Ending) (w' : World) : Prop := (∃ v, e = .returned v ∧ w'.ownsRow w.heap.size 71 3 v (tidy l).length (Ln.fl (tidy l))) ∧ Below w.heap.size w w'
end Lo
namespace LkT
def sl : Nat → Nat
  | 0 => 13
  | 1 => 14
  | 2 => 15
  | 3 => 16
  | 4 => 17
  | 5 => 18
  | 6 => 19
  | 7 => 20
  | 8 => 21
  | 9 => 22
  | 10 => 23
  | _ => 24
def Q (k : Nat) : Nat → Value → World → Prop
  | 0, v, _ => v = .int .i64 (k : Int)
  | 1, v, _ => v = .bool true
  | 2, v, _ => v = .bool true
  | 3, v, _ => v = undef
  | 4, v, _ => v = undef
  | 5, v, _ => v = undef
  | 6, v, _ => v = undef
  | 7, v, _ => v = undef
  | 8, v, _ => v = undef
  | 9, v, _ => v = undef
  | 10, v, _ => v = undef
  | 11, v, _ => v = .bool true
  | _, _, _ => True
theorem Q_mono {k : Nat} : ∀ i v W W', Q k i v W → Below W.heap.size W W' → Q k i v W' := by
  intro _ v W W' h hb
  unfold Q at h ⊢
  split at h
  all_goals first | exact h
theorem sl_inj : ∀ j, j < 12 → ∀ k, k < 12 → sl j = sl k → j = k := by decide +kernel
theorem sl_no : ∀ j, j ∈ [0, 1, 2, 3, 4, 5, 6, 7, 8, 30] → ∀ k, k < 12 → sl k ≠ j := by decide +kernel
end LkT
namespace LkU
def sl : Nat → Nat
  | 0 => 13
  | 1 => 14
  | 2 => 15
  | 3 => 16
  | 4 => 17
  | 5 => 18
  | 6 => 19
  | 7 => 20
  | 8 => 21
  | 9 => 22
  | 10 => 23
  | _ => 24
def Q (ad : Addr) (n : Nat) (c : Nat) (k : Nat) (j : Nat) (x0 : Int) (x1 : Int) (x2 : Bool) (y0 : Int) (y1 : Int) (y2 : Bool) (al : Bool) : Nat → Value → World → Prop
  | 0, v, _ => v = .int .i64 (k : Int)
  | 1, v, _ => v = .bool false
  | 2, v, _ => v = .bool false
  | 3, v, _ => v = .agg #[.int .i64 x0, .int .i64 x1, .bool x2]
  | 4, v, _ => v = .slice (some ad) n c
  | 5, v, _ => v = .int .i64 (k : Int)
  | 6, v, _ => v = .int .i64 (j : Int)
  | 7, v, _ => v = .pointer (some (ad.add (j * 3)))
  | 8, v, _ => v = .agg #[.int .i64 y0, .int .i64 y1, .bool y2]
  | 9, v, _ => v = .bool al
  | 10, v, _ => v = .bool !al
  | 11, v, _ => v = .bool !al
  | _, _, _ => True
theorem Q_mono {ad : Addr} {n : Nat} {c : Nat} {k : Nat} {j : Nat} {x0 : Int} {x1 : Int} {x2 : Bool} {y0 : Int} {y1 : Int} {y2 : Bool} {al : Bool} : ∀ i v W W', Q ad n c k j x0 x1 x2 y0 y1 y2 al i v W → Below W.heap.size W W' → Q ad n c k j x0 x1 x2 y0 y1 y2 al i v W' := by
  intro _ v W W' h hb
  unfold Q at h ⊢
  split at h
  all_goals first | exact h
theorem sl_inj : ∀ j, j < 12 → ∀ k, k < 12 → sl j = sl k → j = k := by decide +kernel
theorem sl_no : ∀ j, j ∈ [0, 1, 2, 3, 4, 5, 6, 7, 8, 30] → ∀ k, k < 12 → sl k ≠ j := by decide +kernel
end LkU
set_option maxHeartbeats 16000000 in
set_option maxRecDepth 200000 in
theorem lookTidy_any (l : List Ln.Sp) (A : Option Addr) (n c : Nat) (w : World) (hn : l.length = n) (hn2 : n ≤ 900000000) (hR : Reads w w.heap.size 3 A n (l.flatMap Ln.Sp.cells)) :
    Calls Tryz.prog 29 #[.slice A n c] w (Lo.TdRet l w) := by
  have HCt := Lib.hid (fun (V : World) (v : Value) (h : V.ownsRow w.heap.size 71 3 v (Lo.tidy l).length (Ln.fl (Lo.tidy l))) (hb : Below w.heap.size w V) => (show Lo.TdRet l w (.returned v) V from ⟨⟨v, rfl, h⟩, hb⟩))
  have HN := Lib.hid hn
  have HR := Lib.hid hR
  clear hn hR
  go_enter Tryz.func29, Tryz.ntmps29
  go_upto_region 3 with fail
  go_loopw [8, 3] (fun i v wr => ∃ k : Nat, k ≤ n ∧ i = .int .i64 (k : Int) ∧ ∃ vA q vc, v = .slice vA q vc ∧ Hid (q = (Lo.tidy (l.take k)).length) ∧ Hid (wr.ownsRow w.heap.size 71 3 (.slice vA q vc) q (Ln.fl (Lo.tidy (l.take k)))) ∧ Hid (Below w.heap.size w wr)) (fun i _ _ => n - (intOf i).toNat)
  case atStart => exact ⟨0, Nat.zero_le _, rfl, none, 0, 0, rfl, rfl, World.ownsRow_nil _ _ _ _, Below.refl _ _⟩
  case round =>
    obtain ⟨k, hk, rfl, vA, q, vc, rfl, HLq, HO, HB⟩ := hrel
    have hql : q ≤ 900000000 := by
      have h1 := Lo.tidy_len (l.take k)
      rw [← HLq.out, List.length_take, HN.out] at h1
      omega
    by_cases hlt : k < n
    · obtain ⟨ad, x, rfl, hab, Hx, HLx⟩ := Ix.reads_cells (enc := Ln.Sp.cells) (m := 3) (fun _ => rfl) HN.out (HR.out.below HB.out) hlt
      obtain ⟨x0, x1, x2⟩ := x
      have a0 : wr.cell? (ad.add (k * 3)) = some (.int .i64 x0) := HLx.out 0 _ rfl
      have a1 : wr.cell? ⟨(ad.add (k * 3)).block, (ad.add (k * 3)).off + 1, none⟩ = some (.int .i64 x1) := HLx.out 1 _ rfl
      have a2 : wr.cell? ⟨(ad.add (k * 3)).block, (ad.add (k * 3)).off + 2, none⟩ = some (.bool x2) := HLx.out 2 _ rfl
      have q1 : (0 : Int) ≤ (k : Int) := by omega
      have q2 : (k : Int) < (n : Int) := by omega
      obtain ⟨V1, hV1⟩ : ∃ W, wr.alloc (.cells #[.int .i64 x0, .int .i64 x1, .bool x2] 71) = W := ⟨_, rfl⟩
      have hvb : Below wr.heap.size wr V1 := by rw [← hV1]; exact (Below.refl _ _).alloc (Nat.le_refl _) _
      obtain ⟨b, hb9⟩ : ∃ b, wr.heap.size = b := ⟨_, rfl⟩
      have hAx : At V1 b [.int .i64 x0, .int .i64 x1, .bool x2] := by rw [← hV1, ← hb9]; exact At.new _ _ _
      have hO1 : V1.ownsRow w.heap.size 71 3 (.slice vA q vc) q (Ln.fl (Lo.tidy (l.take k))) := by rw [← hV1]; exact HO.out.alloc _
      have HV1 := Lib.hid hV1
      have HB9 := Lib.hid hb9
      have HB1 := Lib.hid (HB.out.trans (hvb.mono HB.out.size))
      have HO1 := Lib.hid hO1
      have HAx := Lib.hid hAx
      clear hV1 hvb hb9 hAx hO1 HLx hab
      go_upto_region 5 with fail
      rw [HV1.out]
      try rw [HB9.out]
      rcases Nat.eq_zero_or_pos k with h0 | h0
      · have HNx : Hid (Lo.tidy (l.take (k + 1)) = Lo.tidy (l.take k) ++ [⟨x0, x1, x2⟩]) := by
          show _ = _
          rw [h0]
          exact Lo.tidy_one (by rw [← h0]; exact Hx.out)
        have HP : Hid (((k : Int) == 0) = true) := by show _ = _; rw [h0]; rfl
        obtain ⟨j, hj0⟩ : ∃ j : Nat, j = 0 := ⟨0, rfl⟩
        clear h0 a0 a1 a2 hj0
        refine Od.wp_region_inv 31 (by kernel_rfl) (by rfl) (by rfl) (Od.ord_of (by kernel_rfl)) (Od.dst_of (by kernel_rfl)) (Rg.J 12 LkT.sl (LkT.Q k) V1 (Od.slots _)) (Rg.J.start _ _ _ ((Below.refl _ _).drew)) ?stepR ?finR
        case stepR =>
          intro i o hi b' a' wv hJ hb hdep hdf K hK
          obtain ⟨tm, df⟩ := a'
          simp only at hdf
          subst hdf
          have hiN : i < 12 := (Array.getElem?_eq_some_iff.1 hi).1
          have hsplit : i = 0 ∨ i = 1 ∨ i = 2 ∨ i = 3 ∨ i = 4 ∨ i = 5 ∨ i = 6 ∨ i = 7 ∨ i = 8 ∨ i = 9 ∨ i = 10 ∨ i = 11 := by omega
          rcases hsplit with rfl | rfl | rfl | rfl | rfl | rfl | rfl | rfl | rfl | rfl | rfl | rfl
          · have e := Option.some.inj (show some _ = some o from hi)
            subst e
            rw [if_pos (show Region.wanted _ _ = true from rfl)]
            have h4 : tm.getD 4 undef = .int .i64 (k : Int) := (hJ.old 4 (LkT.sl_no 4 (by decide))).trans rfl
            have h4' : tm[4]?.getD undef = .int .i64 (k : Int) := by rw [← Array.getD_eq_getD_getElem?]; exact h4
            go_simp
            exact hK _ _ (hJ.put LkT.Q_mono LkT.sl_inj (by decide) rfl)
          · have e := Option.some.inj (show some _ = some o from hi)
            subst e
            rw [if_pos (show Region.wanted _ _ = true from rfl)]
            have v0 : tm.getD 13 undef = .int .i64 (k : Int) := hJ.val 0 (by decide) (hdep ⟨0, .data⟩ (by simp) rfl)
            have v0' : tm[13]?.getD undef = .int .i64 (k : Int) := by rw [← Array.getD_eq_getD_getElem?]; exact v0
            have p1 := HP.out
            go_simp
            exact hK _ _ (hJ.put LkT.Q_mono LkT.sl_inj (by decide) rfl)
          · have e := Option.some.inj (show some _ = some o from hi)
            subst e
            rw [if_pos (show Region.wanted _ _ = true from rfl)]
            have v1 : tm.getD 14 undef = .bool true := hJ.val 1 (by decide) (hdep ⟨1, .data⟩ (by simp) rfl)
            have v1' : tm[14]?.getD undef = .bool true := by rw [← Array.getD_eq_getD_getElem?]; exact v1
            go_simp
            exact hK _ _ (hJ.put LkT.Q_mono LkT.sl_inj (by decide) rfl)
          · have e := Option.some.inj (show some _ = some o from hi)
            subst e
            have hg : tm.getD 15 undef = .bool true := hJ.val 2 (by decide) (hdep ⟨2, .guard⟩ (by simp) rfl)
            rw [if_neg (by rw [Rg.notwant rfl rfl hg rfl]; decide)]
            exact hK _ _ (hJ.put LkT.Q_mono LkT.sl_inj (by decide) rfl)
          · have e := Option.some.inj (show some _ = some o from hi)
            subst e
            have hg : tm.getD 15 undef = .bool true := hJ.val 2 (by decide) (hdep ⟨2, .guard⟩ (by simp) rfl)
            rw [if_neg (by rw [Rg.notwant rfl rfl hg rfl]; decide)]
            exact hK _ _ (hJ.put LkT.Q_mono LkT.sl_inj (by decide) rfl)
          · have e := Option.some.inj (show some _ = some o from hi)
            subst e
            have hg : tm.getD 15 undef = .bool true := hJ.val 2 (by decide) (hdep ⟨2, .guard⟩ (by simp) rfl)
            rw [if_neg (by rw [Rg.notwant rfl rfl hg rfl]; decide)]
            exact hK _ _ (hJ.put LkT.Q_mono LkT.sl_inj (by decide) rfl)
          · have e := Option.some.inj (show some _ = some o from hi)
            subst e
            have hg : tm.getD 15 undef = .bool true := hJ.val 2 (by decide) (hdep ⟨2, .guard⟩ (by simp) rfl)
            rw [if_neg (by rw [Rg.notwant rfl rfl hg rfl]; decide)]
            exact hK _ _ (hJ.put LkT.Q_mono LkT.sl_inj (by decide) rfl)
          · have e := Option.some.inj (show some _ = some o from hi)
            subst e
            have hg : tm.getD 15 undef = .bool true := hJ.val 2 (by decide) (hdep ⟨2, .guard⟩ (by simp) rfl)
            rw [if_neg (by rw [Rg.notwant rfl rfl hg rfl]; decide)]
            exact hK _ _ (hJ.put LkT.Q_mono LkT.sl_inj (by decide) rfl)
          · have e := Option.some.inj (show some _ = some o from hi)
            subst e
            have hg : tm.getD 15 undef = .bool true := hJ.val 2 (by decide) (hdep ⟨2, .guard⟩ (by simp) rfl)
            rw [if_neg (by rw [Rg.notwant rfl rfl hg rfl]; decide)]
            exact hK _ _ (hJ.put LkT.Q_mono LkT.sl_inj (by decide) rfl)
          · have e := Option.some.inj (show some _ = some o from hi)
            subst e
            have hg : tm.getD 15 undef = .bool true := hJ.val 2 (by decide) (hdep ⟨2, .guard⟩ (by simp) rfl)
            rw [if_neg (by rw [Rg.notwant rfl rfl hg rfl]; decide)]
            exact hK _ _ (hJ.put LkT.Q_mono LkT.sl_inj (by decide) rfl)
          · have e := Option.some.inj (show some _ = some o from hi)
            subst e
            have hg : tm.getD 15 undef = .bool true := hJ.val 2 (by decide) (hdep ⟨2, .guard⟩ (by simp) rfl)
            rw [if_neg (by rw [Rg.notwant rfl rfl hg rfl]; decide)]
            exact hK _ _ (hJ.put LkT.Q_mono LkT.sl_inj (by decide) rfl)
          · have e := Option.some.inj (show some _ = some o from hi)
            subst e
            rw [if_pos (show Region.wanted _ _ = true from rfl)]
            have v2 : tm.getD 15 undef = .bool true := hJ.val 2 (by decide) (hdep ⟨2, .data⟩ (by simp) rfl)
            have v2' : tm[15]?.getD undef = .bool true := by rw [← Array.getD_eq_getD_getElem?]; exact v2
            have v10 : tm.getD 23 undef = undef := hJ.val 10 (by decide) (hdep ⟨10, .data⟩ (by simp) rfl)
            have v10' : tm[23]?.getD undef = undef := by rw [← Array.getD_eq_getD_getElem?]; exact v10
            go_simp
            exact hK _ _ (hJ.put LkT.Q_mono LkT.sl_inj (by decide) rfl)
        case finR =>
          intro a' W5 hJ hN hdf
          have s0 : a'.tmps.getD 0 undef = .slice (some ad) n c := (hJ.old 0 (LkT.sl_no 0 (by decide))).trans rfl
          have s1 : a'.tmps.getD 1 undef = undef := (hJ.old 1 (LkT.sl_no 1 (by decide))).trans rfl
          have s2 : a'.tmps.getD 2 undef = .slice none 0 0 := (hJ.old 2 (LkT.sl_no 2 (by decide))).trans rfl
          have s3 : a'.tmps.getD 3 undef = .slice vA q vc := (hJ.old 3 (LkT.sl_no 3 (by decide))).trans rfl
          have s4 : a'.tmps.getD 4 undef = .int .i64 (k : Int) := (hJ.old 4 (LkT.sl_no 4 (by decide))).trans rfl
          have s5 : a'.tmps.getD 5 undef = .pointer (some ⟨b, 0, none⟩) := (hJ.old 5 (LkT.sl_no 5 (by decide))).trans rfl
          have s6 : a'.tmps.getD 6 undef = .slice (some ad) n c := (hJ.old 6 (LkT.sl_no 6 (by decide))).trans rfl
          have s7 : a'.tmps.getD 7 undef = .int .i64 (n : Int) := (hJ.old 7 (LkT.sl_no 7 (by decide))).trans rfl
          have s8 : a'.tmps.getD 8 undef = .int .i64 (k : Int) := (hJ.old 8 (LkT.sl_no 8 (by decide))).trans rfl
          have s24 : a'.tmps.getD 24 undef = .bool true := hJ.val 11 (by decide) (by rfl)
          have s30 : a'.tmps.getD 30 undef = undef := (hJ.old 30 (LkT.sl_no 30 (by decide))).trans rfl
          have hb9 := hJ.below
          have ef : a' = { tmps := ((List.range 31).map fun i => a'.tmps.getD i undef).toArray, defers := [] } := Rg.frame_of 31 a' hN hdf
          obtain ⟨u, hu⟩ : ∃ u : Nat → Value, (fun i => a'.tmps.getD i undef) = u := ⟨_, rfl⟩
          rw [hu] at ef
          have e0 : u 0 = .slice (some ad) n c := by rw [← hu]; exact s0
          have e1 : u 1 = undef := by rw [← hu]; exact s1
          have e2 : u 2 = .slice none 0 0 := by rw [← hu]; exact s2
          have e3 : u 3 = .slice vA q vc := by rw [← hu]; exact s3
          have e4 : u 4 = .int .i64 (k : Int) := by rw [← hu]; exact s4
          have e5 : u 5 = .pointer (some ⟨b, 0, none⟩) := by rw [← hu]; exact s5
          have e6 : u 6 = .slice (some ad) n c := by rw [← hu]; exact s6
          have e7 : u 7 = .int .i64 (n : Int) := by rw [← hu]; exact s7
          have e8 : u 8 = .int .i64 (k : Int) := by rw [← hu]; exact s8
          have e24 : u 24 = .bool true := by rw [← hu]; exact s24
          have e30 : u 30 = undef := by rw [← hu]; exact s30
          have ef2 : a' = { tmps := (u 0 :: u 1 :: u 2 :: u 3 :: u 4 :: u 5 :: u 6 :: u 7 :: u 8 :: u 9 :: u 10 :: u 11 :: u 12 :: u 13 :: u 14 :: u 15 :: u 16 :: u 17 :: u 18 :: u 19 :: u 20 :: u 21 :: u 22 :: u 23 :: u 24 :: u 25 :: u 26 :: u 27 :: u 28 :: u 29 :: u 30 :: [] : List Value).toArray, defers := [] } := ef
          rw [e0, e1, e2, e3, e4, e5, e6, e7, e8, e24, e30] at ef2
          rw [ef2]
          clear hJ hN hdf ef ef2 hu e0 s0 e1 s1 e2 s2 e3 s3 e4 s4 e5 s5 e6 s6 e7 s7 e8 s8 e24 s24 e30 s30
          have HB5 := Lib.hid (HB1.out.trans (hb9.mono HB1.out.size))
          have HO5 := Lib.hid (own_below HO1.out hb9)
          have HX5 := Lib.hid (HAx.out.call hb9)
          clear hb9
          obtain ⟨c0, c1, c2, _⟩ := HX5.out.three
          have zc := HX5.out.lt
          have HAp := fun {ops : Array Oper} {rest : List Oper} {o : Oper} {a : Act} {Q : Exit → Act → World → Prop} hgd ho hs hx h => row_append (ops := ops) (rest := rest) (o := o) (a := a) (Q := Q) 66 71 3 24 _ #[.int .i64 x0, .int .i64 x1, .bool x2] Tryz.underlying66 span_info rfl (by decide) rfl (by
            intro u hu
            simp at hu
            rcases hu with rfl | rfl | rfl <;> rfl) (by decide) W5 w.heap.size q _ (.slice vA q vc) 25 27 W5.heap.size rfl HO5.out (by omega) (HB5.out.size) hgd ho hs hx h
          go_wp2_with (at_builtin; refine HAp rfl rfl rfl rfl ?_; intro v9 w9 hown9 hb9 hg9 hat9; obtain ⟨A9, c9, rfl, _, _⟩ := own_slice_cap hown9)
          have HO9 : Hid (w9.ownsRow w.heap.size 71 3 (.slice A9 (q + 1) c9) (q + 1) (Ln.fl (Lo.tidy (l.take (k + 1))))) := by
            show World.ownsRow _ _ _ _ _ _ _
            rw [HNx.out, Ln.fl_snoc]
            exact hown9
          have HL9 : Hid (q + 1 = (Lo.tidy (l.take (k + 1))).length) := by
            show _ = _
            rw [HNx.out, List.length_append, ← HLq.out]
            rfl
          have HB9' : Hid (Below w.heap.size w w9) := HB5.out.trans hb9
          have HMk := Lib.hid (show k + 1 ≤ n by omega)
          clear hown9 hb9 hg9 hat9 HAp
          go_roundw
          case rel => exact ⟨k + 1, HMk.out, by go_num, A9, q + 1, c9, rfl, HL9.out, HO9.out, HB9'.out⟩
          case measure => simp [intOf]; omega
      · obtain ⟨j, hj⟩ : ∃ j, k = j + 1 := ⟨k - 1, by omega⟩
        obtain ⟨ad', y, e0, haby, Hy, HLy⟩ := Ix.reads_cells (enc := Ln.Sp.cells) (m := 3) (fun _ => rfl) HN.out (HR.out.below HB1.out) (show j < n by omega)
        obtain rfl := Option.some.inj e0
        obtain ⟨y0, y1, y2⟩ := y
        have HNx0 : Hid (Lo.tidy (l.take (k + 1)) = Lo.tidy (l.take k) ++ (if Ln.alike ⟨x0, x1, x2⟩ ⟨y0, y1, y2⟩ = true then [] else [⟨x0, x1, x2⟩])) := by
          show _ = _
          rw [hj]
          exact Lo.tidy_next (by rw [← hj]; exact Hx.out) Hy.out
        have HAl0 := Lib.hid fun W => lookAlike_any ⟨x0, x1, x2⟩ ⟨y0, y1, y2⟩ W
        obtain ⟨al, hal⟩ : ∃ b, Ln.alike ⟨x0, x1, x2⟩ ⟨y0, y1, y2⟩ = b := ⟨_, rfl⟩
        rw [hal] at HNx0 HAl0
        have HAl := HAl0
        have haby2 : (ad.add (j * 3)).block < V1.heap.size := by rw [block_of_add]; exact Nat.lt_of_lt_of_le haby HB1.out.size
        have HX := Lib.hid fun (W : World) (hb : Below V1.heap.size V1 W) => (show W.cell? ⟨b, 0, none⟩ = some (.int .i64 x0) ∧ W.cell? ⟨b, 1, none⟩ = some (.int .i64 x1) ∧ W.cell? ⟨b, 2, none⟩ = some (.bool x2) from ⟨(HAx.out.call hb).cell 0 _ rfl, (HAx.out.call hb).cell 1 _ rfl, (HAx.out.call hb).cell 2 _ rfl⟩)
        have HZ := Lib.hid fun (W : World) (hb : Below V1.heap.size V1 W) => (HAx.out.call hb).lt
        have HY := Lib.hid fun (W : World) (hb : Below V1.heap.size V1 W) => (show W.cell? (ad.add (j * 3)) = some (.int .i64 y0) ∧ W.cell? ⟨(ad.add (j * 3)).block, (ad.add (j * 3)).off + 1, none⟩ = some (.int .i64 y1) ∧ W.cell? ⟨(ad.add (j * 3)).block, (ad.add (j * 3)).off + 2, none⟩ = some (.bool y2) from
          ⟨(hb.cell (p := ad.add (j * 3)) haby2).trans (HLy.out 0 _ rfl), (hb.cell (p := ⟨(ad.add (j * 3)).block, (ad.add (j * 3)).off + 1, none⟩) haby2).trans (HLy.out 1 _ rfl), (hb.cell (p := ⟨(ad.add (j * 3)).block, (ad.add (j * 3)).off + 2, none⟩) haby2).trans (HLy.out 2 _ rfl)⟩)
        have HP : Hid (((k : Int) == 0) = false) := by show _ = _; rw [beq_eq_false_iff_ne]; omega
        have HQ : Hid ((0 : Int) ≤ (j : Int) ∧ (j : Int) < (n : Int) ∧ IntKind.i64.wrap ((k : Int) - 1) = (j : Int)) := ⟨by omega, by omega, by rw [IntKind.wrap_i64]; omega⟩
        clear h0 a0 a1 a2 hj haby haby2 Hy HLy hal HAl0
        refine Od.wp_region_inv 31 (by kernel_rfl) (by rfl) (by rfl) (Od.ord_of (by kernel_rfl)) (Od.dst_of (by kernel_rfl)) (Rg.J 12 LkU.sl (LkU.Q ad n c k j x0 x1 x2 y0 y1 y2 al) V1 (Od.slots _)) (Rg.J.start _ _ _ ((Below.refl _ _).drew)) ?stepR ?finR
        case stepR =>
          intro i o hi b' a' wv hJ hb hdep hdf K hK
          obtain ⟨tm, df⟩ := a'
          simp only at hdf
          subst hdf
          have hiN : i < 12 := (Array.getElem?_eq_some_iff.1 hi).1
          have hsplit : i = 0 ∨ i = 1 ∨ i = 2 ∨ i = 3 ∨ i = 4 ∨ i = 5 ∨ i = 6 ∨ i = 7 ∨ i = 8 ∨ i = 9 ∨ i = 10 ∨ i = 11 := by omega
          rcases hsplit with rfl | rfl | rfl | rfl | rfl | rfl | rfl | rfl | rfl | rfl | rfl | rfl
          · have e := Option.some.inj (show some _ = some o from hi)
            subst e
            rw [if_pos (show Region.wanted _ _ = true from rfl)]
            have h4 : tm.getD 4 undef = .int .i64 (k : Int) := (hJ.old 4 (LkU.sl_no 4 (by decide))).trans rfl
            have h4' : tm[4]?.getD undef = .int .i64 (k : Int) := by rw [← Array.getD_eq_getD_getElem?]; exact h4
            go_simp
            exact hK _ _ (hJ.put LkU.Q_mono LkU.sl_inj (by decide) rfl)
          · have e := Option.some.inj (show some _ = some o from hi)
            subst e
            rw [if_pos (show Region.wanted _ _ = true from rfl)]
            have v0 : tm.getD 13 undef = .int .i64 (k : Int) := hJ.val 0 (by decide) (hdep ⟨0, .data⟩ (by simp) rfl)
            have v0' : tm[13]?.getD undef = .int .i64 (k : Int) := by rw [← Array.getD_eq_getD_getElem?]; exact v0
            have p1 := HP.out
            go_simp
            exact hK _ _ (hJ.put LkU.Q_mono LkU.sl_inj (by decide) rfl)
          · have e := Option.some.inj (show some _ = some o from hi)
            subst e
            rw [if_pos (show Region.wanted _ _ = true from rfl)]
            have v1 : tm.getD 14 undef = .bool false := hJ.val 1 (by decide) (hdep ⟨1, .data⟩ (by simp) rfl)
            have v1' : tm[14]?.getD undef = .bool false := by rw [← Array.getD_eq_getD_getElem?]; exact v1
            go_simp
            exact hK _ _ (hJ.put LkU.Q_mono LkU.sl_inj (by decide) rfl)
          · have e := Option.some.inj (show some _ = some o from hi)
            subst e
            have hg : tm.getD 15 undef = .bool false := hJ.val 2 (by decide) (hdep ⟨2, .guard⟩ (by simp) rfl)
            rw [if_pos (Rg.want rfl rfl hg)]
            have h5 : tm.getD 5 undef = .pointer (some ⟨b, 0, none⟩) := (hJ.old 5 (LkU.sl_no 5 (by decide))).trans rfl
            have h5' : tm[5]?.getD undef = .pointer (some ⟨b, 0, none⟩) := by rw [← Array.getD_eq_getD_getElem?]; exact h5
            obtain ⟨c0, c1, c2⟩ := HX.out wv hJ.below
            have zb := HZ.out wv hJ.below
            go_simp
            exact hK _ _ (hJ.put LkU.Q_mono LkU.sl_inj (by decide) rfl)
          · have e := Option.some.inj (show some _ = some o from hi)
            subst e
            have hg : tm.getD 15 undef = .bool false := hJ.val 2 (by decide) (hdep ⟨2, .guard⟩ (by simp) rfl)
            rw [if_pos (Rg.want rfl rfl hg)]
            have h0 : tm.getD 0 undef = .slice (some ad) n c := (hJ.old 0 (LkU.sl_no 0 (by decide))).trans rfl
            have h0' : tm[0]?.getD undef = .slice (some ad) n c := by rw [← Array.getD_eq_getD_getElem?]; exact h0
            go_simp
            exact hK _ _ (hJ.put LkU.Q_mono LkU.sl_inj (by decide) rfl)
          · have e := Option.some.inj (show some _ = some o from hi)
            subst e
            have hg : tm.getD 15 undef = .bool false := hJ.val 2 (by decide) (hdep ⟨2, .guard⟩ (by simp) rfl)
            rw [if_pos (Rg.want rfl rfl hg)]
            have h4 : tm.getD 4 undef = .int .i64 (k : Int) := (hJ.old 4 (LkU.sl_no 4 (by decide))).trans rfl
            have h4' : tm[4]?.getD undef = .int .i64 (k : Int) := by rw [← Array.getD_eq_getD_getElem?]; exact h4
            go_simp
            exact hK _ _ (hJ.put LkU.Q_mono LkU.sl_inj (by decide) rfl)
          · have e := Option.some.inj (show some _ = some o from hi)
            subst e
            have hg : tm.getD 15 undef = .bool false := hJ.val 2 (by decide) (hdep ⟨2, .guard⟩ (by simp) rfl)
            rw [if_pos (Rg.want rfl rfl hg)]
            have v5 : tm.getD 18 undef = .int .i64 (k : Int) := hJ.val 5 (by decide) (hdep ⟨5, .data⟩ (by simp) rfl)
            have v5' : tm[18]?.getD undef = .int .i64 (k : Int) := by rw [← Array.getD_eq_getD_getElem?]; exact v5
            have wj := HQ.out.2.2
            go_simp
            exact hK _ _ (hJ.put LkU.Q_mono LkU.sl_inj (by decide) rfl)
          · have e := Option.some.inj (show some _ = some o from hi)
            subst e
            have hg : tm.getD 15 undef = .bool false := hJ.val 2 (by decide) (hdep ⟨2, .guard⟩ (by simp) rfl)
            rw [if_pos (Rg.want rfl rfl hg)]
            have v4 : tm.getD 17 undef = .slice (some ad) n c := hJ.val 4 (by decide) (hdep ⟨4, .data⟩ (by simp) rfl)
            have v4' : tm[17]?.getD undef = .slice (some ad) n c := by rw [← Array.getD_eq_getD_getElem?]; exact v4
            have v6 : tm.getD 19 undef = .int .i64 (j : Int) := hJ.val 6 (by decide) (hdep ⟨6, .data⟩ (by simp) rfl)
            have v6' : tm[19]?.getD undef = .int .i64 (j : Int) := by rw [← Array.getD_eq_getD_getElem?]; exact v6
            have q3 := HQ.out.1
            have q4 := HQ.out.2.1
            go_simp
            exact hK _ _ (hJ.put LkU.Q_mono LkU.sl_inj (by decide) rfl)
          · have e := Option.some.inj (show some _ = some o from hi)
            subst e
            have hg : tm.getD 15 undef = .bool false := hJ.val 2 (by decide) (hdep ⟨2, .guard⟩ (by simp) rfl)
            rw [if_pos (Rg.want rfl rfl hg)]
            have v7 : tm.getD 20 undef = .pointer (some (ad.add (j * 3))) := hJ.val 7 (by decide) (hdep ⟨7, .data⟩ (by simp) rfl)
            have v7' : tm[20]?.getD undef = .pointer (some (ad.add (j * 3))) := by rw [← Array.getD_eq_getD_getElem?]; exact v7
            obtain ⟨d0, d1, d2⟩ := HY.out wv hJ.below
            go_simp
            exact hK _ _ (hJ.put LkU.Q_mono LkU.sl_inj (by decide) rfl)
          · have e := Option.some.inj (show some _ = some o from hi)
            subst e
            have hg : tm.getD 15 undef = .bool false := hJ.val 2 (by decide) (hdep ⟨2, .guard⟩ (by simp) rfl)
            rw [if_pos (Rg.want rfl rfl hg)]
            have v3 : tm.getD 16 undef = .agg #[.int .i64 x0, .int .i64 x1, .bool x2] := hJ.val 3 (by decide) (hdep ⟨3, .data⟩ (by simp) rfl)
            have v3' : tm[16]?.getD undef = .agg #[.int .i64 x0, .int .i64 x1, .bool x2] := by rw [← Array.getD_eq_getD_getElem?]; exact v3
            have v8 : tm.getD 21 undef = .agg #[.int .i64 y0, .int .i64 y1, .bool y2] := hJ.val 8 (by decide) (hdep ⟨8, .data⟩ (by simp) rfl)
            have v8' : tm[21]?.getD undef = .agg #[.int .i64 y0, .int .i64 y1, .bool y2] := by rw [← Array.getD_eq_getD_getElem?]; exact v8
            go_simp
            refine (HAl.out wv).mono ?_
            rintro e w' ⟨rfl, hbm⟩
            exact hK _ _ (hJ.step LkU.Q_mono LkU.sl_inj (by decide) hbm rfl)
          · have e := Option.some.inj (show some _ = some o from hi)
            subst e
            have hg : tm.getD 15 undef = .bool false := hJ.val 2 (by decide) (hdep ⟨2, .guard⟩ (by simp) rfl)
            rw [if_pos (Rg.want rfl rfl hg)]
            have v9 : tm.getD 22 undef = .bool al := hJ.val 9 (by decide) (hdep ⟨9, .data⟩ (by simp) rfl)
            have v9' : tm[22]?.getD undef = .bool al := by rw [← Array.getD_eq_getD_getElem?]; exact v9
            go_simp
            exact hK _ _ (hJ.put LkU.Q_mono LkU.sl_inj (by decide) rfl)
          · have e := Option.some.inj (show some _ = some o from hi)
            subst e
            rw [if_pos (show Region.wanted _ _ = true from rfl)]
            have v2 : tm.getD 15 undef = .bool false := hJ.val 2 (by decide) (hdep ⟨2, .data⟩ (by simp) rfl)
            have v2' : tm[15]?.getD undef = .bool false := by rw [← Array.getD_eq_getD_getElem?]; exact v2
            have v10 : tm.getD 23 undef = .bool !al := hJ.val 10 (by decide) (hdep ⟨10, .data⟩ (by simp) rfl)
            have v10' : tm[23]?.getD undef = .bool !al := by rw [← Array.getD_eq_getD_getElem?]; exact v10
            go_simp
            exact hK _ _ (hJ.put LkU.Q_mono LkU.sl_inj (by decide) rfl)
        case finR =>
          intro a' W5 hJ hN hdf
          have s0 : a'.tmps.getD 0 undef = .slice (some ad) n c := (hJ.old 0 (LkU.sl_no 0 (by decide))).trans rfl
          have s1 : a'.tmps.getD 1 undef = undef := (hJ.old 1 (LkU.sl_no 1 (by decide))).trans rfl
          have s2 : a'.tmps.getD 2 undef = .slice none 0 0 := (hJ.old 2 (LkU.sl_no 2 (by decide))).trans rfl
          have s3 : a'.tmps.getD 3 undef = .slice vA q vc := (hJ.old 3 (LkU.sl_no 3 (by decide))).trans rfl
          have s4 : a'.tmps.getD 4 undef = .int .i64 (k : Int) := (hJ.old 4 (LkU.sl_no 4 (by decide))).trans rfl
          have s5 : a'.tmps.getD 5 undef = .pointer (some ⟨b, 0, none⟩) := (hJ.old 5 (LkU.sl_no 5 (by decide))).trans rfl
          have s6 : a'.tmps.getD 6 undef = .slice (some ad) n c := (hJ.old 6 (LkU.sl_no 6 (by decide))).trans rfl
          have s7 : a'.tmps.getD 7 undef = .int .i64 (n : Int) := (hJ.old 7 (LkU.sl_no 7 (by decide))).trans rfl
          have s8 : a'.tmps.getD 8 undef = .int .i64 (k : Int) := (hJ.old 8 (LkU.sl_no 8 (by decide))).trans rfl
          have s24 : a'.tmps.getD 24 undef = .bool !al := hJ.val 11 (by decide) (by rfl)
          have s30 : a'.tmps.getD 30 undef = undef := (hJ.old 30 (LkU.sl_no 30 (by decide))).trans rfl
          have hb9 := hJ.below
          have ef : a' = { tmps := ((List.range 31).map fun i => a'.tmps.getD i undef).toArray, defers := [] } := Rg.frame_of 31 a' hN hdf
          obtain ⟨u, hu⟩ : ∃ u : Nat → Value, (fun i => a'.tmps.getD i undef) = u := ⟨_, rfl⟩
          rw [hu] at ef
          have e0 : u 0 = .slice (some ad) n c := by rw [← hu]; exact s0
          have e1 : u 1 = undef := by rw [← hu]; exact s1
          have e2 : u 2 = .slice none 0 0 := by rw [← hu]; exact s2
          have e3 : u 3 = .slice vA q vc := by rw [← hu]; exact s3
          have e4 : u 4 = .int .i64 (k : Int) := by rw [← hu]; exact s4
          have e5 : u 5 = .pointer (some ⟨b, 0, none⟩) := by rw [← hu]; exact s5
          have e6 : u 6 = .slice (some ad) n c := by rw [← hu]; exact s6
          have e7 : u 7 = .int .i64 (n : Int) := by rw [← hu]; exact s7
          have e8 : u 8 = .int .i64 (k : Int) := by rw [← hu]; exact s8
          have e24 : u 24 = .bool !al := by rw [← hu]; exact s24
          have e30 : u 30 = undef := by rw [← hu]; exact s30
          have ef2 : a' = { tmps := (u 0 :: u 1 :: u 2 :: u 3 :: u 4 :: u 5 :: u 6 :: u 7 :: u 8 :: u 9 :: u 10 :: u 11 :: u 12 :: u 13 :: u 14 :: u 15 :: u 16 :: u 17 :: u 18 :: u 19 :: u 20 :: u 21 :: u 22 :: u 23 :: u 24 :: u 25 :: u 26 :: u 27 :: u 28 :: u 29 :: u 30 :: [] : List Value).toArray, defers := [] } := ef
          rw [e0, e1, e2, e3, e4, e5, e6, e7, e8, e24, e30] at ef2
          rw [ef2]
          clear hJ hN hdf ef ef2 hu e0 s0 e1 s1 e2 s2 e3 s3 e4 s4 e5 s5 e6 s6 e7 s7 e8 s8 e24 s24 e30 s30
          have HB5 := Lib.hid (HB1.out.trans (hb9.mono HB1.out.size))
          have HO5 := Lib.hid (own_below HO1.out hb9)
          have HX5 := Lib.hid (HAx.out.call hb9)
          clear hb9
          obtain ⟨c0, c1, c2, _⟩ := HX5.out.three
          have zc := HX5.out.lt
          cases al with
          | true =>
            have HNx : Hid (Lo.tidy (l.take (k + 1)) = Lo.tidy (l.take k)) := by
              show _ = _
              rw [HNx0.out, if_pos rfl, List.append_nil]
            have HO9 : Hid (W5.ownsRow w.heap.size 71 3 (.slice vA q vc) q (Ln.fl (Lo.tidy (l.take (k + 1))))) := by
              show World.ownsRow _ _ _ _ _ _ _
              rw [HNx.out]
              exact HO5.out
            have HL9 : Hid (q = (Lo.tidy (l.take (k + 1))).length) := by show _ = _; rw [HNx.out]; exact HLq.out
            have HMk := Lib.hid (show k + 1 ≤ n by omega)
            go_wp2
            go_roundw
            case rel => exact ⟨k + 1, HMk.out, by go_num, vA, q, vc, rfl, HL9.out, HO9.out, HB5.out⟩
            case measure => simp [intOf]; omega
          | false =>
            have HNx : Hid (Lo.tidy (l.take (k + 1)) = Lo.tidy (l.take k) ++ [⟨x0, x1, x2⟩]) := by
              show _ = _
              rw [HNx0.out, if_neg (by decide)]
            have HAp := fun {ops : Array Oper} {rest : List Oper} {o : Oper} {a : Act} {Q : Exit → Act → World → Prop} hgd ho hs hx h => row_append (ops := ops) (rest := rest) (o := o) (a := a) (Q := Q) 66 71 3 24 _ #[.int .i64 x0, .int .i64 x1, .bool x2] Tryz.underlying66 span_info rfl (by decide) rfl (by
              intro u hu
              simp at hu
              rcases hu with rfl | rfl | rfl <;> rfl) (by decide) W5 w.heap.size q _ (.slice vA q vc) 25 27 W5.heap.size rfl HO5.out (by omega) (HB5.out.size) hgd ho hs hx h
            go_wp2_with (at_builtin; refine HAp rfl rfl rfl rfl ?_; intro v9 w9 hown9 hb9 hg9 hat9; obtain ⟨A9, c9, rfl, _, _⟩ := own_slice_cap hown9)
            have HO9 : Hid (w9.ownsRow w.heap.size 71 3 (.slice A9 (q + 1) c9) (q + 1) (Ln.fl (Lo.tidy (l.take (k + 1))))) := by
              show World.ownsRow _ _ _ _ _ _ _
              rw [HNx.out, Ln.fl_snoc]
              exact hown9
            have HL9 : Hid (q + 1 = (Lo.tidy (l.take (k + 1))).length) := by
              show _ = _
              rw [HNx.out, List.length_append, ← HLq.out]
              rfl
            have HB9' : Hid (Below w.heap.size w w9) := HB5.out.trans hb9
            have HMk := Lib.hid (show k + 1 ≤ n by omega)
            clear hown9 hb9 hg9 hat9 HAp
            go_roundw
            case rel => exact ⟨k + 1, HMk.out, by go_num, A9, q + 1, c9, rfl, HL9.out, HO9.out, HB9'.out⟩
            case measure => simp [intOf]; omega
    · have hke : k = n := by omega
      have q2 : ¬ (k : Int) < (n : Int) := by omega
      have htk : l.take k = l := List.take_of_length_le (by rw [HN.out]; omega)
      have HFin := Lib.hid (HCt.out wr (.slice vA q vc) (by
        have h1 := HO.out
        have h2 := HLq.out
        rw [htk] at h1 h2
        rw [← h2]
        exact h1) HB.out)
      clear hke htk
      go_wp2
      go_ret
      exact HFin.out
end Go.Proofs.YtolgigaolffenaaGreatDoor

/- solsticeref18.Same: whether two lists of spans are one. -/
namespace Go.Proofs.YtolgigaolffenaaGreatDoor
open Go.RowKit

namespace Ln
def spSame (a b : Sp) : Bool := decide (a.fr = b.fr) && (decide (a.off = b.off) && decide (a.dst = b.dst))
theorem spSame_iff (a b : Sp) : spSame a b = true ↔ a = b := by
  obtain ⟨x, y, z⟩ := a
  obtain ⟨x', y', z'⟩ := b
  simp only [spSame, Bool.and_eq_true, decide_eq_true_eq, Sp.mk.injEq]
theorem and_if {p : Prop} [Decidable p] {q : Bool} {w : World} {R : Result Bool} (h : R = .ok q w) : (if p then R else .ok false w) = .ok (decide p && q) w := by
  by_cases hp : p
  · rw [if_pos hp, h, decide_eq_true hp, Bool.true_and]
  · rw [if_neg hp, decide_eq_false hp, Bool.false_and]
theorem last_if (p : Prop) [Decidable p] (w : World) : (if p then (.ok true w : Result Bool) else .ok false w) = .ok (decide p) w := by
  by_cases hp : p
  · rw [if_pos hp, decide_eq_true hp]
  · rw [if_neg hp, decide_eq_false hp]
end Ln
set_option maxHeartbeats 800000 in
theorem span_same (a b : Ln.Sp) (w : World) : (Op.equalIn 10000 71 (.agg #[.int .i64 a.fr, .int .i64 a.off, .bool a.dst]) (.agg #[.int .i64 b.fr, .int .i64 b.off, .bool b.dst])).run Tryz.prog w = .ok (Ln.spSame a b) w := by
  obtain ⟨x, y, z⟩ := a
  obtain ⟨x', y', z'⟩ := b
  unfold Ln.spSame
  simp only
  go_simp
  iterate 2 refine Ln.and_if ?_
  exact Ln.last_if _ _
end Go.Proofs.YtolgigaolffenaaGreatDoor

/- TopStamped in plain words: how long a small source's lines are; when their changes are, by the clock ahead. -/
namespace Go.Proofs.YtolgigaolffenaaGreatDoor
open Go.RowKit

namespace Ts
theorem inEra_len {rules : List Ru.R} (hl : rules.length ≤ 40) (e : Er.E) (fr te : Int) (h : Ln.yr (te - 1) - Ln.yr fr + 3 ≤ 33) : (Ln.inEra rules e fr te).length ≤ 1361 := by
  unfold Ln.inEra
  split
  · have h1 := Ln.inGo_len e.std fr (Oc.of (Src.ofName e.ru rules) (Ln.yr fr - 1) (Ln.yr (te - 1) + 1)).reverse te
    have h2 := Oc.of_len (Src.ofName e.ru rules) (Ln.yr fr - 1) (Ln.yr (te - 1) + 1) (k := 33) (by omega)
    have h3 : (Src.ofName e.ru rules).length ≤ 40 := Nat.le_trans (List.length_filter_le _ _) hl
    rw [List.length_reverse] at h1
    omega
  · simp
theorem pieces_len {rules : List Ru.R} {eras : List Er.E} {ends : List Int} {fr te : Int} (hl : rules.length ≤ 40) (hd1 : Ln.InDays fr) (hd2 : Ln.InDays (te - 1)) (hy : Ln.yr (te - 1) - Ln.yr fr ≤ 30) :
    ∀ k, (Ln.pieces rules eras ends fr te k).length ≤ k * 1361
  | 0 => by simp [Ln.pieces]
  | k + 1 => by
    have ih := pieces_len hl hd1 hd2 hy (eras := eras) (ends := ends) k
    unfold Ln.pieces
    rw [List.length_append]
    split
    · simp only [List.length_nil]
      omega
    · rename_i hgt
      have hup : Ln.upto ends te k ≤ te := by unfold Ln.upto; split <;> omega
      have hm := Ln.maxs_ge ends fr k
      have i1 : Ln.InDays (Ln.maxs ends fr k) := hd1.of hd2 hm.1 (by omega)
      have i2 : Ln.InDays (Ln.upto ends te k - 1) := hd1.of hd2 (by omega) (by omega)
      have h1 := Ln.yr_le hd1 i1 hm.1
      have h2 := Ln.yr_le i2 hd2 (by omega)
      have h3 := inEra_len hl (eras.getD k Er.E.zero) (Ln.maxs ends fr k) (Ln.upto ends te k) (by omega)
      omega
theorem len_le {s : Src.S} {eras : List Er.E} (hr : s.rules.length ≤ 40) (hz : eras.length ≤ 12) {lo hi : Int} (h : Ln.InY lo hi) (h30 : hi - lo ≤ 30) : (Ln.lineOf s eras lo hi).length ≤ 20000 := by
  obtain ⟨y1, y2, y3, y4⟩ := h
  obtain ⟨F1, F2, F3, F4, F5⟩ := Ln.years_in y1 y2 y3
  have h1 := pieces_len (eras := eras) (ends := Eg.ends s.rules eras) hr F2 F3 (by rw [F4, F5]; omega) eras.length
  have h2 := Ln.fold_len (Ln.pieces s.rules eras (Eg.ends s.rules eras) (Oc.D lo * 86400) (Oc.D (hi + 1) * 86400) eras.length) []
  unfold Ln.lineOf Ln.line
  simp only [List.length_nil] at h2
  omega
theorem cut_len (l : List Ln.Sp) (fr te : Int) (r : Nat) (x : Ln.Sp) : 1 ≤ (Lo.cutL l fr te r x).length ∧ (Lo.cutL l fr te r x).length ≤ l.length + 1 := by
  unfold Lo.cutL
  have h1 := (List.takeWhile_prefix (p := fun x : Ln.Sp => decide (x.fr < te)) (l := l.drop r)).length_le
  rw [List.length_drop] at h1
  simp only [List.length_cons]
  omega
theorem mill {c : Int} (h1 : Oc.D 1604 * 86400 ≤ c) (h2 : c < Oc.D 2100 * 86400) : -719162 ≤ 1000 * c / 86400000 ∧ 1000 * c / 86400000 < 2932897 ∧ 1601 ≤ Cv.yearOf (1000 * c / 86400000) ∧ 1000 * c / 86400000 * 86400000 + 1000 * c % 86400000 = 1000 * c := by
  have a : Oc.D 1604 = -133679 := by decide
  have b : Oc.D 2100 = 47482 := by decide
  have d : Oc.D 1601 = -134774 := by decide
  obtain ⟨n, hn⟩ : ∃ n, 1000 * c / 86400000 = n := ⟨_, rfl⟩
  rw [a] at h1
  rw [b] at h2
  have e : 1000 * c / 86400000 * 86400000 + 1000 * c % 86400000 = 1000 * c := by omega
  have h3 : -133679 ≤ 1000 * c / 86400000 := by omega
  have h4 : 1000 * c / 86400000 ≤ 47482 := by omega
  rw [hn] at h3 h4
  refine ⟨by rw [hn]; omega, by rw [hn]; omega, ?_, e⟩
  rw [hn]
  refine (year_iff n 1601 (by omega) (by omega)).1 ?_
  have : Cv.num 1601 1 1 = -134774 := d
  omega
end Ts
theorem span_one (p : Ln.Sp) (W : World) : (Op.equalIn 10000 71 (.agg #[.int .i64 p.fr, .int .i64 p.off, .bool p.dst]) (.agg #[.int .i64 p.fr, .int .i64 p.off, .bool p.dst])).run Tryz.prog W = .ok true W := by
  rw [span_same, (Ln.spSame_iff p p).2 rfl]
end Go.Proofs.YtolgigaolffenaaGreatDoor

/- Literals in memory. -/
namespace Go.Proofs.YtolgigaolffenaaGreatDoor
open Go.RowKit

namespace Lit
theorem reads {w : World} {g size n : Nat} {xs : List Value} (h : At w g xs) (hl : xs.length = n * size) : Reads w w.heap.size size (some ⟨g, 0, none⟩) n xs := by
  refine ⟨hl, fun _ => ⟨_, rfl, h.lt, fun j u hu => ?_⟩⟩
  have e : (⟨g, 0, none⟩ : Addr).add j = ⟨g, j, none⟩ := by
    unfold Addr.add
    split
    · subst_vars; rfl
    · simp
  rw [e]
  exact h.cell j u hu
end Lit
end Go.Proofs.YtolgigaolffenaaGreatDoor
