/-
  DERIVED: THE SHELF's CONTRACTS AT THIS DUMP, IN PLAIN WORDS (tools/lay-plain.mjs out of 'TryzSort.lean', which tools/lay-shelf.mjs wrote): THE SAME DECLARATIONS UNDER THE SAME NAMES: 'import', 'namespace', 'open', 'def', 'theorem' AND NOTHING ELSE: no command of the shelf's: FOR A HAND-IN. Each laying: the table of numbers ('.._ren') and one theorem, a field a fact of the dump's own or the kernel's comparison; each contract: ONE APPLICATION.
-/
import Derived.Shelf.SlGeneric
import Derived.Shelf.SlSortCmp.NoneTotal
import Derived.Ground.SlsfProg
import Derived.Test.YtolgigaolffenaaGreatDoorProg
import Derived.Test.YtolgigaolffenaaGreatDoorQ13
import Derived.Test.YtolgigaolffenaaGreatDoorQ11
import Derived.Laws.EntriesVeiled

namespace Go.Proofs
open Go.Shelf
def Tryz.sortEv_ren : Go.Shelf.Ren := ⟨fun | 6 => 53 | 15 => 89 | 14 => 88 | 28 => 136 | 29 => 137 | 20 => 128 | 21 => 129 | 22 => 130 | 23 => 131 | 24 => 132 | 25 => 133 | 26 => 134 | 27 => 135 | 46 => 160 | 47 => 161 | 48 => 162 | 49 => 163 | 50 => 164 | 57 => 173 | n => n, fun | 22 => 124 | 24 => 130 | 25 => 135 | 3 => 3 | 39 => 195 | 0 => 0 | 53 => 27 | 55 => 243 | 4 => 4 | 46 => 236 | 45 => 235 | 50 => 116 | 5 => 5 | 9 => 9 | 66 => 264 | 70 => 268 | 76 => 279 | 77 => 280 | n => n, fun | n => n⟩
theorem Tryz.sortEv : Go.Proofs.SlLaysF0.n6 Tryz.prog Tryz.sortEv_ren := {
  mixed := by kernel_rfl
  f6 := ⟨Tryz.f53.name, by decide, Tryz.func53.trans (congrArg some (by kernel_rfl))⟩
  f14 := ⟨Tryz.f88.name, by decide, Tryz.func88.trans (congrArg some (by kernel_rfl))⟩
  f15 := Tryz.func89.trans (congrArg some (by kernel_rfl))
  f20 := ⟨Tryz.f128.name, by decide, Tryz.func128.trans (congrArg some (by kernel_rfl))⟩
  f21 := ⟨Tryz.f129.name, by decide, Tryz.func129.trans (congrArg some (by kernel_rfl))⟩
  f22 := ⟨Tryz.f130.name, by decide, Tryz.func130.trans (congrArg some (by kernel_rfl))⟩
  f23 := ⟨Tryz.f131.name, by decide, Tryz.func131.trans (congrArg some (by kernel_rfl))⟩
  f24 := ⟨Tryz.f132.name, by decide, Tryz.func132.trans (congrArg some (by kernel_rfl))⟩
  f25 := ⟨Tryz.f133.name, by decide, Tryz.func133.trans (congrArg some (by kernel_rfl))⟩
  f26 := ⟨Tryz.f134.name, by decide, Tryz.func134.trans (congrArg some (by kernel_rfl))⟩
  f27 := ⟨Tryz.f135.name, by decide, Tryz.func135.trans (congrArg some (by kernel_rfl))⟩
  f28 := Tryz.func136.trans (congrArg some (by kernel_rfl))
  f29 := Tryz.func137.trans (congrArg some (by kernel_rfl))
  f46 := ⟨Tryz.f160.name, by decide, Tryz.func160.trans (congrArg some (by kernel_rfl))⟩
  f47 := Tryz.func161.trans (congrArg some (by kernel_rfl))
  f48 := Tryz.func162.trans (congrArg some (by kernel_rfl))
  f49 := ⟨Tryz.f163.name, by decide, Tryz.func163.trans (congrArg some (by kernel_rfl))⟩
  f50 := ⟨Tryz.f164.name, by decide, Tryz.func164.trans (congrArg some (by kernel_rfl))⟩
  f57 := ⟨Tryz.f173.name, by decide, Tryz.func173.trans (congrArg some (by kernel_rfl))⟩
  t0 := Tryz.underlying0
  a0 := Tryz.isAgg0
  z0 := Tryz.sizeOf0
  v0 := Tryz.zeroValue0
  t3 := Tryz.underlying3
  a3 := Tryz.isAgg3
  z3 := Tryz.sizeOf3
  v3 := Tryz.zeroValue3
  t4 := Tryz.underlying4
  a4 := Tryz.isAgg4
  z4 := Tryz.sizeOf4
  v4 := Tryz.zeroValue4
  t5 := Tryz.underlying5
  a5 := Tryz.isAgg5
  z5 := Tryz.sizeOf5
  v5 := Tryz.zeroValue5
  t9 := Tryz.underlying9
  a9 := Tryz.isAgg9
  z9 := Tryz.sizeOf9
  v9 := Tryz.zeroValue9
  t22 := Tryz.underlying124
  a22 := Tryz.isAgg124
  z22 := Tryz.sizeOf124
  v22 := Tryz.zeroValue124
  t25 := Tryz.underlying135
  a25 := Tryz.isAgg135
  z25 := Tryz.sizeOf135
  v25 := Tryz.zeroValue135
  t39 := Tryz.underlying195
  a39 := Tryz.isAgg195
  z39 := Tryz.sizeOf195
  v39 := Tryz.zeroValue195
  t45 := Tryz.underlying235
  a45 := Tryz.isAgg235
  z45 := Tryz.sizeOf235
  v45 := Tryz.zeroValue235
  t46 := Tryz.underlying236
  a46 := Tryz.isAgg236
  z46 := Tryz.sizeOf236
  v46 := Tryz.zeroValue236
  t50 := Tryz.underlying116
  a50 := Tryz.isAgg116
  z50 := Tryz.sizeOf116
  v50 := Tryz.zeroValue116
  t53 := Tryz.underlying27
  a53 := Tryz.isAgg27
  z53 := Tryz.sizeOf27
  v53 := Tryz.zeroValue27
  t55 := Tryz.underlying243
  a55 := Tryz.isAgg243
  z55 := Tryz.sizeOf243
  v55 := Tryz.zeroValue243
  t66 := Tryz.underlying264
  a66 := Tryz.isAgg264
  z66 := Tryz.sizeOf264
  v66 := Tryz.zeroValue264
  t70 := Tryz.underlying268
  a70 := Tryz.isAgg268
  z70 := Tryz.sizeOf268
  v70 := Tryz.zeroValue268
  t76 := Tryz.underlying279
  a76 := Tryz.isAgg279
  z76 := Tryz.sizeOf279
  v76 := Tryz.zeroValue279
  t77 := Tryz.underlying280
  a77 := Tryz.isAgg280
  z77 := Tryz.sizeOf280
  v77 := Tryz.zeroValue280 }
end Go.Proofs

/- slices.SortFunc of events. -/
namespace Go.Proofs.YtolgigaolffenaaGreatDoor
open Go.RowKit
open Go.Sort

namespace Oc
instance : Inhabited E := ⟨E.zero⟩
theorem lt_less : ltOf cf = lessB := by
  funext a b
  unfold ltOf
  exact cf_less a b
theorem swo : SWO (ltOf cf) where
  irrefl x := by rw [lt_less]; exact less_irr x
  trans x y z h k := by rw [lt_less] at *; exact less_trans h k
  ntrans x y z h k := by rw [lt_less] at *; exact less_weak k h
theorem flat_get {x : List E} : ∀ (t : Nat) (u : Value), (x.flatMap E.cells)[t]? = some u → ∃ e, x[t / 7]? = some e ∧ e.cells[t % 7]? = some u := by
  induction x with
  | nil => intro t u h; simp at h
  | cons a x ih =>
    intro t u h
    rw [List.flatMap_cons] at h
    have hl : a.cells.length = 7 := rfl
    by_cases ht : t < 7
    · rw [List.getElem?_append_left (by omega)] at h
      exact ⟨a, by rw [show t / 7 = 0 by omega]; rfl, by rw [show t % 7 = t by omega]; exact h⟩
    · rw [List.getElem?_append_right (by omega), hl] at h
      obtain ⟨e, h1, h2⟩ := ih (t - 7) u h
      refine ⟨e, ?_, ?_⟩
      · rw [show t / 7 = (t - 7) / 7 + 1 by omega, List.getElem?_cons_succ]
        exact h1
      · rw [show t % 7 = (t - 7) % 7 by omega]
        exact h2
theorem flat_len : ∀ x : List E, (x.flatMap E.cells).length = x.length * 7
  | [] => rfl
  | a :: x => by
    rw [List.flatMap_cons, List.length_append, flat_len x, List.length_cons]
    show 7 + x.length * 7 = _
    omega
def SortRet (w : World) (g : Nat) (A : Option Addr) (x : List E) (e : Ending) (w' : World) : Prop :=
  e = .returned (.tuple #[]) ∧ ∃ x', Srt x' ∧ x'.Perm x ∧ Reads w' w'.heap.size 7 A x.length (x'.flatMap E.cells) ∧ w.grownBy w' (some g)
end Oc
theorem sortEv_none (c : Nat) (w : World) : Calls Tryz.prog 53 #[.slice none 0 c, .func (.func 54) #[] #[]] w fun e w' => e = .returned (.tuple #[]) ∧ w' = w :=
  AnyF.slices_SortFunc_none Tryz.sortEv none c _ w
theorem sortEv_some (x : List Oc.E) (g c base : Nat) (w : World) (hO : w.ownsRow base 130 7 (.slice (some ⟨g, 0, none⟩) x.length c) x.length (x.flatMap Oc.E.cells)) (hxl : x.length ≤ 1000000000000) :
    Calls Tryz.prog 53 #[.slice (some ⟨g, 0, none⟩) x.length c, .func (.func 54) #[] #[]] w (Oc.SortRet w g (some ⟨g, 0, none⟩) x) := by
  have eg : ∀ args w, (callFunc 54 args).run Tryz.prog w = .ok (.enter 54 args) w := enters_of Tryz.func54 (by kernel_rfl) rfl
  obtain ⟨g', cap, cur, hv, _, hblk, hnc, hcm, hsz, htk⟩ : ∃ g' cap cur, Value.slice (some ⟨g, 0, none⟩) x.length c = .slice (some ⟨g', 0, none⟩) x.length cap ∧ base ≤ g' ∧ w.heap[g']? = some (.cells cur 130 (0, 0)) ∧ x.length ≤ cap ∧ cap ≤ maxLen ∧ cur.size = cap * 7 ∧ cur.toList.take (x.length * 7) = x.flatMap Oc.E.cells := by
    rcases hO.2 with ⟨h, _⟩ | h
    · cases h
    · exact h
  obtain rfl : g = g' := by injection hv with h; injection h with h; injection h
  have hlt : g < w.heap.size := by
    obtain ⟨h, _⟩ := Array.getElem?_eq_some_iff.1 hblk
    exact h
  have hcells := hO.cells (g := g) rfl
  have hH : HoldsK Oc.E.cells 7 w g 0 x.toArray := by
    intro j hj
    have hj7 : j < x.length * 7 := by simpa using hj
    have hj2 : j < (x.flatMap Oc.E.cells).length := by rw [Oc.flat_len]; exact hj7
    obtain ⟨e, h1, h2⟩ := Oc.flat_get j _ (List.getElem?_eq_getElem hj2)
    have h3 := hcells j _ (List.getElem?_eq_getElem hj2)
    have h4 : (flatK Oc.E.cells 7 x.toArray)[j]! = (x.flatMap Oc.E.cells)[j] := by
      rw [get_flatK _ _ _ _ (by simpa using hj7)]
      have e1 : x.toArray[j / 7]! = e := by
        rw [getElem!_def]
        simp [h1]
      rw [e1, getElem!_def, h2]
    have hadd : (⟨g, 0, none⟩ : Addr).add j = ⟨g, 0 + j, none⟩ := by
      unfold Addr.add
      split
      · subst_vars; rfl
      · rfl
    rw [hadd] at h3
    refine ⟨?_, ?_⟩
    · show _ = some (id _)
      rw [h4]
      exact h3
    · simp [World.frozen?, hblk]
  have hcon := AnyQ.slices_SortFunc Tryz.sortEv 7 Tryz.isAgg130 Tryz.sizeOf130 Oc.E.cells (fun _ => rfl) (fun e v hv => by
    simp [Oc.E.cells] at hv
    rcases hv with rfl | rfl | rfl | rfl | rfl | rfl | rfl <;> rfl) Oc.cf Oc.swo 54 #[] g 0 c x.toArray w eg (fun m os dk _ a b => by
    refine (order_any a b _).mono fun e w' h => ⟨h.1, ?_⟩
    obtain ⟨q, os', h2⟩ := h.2
    exact ⟨q, os', h2⟩) hH hlt (by
    have : x.toArray.size = x.length := by simp
    rw [this]
    omega)
  have e0 : x.toArray.size = x.length := by simp
  rw [e0] at hcon
  refine Calls.mono (R := _) hcon ?_
  rintro e w' ⟨rfl, d', n, os, hp, hs, rfl⟩
  obtain ⟨p1, _, p3⟩ := hp
  rw [e0] at p1
  have q1 : (d'.extract 0 x.length).toList = d'.toList := by rw [← p1]; simp
  have q2 : (x.toArray.extract 0 x.length).toList = x := by simp
  rw [q1, q2] at p3
  refine ⟨rfl, d'.toList, ?_, p3, ?_, ?_⟩
  · unfold Oc.Srt
    rw [List.pairwise_iff_getElem]
    intro i j hi hj hij
    have := hs i j (Nat.zero_le _) hij (by rw [← p1]; simpa using hj)
    rw [Oc.lt_less, getElem!_pos d' j (by simpa using hj), getElem!_pos d' i (by simpa using hi)] at this
    simpa using this
  · have hH2 := holdsK_sortWorldK_c Oc.E.cells 7 w g 0 x.toArray d' n os hH hlt (by rw [p1, e0])
    have hl : d'.toList.length = x.length := p3.length_eq
    refine ⟨by rw [Oc.flat_len, hl], fun _ => ⟨_, rfl, Nat.lt_of_lt_of_le hlt (size_sortWorldK_c Oc.E.cells 7 w g 0 n d' os), fun j u hu => ?_⟩⟩
    have hj2 := (List.getElem?_eq_some_iff.1 hu).1
    rw [Oc.flat_len, hl] at hj2
    have h3 := (hH2 j (by simpa [p1] using hj2)).1
    obtain ⟨e, h1, h2⟩ := Oc.flat_get j _ hu
    have h4 : (flatK Oc.E.cells 7 d')[j]! = u := by
      rw [get_flatK _ _ _ _ (by rw [p1]; exact hj2)]
      have e1 : d'[j / 7]! = e := by
        rw [getElem!_def, ← Array.getElem?_toList, h1]
      rw [e1, getElem!_def, h2]
    have hadd : (⟨g, 0, none⟩ : Addr).add j = ⟨g, 0 + j, none⟩ := by
      unfold Addr.add
      split
      · subst_vars; rfl
      · rfl
    rw [hadd]
    rw [show id (flatK Oc.E.cells 7 d')[j]! = u from h4] at h3
    exact h3
  · refine ⟨rfl, rfl, rfl, size_sortWorldK_c Oc.E.cells 7 w g 0 n d' os, fun k hk hne => ?_⟩
    have hkg : k ≠ g := fun e => hne (by rw [e])
    show ((w.heap.modify g _) ++ os)[k]? = _
    rw [Array.getElem?_append_left (by simpa using hk), Array.getElem?_modify]
    rw [if_neg (fun e => hkg e.symm)]
end Go.Proofs.YtolgigaolffenaaGreatDoor

/- almanac.covered, almanac.year. -/
namespace Go.Proofs.YtolgigaolffenaaGreatDoor
open Go.RowKit

namespace Oc
theorem place_at {l : List Ru.R} {w : World} {B : Nat} {pA : Option Addr} {k : Nat} (h : Reads w B 1 pA (pls l 0).length ((pls l 0).map fun p : Nat => .int .i64 (p : Int))) (hk : k < (pls l 0).length) :
    ∃ ad p, pA = some ad ∧ ad.block < B ∧ (pls l 0)[k]? = some p ∧ w.cell? (ad.add k) = some (.int .i64 (p : Int)) ∧ p < l.length := by
  obtain ⟨ad, u, h1, h2, h3, h4⟩ := h.at_ hk
  obtain ⟨p, hp⟩ : ∃ p, (pls l 0)[k]? = some p := ⟨_, List.getElem?_eq_getElem hk⟩
  rw [List.getElem?_map, hp] at h3
  have : Value.int .i64 (p : Int) = u := Option.some.inj h3
  subst this
  exact ⟨ad, p, h1, h2, hp, h4, pls_lt (List.mem_of_getElem? hp)⟩
end Oc
set_option maxHeartbeats 4000000 in
set_option maxRecDepth 100000 in
theorem covered_any (l : List Ru.R) (rA pA : Option Addr) (rc pc g b : Nat) (top : Int) (w : World) {T : Nat → Prop} (hM : Oc.Alm l rA rc pA pc w g b T) (hl : l.length ≤ 4096) :
    Calls Tryz.prog 140 #[.pointer (some ⟨g, 0, none⟩), .int .i64 top] w fun e w' => e = .returned (.int .i64 (Oc.covered l top)) ∧ Below w.heap.size w w' := by
  unfold Oc.covered
  obtain ⟨P, hP⟩ : ∃ P, Oc.pls l 0 = P := ⟨_, rfl⟩
  obtain ⟨np, hnp⟩ : ∃ n, P.length = n := ⟨_, rfl⟩
  obtain ⟨nl, hnl⟩ : ∃ n, l.length = n := ⟨_, rfl⟩
  have hle : np ≤ nl := by
    have : ∀ (l : List Ru.R) (p : Nat), (Oc.pls l p).length ≤ l.length := by
      intro l
      induction l with
      | nil => intro p; exact Nat.le_refl _
      | cons r l ih =>
        intro p
        unfold Oc.pls
        have := ih (p + 1)
        split <;> simp <;> omega
    have := this l 0
    rw [hP] at this
    omega
  have a0 := hM.at_.cell 0 _ rfl
  have a1 := hM.at_.cell 1 _ rfl
  have za := hM.at_.lt
  rw [hP, hnp] at a1
  have HP := Lib.hid hP
  have HNP := Lib.hid hnp
  have HNL := Lib.hid hnl
  have HM := Lib.hid hM
  rw [hP]
  rw [hnl] at hl
  clear hM hP hnp hnl a0
  go_enter Tryz.func140, Tryz.ntmps140
  go_wp2
  clear a1
  go_loopw [5, 14] (fun y i wr => ∃ k : Nat, k ≤ np ∧ i = .int .i64 (k : Int) ∧ y = .int .i64 ((P.take k).foldl (Oc.covS l top) 0) ∧ Hid (Below w.heap.size w wr)) (fun _ i _ => np - (intOf i).toNat)
  case atStart => exact ⟨0, Nat.zero_le _, rfl, rfl, Below.refl _ _⟩
  case round =>
    obtain ⟨k, hk, rfl, rfl, HB⟩ := hrel
    by_cases hlt : k < np
    · have hA := HM.out.below HB.out
      obtain ⟨ap, p, rfl, hap, hpk, cp, hpl⟩ := Oc.place_at hA.places (k := k) (by rw [HP.out, HNP.out]; exact hlt)
      rw [HP.out] at hpk
      have hst : (P.take (k + 1)).foldl (Oc.covS l top) 0 = Oc.covS l top ((P.take k).foldl (Oc.covS l top) 0) p := by
        rw [List.take_add_one, hpk, List.foldl_append]
        rfl
      obtain ⟨y, hy⟩ : ∃ y, (P.take k).foldl (Oc.covS l top) 0 = y := ⟨_, rfl⟩
      rw [hy] at hst ⊢
      obtain ⟨ad, x, rfl, hab, Hx, HLc⟩ := Ix.reads_cells (enc := Ru.R.cells) (m := 11) (fun _ => rfl) rfl hA.rules hpl
      have hr : Oc.rl l p = x := Oc.rl_at Hx.out
      rw [show Oc.covS l top y p = if x.fr ≤ top then max y (min x.tt top) else y by unfold Oc.covS; rw [hr]] at hst
      have c0 := hA.at_.cell 0 _ rfl
      have zg := hA.at_.lt
      rw [HNL.out] at c0 hpl
      obtain ⟨nm, fr, tt, mo, kk, nn, d, sc, cc, sv, lt⟩ := x
      clear hr Hx hA hy hpk
      have x0 : wr.cell? (ad.add (p * 11)) = some (.string nm) := HLc.out 0 _ rfl
      have x1 : wr.cell? ⟨(ad.add (p * 11)).block, (ad.add (p * 11)).off + 1, none⟩ = some (.int .i64 fr) := HLc.out 1 _ rfl
      have x2 : wr.cell? ⟨(ad.add (p * 11)).block, (ad.add (p * 11)).off + 2, none⟩ = some (.int .i64 tt) := HLc.out 2 _ rfl
      have x3 : wr.cell? ⟨(ad.add (p * 11)).block, (ad.add (p * 11)).off + 3, none⟩ = some (.int .i64 mo) := HLc.out 3 _ rfl
      have x4 : wr.cell? ⟨(ad.add (p * 11)).block, (ad.add (p * 11)).off + 4, none⟩ = some (.int .u8 kk) := HLc.out 4 _ rfl
      have x5 : wr.cell? ⟨(ad.add (p * 11)).block, (ad.add (p * 11)).off + 5, none⟩ = some (.int .i64 nn) := HLc.out 5 _ rfl
      have x6 : wr.cell? ⟨(ad.add (p * 11)).block, (ad.add (p * 11)).off + 6, none⟩ = some (.int .i64 d) := HLc.out 6 _ rfl
      have x7 : wr.cell? ⟨(ad.add (p * 11)).block, (ad.add (p * 11)).off + 7, none⟩ = some (.int .i64 sc) := HLc.out 7 _ rfl
      have x8 : wr.cell? ⟨(ad.add (p * 11)).block, (ad.add (p * 11)).off + 8, none⟩ = some (.int .u8 cc) := HLc.out 8 _ rfl
      have x9 : wr.cell? ⟨(ad.add (p * 11)).block, (ad.add (p * 11)).off + 9, none⟩ = some (.int .i64 sv) := HLc.out 9 _ rfl
      have x10 : wr.cell? ⟨(ad.add (p * 11)).block, (ad.add (p * 11)).off + 10, none⟩ = some (.string lt) := HLc.out 10 _ rfl
      have q1 : (0 : Int) ≤ (k : Int) := by omega
      have q2 : (k : Int) < (np : Int) := by omega
      have q3 : (0 : Int) ≤ (p : Int) := by omega
      have q4 : (p : Int) < (nl : Int) := by omega
      have HBn := Lib.hid (HB.out.alloc HB.out.size (.cells #[.string nm, .int .i64 fr, .int .i64 tt, .int .i64 mo, .int .u8 kk, .int .i64 nn, .int .i64 d, .int .i64 sc, .int .u8 cc, .int .i64 sv, .string lt] 75))
      simp only at hst
      by_cases hf : fr ≤ top
      · rw [if_pos hf] at hst
        have HS := Lib.hid hst
        clear hst
        go_wp2
        go_roundw
        case rel => exact ⟨k + 1, by omega, by go_num, by rw [HS.out], HBn.out⟩
        case measure => simp [intOf]; omega
      · rw [if_neg hf] at hst
        have HS := Lib.hid hst
        have p1 : top < fr := by omega
        clear hst
        go_wp2
        go_roundw
        case rel => exact ⟨k + 1, by omega, by go_num, by rw [HS.out], HBn.out⟩
        case measure => simp [intOf]; omega
    · have hkn : k = np := by omega
      subst hkn
      have q2 : ¬ (k : Int) < (k : Int) := by omega
      have ht : P.take k = P := List.take_of_length_le (by rw [HNP.out]; exact Nat.le_refl _)
      rw [ht]
      go_wp2
      go_ret
      exact ⟨rfl, HB.out⟩
end Go.Proofs.YtolgigaolffenaaGreatDoor

/- almanac.year: the events of a year, noted. -/
namespace Go.Proofs.YtolgigaolffenaaGreatDoor
open Go.RowKit

theorem ev_info : (Tryz.prog.info? 130).map (fun i => (i.zero, i.size, i.bytes)) = some (some (.agg #[.int .i64 0, .int .u8 0, .int .i64 0, .int .i64 0, .string ⟨#[]⟩, .int .i64 0, .int .i64 0]), 7, 64) := by kernel_rfl
theorem ev_append {ops : Array Oper} {rest : List Oper} {o : Oper} {a : Act} {Q : Exit → Act → World → Prop} (W : World) (B n : Nat) (xs : List Value) (v : Value) (x : Oc.E) (p q g : Nat) (hgw : g = W.heap.size)
    (hO : W.ownsRow B 130 7 v n xs) (hl : n ≤ 1000000000) (hB : B ≤ W.heap.size) (hgd : o.guard = none)
    (ho : o.op = .call { callee := .builtin .append, args := #[.tmp p, .tmp q], argTypes := #[124, 124] }) (hs : a.eval (.tmp p) = v) (hx : a.eval (.tmp q) = .slice (some ⟨g, 0, none⟩) 1 1)
    (h : ∀ v' w', w'.ownsRow B 130 7 v' (n + 1) (xs ++ x.cells) → Below B W w' → W.grownBy w' v.ownBlock → wpList Tryz.prog ops Q rest (a.put o.dst v') w') :
    wpList Tryz.prog ops Q (o :: rest) a (W.alloc (.cells #[.int .i64 x.n, .int .u8 x.c, .int .i64 x.sv, .int .i64 x.bf, .string x.lt, .int .i64 x.pl, .int .i64 x.y] 130)) := by
  subst hgw
  obtain ⟨i0, hi0, hz0, hz1, hz2⟩ := info_parts ev_info
  have hR : Reads (W.alloc (.cells #[.int .i64 x.n, .int .u8 x.c, .int .i64 x.sv, .int .i64 x.bf, .string x.lt, .int .i64 x.pl, .int .i64 x.y] 130)) (W.heap.size + 1) 7 (some ⟨W.heap.size, 0, none⟩) 1 x.cells := by
    have := reads_cells_at W W.heap.size #[.int .i64 x.n, .int .u8 x.c, .int .i64 x.sv, .int .i64 x.bf, .string x.lt, .int .i64 x.pl, .int .i64 x.y] 7 130 rfl rfl
    rw [World.size_alloc] at this
    exact this
  refine wpList_append_any (P := Tryz.prog) _ hgd (.tmp p) (.tmp q) 124 ho B 130 i0 _ 7 64 Tryz.underlying124 hi0 hz0 hz1 hz2 rfl (by omega) v n xs hs (hO.alloc _) (W.heap.size + 1) _ 1 1 _ hx hR (by
    intro u hu
    simp [Oc.E.cells] at hu
    rcases hu with rfl | rfl | rfl | rfl | rfl | rfl | rfl <;> rfl) (by unfold maxLen; omega) (by omega) (by rw [World.size_alloc]; omega) ?_
  intro v' w' hown hg _
  refine h v' w' hown (((Below.refl B W).alloc hB _).grown hg (by rw [World.size_alloc]; omega) (fun g e => (hO.lt g e).1)) ?_
  exact gb_then (World.grownBy_alloc W _ _) hg (fun j e => by
    rcases Nat.lt_or_ge j W.heap.size with q | q
    · exact .inr e
    · exact .inl q)
theorem Wo.cells {w w' : World} (h : Wo w) (hc : ∀ p v, w.cell? p = some v → w'.cell? p = some v) : Wo w' := by
  refine ⟨fun k hk => hc _ _ (h.lens k hk), ?_⟩
  obtain ⟨m, hm⟩ := h.maxl
  exact ⟨m, hc _ _ hm⟩
theorem grown_of_ {w w1 : World} (hb : Below w.heap.size w w1) (row : Option Nat) : w.grownBy w1 row := ⟨hb.os, hb.tape, hb.output, hb.size, fun k hk _ => hb.block k hk⟩
namespace Oc
def YrRet (l : List Ru.R) (rA : Option Addr) (rc : Nat) (pA : Option Addr) (pc g b : Nat) (T : Nat → Prop) (y : Int) (w : World) (e : Ending) (w' : World) : Prop :=
  ∃ A c, e = .returned (.slice A (year l y).length c) ∧ Reads w' w'.heap.size 7 A (year l y).length ((year l y).flatMap E.cells) ∧ Pl T A (year l y).length ∧ Alm l rA rc pA pc w' g b T ∧ w.grownBy w' (some b)
theorem pls_len : ∀ (l : List Ru.R) (p : Nat), (pls l p).length ≤ l.length
  | [], _ => Nat.le_refl _
  | r :: l, p => by
    have := pls_len l (p + 1)
    unfold pls
    split <;> simp <;> omega
theorem atL_len (l : List Ru.R) (y : Int) (p : Nat) : (atL l y p).length ≤ 1 := by unfold atL; split <;> simp
theorem atLs_len (l : List Ru.R) (y : Int) : ∀ x : List Nat, (x.flatMap (atL l y)).length ≤ x.length
  | [] => Nat.le_refl _
  | p :: x => by
    have := atLs_len l y x
    have := atL_len l y p
    rw [List.flatMap_cons, List.length_append, List.length_cons]
    omega
theorem year_len (l : List Ru.R) (y : Int) : (year l y).length ≤ l.length := by
  unfold year
  rw [(perm_isort _).length_eq, ← yearU_pls]
  exact Nat.le_trans (atLs_len l y _) (pls_len l 0)
theorem atLs_ev {l : List Ru.R} {y : Int} {e : E} (h : e ∈ (pls l 0).flatMap (atL l y)) : Ev l e := by
  rw [yearU_pls] at h
  exact (mem_year.1 ((mem_isort e _).2 h)).1
end Oc
theorem sort_evs (l : List Ru.R) (x : List Oc.E) (hx : ∀ e ∈ x, Oc.Ev l e) (B : Nat) (v : Value) (w : World) (hO : w.ownsRow B 130 7 v x.length (x.flatMap Oc.E.cells)) (hl : x.length ≤ 1000000000) :
    Calls Tryz.prog 53 #[v, .func (.func 54) #[] #[]] w fun e w' => e = .returned (.tuple #[]) ∧ (∃ A c, v = .slice A (Oc.isort x).length c ∧ Reads w' w'.heap.size 7 A (Oc.isort x).length ((Oc.isort x).flatMap Oc.E.cells)) ∧ w.grownBy w' v.ownBlock := by
  have hlen := (Oc.perm_isort x).length_eq
  rcases hO.2 with ⟨rfl, h0⟩ | ⟨g, cap, cur, rfl, _⟩
  · obtain rfl : x = [] := List.eq_nil_of_length_eq_zero h0
    refine (sortEv_none 0 w).mono ?_
    rintro e w' ⟨rfl, rfl⟩
    exact ⟨rfl, ⟨none, 0, rfl, Reads.none_⟩, World.grownBy.refl _ _⟩
  · refine (sortEv_some x g cap B w hO (by omega)).mono ?_
    rintro e w' ⟨rfl, x', h1, h2, h3, h4⟩
    have he : x' = Oc.isort x := Oc.srt_one (l := l) h1 (Oc.srt_isort x) (h2.trans (Oc.perm_isort x).symm) (fun e he => hx e (h2.mem_iff.1 he))
    subst he
    rw [← hlen] at h3
    exact ⟨rfl, ⟨_, cap, by rw [hlen], h3⟩, h4⟩
namespace Oc
theorem Memo.put {l : List Ru.R} {w w' : World} {b n : Nat} {f : Mi.Fn} {ks : List Int} {y : Int} {A : Option Addr} {c : Nat} {T : Nat → Prop} (hm : MapI Tryz.prog 3 w b n f) (h1 : ks.Nodup) (h2 : ks.length = n) (h3 : ∀ k ∈ ks, 0 ≤ k ∧ k ≤ 10000 ∧ (f k).isSome = true)
    (h4 : ∀ k v, f k = some v → k ∈ ks ∧ ∃ A c, v = .slice A (year l k).length c ∧ Reads w w.heap.size 7 A (year l k).length ((year l k).flatMap E.cells) ∧ Pl T A (year l k).length) (hy : 0 ≤ y ∧ y ≤ 10000) (hf : f y = none)
    (hr : Reads w w.heap.size 7 A (year l y).length ((year l y).flatMap E.cells)) (hpl : Pl T A (year l y).length) (hm' : MapI Tryz.prog 3 w' b (n + 1) (Mi.put f y (.slice A (year l y).length c))) (hg : w.grownBy w' (some b)) : Memo l w' b T := by
  refine ⟨n + 1, _, y :: ks, hm', List.nodup_cons.2 ⟨fun h => ?_, h1⟩, by rw [List.length_cons, h2], fun k hk => ?_, fun k v hk => ?_⟩
  · have := (h3 y h).2.2
    rw [hf] at this
    cases this
  · rcases List.mem_cons.1 hk with rfl | hk
    · exact ⟨hy.1, hy.2, by rw [Mi.put_same]; rfl⟩
    · obtain ⟨a, c', d⟩ := h3 k hk
      refine ⟨a, c', ?_⟩
      unfold Mi.put
      split
      · rfl
      · exact d
  · unfold Mi.put at hk
    split at hk
    · rename_i e
      subst e
      cases hk
      exact ⟨List.mem_cons_self, A, c, rfl, (reads_besideI hr hm hg).more hg.size, hpl⟩
    · obtain ⟨k1, A', c', k2, k3, k4⟩ := h4 k v hk
      exact ⟨List.mem_cons_of_mem _ k1, A', c', k2, (reads_besideI k3 hm hg).more hg.size, k4⟩
end Oc
set_option maxHeartbeats 8000000 in
set_option maxRecDepth 100000 in
theorem year_any (l : List Ru.R) (rA pA : Option Addr) (rc pc g b : Nat) (y : Int) (w : World) {T : Nat → Prop} (hM : Oc.Alm l rA rc pA pc w g b T) (hT : ∀ k, w.heap.size ≤ k → T k) (hW : Wo w) (hl : l.length ≤ 4096) (hy : 0 ≤ y ∧ y ≤ 10000) :
    Calls Tryz.prog 52 #[.pointer (some ⟨g, 0, none⟩), .int .i64 y] w (Oc.YrRet l rA rc pA pc g b T y w) := by
  obtain ⟨mn, f, ks, hmap, hk1, hk2, hk3, hk4⟩ := hM.memo
  have hkl := Oc.keys_le hk1 (fun k hk => ⟨(hk3 k hk).1, (hk3 k hk).2.1⟩)
  have hwf := Mi.wf (a := y) (by omega) (by omega)
  have a0 := hM.at_.cell 0 _ rfl
  have a1 := hM.at_.cell 1 _ rfl
  have a2 := hM.at_.cell 2 _ rfl
  have za := hM.at_.lt
  have hz : ∀ W, (zeroValue 124).run Tryz.prog W = .ok (.slice none 0 0) W := fun W => Tryz.zeroValue124 W
  cases hf : f y with
  | some v =>
    obtain ⟨_, A, c, rfl, hrd, hpl⟩ := hk4 y v hf
    have HPl := Lib.hid hpl
    have HR := Lib.hid hrd
    have HM := Lib.hid hM
    have HMap := Lib.hid hmap
    have HF := Lib.hid hf
    clear hM hmap hk1 hk2 hk3 hk4 hf hrd hpl a1 a0 hT
    go_enter Tryz.func52, Tryz.ntmps52
    go_wp2_with (first | (at_lookup; refine wpList_lookI_ok _ rfl _ _ _ _ _ rfl Tryz.underlying3 Tryz.underlying126 hz b mn f y hwf rfl rfl HMap.out ?_; rw [HF.out]; simp only [Option.getD_some, Option.isSome_some]))
    go_ret
    exact ⟨A, c, rfl, HR.out, HPl.out, HM.out, World.grownBy.refl w _⟩
  | none =>
    obtain ⟨P, hP⟩ : ∃ P, Oc.pls l 0 = P := ⟨_, rfl⟩
    obtain ⟨np, hnp⟩ : ∃ n, P.length = n := ⟨_, rfl⟩
    have hnl : np ≤ 4096 := by rw [← hnp, ← hP]; exact Nat.le_trans (Oc.pls_len l 0) hl
    have hul := Oc.yearU_pls l y
    have hev := fun e he => Oc.atLs_ev (l := l) (y := y) (e := e) he
    rw [hP] at a1 hul hev
    rw [hnp] at a1
    have HP := Lib.hid hP
    have HNP := Lib.hid hnp
    have HM := Lib.hid hM
    have HMp := Lib.hid hmap
    have HF := Lib.hid hf
    have HU := Lib.hid hul
    have HEv := Lib.hid hev
    have HW := Lib.hid hW
    have HK := Lib.hid (And.intro hk1 (And.intro hk2 (And.intro hk3 hk4)))
    have HT := Lib.hid hT
    have HAt := Lib.hid fun p W hA hWw hp => ocAt_any (T := T) l rA pA rc pc g b p y W hA hWw hp
    clear hM hmap hk1 hk2 hk3 hk4 hf hP hnp hul hev hW hT
    go_enter Tryz.func52, Tryz.ntmps52
    go_wp2_with (first | (at_lookup; refine wpList_lookI_ok _ rfl _ _ _ _ _ rfl Tryz.underlying3 Tryz.underlying126 hz b mn f y hwf rfl rfl HMp.out ?_; rw [HF.out]; simp only [Option.getD_none, Option.isSome_none]))
    clear a0 a1 a2 hz
    go_loopw [7, 28] (fun v i wr => ∃ k : Nat, k ≤ np ∧ i = .int .i64 (k : Int) ∧ Hid (wr.ownsRow w.heap.size 130 7 v ((P.take k).flatMap (Oc.atL l y)).length (((P.take k).flatMap (Oc.atL l y)).flatMap Oc.E.cells)) ∧ Hid (Below w.heap.size w wr)) (fun _ i _ => np - (intOf i).toNat)
    case atStart => exact ⟨0, Nat.zero_le _, rfl, World.ownsRow_nil _ _ _ _, Below.refl _ _⟩
    case round =>
      obtain ⟨k, hk, rfl, HO, HB⟩ := hrel
      obtain ⟨q, hq⟩ : ∃ q, ((P.take k).flatMap (Oc.atL l y)).length = q := ⟨_, rfl⟩
      have hqk : q ≤ k := by
        rw [← hq]
        exact Nat.le_trans (Oc.atLs_len l y _) (by simp; omega)
      rw [hq] at HO
      have HQ := Lib.hid hq
      obtain ⟨vA, vc, rfl, hv1, hv2⟩ := own_slice_cap HO.out
      have hwr := HB.out.size
      clear hq
      by_cases hlt : k < np
      · have hA := HM.out.below HB.out
        obtain ⟨ap, p, rfl, hap, hpk, cp, hpl⟩ := Oc.place_at hA.places (k := k) (by rw [HP.out, HNP.out]; exact hlt)
        rw [HP.out] at hpk
        have hst : (P.take (k + 1)).flatMap (Oc.atL l y) = (P.take k).flatMap (Oc.atL l y) ++ Oc.atL l y p := by
          rw [List.take_add_one, hpk, List.flatMap_append]
          congr 1
          simp
        have c0 := hA.at_.cell 0 _ rfl
        have zg := hA.at_.lt
        have HC := Lib.hid (HAt.out p wr hA (HW.out.below HB.out) hpl)
        have q1 : (0 : Int) ≤ (k : Int) := by omega
        have q2 : (k : Int) < (np : Int) := by omega
        have HSt := Lib.hid hst
        clear hA hpk hst
        by_cases hh : Oc.holds (Oc.rl l p) y = true
        · obtain ⟨x, hx⟩ : ∃ x, Oc.mk (Oc.rl l p) p y = x := ⟨_, rfl⟩
          have e1 : Oc.atL l y p = [x] := by unfold Oc.atL; rw [if_pos hh, hx]
          have e2 : Oc.atS l p y = x := by unfold Oc.atS; rw [if_pos hh, hx]
          rw [e1] at HSt
          rw [e2, hh] at HC
          clear e1 e2 hh hx
          go_wp2_with fail
          refine HC.out.mono ?_
          rintro e w3 ⟨rfl, hb⟩
          have HB3 := Lib.hid (HB.out.trans (hb.mono hwr))
          have HO3 := Lib.hid (show w3.ownsRow w.heap.size 130 7 (.slice vA q vc) q _ from own_below HO.out hb)
          have hw3 := hb.size
          have h3 : w.heap.size ≤ w3.heap.size := Nat.le_trans hwr hw3
          have HAp := fun {ops : Array Oper} {rest : List Oper} {o : Oper} {a : Act} {Q : Exit → Act → World → Prop} hgd ho hs hx h => ev_append (ops := ops) (rest := rest) (o := o) (a := a) (Q := Q) (w3.alloc (.cells #[.int .i64 x.n, .int .u8 x.c, .int .i64 x.sv, .int .i64 x.bf, .string x.lt, .int .i64 x.pl, .int .i64 x.y] 130)) w.heap.size q _ (.slice vA q vc) x 40 42 (w3.heap.size + 1) (by simp) (HO3.out.alloc _) (by omega) (by rw [World.size_alloc]; omega) hgd ho hs hx h
          clear hb hw3 c0 cp
          unfold Oc.E.v
          go_wp2_with (at_builtin; refine HAp rfl rfl rfl rfl ?_; intro v9 w9 hown9 hb9 hg9)
          have HO9 := Lib.hid (show w9.ownsRow w.heap.size 130 7 v9 ((P.take (k + 1)).flatMap (Oc.atL l y)).length (((P.take (k + 1)).flatMap (Oc.atL l y)).flatMap Oc.E.cells) by
            rw [HSt.out, List.length_append, HQ.out, List.flatMap_append]
            simpa using hown9)
          have HB9 := Lib.hid ((HB3.out.alloc HB3.out.size (.cells #[.int .i64 x.n, .int .u8 x.c, .int .i64 x.sv, .int .i64 x.bf, .string x.lt, .int .i64 x.pl, .int .i64 x.y] 130)).trans hb9)
          clear hown9 hb9 hg9 HAp
          go_wp2
          go_roundw
          case rel => exact ⟨k + 1, by omega, by go_num, HO9.out, HB9.out⟩
          case measure => simp [intOf]; omega
        · have hh' : Oc.holds (Oc.rl l p) y = false := by simpa using hh
          have e1 : Oc.atL l y p = [] := by unfold Oc.atL; rw [if_neg hh]
          have e2 : Oc.atS l p y = Oc.E.zero := by unfold Oc.atS; rw [if_neg hh]
          rw [e1, List.append_nil] at HSt
          rw [e2, hh'] at HC
          clear e1 e2 hh hh'
          go_wp2_with fail
          refine HC.out.mono ?_
          rintro e w3 ⟨rfl, hb⟩
          have HB3 := Lib.hid (HB.out.trans (hb.mono hwr))
          have HB9 := Lib.hid (HB3.out.alloc HB3.out.size (.cells #[.int .i64 0, .int .u8 0, .int .i64 0, .int .i64 0, .string ⟨#[]⟩, .int .i64 0, .int .i64 0] 130))
          have HO9 := Lib.hid (show (w3.alloc (.cells #[.int .i64 0, .int .u8 0, .int .i64 0, .int .i64 0, .string ⟨#[]⟩, .int .i64 0, .int .i64 0] 130)).ownsRow w.heap.size 130 7 (.slice vA q vc) ((P.take (k + 1)).flatMap (Oc.atL l y)).length (((P.take (k + 1)).flatMap (Oc.atL l y)).flatMap Oc.E.cells) by
            rw [HSt.out, HQ.out]
            exact (own_below HO.out hb).alloc _)
          clear hb c0 cp
          unfold Oc.E.v Oc.E.zero
          go_wp2
          go_roundw
          case rel => exact ⟨k + 1, by omega, by go_num, HO9.out, HB9.out⟩
          case measure => simp [intOf]; omega
      · have hkn : k = np := by omega
        subst hkn
        have q2 : ¬ (k : Int) < (k : Int) := by omega
        have ht : P.take k = P := List.take_of_length_le (by rw [HNP.out]; exact Nat.le_refl _)
        have HO1 := HO.out
        have HQ1 := HQ.out
        rw [ht, HU.out] at HO1
        rw [ht, HU.out] at HQ1
        rw [← HQ1] at HO1
        have hev2 : ∀ e ∈ Oc.yearU l 0 y, Oc.Ev l e := fun e he => HEv.out e (by rw [HU.out]; exact he)
        have hC := sort_evs l (Oc.yearU l 0 y) hev2 w.heap.size (.slice vA (Oc.yearU l 0 y).length vc) wr HO1 (by omega)
        have hown := HO1.lt
        rw [HQ1] at hC hown
        have HC := Lib.hid hC
        have HOw := Lib.hid hown
        clear ht HO1 hC hev2 HQ1 hown
        go_wp2_with fail
        refine HC.out.mono ?_
        rintro e w5 ⟨rfl, ⟨A, c, hv, hrd⟩, hg⟩
        injection hv with hv1 hv2 hv3
        subst hv1 hv3
        have hyl : (Oc.isort (Oc.yearU l 0 y)).length = (Oc.year l y).length := rfl
        have hb5 : Below w.heap.size w w5 := HB.out.grown hg hwr (fun j hj => (HOw.out j hj).1)
        have hA5 := HM.out.below hb5
        have hm5 := HMp.out.below hb5
        have b2 := hA5.at_.cell 2 _ rfl
        have zb := hA5.at_.lt
        have HA5 := Lib.hid hA5
        have HM5 := Lib.hid hm5
        have HB5 := Lib.hid hb5
        have HR5 := Lib.hid (show Reads w5 w5.heap.size 7 vA (Oc.year l y).length ((Oc.year l y).flatMap Oc.E.cells) from hrd)
        have HK5 := Lib.hid fun k v hk => by
          obtain ⟨k1, A, c, k2, k3, k4⟩ := HK.out.2.2.2 k v hk
          exact (⟨k1, A, c, k2, (k3.below hb5).more hb5.size, k4⟩ : k ∈ ks ∧ ∃ A c, v = .slice A (Oc.year l k).length c ∧ Reads w5 w5.heap.size 7 A (Oc.year l k).length ((Oc.year l k).flatMap Oc.E.cells) ∧ Oc.Pl T A (Oc.year l k).length)
        have hq5 : q = (Oc.year l y).length := hv2
        have hmn : mn < maxLen := by
          have := HK.out.2.1
          unfold maxLen
          omega
        have HQ5 := Lib.hid hq5
        have hpl5 : Oc.Pl T vA (Oc.year l y).length := fun ad ha _ => HT.out _ (HOw.out ad.block (by rw [ha]; rfl)).1
        have HP5 := Lib.hid hpl5
        have HEnd : Hid (∀ w6, MapI Tryz.prog 3 w6 b (mn + 1) (Mi.put f y (.slice vA q vc)) → w5.grownBy w6 (some b) → Oc.YrRet l rA rc pA pc g b T y w (.returned (.slice vA q vc)) w6) := by
          intro w6 hM6 hg6
          have hm6 : Oc.Memo l w6 b T := Oc.Memo.put (A := vA) (c := vc) HM5.out HK.out.1 HK.out.2.1 HK.out.2.2.1 HK5.out hy HF.out HR5.out HP5.out (by rw [← hq5]; exact hM6) hg6
          exact ⟨vA, vc, by rw [hq5], (Oc.reads_besideI HR5.out HM5.out hg6).more hg6.size, HP5.out, HA5.out.grown hg6 hm6, gb_then (grown_of_ HB5.out (some b)) hg6 (fun j hj => .inr hj)⟩
        clear hrd hg hb5 hA5 hm5 hv2 hq5 hpl5
        go_wp2_with (first | (at_mapUpdate; refine wpList_storeI _ rfl _ _ _ _ _ _ rfl Tryz.underlying3 Tryz.underlying126 b mn f y hwf hmn (.slice vA q vc) rfl rfl rfl HM5.out ?_; intro w6 hM6 hg6; have HE6 := Lib.hid (HEnd.out w6 hM6 hg6); clear hM6 hg6))
        go_ret
        exact HE6.out
end Go.Proofs.YtolgigaolffenaaGreatDoor

/- sort.Search. -/
namespace Go.Proofs.YtolgigaolffenaaGreatDoor
open Go.RowKit

namespace Oc
def SeRet (n : Nat) (p : Nat → Bool) (w : World) (e : Ending) (w' : World) : Prop :=
  ∃ r : Nat, r ≤ n ∧ e = .returned (.int .i64 (r : Int)) ∧ (∀ i, i < r → p i = false) ∧ (∀ i, r ≤ i → i < n → p i = true) ∧ Below w.heap.size w w'
end Oc
set_option maxHeartbeats 4000000 in
set_option maxRecDepth 100000 in
theorem search_any (n : Nat) (F : FuncId) (cb : Array Value) (p : Nat → Bool) (w : World) (hn : n ≤ 1000000000) (eg : ∀ args w, (callFunc F args).run Tryz.prog w = .ok (.enter F args) w)
    (hf : ∀ W, Below w.heap.size w W → ∀ i : Nat, i < n → Calls Tryz.prog F (#[.int .i64 (i : Int)] ++ cb) W fun e w' => e = .returned (.bool (p i)) ∧ Below W.heap.size W w')
    (hm : ∀ i j, i ≤ j → j < n → p i = true → p j = true) :
    Calls Tryz.prog 114 #[.int .i64 (n : Int), .func (.func F) #[] cb] w (Oc.SeRet n p w) := by
  have HF := Lib.hid hf
  have HM := Lib.hid hm
  clear hf hm
  go_enter Tryz.func114, Tryz.ntmps114
  go_wp2
  go_loopw [5, 6] (fun a c wr => ∃ i j : Nat, i ≤ j ∧ j ≤ n ∧ a = .int .i64 (i : Int) ∧ c = .int .i64 (j : Int) ∧ Hid (∀ k, k < i → p k = false) ∧ Hid (∀ k, j ≤ k → k < n → p k = true) ∧ Hid (Below w.heap.size w wr)) (fun a c _ => (intOf c).toNat - (intOf a).toNat)
  case atStart => exact ⟨0, n, Nat.zero_le _, Nat.le_refl _, rfl, rfl, fun k hk => by omega, fun k h1 h2 => by omega, Below.refl _ _⟩
  case round =>
    obtain ⟨i, j, hij, hjn, rfl, rfl, H1, H2, HB⟩ := hrel
    by_cases hlt : i < j
    · have q1 : (i : Int) < (j : Int) := by omega
      obtain ⟨h, hh⟩ : ∃ h : Nat, (i + j) / 2 = h := ⟨_, rfl⟩
      have h1 : i ≤ h := by omega
      have h2 : h < j := by omega
      have hI : ((i : Int) + (j : Int)) / 2 = (h : Int) := by omega
      have HI := Lib.hid hI
      cases hp : p h with
      | true =>
        have HC := Lib.hid (HF.out wr HB.out h (by omega))
        rw [hp] at HC
        have HN : Hid (∀ k, h ≤ k → k < n → p k = true) := fun k k1 k2 => HM.out h k k1 k2 hp
        clear hI hh hp
        go_wp2_with fail
        rw [HI.out]
        refine HC.out.mono ?_
        rintro e w3 ⟨rfl, hb⟩
        have HB3 := Lib.hid (below_then HB.out hb)
        clear hb
        go_wp2
        go_roundw
        case rel => exact ⟨i, h, h1, by omega, rfl, rfl, H1.out, HN.out, HB3.out⟩
        case measure => simp [intOf]; omega
      | false =>
        have HC := Lib.hid (HF.out wr HB.out h (by omega))
        rw [hp] at HC
        have HN : Hid (∀ k, k < h + 1 → p k = false) := fun k k1 => by
          cases hk : p k with
          | false => rfl
          | true =>
            have := HM.out k h (by omega) (by omega) hk
            rw [hp] at this
            cases this
        clear hI hh hp
        go_wp2_with fail
        rw [HI.out]
        refine HC.out.mono ?_
        rintro e w3 ⟨rfl, hb⟩
        have HB3 := Lib.hid (below_then HB.out hb)
        clear hb
        go_wp2
        go_roundw
        case rel => exact ⟨h + 1, j, by omega, hjn, by go_num, rfl, HN.out, H2.out, HB3.out⟩
        case measure => simp [intOf]; omega
    · have hje : i = j := by omega
      subst hje
      have q1 : ¬ (i : Int) < (i : Int) := by omega
      go_wp2
      go_ret
      exact ⟨i, hjn, rfl, H1.out, H2.out, HB.out⟩
end Go.Proofs.YtolgigaolffenaaGreatDoor
