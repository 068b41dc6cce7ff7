/- atlas.find, atlas.Zones, atlas.Default. -/
import Derived.Test.YtajcgoinhpengaaDoorK25
import Derived.Test.YtajcgoinhpengaaDoorK05

namespace Go.Proofs.YtajcgoinhpengaaDoor
open Go.RowKit

namespace Ca
theorem at_find (p : E → Bool) : ∀ (l : List E) (i : Nat), (l.find? p = none ∧ Ix.at_ p l (i : Int) = -1) ∨ ∃ j e, l[j]? = some e ∧ l.find? p = some e ∧ Ix.at_ p l (i : Int) = ((i + j : Nat) : Int)
  | [], i => .inl ⟨rfl, rfl⟩
  | x :: l, i => by
    cases hx : p x with
    | true =>
      right
      refine ⟨0, x, rfl, by rw [List.find?_cons, hx], ?_⟩
      unfold Ix.at_
      rw [if_pos hx]
      simp
    | false =>
      have e1 : Ix.at_ p (x :: l) (i : Int) = Ix.at_ p l ((i + 1 : Nat) : Int) := by
        rw [Ix.at_, if_neg (by rw [hx]; decide)]
        rfl
      rw [List.find?_cons, hx, e1]
      rcases at_find p l (i + 1) with ⟨h1, h2⟩ | ⟨j, e, h1, h2, h3⟩
      · exact .inl ⟨h1, h2⟩
      · exact .inr ⟨j + 1, e, by simpa using h1, h2, by rw [h3]; congr 1; omega⟩
theorem at_zip (p : E → Bool) : ∀ (l : List E) (evs : List Value) (i : Int), evs.length = l.length → Ix.at_ (fun q => p q.1) (l.zip evs) i = Ix.at_ p l i
  | [], _, _, _ => rfl
  | x :: l, [], _, h => by simp at h
  | x :: l, v :: evs, i, h => by
    rw [List.zip_cons_cons, Ix.at_, Ix.at_, at_zip p l evs (i + 1) (by simpa using h)]
/-- Where atlas.find finds. -/
def at2 (l : List E) (k t : ByteArray) : Int := Ix.at_ (fun e => decide (e.key = k ∧ e.terr = t)) l 0
theorem at2_cases (l : List E) (k t : ByteArray) : (fnd l k t = none ∧ at2 l k t = -1) ∨ ∃ (j : Nat) (e : E), l[j]? = some e ∧ fnd l k t = some e ∧ at2 l k t = (j : Int) := by
  unfold fnd at2
  rcases at_find (fun e => decide (e.key = k ∧ e.terr = t)) l 0 with h | ⟨j, e, h1, h2, h3⟩
  · exact .inl h
  · exact .inr ⟨j, e, h1, h2, by simpa using h3⟩
end Ca
set_option maxHeartbeats 1000000 in
set_option maxRecDepth 100000 in
theorem caFind1_any (x : Ca.E) (A : Option Addr) (m c b1 b2 : Nat) (k t : ByteArray) (w : World) (h1 : w.cell? ⟨b1, 0, none⟩ = some (.string k)) (h2 : w.cell? ⟨b2, 0, none⟩ = some (.string t)) :
    Calls Tryd.prog 57 #[.agg #[.string x.key, .string x.terr, .slice A m c], .pointer (some ⟨b1, 0, none⟩), .pointer (some ⟨b2, 0, none⟩)] w fun e w' => e = .returned (.bool (decide (x.key = k ∧ x.terr = t))) ∧ Below w.heap.size w w' := by
  have hb1 := (bal1 w (.cells #[.string x.key, .string x.terr, .slice A m c] 45)).cell (p := ⟨b1, 0, none⟩) (block_lt_of_cell h1)
  have hb2 := (bal1 w (.cells #[.string x.key, .string x.terr, .slice A m c] 45)).cell (p := ⟨b2, 0, none⟩) (block_lt_of_cell h2)
  rw [h1] at hb1
  rw [h2] at hb2
  have HB := Lib.hid (bal1 w (.cells #[.string x.key, .string x.terr, .slice A m c] 45))
  obtain ⟨kx, hkx⟩ : ∃ t, x.key = t := ⟨_, rfl⟩
  obtain ⟨tx, htx⟩ : ∃ t, x.terr = t := ⟨_, rfl⟩
  rw [hkx, htx] at HB hb1 hb2 ⊢
  obtain ⟨X, hX⟩ : ∃ X, decide (kx = k ∧ tx = t) = X := ⟨_, rfl⟩
  rw [hX]
  have HX := Lib.hid hX
  clear hkx htx hX h1 h2
  by_cases hk : kx = k
  · have qk := Ca.bytes_eq hk
    have qk' : kx.toList = k.toList := by rw [hk]
    by_cases ht : tx = t
    · have qt := Ca.bytes_eq ht
      have qt' : tx.toList = t.toList := by rw [ht]
      have HE : Hid (X = true) := HX.out.symm.trans (decide_eq_true ⟨hk, ht⟩)
      clear hk ht HX
      go_enter Tryd.func57, Tryd.ntmps57
      go_wp2
      go_ret
      exact ⟨ret_bool HE.out.symm, HB.out⟩
    · obtain ⟨qt, qt'⟩ := Ca.bytes_ne ht
      have HE : Hid (X = false) := HX.out.symm.trans (decide_eq_false (fun h => ht h.2))
      clear hk ht HX
      go_enter Tryd.func57, Tryd.ntmps57
      go_wp2
      go_ret
      exact ⟨ret_bool HE.out.symm, HB.out⟩
  · obtain ⟨qk, qk'⟩ := Ca.bytes_ne hk
    have HE : Hid (X = false) := HX.out.symm.trans (decide_eq_false (fun h => hk h.1))
    clear hk HX
    go_enter Tryd.func57, Tryd.ntmps57
    go_wp2
    go_ret
    exact ⟨ret_bool HE.out.symm, HB.out⟩
set_option maxHeartbeats 1000000 in
set_option maxRecDepth 100000 in
theorem caFind_any (l : List Ca.E) (A : Option Addr) (n c : Nat) (evs : List Value) (k t : ByteArray) (w : World) (hR : Ca.EntR w w.heap.size l (.slice A n c) evs) (hl : l.length = n) (hW : Ca.Wd l) :
    Calls Tryd.prog 37 #[.slice A n c, .string k, .string t] w fun e w' => e = .returned (.int .i64 (Ca.at2 l k t)) ∧ Below w.heap.size w w' := by
  have hn : n ≤ 4096 := by rw [← hl]; exact hW.n
  obtain ⟨g, hg⟩ : ∃ g, w.heap.size = g := ⟨_, rfl⟩
  obtain ⟨W0, hW0⟩ : ∃ W, (w.alloc (.cells #[.string k] 9)).alloc (.cells #[.string t] 9) = W := ⟨_, rfl⟩
  have hB0 : Below w.heap.size w W0 := by rw [← hW0]; exact bal (bal1 _ _) _
  have hA1 : At W0 g [.string k] := by
    rw [← hW0, ← hg]
    exact (At.new w #[Value.string k] 9).allocO _
  have hA2 : At W0 (g + 1) [.string t] := by
    rw [← hW0]
    have h := At.new (w.alloc (.cells #[.string k] 9)) #[Value.string t] 9
    rw [World.size_alloc, hg] at h
    exact h
  have hR0 := hR.call hB0
  have hr := hR0.row
  rw [hl] at hr
  obtain ⟨A', c', e9, _, hc9, hr9⟩ := hr
  injection e9 with e91 e92 e93
  rw [← e91] at hr9
  have hlz : (l.zip evs).length = n := by rw [List.length_zip, hR.len, hl]; omega
  have hzz : ∀ p ∈ l.zip evs, ∃ A m c, p.2 = .slice A m c := fun p hp => by
    obtain ⟨A2, c2, e2, _⟩ := hR.zns p hp
    exact ⟨A2, _, c2, e2⟩
  have hT : Ix.Tells 57 #[.pointer (some ⟨g, 0, none⟩), .pointer (some ⟨g + 1, 0, none⟩)] Ca.ev (fun q => decide (q.1.key = k ∧ q.1.terr = t)) (l.zip evs) W0 := by
    intro W p hp hb
    obtain ⟨A2, m2, c2, e2⟩ := hzz p hp
    have := caFind1_any p.1 A2 m2 c2 g (g + 1) k t W ((hA1.call hb).cell 0 _ rfl) ((hA2.call hb).cell 0 _ rfl)
    unfold Ca.ev
    rw [e2]
    exact this.mono fun e w' h => ⟨h.1, below_then hb h.2⟩
  have hH := idx_entry (fun q => decide (q.1.key = k ∧ q.1.terr = t)) 57 #[.pointer (some ⟨g, 0, none⟩), .pointer (some ⟨g + 1, 0, none⟩)] (enters_of Tryd.func57 (by kernel_rfl) rfl) A n c (l.zip evs) W0 (by unfold maxLen; omega) hlz hr9 hzz hT
  rw [Ca.at_zip (fun e => decide (e.key = k ∧ e.terr = t)) l evs 0 hR.len] at hH
  have HH : Hid (Calls Tryd.prog 43 #[.slice A n c, .func (.func 57) #[] #[.pointer (some ⟨g, 0, none⟩), .pointer (some ⟨g + 1, 0, none⟩)]] W0 fun e w' => e = .returned (.int .i64 (Ca.at2 l k t)) ∧ Below W0.heap.size W0 w') := hH
  have HB0 := Lib.hid hB0
  have HW0 := Lib.hid hW0
  have HG := Lib.hid hg
  obtain ⟨X, hX⟩ : ∃ X, Ca.at2 l k t = X := ⟨_, rfl⟩
  rw [hX] at HH ⊢
  clear hR hl hW hB0 hA1 hA2 hR0 hr9 hc9 e91 e92 e93 hlz hzz hT hH hW0 hg hX
  go_enter Tryd.func37, Tryd.ntmps37
  go_wp2_with fail
  rw [HG.out, HW0.out]
  go_wp2_with fail
  refine HH.out.mono ?_
  rintro e w1 ⟨rfl, hb⟩
  have HB1 := Lib.hid (below_then HB0.out hb)
  clear hb
  go_wp2
  go_ret
  exact ⟨rfl, HB1.out⟩
/-- What atlas.Zones hands back. -/
def Ca.ZnRet (r : List ByteArray × Int) (w : World) (e : Ending) (w' : World) : Prop :=
  ∃ A c, e = .returned (.tuple #[.slice A r.1.length c, .int .i64 r.2]) ∧ r.1.length ≤ c ∧ c ≤ maxLen ∧ Reads w' w'.heap.size 1 A r.1.length (r.1.map Value.string) ∧ Below w.heap.size w w'
theorem Ca.ZnRet.nil (k : Int) {w w' : World} (hb : Below w.heap.size w w') : Ca.ZnRet ([], k) w (.returned (.tuple #[.slice none 0 0, .int .i64 k])) w' :=
  ⟨none, 0, rfl, Nat.le_refl _, by unfold maxLen; omega, Reads.none_, hb⟩
/-- slices.Clone of names. -/
theorem clone_any (ad : Addr) (n c : Nat) (zs : List ByteArray) (w : World) (hl : zs.length = n) (hn : 1 ≤ n) (hbig : n ≤ 100000) (hr : Reads w w.heap.size 1 (some ad) n (zs.map Value.string)) :
    Calls Tryd.prog 38 #[.slice (some ad) n c] w fun e w' => ∃ v', e = .returned v' ∧ w'.ownsRow w.heap.size 9 1 v' n (zs.map Value.string) ∧ Below w.heap.size w w' := by
  obtain ⟨ad', e, hb, hc⟩ := hr.2 (by omega)
  cases e
  obtain ⟨b, off, sp⟩ := ad
  have h0 := hc 0 (.string (zs[0]'(by omega))) (by rw [List.getElem?_map, List.getElem?_eq_getElem (by omega)]; rfl)
  have hsp : sp = none := by
    cases sp with
    | none => rfl
    | some s =>
      exfalso
      unfold World.cell? Addr.add at h0
      rw [if_pos rfl] at h0
      split at h0
      · simp at h0
      · cases h0
  subst hsp
  have hcells : ∀ j, j < zs.length → w.cell? ⟨b, off + j, none⟩ = some (.string (zs.getD j ByteArray.empty)) := by
    intro j hj
    have h := hc j (.string (zs[j]'hj)) (by rw [List.getElem?_map, List.getElem?_eq_getElem hj]; rfl)
    rw [List.getD, List.getElem?_eq_getElem hj]
    cases j with
    | zero =>
      unfold Addr.add at h
      rw [if_pos rfl] at h
      exact h
    | succ j =>
      unfold Addr.add at h
      rw [if_neg (by omega)] at h
      exact h
  refine (Tryd.slices_Clone_string b off n c zs w (by omega) (by omega) hcells).mono ?_
  rintro e w' ⟨v, rfl, ho, _, hb'⟩
  rw [List.take_of_length_le (by omega)] at ho
  exact ⟨v, rfl, ho, hb'⟩
set_option maxHeartbeats 2000000 in
set_option maxRecDepth 100000 in
theorem caZones_any (l : List Ca.E) (A : Option Addr) (n c : Nat) (evs : List Value) (k t : ByteArray) (w : World) (hR : Ca.EntR w w.heap.size l (.slice A n c) evs) (hl : l.length = n) (hW : Ca.Wd l) :
    Calls Tryd.prog 12 #[.slice A n c, .string k, .string t] w (Ca.ZnRet (Ca.zonesA l k t) w) := by
  have HC := Lib.hid fun W (hb : Below w.heap.size w W) => caCheck_any l A n c evs W (hR.call hb) hl hW
  have HF := Lib.hid fun W (hb : Below w.heap.size w W) k t => caFind_any l A n c evs k t W (hR.call hb) hl hW
  obtain ⟨X, hX⟩ : ∃ X, Ca.chk l = X := ⟨_, rfl⟩
  have hr9 : X = 0 → ∀ e ∈ l, 1 ≤ e.zones.length ∧ e.zones.length ≤ 32 := by
    intro h e he
    have h2 := (Ca.chk_parts (hX.trans h)).1 e he
    unfold Ca.right at h2
    simp only [Bool.and_eq_true, decide_eq_true_eq] at h2
    exact h2.1.2
  have HZn := Lib.hid hr9
  have HR := Lib.hid hR
  have HL := Lib.hid hl
  have HB0 := Lib.hid (Below.refl w.heap.size w)
  obtain ⟨Z, hZ⟩ : ∃ Z, Ca.zonesA l k t = Z := ⟨_, rfl⟩
  rw [hZ]
  unfold Ca.zonesA at hZ
  rw [hX] at HC hZ
  have c1 := Ca.at2_cases l k t
  have c2 := Ca.at2_cases l k Ca.world
  obtain ⟨i1, hi1⟩ : ∃ i, Ca.at2 l k t = i := ⟨_, rfl⟩
  obtain ⟨i2, hi2⟩ : ∃ i, Ca.at2 l k Ca.world = i := ⟨_, rfl⟩
  rw [hi1] at c1
  rw [hi2] at c2
  have HF1 : Hid (∀ W, Below w.heap.size w W → Calls Tryd.prog 37 #[.slice A n c, .string k, .string t] W fun e w' => e = .returned (.int .i64 i1) ∧ Below W.heap.size W w') := fun W hb => by have := HF.out W hb k t; rw [hi1] at this; exact this
  have HF2 : Hid (∀ W, Below w.heap.size w W → Calls Tryd.prog 37 #[.slice A n c, .string k, .string ⟨#[48, 48, 49]⟩] W fun e w' => e = .returned (.int .i64 i2) ∧ Below W.heap.size W w') := fun W hb => by have := HF.out W hb k Ca.world; rw [hi2] at this; exact this
  have HZ := Lib.hid hZ
  clear hR hl hW hX hr9 hZ hi1 hi2 HF
  go_enter Tryd.func12, Tryd.ntmps12
  go_wp2_with fail
  refine (HC.out _ HB0.out).mono ?_
  rintro e w1 ⟨rfl, hb⟩
  have HB1 := Lib.hid hb
  clear hb
  by_cases hX0 : X = 0
  · have HZn2 := Lib.hid (HZn.out hX0)
    subst hX0
    have hZ2 := HZ.out
    rw [if_pos rfl] at hZ2
    have HZ2 := Lib.hid hZ2
    clear hZ2 HZ HZn
    go_wp2_with fail
    refine (HF1.out _ HB1.out).mono ?_
    rintro e w2 ⟨rfl, hb⟩
    have HB2 := Lib.hid (below_then HB1.out hb)
    clear hb
    rcases c1 with ⟨hf1, hi1⟩ | ⟨j, y, hj, hf1, hi1⟩
    · subst hi1
      go_wp2_with fail
      refine (HF2.out _ HB2.out).mono ?_
      rintro e w3 ⟨rfl, hb⟩
      have HB3 := Lib.hid (below_then HB2.out hb)
      clear hb
      rcases c2 with ⟨hf2, hi2⟩ | ⟨j, y, hj, hf2, hi2⟩
      · subst hi2
        have HE : Hid (Z = ([], 3)) := by
          show Z = _
          rw [← HZ2.out, hf1, hf2]
        clear hf1 hf2
        go_wp2
        go_ret2
        rw [HE.out]
        exact Ca.ZnRet.nil 3 HB3.out
      · have HE : Hid (Z = (y.zones, 0)) := by
          show Z = _
          rw [← HZ2.out, hf1, hf2]
        subst hi2
        have hyz := HZn2.out y (List.mem_of_getElem? hj)
        obtain ⟨ad, x, zA, m, zc, rfl, hab, Hx, d0, d1, d2, HZl, hz1, hz2, HZr, HEv⟩ := (HR.out.call HB3.out).at_ HL.out (show j < n by rw [← HL.out]; exact (List.getElem?_eq_some_iff.1 hj).1)
        have hxe : x = y := Option.some.inj (Hx.out.symm.trans hj)
        have q5 : (0 : Int) ≤ (j : Int) := by omega
        have q6 : (j : Int) < (n : Int) := by rw [← HL.out]; have := (List.getElem?_eq_some_iff.1 hj).1; omega
        have q7 : ¬ (j : Int) < 0 := by omega
        subst hxe
        obtain ⟨ad2, rfl, _, _⟩ := HZr.out.2 (by have := HZl.out; omega)
        have HCl := Lib.hid (clone_any ad2 m zc x.zones _ HZl.out (by have := HZl.out; omega) (by have := HZl.out; omega) HZr.out)
        clear hj hyz HZ2 HZn2 HEv HZr Hx d0 d1 hf1
        go_wp2_with fail
        refine HCl.out.mono ?_
        rintro e w9 ⟨v9, rfl, ho, hb⟩
        obtain ⟨A9, c9, rfl, h91, h92⟩ := own_slice_cap ho
        have HB9 := Lib.hid (below_then HB3.out hb)
        have HO9 := Lib.hid (Reads.of_own ho)
        clear hb ho HCl
        go_wp2
        go_ret2
        rw [HE.out]
        have hzl : x.zones.length = m := HZl.out
        show Ca.ZnRet (x.zones, 0) w _ _
        refine ⟨A9, c9, ?_, ?_, h92, ?_, HB9.out⟩
        · simp only [hzl]
          rfl
        · simp only [hzl]; exact h91
        · simp only [hzl]; exact HO9.out
    · have HE : Hid (Z = (y.zones, 0)) := by
        show Z = _
        rw [← HZ2.out, hf1]
      subst hi1
      have hyz := HZn2.out y (List.mem_of_getElem? hj)
      obtain ⟨ad, x, zA, m, zc, rfl, hab, Hx, d0, d1, d2, HZl, hz1, hz2, HZr, HEv⟩ := (HR.out.call HB2.out).at_ HL.out (show j < n by rw [← HL.out]; exact (List.getElem?_eq_some_iff.1 hj).1)
      have hxe : x = y := Option.some.inj (Hx.out.symm.trans hj)
      have q5 : (0 : Int) ≤ (j : Int) := by omega
      have q6 : (j : Int) < (n : Int) := by rw [← HL.out]; have := (List.getElem?_eq_some_iff.1 hj).1; omega
      have q7 : ¬ (j : Int) < 0 := by omega
      subst hxe
      obtain ⟨ad2, rfl, _, _⟩ := HZr.out.2 (by have := HZl.out; omega)
      have HCl := Lib.hid (clone_any ad2 m zc x.zones _ HZl.out (by have := HZl.out; omega) (by have := HZl.out; omega) HZr.out)
      clear hj hyz HZ2 HZn2 HEv HZr Hx d0 d1 hf1
      go_wp2_with fail
      refine HCl.out.mono ?_
      rintro e w9 ⟨v9, rfl, ho, hb⟩
      obtain ⟨A9, c9, rfl, h91, h92⟩ := own_slice_cap ho
      have HB9 := Lib.hid (below_then HB2.out hb)
      have HO9 := Lib.hid (Reads.of_own ho)
      clear hb ho HCl
      go_wp2
      go_ret2
      rw [HE.out]
      have hzl : x.zones.length = m := HZl.out
      show Ca.ZnRet (x.zones, 0) w _ _
      refine ⟨A9, c9, ?_, ?_, h92, ?_, HB9.out⟩
      · simp only [hzl]
        rfl
      · simp only [hzl]; exact h91
      · simp only [hzl]; exact HO9.out
  · have qx : (X != 0) = true := by simpa using hX0
    have HE : Hid (Z = ([], X)) := by
      show Z = _
      rw [← HZ.out, if_neg hX0]
    clear HZ HZn
    go_wp2
    go_ret2
    rw [HE.out]
    exact Ca.ZnRet.nil X HB1.out
end Go.Proofs.YtajcgoinhpengaaDoor

/- atlas.Default and chart.Keys. -/
namespace Go.Proofs.YtajcgoinhpengaaDoor
open Go.RowKit

theorem add_zero (ad : Addr) : ad.add 0 = ad := by unfold Addr.add; rw [if_pos rfl]
set_option maxHeartbeats 2000000 in
set_option maxRecDepth 100000 in
theorem caDef_any (l : List Ca.E) (A : Option Addr) (n c : Nat) (evs : List Value) (k : ByteArray) (w : World) (hR : Ca.EntR w w.heap.size l (.slice A n c) evs) (hl : l.length = n) (hW : Ca.Wd l) :
    Calls Tryd.prog 13 #[.slice A n c, .string k] w fun e w' => e = .returned (.tuple #[.string (Ca.defA l k).1, .int .i64 (Ca.defA l k).2]) ∧ Below w.heap.size w w' := by
  have HC := Lib.hid fun W (hb : Below w.heap.size w W) => caCheck_any l A n c evs W (hR.call hb) hl hW
  have HF := Lib.hid fun W (hb : Below w.heap.size w W) k t => caFind_any l A n c evs k t W (hR.call hb) hl hW
  obtain ⟨X, hX⟩ : ∃ X, Ca.chk l = X := ⟨_, rfl⟩
  have hr9 : X = 0 → ∀ e ∈ l, 1 ≤ e.zones.length := fun h e he => Ca.zones_ne ((Ca.chk_parts (hX.trans h)).1 e he)
  have HZn := Lib.hid hr9
  have HR := Lib.hid hR
  have HL := Lib.hid hl
  have HB0 := Lib.hid (Below.refl w.heap.size w)
  obtain ⟨Z, hZ⟩ : ∃ Z, Ca.defA l k = Z := ⟨_, rfl⟩
  rw [hZ]
  unfold Ca.defA at hZ
  rw [hX] at HC hZ
  have c2 := Ca.at2_cases l k Ca.world
  obtain ⟨i2, hi2⟩ : ∃ i, Ca.at2 l k Ca.world = i := ⟨_, rfl⟩
  rw [hi2] at c2
  have HF2 : Hid (∀ W, Below w.heap.size w W → Calls Tryd.prog 37 #[.slice A n c, .string k, .string ⟨#[48, 48, 49]⟩] W fun e w' => e = .returned (.int .i64 i2) ∧ Below W.heap.size W w') := fun W hb => by have := HF.out W hb k Ca.world; rw [hi2] at this; exact this
  have HZ := Lib.hid hZ
  clear hR hl hW hX hr9 hZ hi2 HF
  go_enter Tryd.func13, Tryd.ntmps13
  go_wp2_with fail
  refine (HC.out _ HB0.out).mono ?_
  rintro e w1 ⟨rfl, hb⟩
  have HB1 := Lib.hid hb
  clear hb
  by_cases hX0 : X = 0
  · have HZn2 := Lib.hid (HZn.out hX0)
    subst hX0
    have hZ2 := HZ.out
    rw [if_pos rfl] at hZ2
    have HZ2 := Lib.hid hZ2
    clear hZ2 HZ HZn
    go_wp2_with fail
    refine (HF2.out _ HB1.out).mono ?_
    rintro e w2 ⟨rfl, hb⟩
    have HB2 := Lib.hid (below_then HB1.out hb)
    clear hb
    rcases c2 with ⟨hf2, hi2⟩ | ⟨j, y, hj, hf2, hi2⟩
    · subst hi2
      have HE : Hid (Z = (⟨#[]⟩, 3)) := by
        show Z = _
        rw [← HZ2.out, hf2]
      clear hf2
      go_wp2
      go_ret2
      exact ⟨by rw [HE.out]; rfl, HB2.out⟩
    · subst hi2
      have hyz := HZn2.out y (List.mem_of_getElem? hj)
      obtain ⟨ad, x, zA, m, zc, rfl, hab, Hx, d0, d1, d2, HZl, hz1, hz2, HZr, HEv⟩ := (HR.out.call HB2.out).at_ HL.out (show j < n by rw [← HL.out]; exact (List.getElem?_eq_some_iff.1 hj).1)
      have hxe : x = y := Option.some.inj (Hx.out.symm.trans hj)
      have q5 : (0 : Int) ≤ (j : Int) := by omega
      have q6 : (j : Int) < (n : Int) := by rw [← HL.out]; have := (List.getElem?_eq_some_iff.1 hj).1; omega
      have q7 : ¬ (j : Int) < 0 := by omega
      subst hxe
      have hm1 : 0 < m := by have := HZl.out; omega
      have q8 : (0 : Int) < (m : Int) := by omega
      obtain ⟨ad2, z, rfl, Hz, hcell⟩ : ∃ ad2 nm, zA = some ad2 ∧ Hid (x.zones[0]? = some nm) ∧ w2.cell? (ad2.add 0) = some (.string nm) := reads_str HZr.out hm1
      rw [add_zero] at hcell
      have HE : Hid (Z = (z, 0)) := by
        show Z = _
        rw [← HZ2.out, hf2]
        simp only
        rw [List.getD, Hz.out]
        rfl
      clear hj hyz HZ2 HZn2 HEv HZr Hx hf2 hm1 HZl Hz
      go_wp2
      go_ret2
      exact ⟨by rw [HE.out]; rfl, HB2.out⟩
  · have qx : (X != 0) = true := by simpa using hX0
    have HE : Hid (Z = (⟨#[]⟩, X)) := by
      show Z = _
      rw [← HZ.out, if_neg hX0]
    clear HZ HZn
    go_wp2
    go_ret2
    exact ⟨by rw [HE.out]; rfl, HB1.out⟩
namespace Ca
theorem keys_next {l : List E} {k : Nat} {x : E} (h : l[k]? = some x) : keys (l.take (k + 1)) = keyStep (keys (l.take k)) x := by
  unfold keys
  rw [take_next h, List.foldl_append]
  rfl
theorem keys_len (l : List E) : (keys l).length ≤ l.length := by
  unfold keys
  have h : ∀ (l : List E) (a : List ByteArray), (l.foldl keyStep a).length ≤ a.length + l.length := by
    intro l
    induction l with
    | nil => intro a; simp
    | cons x l ih =>
      intro a
      rw [List.foldl_cons, List.length_cons]
      refine Nat.le_trans (ih _) ?_
      unfold keyStep
      split
      · omega
      · rw [List.length_append, List.length_singleton]; omega
  simpa using h l []
end Ca
set_option maxHeartbeats 2000000 in
set_option maxRecDepth 100000 in
theorem caKeys_any (l : List Ca.E) (A : Option Addr) (n c : Nat) (evs : List Value) (w : World) (hR : Ca.EntR w w.heap.size l (.slice A n c) evs) (hl : l.length = n) (hW : Ca.Wd l) :
    Calls Tryd.prog 11 #[.slice A n c] w fun e w' => (∃ v, e = .returned v ∧ w'.ownsRow w.heap.size 9 1 v (Ca.keys l).length ((Ca.keys l).map Value.string)) ∧ Below w.heap.size w w' := by
  have hn : n ≤ 4096 := by rw [← hl]; exact hW.n
  obtain ⟨bm, hbm⟩ : ∃ b, w.heap.size = b := ⟨_, rfl⟩
  obtain ⟨W0, hW0⟩ : ∃ W, w.alloc (.map #[] 0) = W := ⟨_, rfl⟩
  have hB0 : Below w.heap.size w W0 := by rw [← hW0]; exact bal1 _ _
  have hM0 : MapF Tryd.prog 9 W0 bm 0 (Ca.sf []) := by
    rw [← hW0, ← hbm]
    exact MapF.made w
  obtain ⟨i0, hi0, hz0, hz1, hz2⟩ := info_parts str_info
  have HI := Lib.hid (And.intro hi0 (And.intro hz0 (And.intro hz1 hz2)))
  have HR := Lib.hid hR
  have HL := Lib.hid hl
  have HW := Lib.hid hW
  have HB0 := Lib.hid hB0
  have HM0 := Lib.hid hM0
  have HBm := Lib.hid hbm
  have HW0 := Lib.hid hW0
  clear hR hl hW hB0 hM0 hbm hW0 hi0 hz0 hz1 hz2
  have hmk := make_set (n : Int)
  go_enter Tryd.func11, Tryd.ntmps11
  go_wp2_with fail
  rw [HW0.out, HBm.out]
  go_loopw [4, 14] (fun v i wr => ∃ k : Nat, k ≤ n ∧ i = .int .i64 (k : Int) ∧ Hid (Below w.heap.size w wr) ∧ Hid (MapF Tryd.prog 9 wr bm k (Ca.sf (Ca.keys (l.take k)))) ∧ Hid (wr.ownsRow (bm + 1) 9 1 v (Ca.keys (l.take k)).length ((Ca.keys (l.take k)).map Value.string)))
    (fun _ i _ => n - (intOf i).toNat)
  case atStart => exact ⟨0, Nat.zero_le _, rfl, HB0.out, HM0.out, World.ownsRow_nil _ _ _ _⟩
  case round =>
    clear hmk
    obtain ⟨k, hk, rfl, HB, HM, HO⟩ := hrel
    by_cases hlt : k < n
    · have q1 : (0 : Int) ≤ (k : Int) := by omega
      have q2 : (k : Int) < (n : Int) := by omega
      obtain ⟨ad, x, zA, m, zc, rfl, hab, Hx, c0, c1, c2, HZl, hz1, hz2, HZr, HEv⟩ := (HR.out.below HB.out).at_ HL.out hlt
      obtain ⟨h1, h2, h3⟩ := HW.out.all x (List.mem_of_getElem? Hx.out)
      have hkm : k < maxLen := by unfold maxLen; omega
      have HT := Lib.hid (Ca.keys_next Hx.out)
      obtain ⟨kx, hkx⟩ : ∃ t, x.key = t := ⟨_, rfl⟩
      rw [hkx] at h1 c0
      obtain ⟨K, hK⟩ : ∃ K, Ca.keys (l.take k) = K := ⟨_, rfl⟩
      have hKl : K.length ≤ k := by
        rw [← hK]
        refine Nat.le_trans (Ca.keys_len _) ?_
        rw [List.length_take]
        omega
      have hT := HT.out
      unfold Ca.keyStep at hT
      rw [hK, hkx] at hT
      rw [hK] at HM HO
      clear h3 h2 HZl HZr HEv HT
      by_cases hin : kx ∈ K
      · have hq := Ca.has_iff.2 hin
        rw [if_pos hq] at hT
        have HT := Lib.hid hT
        have HBe := Lib.hid (bal (bal HB.out (.cells #[.string kx, .string x.terr, .slice zA m zc] 45)) (.cells #[] 85))
        have HMe := Lib.hid ((HM.out.alloc (.cells #[.string kx, .string x.terr, .slice zA m zc] 45)).alloc (.cells #[] 85))
        have HOe := Lib.hid ((HO.out.alloc (.cells #[.string kx, .string x.terr, .slice zA m zc] 45)).alloc (.cells #[] 85))
        clear hin hT hK hkx
        go_wp2_with (at_lookup; refine look_set _ rfl _ _ bm k _ kx h1 rfl rfl rfl (HM.out.alloc _) true hq ?_)
        go_roundw
        case rel => exact ⟨k + 1, by omega, by go_num, HBe.out, by show MapF _ _ _ _ _ _; rw [HT.out]; exact HMe.out.more (Nat.le_succ k), by show World.ownsRow _ _ _ _ _ _ _; rw [HT.out]; exact HOe.out⟩
        case measure => simp [intOf]; omega
      · have hq := Ca.has_not hin
        rw [if_neg (fun h => hin (Ca.has_iff.1 h))] at hT
        have HT := Lib.hid hT
        have HBe := Lib.hid (bal (bal HB.out (.cells #[.string kx, .string x.terr, .slice zA m zc] 45)) (.cells #[] 85))
        have HMe := Lib.hid ((HM.out.alloc (.cells #[.string kx, .string x.terr, .slice zA m zc] 45)).alloc (.cells #[] 85))
        have HOe := Lib.hid ((HO.out.alloc (.cells #[.string kx, .string x.terr, .slice zA m zc] 45)).alloc (.cells #[] 85))
        have HAe := Lib.hid ((At.new wr #[.string kx, .string x.terr, .slice zA m zc] 45).allocO (.cells #[] 85))
        have hbs := HM.out.lt
        obtain ⟨vA, vc, rfl, _⟩ := own_slice HO.out
        clear hin hT hK hkx
        have HAp := Lib.hid fun (W : World) (hO : W.ownsRow (bm + 1) 9 1 (.slice vA K.length vc) K.length (K.map Value.string)) (hW : Below w.heap.size w W) {ops : Array Oper} {rest : List Oper} {o : Oper} {a : Act} {Q : Exit → Act → World → Prop} (hgd : o.guard = none) (ho : o.op = .call { callee := .builtin .append, args := #[.tmp 31, .tmp 34], argTypes := #[34, 34] }) (hs : a.eval (.tmp 31) = .slice vA K.length vc) (hx : a.eval (.tmp 34) = .slice (some ⟨W.heap.size, 0, none⟩) 1 1) h => wpList_append_any (P := Tryd.prog) (ops := ops) (rest := rest) (o := o) (a := a) (Q := Q) (W.alloc (.cells #[.string kx] 9)) hgd (.tmp 31) (.tmp 34) 34 ho (bm + 1) 9 i0 _ 1 16 Tryd.underlying34 HI.out.1 HI.out.2.1 HI.out.2.2.1 HI.out.2.2.2 rfl (by decide) _ K.length _ hs (hO.alloc _) _ _ 1 1 _ hx (reads_one W kx 9) (by intro u hu; simp only [List.map_cons, List.map_nil, List.mem_singleton] at hu; subst hu; rfl) (by unfold maxLen; omega) (by omega) (by rw [World.size_alloc]; have := hW.size; have := HBm.out; omega) h
        go_wp2_with (first | (at_lookup; refine look_set _ rfl _ _ bm k _ kx h1 rfl rfl rfl (HM.out.alloc _) false hq ?_) | (at_mapUpdate; refine store_set _ rfl _ _ _ bm k _ kx h1 hkm rfl rfl rfl rfl HMe.out ?_; intro w3 hM3 hg3; have HM3 := Lib.hid hM3; have HB3 := Lib.hid (HBe.out.grown hg3 HBe.out.size (fun j e => by cases e; exact Nat.le_of_eq HBm.out)); have HO3 := Lib.hid (HOe.out.kept hg3 (.inr (fun e => by have := (HOe.out.lt bm e).1; omega))); have a0 := (Sc.At.grownO HAe.out hg3 (fun j e => by cases e; omega)).cell 0 _ rfl; clear hM3 hg3) | (at_builtin; refine HAp.out _ HO3.out HB3.out rfl rfl rfl rfl ?_; intro v9 w9 hown9 hg9 hat9))
        have HB9 := Lib.hid ((bal HB3.out (.cells #[.string kx] 9)).grown hg9 (bal HB3.out (.cells #[.string kx] 9)).size (fun j e => by have := (HO3.out.lt j e).1; have := HBm.out; omega))
        have HM9 := Lib.hid ((HM3.out.alloc (.cells #[.string kx] 9)).kept hg9 (fun e => by have := (HO3.out.lt bm e.symm).1; omega))
        have HO9 := Lib.hid hown9
        clear hown9 hg9 hat9 HAp a0
        go_wp2
        go_roundw
        case rel => exact ⟨k + 1, by omega, by go_num, HB9.out, by show MapF _ _ _ _ _ _; rw [HT.out]; exact HM9.out, by show World.ownsRow _ _ _ _ _ _ _; rw [HT.out, List.length_append, List.map_append]; exact HO9.out⟩
        case measure => simp [intOf]; omega
    · have p2 : ¬ (k : Int) < (n : Int) := by omega
      have HE := HO.out
      rw [List.take_of_length_le (by rw [HL.out]; omega)] at HE
      rw [← HBm.out] at HE
      have HE2 := Lib.hid (Sc.own_mono HE (Nat.le_succ _))
      go_wp2
      go_ret
      exact ⟨⟨_, rfl, HE2.out⟩, HB.out⟩
end Go.Proofs.YtajcgoinhpengaaDoor
