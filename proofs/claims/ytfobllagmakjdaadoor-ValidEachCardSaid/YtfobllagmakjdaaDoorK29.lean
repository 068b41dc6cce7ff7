/- valid.Flaws. -/
import Derived.Test.YtfobllagmakjdaaDoorK25
import Derived.Test.YtfobllagmakjdaaDoorK28
import Derived.Deep.QuietTactic
import Derived.BigQuiet
namespace Go.Proofs.YtfobllagmakjdaaDoor
open Go.RowKit

namespace Vd
/-- A source of which flaws are told. -/
structure Sz (s : Src.S) : Prop where
  lims : Src.Lims s
  eras : ∀ z ∈ s.zones, z.2.length ≤ 100
  smw : Src.SmW s
theorem Sz.nm {s : Src.S} (h : Sz s) : Lk.Nm s := ⟨by have := h.lims.zones; omega, by have := h.lims.links; omega, fun z hz => (h.smw.zones z hz).1, h.smw.links⟩
theorem Sz.names {s : Src.S} (h : Sz s) : ∀ x ∈ Src.names s, x.size ≤ maxLen := by
  intro x hx
  unfold Src.names at hx
  rcases List.mem_append.1 hx with hx | hx
  · exact h.nm.zn x hx
  · exact h.nm.ln x hx
theorem Sz.rn {s : Src.S} (h : Sz s) : ∀ x ∈ Vd.rn s, x.size ≤ maxLen := by
  intro x hx
  unfold Vd.rn at hx
  obtain ⟨r, hr, rfl⟩ := List.mem_map.1 hx
  exact (h.smw.rules r hr).1
theorem Sz.er {s : Src.S} (h : Sz s) : ∀ z ∈ s.zones, ∀ e ∈ z.2, e.ru.size ≤ maxLen := fun z hz e he => ((h.smw.zones z hz).2 e he).2
/-- The flaws of a source. -/
noncomputable def fA (s : Src.S) : List Fl := tw (Src.names s)
noncomputable def fB (s : Src.S) : List Fl := fA s ++ s.zones.flatMap (mz s)
noncomputable def fC (s : Src.S) : List Fl := fB s ++ s.zones.flatMap dz
noncomputable def flaws (s : Src.S) : List Fl := fC s ++ (asl s s.links).2
theorem fA_len {s : Src.S} (h : Sz s) : (fA s).length ≤ 6000 := by
  have h1 := tw_le (Src.names s) (Src.names s).length
  have h2 : (Src.names s).length = s.zones.length + s.links.length := by simp [Src.names, Src.zoneNames, Src.linkNames]
  have := h.lims.zones
  have := h.lims.links
  unfold fA tw
  omega
theorem fB_len {s : Src.S} (h : Sz s) : (fB s).length ≤ 110000 := by
  have h1 := fA_len h
  have h2 := flat_len (mz s) 100 s.zones (fun z hz => Nat.le_trans (flat_len (ms (Vd.rn s)) 1 z.2 (fun e _ => ms_le _ e)) (by have := h.eras z hz; omega))
  have := h.lims.zones
  unfold fB
  rw [List.length_append]
  omega
theorem fC_len {s : Src.S} (h : Sz s) : (fC s).length ≤ 220000 := by
  have h1 := fB_len h
  have h2 := flat_len dz 100 s.zones (fun z hz => Nat.le_trans (ds_len _ z.2 _) (by have := h.eras z hz; simpa using this))
  have := h.lims.zones
  unfold fC
  rw [List.length_append]
  omega
end Vd
set_option maxHeartbeats 4000000 in
set_option maxRecDepth 100000 in
theorem vdFlaws_any (s : Src.S) (rv zv lv : Value) (evs : List Value) (w : World) (hR : Src.SrcR w w.heap.size s rv zv lv evs) (hS : Vd.Sz s) (hW : Wo w) :
    Calls Tryd.prog 12 #[.agg #[rv, zv, lv]] w fun e w' => ∃ v, e = .returned v ∧ Below w.heap.size w w' ∧ w'.ownsRow w.heap.size 57 2 v (Vd.flaws s).length (Vd.cells (Vd.flaws s)) := by
  obtain ⟨rA, rc, rfl, _⟩ := hR.rules
  obtain ⟨zA, zc, rfl, _⟩ := hR.zones
  obtain ⟨lA, lc, rfl, _⟩ := hR.links
  obtain ⟨n1, hn1⟩ : ∃ n, s.rules.length = n := ⟨_, rfl⟩
  obtain ⟨n2, hn2⟩ : ∃ n, s.zones.length = n := ⟨_, rfl⟩
  obtain ⟨n3, hn3⟩ : ∃ n, s.links.length = n := ⟨_, rfl⟩
  rw [hn1, hn2, hn3] at hR ⊢
  obtain ⟨B, hBb⟩ : ∃ B, w.heap.size = B := ⟨_, rfl⟩
  have hb0 := ((Below.refl w.heap.size w).alloc (Nat.le_refl _) (.cells #[.slice rA n1 rc, .slice zA n2 zc, .slice lA n3 lc] 26)).alloc (by simp) (.cells #[.slice rA n1 rc, .slice zA n2 zc, .slice lA n3 lc, .slice none 0 0] 74)
  have hA0 := At.new (w.alloc (.cells #[.slice rA n1 rc, .slice zA n2 zc, .slice lA n3 lc] 26)) #[.slice rA n1 rc, .slice zA n2 zc, .slice lA n3 lc, .slice none 0 0] 74
  rw [World.size_alloc] at hA0
  obtain ⟨b0, b1, b2, _⟩ := (At.new w #[.slice rA n1 rc, .slice zA n2 zc, .slice lA n3 lc] 26).three
  rw [hBb] at hR hb0 hA0
  obtain ⟨W0, hW0⟩ : ∃ W, ((w.alloc (.cells #[.slice rA n1 rc, .slice zA n2 zc, .slice lA n3 lc] 26)).alloc (.cells #[.slice rA n1 rc, .slice zA n2 zc, .slice lA n3 lc, .slice none 0 0] 74)) = W := ⟨_, rfl⟩
  rw [hW0] at hb0 hA0
  have hF0 : Vd.Fd (.slice rA n1 rc) (.slice zA n2 zc) (.slice lA n3 lc) B (B + 1) [] (.slice none 0 0) W0 := ⟨hA0, World.ownsRow_nil _ _ _ _, fun e => by cases e⟩
  have hR0 := hR.below hb0
  have hw0 : Vd.WoB B W0 := fun W hb => hW.below (by rw [hBb]; exact hb0.trans hb)
  have hvb0 := hF0.base
  have hgl : B ≤ W0.heap.size := by have := hA0.lt; omega
  have HC1 := Lib.hid (vdTwice_any s _ _ _ _ evs B (B + 1) [] W0 hF0 hR0 (by omega) hS.lims hS.names (by simp))
  have HK : Hid (∀ v W, Vd.Kp (B + 1) (.slice none 0 0) v W0 W → Below B W0 W ∧ Src.SrcR W B s (.slice rA n1 rc) (.slice zA n2 zc) (.slice lA n3 lc) evs ∧ Vd.WoB B W) := fun v W h => by
    have hb := h.base (by omega) hvb0 hgl
    exact ⟨hb, hR0.below hb, hw0.then_ hb⟩
  have HS := Lib.hid hS
  have HB0 := Lib.hid hb0
  have HA := Lib.hid hA0
  have HW0 := Lib.hid hW0
  have HBb := Lib.hid hBb
  clear hR hb0 hA0 hF0 hR0 hw0 hvb0 hS hn1 hn2 hn3 hW hW0 hBb
  go_enter Tryd.func12, Tryd.ntmps12
  go_wp2_with fail
  clear b0 b1 b2
  rw [HW0.out, HBb.out]
  refine HC1.out.mono ?_
  rintro e w1 ⟨⟨x1, rfl⟩, v1, hF1, hK1⟩
  obtain ⟨hb1, hR1, hw1⟩ := HK.out _ _ hK1
  have HC2 := Lib.hid (vdMissing_any s _ _ _ _ evs B (B + 1) _ w1 hF1 hR1 (by omega) HS.out.lims HS.out.eras HS.out.rn HS.out.er (by have := Vd.fA_len HS.out; unfold Vd.fA at this; simp only [List.nil_append]; omega))
  have HK1 := Lib.hid hK1
  clear hb1 hR1 hw1 hF1 hK1
  go_wp2_with fail
  refine HC2.out.mono ?_
  rintro e w2 ⟨⟨x2, rfl⟩, v2, hF2, hK2⟩
  replace hK2 := HK1.out.trans hK2
  obtain ⟨hb2, hR2, hw2⟩ := HK.out _ _ hK2
  have HC3 := Lib.hid (vdDisorder_any s _ _ _ _ evs B (B + 1) _ w2 hF2 hR2 (by omega) HS.out.lims HS.out.eras (by have := Vd.fB_len HS.out; unfold Vd.fB Vd.fA at this; simp only [List.nil_append]; omega) hw2)
  have HK2 := Lib.hid hK2
  clear hb2 hR2 hw2 hF2 hK2
  go_wp2_with fail
  refine HC3.out.mono ?_
  rintro e w3 ⟨⟨x3, rfl⟩, v3, hF3, hK3⟩
  replace hK3 := HK2.out.trans hK3
  obtain ⟨hb3, hR3, hw3⟩ := HK.out _ _ hK3
  have HC4 := Lib.hid (vdAstray_any s _ _ _ _ evs B (B + 1) _ w3 hF3 hR3 (by omega) HS.out.lims HS.out.nm (by have := Vd.fC_len HS.out; unfold Vd.fC Vd.fB Vd.fA at this; simp only [List.nil_append]; omega))
  have HK3 := Lib.hid hK3
  clear hb3 hR3 hw3 hF3 hK3
  go_wp2_with fail
  refine HC4.out.mono ?_
  rintro e w4 ⟨⟨x4, rfl⟩, v4, hF4, hK4⟩
  replace hK4 := HK3.out.trans hK4
  obtain ⟨hb4, hR4, hw4⟩ := HK.out _ _ hK4
  have a3 := hF4.at_.cell 3 _ rfl
  have HE : Hid (Below w.heap.size w w4 ∧ w4.ownsRow w.heap.size 57 2 v4 (Vd.flaws s).length (Vd.cells (Vd.flaws s))) := by
    show _ ∧ _
    rw [HBb.out]
    exact ⟨HB0.out.trans hb4, hF4.row⟩
  obtain ⟨nn, hnn⟩ : ∃ n, (Vd.flaws s).length = n := ⟨_, rfl⟩
  have hrow : w4.ownsRow B 57 2 v4 nn (Vd.cells (Vd.flaws s)) := by rw [← hnn]; exact hF4.row
  obtain ⟨A4, c4, rfl, _⟩ := own_slice hrow
  clear hnn hrow
  clear hb4 hR4 hw4 hF4 hK4
  go_wp2
  go_ret
  refine ⟨_, ?_, HE.out⟩
  rfl
/-- Whether a source is well. -/
noncomputable def Vd.well (s : Src.S) : Bool := Src.srcB s && ((Vd.flaws s).length == 0)
set_option maxHeartbeats 4000000 in
set_option maxRecDepth 100000 in
theorem vdWell_any (s : Src.S) (rv zv lv : Value) (evs : List Value) (w : World) (hR : Src.SrcR w w.heap.size s rv zv lv evs) (hS : Vd.Sz s) (hW : Wo w) (hA : Wa w) :
    Calls Tryd.prog 6 #[.agg #[rv, zv, lv]] w fun e w' => e = .returned (.bool (Vd.well s)) ∧ Below w.heap.size w w' := by
  obtain ⟨rA, rc, rfl, _⟩ := hR.rules
  obtain ⟨zA, zc, rfl, _⟩ := hR.zones
  obtain ⟨lA, lc, rfl, _⟩ := hR.links
  obtain ⟨n1, hn1⟩ : ∃ n, s.rules.length = n := ⟨_, rfl⟩
  obtain ⟨n2, hn2⟩ : ∃ n, s.zones.length = n := ⟨_, rfl⟩
  obtain ⟨n3, hn3⟩ : ∃ n, s.links.length = n := ⟨_, rfl⟩
  rw [hn1, hn2, hn3] at hR ⊢
  have hb0 := (Below.refl w.heap.size w).alloc (Nat.le_refl _) (.cells #[.slice rA n1 rc, .slice zA n2 zc, .slice lA n3 lc] 26)
  have hA0 := At.new w #[.slice rA n1 rc, .slice zA n2 zc, .slice lA n3 lc] 26
  have HC := Lib.hid (srcCheck_anyW s _ _ _ evs _ (hA.below hb0) (hR.call hb0) hS.lims hS.smw)
  have HFl : Hid (∀ W, Below w.heap.size w W → _) := fun W hb => vdFlaws_any s _ _ _ evs W (hR.call hb) hS (hW.below hb)
  have HB0 := Lib.hid hb0
  have HA0 := Lib.hid hA0
  obtain ⟨b0, b1, b2, _⟩ := hA0.three
  obtain ⟨X, hX⟩ : ∃ X, Vd.well s = X := ⟨_, rfl⟩
  have HX := Lib.hid hX
  rw [hX]
  clear hR hb0 hA0 hn1 hn2 hn3 hS hW hA hX
  go_enter Tryd.func6, Tryd.ntmps6
  go_wp2_with fail
  refine HC.out.mono ?_
  rintro e w1 ⟨rfl, hb⟩
  have HB1 := Lib.hid (below_then HB0.out hb)
  obtain ⟨c0, c1, c2, _⟩ := (HA0.out.call hb).three
  have HF1 := Lib.hid (HFl.out w1 HB1.out)
  clear hb b0 b1 b2 HC HFl
  cases hs : Src.srcB s with
  | false =>
    have hx : X = false := by rw [← HX.out]; unfold Vd.well; rw [hs]; rfl
    simp only [Bool.false_eq_true, if_false]
    subst hx
    go_wp2
    go_ret
    exact ⟨rfl, HB1.out⟩
  | true =>
    have hx : X = ((Vd.flaws s).length == 0) := by rw [← HX.out]; unfold Vd.well; rw [hs]; rfl
    simp only [if_true]
    go_wp2_with fail
    refine HF1.out.mono ?_
    rintro e w2 ⟨v, rfl, hb, ho⟩
    obtain ⟨A, c, rfl, _⟩ := own_slice ho
    have HB2 := Lib.hid (below_then HB1.out hb)
    obtain ⟨n, hn⟩ : ∃ n, (Vd.flaws s).length = n := ⟨_, rfl⟩
    rw [hn] at hx ⊢
    have HXn := Lib.hid hx
    clear hb ho hn hx
    have hd : ((n : Int) == 0) = (n == 0) := by
      cases n with
      | zero => rfl
      | succ n => rw [show ((n + 1 : Nat) == 0) = false from rfl, beq_eq_false_iff_ne]; omega
    go_wp2
    go_ret
    exact ⟨ret_bool HXn.out.symm, HB2.out⟩
end Go.Proofs.YtfobllagmakjdaaDoor
/- The plain law of ValidEach: what no flaws mean, and what a rule or a zone more does. -/
namespace Go.Proofs.YtfobllagmakjdaaDoor
open Go.RowKit

namespace Vd
/-- A name that leads to a zone in n steps. -/
def Good (s : Src.S) : Nat → ByteArray → Prop
  | 0, x => x ∈ Lk.zn s
  | n + 1, x => x ∉ Lk.zn s ∧ ∃ j, Lk.first (Lk.ln s) x = some j ∧ Good s n ((Lk.tg s).getD j ⟨#[]⟩)
theorem good_one {s : Src.S} : ∀ {n m : Nat} {x : ByteArray}, Good s n x → Good s m x → n = m
  | 0, 0, _, _, _ => rfl
  | 0, m + 1, _, h, k => absurd h k.1
  | n + 1, 0, _, h, k => absurd k h.1
  | n + 1, m + 1, x, ⟨_, j, hj, h⟩, ⟨_, i, hi, k⟩ => by
    rw [hj] at hi
    cases hi
    rw [good_one h k]
theorem good_path {s : Src.S} : ∀ {n : Nat} {x : ByteArray}, Good s n x → ∃ p : List ByteArray, p.length = n ∧ p.Nodup ∧ ∀ y ∈ p, y ∈ Lk.ln s ∧ ∃ m, m ≤ n ∧ Good s m y
  | 0, _, _ => ⟨[], rfl, List.nodup_nil, fun y hy => by cases hy⟩
  | n + 1, x, h => by
    obtain ⟨hx, j, hj, hg⟩ := h
    obtain ⟨p, h1, h2, h3⟩ := good_path hg
    refine ⟨x :: p, by simp [h1], List.nodup_cons.2 ⟨fun hm => ?_, h2⟩, fun y hy => ?_⟩
    · obtain ⟨_, m, hm1, hm2⟩ := h3 x hm
      have := good_one hm2 (show Good s (n + 1) x from ⟨hx, j, hj, hg⟩)
      omega
    · rcases List.mem_cons.1 hy with rfl | hy
      · exact ⟨List.mem_of_getElem? (Lk.first_some hj), n + 1, Nat.le_refl _, hx, j, hj, hg⟩
      · obtain ⟨a, m, b, c⟩ := h3 y hy
        exact ⟨a, m, by omega, c⟩
theorem ln_len (s : Src.S) : (Lk.ln s).length = s.links.length := by unfold Lk.ln; simp
theorem good_le {s : Src.S} {n : Nat} {x : ByteArray} (h : Good s n x) : n ≤ s.links.length := by
  obtain ⟨p, h1, h2, h3⟩ := good_path h
  have := Lk.nodup_len p (Lk.ln s) h2 (fun y hy => (h3 y hy).1)
  rw [ln_len] at this
  omega
theorem find_good {s : Src.S} : ∀ (n f : Nat) (K : Lk.Kn) (x : ByteArray), Good s n x → n < f → (∀ m y, m ≤ n → Good s m y → K y = none) → (Lk.find (Lk.zn s) (Lk.ln s) (Lk.tg s) f K x).2.2 = 0
  | 0, f + 1, K, x, h, _, hK => by
    have h0 := hK 0 x (Nat.le_refl _) h
    cases hz : Lk.first (Lk.zn s) x with
    | none => exact absurd h (Lk.first_none.1 hz)
    | some i => rw [Lk.find, h0]; simp only [hz]
  | n + 1, f + 1, K, x, h, hf, hK => by
    obtain ⟨hx, j, hj, hg⟩ := h
    have hgx : Good s (n + 1) x := ⟨hx, j, hj, hg⟩
    have h0 := hK (n + 1) x (Nat.le_refl _) hgx
    have hz := Lk.first_none.2 hx
    rw [Lk.find, h0]
    simp only [hz, hj]
    refine find_good n f _ _ hg (by omega) (fun m y hm hy => ?_)
    have hne : y ≠ x := fun e => by
      rw [e] at hy
      have := good_one hy hgx
      omega
    unfold Lk.mark
    rw [if_neg hne]
    exact hK m y (by omega) hy
theorem good_find {s : Src.S} : ∀ (f : Nat) (K : Lk.Kn) (done : List ByteArray) (x : ByteArray), done.Nodup → (∀ d ∈ done, d ∈ Lk.ln s) → f + done.length = s.links.length + 1 → (∀ y ∈ done, K y = some Lk.loop) → (∀ y, y ∉ done → K y = none) →
    (Lk.find (Lk.zn s) (Lk.ln s) (Lk.tg s) f K x).2.2 = 0 → (∃ n, Good s n x) ∧ ∀ y ∈ (Lk.find (Lk.zn s) (Lk.ln s) (Lk.tg s) f K x).1, ∃ m, Good s m y
  | 0, K, done, x, hd, hl, hf, _, _, _ => by
    have := Lk.nodup_len done (Lk.ln s) hd hl
    rw [ln_len] at this
    omega
  | f + 1, K, done, x, hd, hl, hf, h1, h2, h => by
    by_cases hin : x ∈ done
    · rw [Lk.find, h1 x hin] at h
      cases h
    · have h0 := h2 x hin
      rw [Lk.find, h0] at h ⊢
      cases hz : Lk.first (Lk.zn s) x with
      | some i =>
        have hg : Good s 0 x := List.mem_of_getElem? (Lk.first_some hz)
        simp only
        exact ⟨⟨0, hg⟩, fun y hy => ⟨0, by rw [List.mem_singleton.1 hy]; exact hg⟩⟩
      | none =>
        simp only [hz] at h ⊢
        cases hj : Lk.first (Lk.ln s) x with
        | none =>
          simp only [hj] at h
          cases h
        | some j =>
          simp only [hj] at h ⊢
          have hxl : x ∈ Lk.ln s := List.mem_of_getElem? (Lk.first_some hj)
          obtain ⟨⟨n, hn⟩, hc⟩ := good_find f (Lk.mark K x Lk.loop) (x :: done) _ (List.nodup_cons.2 ⟨hin, hd⟩) (fun d hd => by
            rcases List.mem_cons.1 hd with rfl | hd
            · exact hxl
            · exact hl d hd) (by rw [List.length_cons]; omega) (fun y hy => by
            unfold Lk.mark
            by_cases e : y = x
            · rw [if_pos e]
            · rw [if_neg e]
              rcases List.mem_cons.1 hy with e2 | hy
              · exact absurd e2 e
              · exact h1 y hy) (fun y hy => by
            unfold Lk.mark
            rw [if_neg (fun e => hy (by rw [e]; exact List.mem_cons_self))]
            exact h2 y (fun q => hy (List.mem_cons_of_mem _ q))) h
          have hg : Good s (n + 1) x := ⟨Lk.first_none.1 hz, j, hj, hn⟩
          refine ⟨⟨n + 1, hg⟩, fun y hy => ?_⟩
          rcases List.mem_cons.1 hy with rfl | hy
          · exact ⟨n + 1, hg⟩
          · exact hc y hy
/-- A name leads to a zone. -/
def Leads (s : Src.S) (x : ByteArray) : Prop := ∃ n, Good s n x
theorem leads_walk {s : Src.S} {x : ByteArray} (h : Leads s x) : (Lk.walk s x).2.2 = 0 := by
  obtain ⟨n, hn⟩ := h
  exact find_good n _ _ x hn (by have := good_le hn; omega) (fun _ _ _ _ => rfl)
theorem walk_leads {s : Src.S} {x : ByteArray} (h : (Lk.walk s x).2.2 = 0) : Leads s x ∧ ∀ y ∈ (Lk.walk s x).1, Leads s y :=
  good_find (s.links.length + 1) _ [] x List.nodup_nil (fun d hd => by cases hd) (by simp) (fun y hy => by cases hy) (fun y _ => rfl) h
/-- What a memo says is true. -/
def True_ (s : Src.S) (K : Em) : Prop := ∀ x e, K x = some e → e = 0 ∧ Leads s x
theorem True_.put {s : Src.S} {K : Em} (h : True_ s K) {x : ByteArray} (hx : Leads s x) : True_ s (em K x 0) := by
  intro y e he
  unfold em at he
  split at he
  · rename_i e2
    cases he
    rw [e2]
    exact ⟨rfl, hx⟩
  · exact h y e he
theorem True_.puts {s : Src.S} : ∀ {l : List ByteArray} {K : Em}, True_ s K → (∀ x ∈ l, Leads s x) → True_ s (ems K l 0)
  | [], _, h, _ => h
  | x :: l, K, h, hl => True_.puts (K := em K x 0) (h.put (hl x (by simp))) (fun y hy => hl y (by simp [hy]))
theorem K0_true (s : Src.S) : True_ s (K0 s) := True_.puts (fun x e h => by cases h) (fun x hx => ⟨0, hx⟩)
theorem asq_true {s : Src.S} {K : Em} {T : ByteArray} (h : True_ s K) (hq : (asq s K T).1 = 0) : Leads s T ∧ True_ s (asq s K T).2 := by
  cases hK : K T with
  | some e =>
    rw [asq_some hK] at hq ⊢
    exact ⟨(h T e hK).2, h⟩
  | none =>
    rw [asq_none hK] at hq ⊢
    simp only at hq ⊢
    obtain ⟨h1, h2⟩ := walk_leads hq
    rw [hq]
    exact ⟨h1, (h.put h1).puts h2⟩
theorem asq_leads {s : Src.S} {K : Em} {T : ByteArray} (h : True_ s K) (ht : Leads s T) : (asq s K T).1 = 0 := by
  cases hK : K T with
  | some e => rw [asq_some hK]; exact (h T e hK).1
  | none => rw [asq_none hK]; exact leads_walk ht
theorem first_nodup {l : List ByteArray} {k : Nat} {x : ByteArray} (hd : l.Nodup) (h : l[k]? = some x) : Lk.first l x = some k := by
  induction l generalizing k with
  | nil => simp at h
  | cons y l ih =>
    obtain ⟨h1, h2⟩ := List.nodup_cons.1 hd
    unfold Lk.first
    cases k with
    | zero =>
      have e : y = x := by simpa using h
      rw [if_pos e]
    | succ k =>
      have hx : x ∈ l := List.mem_of_getElem? (by simpa using h)
      rw [if_neg (fun e => h1 (by rw [e]; exact hx)), ih h2 (by simpa using h)]
      rfl
/-- A link's name leads where its target does, names being unlike. -/
theorem link_leads {s : Src.S} (hn : (Src.names s).Nodup) {k : Nat} {l : Src.Txt × Src.Txt} (hk : s.links[k]? = some l) (ht : Leads s (Src.bts l.1)) : Leads s (Src.bts l.2) := by
  obtain ⟨n, hg⟩ := ht
  have h1 : (Lk.ln s)[k]? = some (Src.bts l.2) := by unfold Lk.ln; rw [List.getElem?_map, hk]; rfl
  have h2 : (Lk.tg s).getD k ⟨#[]⟩ = Src.bts l.1 := by unfold Lk.tg; rw [List.getD, List.getElem?_map, hk]; rfl
  have hn' : (Lk.zn s ++ Lk.ln s).Nodup := hn
  obtain ⟨_, hd2, hd3⟩ := List.nodup_append.1 hn'
  refine ⟨n + 1, fun hz => hd3 _ hz _ (List.mem_of_getElem? h1) rfl, k, first_nodup hd2 h1, ?_⟩
  rw [h2]
  exact hg
theorem as1_true {s : Src.S} (hn : (Src.names s).Nodup) {K : Em} {k : Nat} {l : Src.Txt × Src.Txt} (hk : s.links[k]? = some l) (h : True_ s K) (ht : Leads s (Src.bts l.1)) (fl : List Fl) : True_ s (as1 s (K, fl) l).1 ∧ (as1 s (K, fl) l).2 = fl := by
  have hq := asq_leads h ht
  obtain ⟨_, h2⟩ := asq_true h hq
  unfold as1
  simp only [hq, if_true]
  refine ⟨?_, trivial⟩
  split
  · exact h2
  · exact h2.put (link_leads hn hk ht)
theorem asl_true {s : Src.S} (hn : (Src.names s).Nodup) : ∀ k, k ≤ s.links.length → (∀ i l, i < k → s.links[i]? = some l → Leads s (Src.bts l.1)) → True_ s (asl s (s.links.take k)).1 ∧ (asl s (s.links.take k)).2 = []
  | 0, _, _ => ⟨K0_true s, rfl⟩
  | k + 1, hk, h => by
    obtain ⟨h1, h2⟩ := asl_true hn k (by omega) (fun i l hi => h i l (by omega))
    obtain ⟨l, hl⟩ : ∃ l, s.links[k]? = some l := ⟨_, List.getElem?_eq_getElem (by omega)⟩
    rw [asl_next hl]
    have := as1_true hn hl h1 (h k l (by omega) hl) (asl s (s.links.take k)).2
    rw [h2] at this
    rw [show asl s (s.links.take k) = ((asl s (s.links.take k)).1, []) from by rw [← h2]]
    exact this
theorem as1_grows (s : Src.S) (st : Em × List Fl) (l : Src.Txt × Src.Txt) (h : (as1 s st l).2 = []) : st.2 = [] ∧ (asq s st.1 (Src.bts l.1)).1 = 0 := by
  unfold as1 at h
  simp only at h
  split at h
  · rename_i e
    exact ⟨h, e⟩
  · simp at h
theorem asl_empty {s : Src.S} (hn : (Src.names s).Nodup) : ∀ k, k ≤ s.links.length → (asl s (s.links.take k)).2 = [] → True_ s (asl s (s.links.take k)).1 ∧ ∀ i l, i < k → s.links[i]? = some l → Leads s (Src.bts l.1)
  | 0, _, _ => ⟨K0_true s, fun i l hi => by omega⟩
  | k + 1, hk, h => by
    obtain ⟨l, hl⟩ : ∃ l, s.links[k]? = some l := ⟨_, List.getElem?_eq_getElem (by omega)⟩
    rw [asl_next hl] at h ⊢
    obtain ⟨h1, h2⟩ := as1_grows s _ l h
    obtain ⟨h3, h4⟩ := asl_empty hn k (by omega) h1
    have ht := (asq_true h3 h2).1
    refine ⟨(as1_true hn hl h3 ht (asl s (s.links.take k)).2).1, fun i l' hi hl' => ?_⟩
    by_cases e : i = k
    · subst e
      rw [hl] at hl'
      cases hl'
      exact ht
    · exact h4 i l' (by omega) hl'
/-- All links lead. -/
def AllLead (s : Src.S) : Prop := ∀ l ∈ s.links, Leads s (Src.bts l.1)
theorem asl_iff {s : Src.S} (hn : (Src.names s).Nodup) : (asl s s.links).2 = [] ↔ AllLead s := by
  constructor
  · intro h l hl
    obtain ⟨i, hi⟩ := List.getElem?_of_mem hl
    have := asl_empty hn s.links.length (Nat.le_refl _) (by rw [List.take_length]; exact h)
    exact this.2 i l (List.getElem?_eq_some_iff.1 hi).1 hi
  · intro h
    have := asl_true hn s.links.length (Nat.le_refl _) (fun i l _ hi => h l (List.mem_of_getElem? hi))
    rw [List.take_length] at this
    exact this.2
theorem tw_steps (l : List ByteArray) : ∀ k, k ≤ l.length → (steps (tw1 l) l k = [] ↔ (l.take k).Nodup)
  | 0, _ => by simp [steps]
  | k + 1, hk => by
    obtain ⟨x, hx⟩ : ∃ x, l[k]? = some x := ⟨_, List.getElem?_eq_getElem (by omega)⟩
    rw [steps_next hx, List.append_eq_nil_iff, tw_steps l k (by omega), List.take_add_one, hx]
    simp only [Option.toList_some]
    rw [List.nodup_append]
    by_cases hin : x ∈ l.take k
    · rw [tw1_in hin]
      constructor
      · rintro ⟨_, h⟩
        cases h
      · rintro ⟨_, _, h⟩
        exact absurd rfl (h x hin x (by simp))
    · rw [tw1_out hin]
      constructor
      · rintro ⟨h, _⟩
        refine ⟨h, by simp, fun a ha b hb e => hin ?_⟩
        rw [List.mem_singleton] at hb
        rw [← hb, ← e]
        exact ha
      · rintro ⟨h, _⟩
        exact ⟨h, rfl⟩
theorem tw_iff (l : List ByteArray) : tw l = [] ↔ l.Nodup := by
  unfold tw
  rw [tw_steps l l.length (Nat.le_refl _), List.take_length]
/-- No era is without its rules. -/
def AllRules (s : Src.S) : Prop := ∀ z ∈ s.zones, ∀ e ∈ z.2, e.k = 2 → e.ru ∈ rn s
theorem ms_iff (rn : List ByteArray) (e : Er.E) : ms rn e = [] ↔ (e.k = 2 → e.ru ∈ rn) := by
  by_cases h : e.k = 2
  · by_cases h2 : e.ru ∈ rn
    · rw [ms_there h2]; simp [h2]
    · rw [ms_yes h h2]; simp [h, h2]
  · rw [ms_kind h]; simp [h]
theorem mz_iff (s : Src.S) : s.zones.flatMap (mz s) = [] ↔ AllRules s := by
  unfold AllRules mz
  simp only [List.flatMap_eq_nil_iff, ms_iff]
/-- No zone is in disorder. -/
def AllOrder (s : Src.S) : Prop := ∀ z ∈ s.zones, dz z = []
theorem flaws_iff (s : Src.S) : flaws s = [] ↔ (Src.names s).Nodup ∧ AllRules s ∧ AllOrder s ∧ AllLead s := by
  unfold flaws fC fB fA
  rw [List.append_eq_nil_iff, List.append_eq_nil_iff, List.append_eq_nil_iff, tw_iff, mz_iff]
  constructor
  · rintro ⟨⟨⟨h1, h2⟩, h3⟩, h4⟩
    exact ⟨h1, h2, List.flatMap_eq_nil_iff.1 h3, (asl_iff h1).1 h4⟩
  · rintro ⟨h1, h2, h3, h4⟩
    exact ⟨⟨⟨h1, h2⟩, List.flatMap_eq_nil_iff.2 h3⟩, (asl_iff h1).2 h4⟩
theorem well_iff (s : Src.S) : well s = true ↔ Src.srcB s = true ∧ flaws s = [] := by
  unfold well
  simp
end Vd
end Go.Proofs.YtfobllagmakjdaaDoor
/- The plain law of ValidEach: a rule more, a zone more. -/
namespace Go.Proofs.YtfobllagmakjdaaDoor
open Go.RowKit

namespace Vd
theorem well_parts {s : Src.S} (h : well s = true) : Src.srcB s = true ∧ (Src.names s).Nodup ∧ AllRules s ∧ AllOrder s ∧ AllLead s := by
  obtain ⟨h1, h2⟩ := (well_iff s).1 h
  exact ⟨h1, (flaws_iff s).1 h2⟩
theorem well_leads {s : Src.S} (h : well s = true) : ∀ x ∈ Src.names s, Leads s x := by
  obtain ⟨_, hn, _, _, hl⟩ := well_parts h
  intro x hx
  unfold Src.names at hx
  rcases List.mem_append.1 hx with hx | hx
  · exact ⟨0, hx⟩
  · unfold Src.linkNames at hx
    obtain ⟨k, hk, rfl⟩ := List.mem_map.1 hx
    obtain ⟨i, hi⟩ := List.getElem?_of_mem hk
    exact link_leads hn hi (hl k hk)
theorem well_rules {s : Src.S} (h : well s = true) {z : Src.Txt × List Er.E} (hz : z ∈ s.zones) {e : Er.E} (he : e ∈ z.2) (hk : e.k = 2) : (Src.ofName e.ru s.rules).length ≠ 0 := by
  obtain ⟨_, _, hr, _⟩ := well_parts h
  have h1 := hr z hz e he hk
  unfold rn at h1
  obtain ⟨r, hm, hn⟩ := List.mem_map.1 h1
  intro h0
  have h2 : r ∈ Src.ofName e.ru s.rules := by
    unfold Src.ofName
    exact List.mem_filter.2 ⟨hm, by simpa using hn⟩
  rw [List.length_eq_zero_iff.1 h0] at h2
  cases h2
theorem bool_iff {a b : Bool} (h : a = true ↔ b = true) : a = b := by cases a <;> cases b <;> simp_all
/-- A rule more. -/
theorem well_rule {s : Src.S} (h : well s = true) (r : Ru.R) : well ⟨s.rules ++ [r], s.zones, s.links, s.op⟩ = r.good := by
  obtain ⟨hs, hn, hr, ho, hl⟩ := well_parts h
  refine bool_iff ?_
  rw [well_iff, flaws_iff]
  have hsb : Src.srcB ⟨s.rules ++ [r], s.zones, s.links, s.op⟩ = true ↔ r.good = true := by
    unfold Src.srcB at hs ⊢
    simp only [List.all_append, Bool.and_eq_true, List.all_cons, List.all_nil] at hs ⊢
    exact ⟨fun q => q.1.2.1, fun q => ⟨⟨hs.1, q, trivial⟩, hs.2⟩⟩
  rw [hsb]
  refine ⟨fun q => q.1, fun q => ⟨q, hn, ?_, ho, ?_⟩⟩
  · intro z hz e he hk
    have := hr z hz e he hk
    unfold rn at this ⊢
    simp only [List.map_append]
    exact List.mem_append.2 (.inl this)
  · intro l hm
    obtain ⟨n, hg⟩ := hl l hm
    exact ⟨n, good_rules n _ hg⟩
where good_rules : ∀ (n : Nat) (x : ByteArray), Good s n x → Good ⟨s.rules ++ [r], s.zones, s.links, s.op⟩ n x
  | 0, _, hg => hg
  | n + 1, _, ⟨a, j, b, c⟩ => ⟨a, j, b, good_rules n _ c⟩
/-- A zone more, of another name. -/
theorem good_zone {s : Src.S} {z : Src.Txt × List Er.E} (hz : Src.bts z.1 ∉ Src.names s) : ∀ (n : Nat) (x : ByteArray), Good s n x → Good ⟨s.rules, s.zones ++ [z], s.links, s.op⟩ n x
  | 0, x, hg => by
    show x ∈ Lk.zn _
    unfold Lk.zn
    rw [List.map_append]
    exact List.mem_append.2 (.inl hg)
  | n + 1, x, ⟨a, j, b, c⟩ => by
    refine ⟨fun hm => ?_, j, b, good_zone hz n _ c⟩
    unfold Lk.zn at hm
    rw [List.map_append] at hm
    rcases List.mem_append.1 hm with hm | hm
    · exact a hm
    · have e : x = Src.bts z.1 := by simpa using hm
      rw [e] at b
      exact hz (List.mem_append.2 (.inr (List.mem_of_getElem? (Lk.first_some b))))
theorem well_zone {s : Src.S} (h : well s = true) (z : Src.Txt × List Er.E) (hz : Src.bts z.1 ∉ Src.names s) (o : Bool) : well ⟨s.rules, s.zones ++ [z], s.links, s.op⟩ = well ⟨s.rules, [z], [], o⟩ := by
  obtain ⟨hs, hn, hr, ho, hl⟩ := well_parts h
  refine bool_iff ?_
  rw [well_iff, flaws_iff, well_iff, flaws_iff]
  have h1 : Src.srcB ⟨s.rules, s.zones ++ [z], s.links, s.op⟩ = true ↔ Src.zoneB z = true := by
    unfold Src.srcB at hs ⊢
    simp only [List.all_append, Bool.and_eq_true, List.all_cons, List.all_nil] at hs ⊢
    exact ⟨fun q => q.2.1.2.1, fun q => ⟨hs.1, ⟨hs.2.1, q, trivial⟩, hs.2.2⟩⟩
  have h2 : Src.srcB ⟨s.rules, [z], [], o⟩ = true ↔ Src.zoneB z = true := by
    unfold Src.srcB at hs ⊢
    simp only [Bool.and_eq_true, List.all_cons, List.all_nil] at hs ⊢
    exact ⟨fun q => q.2.1.1, fun q => ⟨hs.1, ⟨q, trivial⟩, trivial⟩⟩
  rw [h1, h2]
  have hn1 : (Src.names (⟨s.rules, s.zones ++ [z], s.links, s.op⟩ : Src.S)).Nodup := by
    unfold Src.names Src.zoneNames Src.linkNames at hn hz ⊢
    simp only [List.map_append, List.map_cons, List.map_nil]
    rw [List.mem_append, not_or] at hz
    obtain ⟨d1, d2, d3⟩ := List.nodup_append.1 hn
    rw [List.append_assoc, List.nodup_append]
    refine ⟨d1, ?_, ?_⟩
    · rw [List.singleton_append, List.nodup_cons]
      exact ⟨hz.2, d2⟩
    · intro a ha b hb e
      rw [List.singleton_append, List.mem_cons] at hb
      rcases hb with rfl | hb
      · exact hz.1 (by rw [← e]; exact ha)
      · exact d3 a ha b hb e
  have hn2 : (Src.names (⟨s.rules, [z], [], o⟩ : Src.S)).Nodup := by
    unfold Src.names Src.zoneNames Src.linkNames
    simp
  have hl1 : AllLead ⟨s.rules, s.zones ++ [z], s.links, s.op⟩ := fun l hm => by
    obtain ⟨n, hg⟩ := hl l hm
    exact ⟨n, good_zone hz n _ hg⟩
  have hl2 : AllLead ⟨s.rules, [z], [], o⟩ := fun l hm => by cases hm
  constructor
  · rintro ⟨a, _, b, c, _⟩
    refine ⟨a, hn2, fun y hy => ?_, fun y hy => ?_, hl2⟩
    · have e : y = z := by simpa using hy
      exact b y (List.mem_append.2 (.inr (by simpa using e)))
    · have e : y = z := by simpa using hy
      exact c y (List.mem_append.2 (.inr (by simpa using e)))
  · rintro ⟨a, _, b, c, _⟩
    refine ⟨a, hn1, fun y hy => ?_, fun y hy => ?_, hl1⟩
    · rcases List.mem_append.1 hy with hy | hy
      · exact hr y hy
      · exact b y hy
    · rcases List.mem_append.1 hy with hy | hy
      · exact ho y hy
      · exact c y hy
end Vd
end Go.Proofs.YtfobllagmakjdaaDoor
/- solsticeref14.Same: whether two lists of flaws are one. -/
namespace Go.Proofs.YtfobllagmakjdaaDoor
open Go.RowKit

theorem vd_take_more {α : Type} {l m : List α} {k : Nat} {a : α} (h : l.take k = m.take k) (h1 : l[k]? = some a) (h2 : m[k]? = some a) : l.take (k + 1) = m.take (k + 1) := by
  rw [List.take_add_one, List.take_add_one, h, h1, h2]
namespace Vd
def same (a b : Fl) : Bool := decide (a.1 = b.1) && decide (a.2 = b.2)
theorem same_iff (a b : Fl) : same a b = true ↔ a = b := by
  obtain ⟨k, y⟩ := a
  obtain ⟨k', y'⟩ := b
  simp only [same, Bool.and_eq_true, decide_eq_true_eq, Prod.mk.injEq]
theorem tl_iff (a b : ByteArray) : a.toList = b.toList ↔ a = b := by
  rw [ByteArray.toList_eq, ByteArray.toList_eq]
  exact ⟨fun h => ByteArray.ext (Array.ext' h), fun h => by rw [h]⟩
theorem and_if {p : Prop} [Decidable p] {q : Bool} {w : World} {R : Result Bool} (h : R = .ok q w) : (if p then R else .ok false w) = .ok (decide p && q) w := by
  by_cases hp : p
  · rw [if_pos hp, h, decide_eq_true hp, Bool.true_and]
  · rw [if_neg hp, decide_eq_false hp, Bool.false_and]
theorem last_if (p : Prop) [Decidable p] (w : World) : (if p then (.ok true w : Result Bool) else .ok false w) = .ok (decide p) w := by
  by_cases hp : p
  · rw [if_pos hp, decide_eq_true hp]
  · rw [if_neg hp, decide_eq_false hp]
end Vd
set_option maxHeartbeats 800000 in
theorem flaw_same (a b : Vd.Fl) (w : World) : (Op.equalIn 10000 57 (.agg #[.int .i64 a.1, .string a.2]) (.agg #[.int .i64 b.1, .string b.2])).run Tryd.prog w = .ok (Vd.same a b) w := by
  obtain ⟨k, y⟩ := a
  obtain ⟨k', y'⟩ := b
  unfold Vd.same
  simp only
  go_simp
  simp only [Vd.tl_iff]
  iterate 1 refine Vd.and_if ?_
  exact Vd.last_if _ _
set_option maxHeartbeats 2000000 in
set_option maxRecDepth 100000 in
theorem vdSame_any (A A' : Option Addr) (n n' c c' : Nat) (l l' : List Vd.Fl) (w : World) (hn : n ≤ maxLen) (hn' : n' ≤ maxLen) (h1 : l.length = n) (h2 : l'.length = n') (hr : Reads w w.heap.size 2 A n (Vd.cells l)) (hr' : Reads w w.heap.size 2 A' n' (Vd.cells l')) :
    Calls Tryd.prog 11 #[.slice A n c, .slice A' n' c'] w fun e w' => e = .returned (.bool (decide (l = l'))) ∧ Drew w w' := by
  unfold maxLen at hn hn'
  by_cases he : n = n'
  · subst he
    have q0 : ((n : Int) != (n : Int)) = false := by simp
    have H1 := Lib.hid h1
    have H2 := Lib.hid h2
    have HR := Lib.hid hr
    have HR' := Lib.hid hr'
    clear h1 h2 hr hr'
    go_enter Tryd.func11, Tryd.ntmps11
    go_wp2
    go_loopw [13] (fun i wr => ∃ k : Nat, k ≤ n ∧ i = .int .i64 k ∧ Hid (Drew w wr) ∧ Hid (l.take k = l'.take k)) (fun i _ => n - (intOf i).toNat)
    case atStart => exact ⟨0, Nat.zero_le _, rfl, Drew.refl w, rfl⟩
    case round =>
      obtain ⟨k, hk, rfl, HD, HE⟩ := hrel
      by_cases hlt : k < n
      · obtain ⟨x, hx⟩ : ∃ m, l[k]? = some m := ⟨_, List.getElem?_eq_getElem (by rw [H1.out]; exact hlt)⟩
        obtain ⟨y, hy⟩ : ∃ m, l'[k]? = some m := ⟨_, List.getElem?_eq_getElem (by rw [H2.out]; exact hlt)⟩
        obtain ⟨ad, x', rfl, _, Hx, HL0⟩ := Ix.reads_cells (enc := Vd.fc) (m := 2) (fun _ => rfl) H1.out (HR.out.of_drew HD.out) hlt
        obtain ⟨ad', y', rfl, _, Hy, HL0'⟩ := Ix.reads_cells (enc := Vd.fc) (m := 2) (fun _ => rfl) H2.out (HR'.out.of_drew HD.out) hlt
        have ex : x' = x := by have := Hx.out; rw [hx] at this; exact (Option.some.inj this).symm
        have ey : y' = y := by have := Hy.out; rw [hy] at this; exact (Option.some.inj this).symm
        have c0 : wr.cell? (ad.add (k * 2)) = some (.int .i64 x.1) := by rw [← ex]; exact HL0.out 0 _ rfl
        have c1 : wr.cell? ⟨(ad.add (k * 2)).block, (ad.add (k * 2)).off + 1, none⟩ = some (.string x.2) := by rw [← ex]; exact HL0.out 1 _ rfl
        have d0 : wr.cell? (ad'.add (k * 2)) = some (.int .i64 y.1) := by rw [← ey]; exact HL0'.out 0 _ rfl
        have d1 : wr.cell? ⟨(ad'.add (k * 2)).block, (ad'.add (k * 2)).off + 1, none⟩ = some (.string y.2) := by rw [← ey]; exact HL0'.out 1 _ rfl
        clear ex ey Hx Hy HL0 HL0'
        have q1 : (0 : Int) ≤ (k : Int) := by omega
        have q2 : (k : Int) < (n : Int) := by omega
        have hq := flaw_same x y
        by_cases hxy : x = y
        · subst hxy
          have HN := Lib.hid (vd_take_more HE.out hx hy)
          rw [(Vd.same_iff x x).2 rfl] at hq
          clear hx hy
          go_wp2
          go_quiet (fail)
          go_wp2
          go_roundw
          case rel => exact ⟨k + 1, by omega, by go_num, by first | exact HD.out | exact HD.out.drewN _, HN⟩
          case measure => simp [intOf]; omega
        · have hs : Vd.same x y = false := by
            cases h : Vd.same x y with
            | false => rfl
            | true => exact absurd ((Vd.same_iff x y).1 h) hxy
          have HN : Hid (decide (l = l') = false) := by
            show decide (l = l') = false
            apply decide_eq_false
            intro e
            apply hxy
            rw [e, hy] at hx
            exact (Option.some.inj hx).symm
          rw [hs] at hq
          clear hx hy hxy hs
          go_wp2
          go_quiet (fail)
          go_wp2
          go_ret
          exact ⟨by rw [HN.out]; rfl, by first | exact HD.out | exact HD.out.drewN _⟩
      · have q2 : ¬ (k : Int) < (n : Int) := by omega
        have hkn : k = n := by omega
        have HN : Hid (decide (l = l') = true) := by
          show decide (l = l') = true
          apply decide_eq_true
          have := HE.out
          rwa [List.take_of_length_le (by rw [H1.out]; omega), List.take_of_length_le (by rw [H2.out]; omega)] at this
        go_wp2
        go_ret
        exact ⟨by rw [HN.out]; rfl, HD.out⟩
  · have q0 : ((n : Int) != (n' : Int)) = true := by simp; omega
    have q0' : ¬ (n : Int) = (n' : Int) := by omega
    have HN : Hid (decide (l = l') = false) := by
      show decide (l = l') = false
      apply decide_eq_false
      intro e
      apply he
      rw [← h1, ← h2, e]
    clear h1 h2 hr hr' he
    go_enter Tryd.func11, Tryd.ntmps11
    go_wp2
    go_ret
    exact ⟨by rw [HN.out]; rfl, Drew.refl w⟩
end Go.Proofs.YtfobllagmakjdaaDoor
