/- markup: two lists of parts are one: solsticeref31.Same. -/
import Derived.Test.YtjbgmbhifnihaaaDoorMkTok
namespace Go.Proofs.YtjbgmbhifnihaaaDoor
open Go.RowKit

namespace Mk
theorem add_more (ad : Addr) (i j : Nat) (hj : 0 < j) : ad.add (i + j) = ⟨(ad.add i).block, (ad.add i).off + j, none⟩ := by
  unfold Addr.add
  by_cases hi : i = 0
  · subst hi
    rw [if_pos rfl, if_neg (by omega)]
    simp
  · rw [if_neg hi, if_neg (by omega)]
    simp [Nat.add_assoc]
theorem tk_at : ∀ (l : List T) (avs : List Value) (k : Nat) (t : T) (v : Value) (j : Nat), j < 5 → l[k]? = some t → avs[k]? = some v → (tkCells l avs)[k * 5 + j]? = (tkv t v)[j]?
  | x :: l, y :: vs, 0, t, v, j, hj, h1, h2 => by
    cases h1; cases h2
    rw [tkCells, Nat.zero_mul, Nat.zero_add, List.getElem?_append_left (by unfold tkv; simpa using hj)]
  | x :: l, y :: vs, k + 1, t, v, j, hj, h1, h2 => by
    rw [tkCells, List.getElem?_append_right (by unfold tkv; simp; omega)]
    rw [show (k + 1) * 5 + j - (tkv x y).length = k * 5 + j by unfold tkv; simp; omega]
    exact tk_at l vs k t v j hj h1 h2
  | [], _, _, _, _, _, _, h1, _ => by cases h1
  | _ :: _, [], _, _, _, _, _, _, h2 => by cases h2
/-- A part's cells, where they lie. -/
theorem Parts.cells {w : World} {A : Option Addr} {c k : Nat} {l : List T} {avs : List Value} (h : Parts w A c l avs) (hk : k < l.length) : ∃ ad t A' c', A = some ad ∧ ad.block < w.heap.size ∧ l[k]? = some t ∧ t.attrs.length ≤ c' ∧ c' ≤ maxLen ∧ Reads w w.heap.size 2 A' t.attrs.length (atCells t.attrs) ∧
    w.cell? (ad.add (k * 5)) = some (.int .u8 (t.kind : Int)) ∧ w.cell? ⟨(ad.add (k * 5)).block, (ad.add (k * 5)).off + 1, none⟩ = some (.string (bts t.name)) ∧ w.cell? ⟨(ad.add (k * 5)).block, (ad.add (k * 5)).off + 2, none⟩ = some (.slice A' t.attrs.length c') ∧
    w.cell? ⟨(ad.add (k * 5)).block, (ad.add (k * 5)).off + 3, none⟩ = some (.string (bts t.text)) ∧ w.cell? ⟨(ad.add (k * 5)).block, (ad.add (k * 5)).off + 4, none⟩ = some (.int .i64 (t.at_ : Int)) := by
  obtain ⟨ad, e, hb, hc⟩ := h.tk.2 (by omega)
  obtain ⟨t, ht⟩ : ∃ t, l[k]? = some t := ⟨_, List.getElem?_eq_getElem hk⟩
  obtain ⟨v, hv⟩ : ∃ v, avs[k]? = some v := ⟨_, List.getElem?_eq_getElem (by rw [h.len]; exact hk)⟩
  obtain ⟨A', c', rfl, h1, h2, h3⟩ := h.at_ k t v ht hv
  refine ⟨ad, t, A', c', e, hb, ht, h1, h2, h3, ?_, ?_, ?_, ?_, ?_⟩
  · exact hc (k * 5 + 0) _ (tk_at l avs k t _ 0 (by omega) ht hv)
  all_goals rw [← add_more ad (k * 5) _ (by omega)]
  · exact hc _ _ (tk_at l avs k t _ 1 (by omega) ht hv)
  · exact hc _ _ (tk_at l avs k t _ 2 (by omega) ht hv)
  · exact hc _ _ (tk_at l avs k t _ 3 (by omega) ht hv)
  · exact hc _ _ (tk_at l avs k t _ 4 (by omega) ht hv)
theorem attr_cells {w : World} {A : Option Addr} {k n : Nat} {l : List (Txt × Txt)} (h : Reads w w.heap.size 2 A n (atCells l)) (hn : l.length = n) (hk : k < n) : ∃ ad a, A = some ad ∧ ad.block < w.heap.size ∧ l[k]? = some a ∧
    w.cell? (ad.add (k * 2)) = some (.string (bts a.1)) ∧ w.cell? ⟨(ad.add (k * 2)).block, (ad.add (k * 2)).off + 1, none⟩ = some (.string (bts a.2)) := by
  obtain ⟨ad, e, hb, hc⟩ := h.2 (by omega)
  obtain ⟨a, ha⟩ : ∃ a, l[k]? = some a := ⟨_, List.getElem?_eq_getElem (by omega)⟩
  obtain ⟨h1, h2⟩ := atCells_at ha
  refine ⟨ad, a, e, hb, ha, hc _ _ h1, ?_⟩
  rw [← add_more ad (k * 2) 1 (by omega)]
  exact hc _ _ h2
theorem bts_eq_iff {a b : Txt} : ((bts a).toList = (bts b).toList) ↔ a = b := by
  rw [Lib.toList_data, Lib.toList_data]
  exact Iff.rfl
theorem eq_attr (a b : Txt × Txt) (w : World) : (Op.equalIn 10000 40 (.agg #[.string (bts a.1), .string (bts a.2)]) (.agg #[.string (bts b.1), .string (bts b.2)])).run Tryd.prog w = .ok (decide (a = b)) w := by
  obtain ⟨a0, a1⟩ := a
  obtain ⟨b0, b1⟩ := b
  go_simp
  simp only [bts_eq_iff]
  by_cases h0 : a0 = b0
  · by_cases h1 : a1 = b1
    · subst h0 h1; simp
    · simp [h0, h1]
  · simp [h0]
theorem take_next {α : Type} {l m : List α} {k : Nat} {x : α} (h : l.take k = m.take k) (h1 : l[k]? = some x) (h2 : m[k]? = some x) : l.take (k + 1) = m.take (k + 1) := by rw [List.take_add_one, List.take_add_one, h, h1, h2]
theorem str_bo (a b : Txt) : ((bts a).toList == (bts b).toList) = decide (a = b) := by
  rw [Bool.eq_iff_iff, beq_iff_eq, decide_eq_true_iff]
  exact bts_eq_iff
end Mk
set_option maxHeartbeats 4000000 in
set_option maxRecDepth 100000 in
theorem same_any (A A' : Option Addr) (n n' c c' : Nat) (l l' : List Mk.T) (avs avs' : List Value) (w : World) (hn : l.length = n) (hn' : l'.length = n') (hr : Mk.Parts w A c l avs) (hr' : Mk.Parts w A' c' l' avs') :
    Calls Tryd.prog 12 #[.slice A n c, .slice A' n' c'] w fun e w' => (∃ b, e = .returned (.bool b) ∧ (b = true ↔ l = l')) ∧ Below w.heap.size w w' := by
  have hcap := hr.cap
  have hcap' := hr'.cap
  unfold maxLen at hcap hcap'
  rw [hn] at hcap
  rw [hn'] at hcap'
  have HB0 := Lib.hid (Below.refl w.heap.size w)
  by_cases hnn : n = n'
  · subst hnn
    have hw : IntKind.i64.wrap (n : Int) = (n : Int) := by rw [IntKind.wrap_i64]; omega
    have q0 : ((n : Int) == (n : Int)) = true := beq_self_eq_true _
    have HR := Lib.hid hr
    have HR' := Lib.hid hr'
    have HN := Lib.hid hn
    have HN' := Lib.hid hn'
    clear hr hr' hn hn'
    go_enter Tryd.func12, Tryd.ntmps12
    go_wp2
    go_loopw [16] (fun i wr => ∃ k : Nat, k ≤ n ∧ i = .int .i64 (k : Int) ∧ Hid (l.take k = l'.take k) ∧ Hid (Below w.heap.size w wr)) (fun i _ => n - (intOf i).toNat)
    case atStart => exact ⟨0, Nat.zero_le _, rfl, rfl, HB0.out⟩
    case round =>
      obtain ⟨k, hk, rfl, HE, HB⟩ := hrel
      obtain ⟨wq, rfl⟩ : ∃ x, x = wr := ⟨_, rfl⟩
      by_cases hlt : k < n
      · obtain ⟨ad, t, B1, d1, rfl, hab, ht, hd1, hd1', hra, x0, x1, x2, x3, x4⟩ := (HR.out.call HB.out).cells (show k < l.length by rw [HN.out]; exact hlt)
        obtain ⟨ad', t', B2, d2, rfl, hab', ht', hd2, hd2', hra', y0, y1, y2, y3, y4⟩ := (HR'.out.call HB.out).cells (show k < l'.length by rw [HN'.out]; exact hlt)
        have hkb : (ad.add (k * 5)).block < wq.heap.size := by rw [block_of_add]; exact hab
        have hkb' : (ad'.add (k * 5)).block < wq.heap.size := by rw [block_of_add]; exact hab'
        have q1 : (0 : Int) ≤ (k : Int) := by omega
        have q2 : (k : Int) < (n : Int) := by omega
        obtain ⟨kd, nm, ats, tx, p⟩ := t
        obtain ⟨kd', nm', ats', tx', p'⟩ := t'
        have hdiff : Hid ((⟨kd, nm, ats, tx, p⟩ : Mk.T) ≠ ⟨kd', nm', ats', tx', p'⟩ → ¬ l = l') := fun h e => h (Option.some.inj (ht.symm.trans (by rw [e]; exact ht')))
        have hsame : Hid ((⟨kd, nm, ats, tx, p⟩ : Mk.T) = ⟨kd', nm', ats', tx', p'⟩ → l.take (k + 1) = l'.take (k + 1)) := fun h => Mk.take_next HE.out ht (by rw [h]; exact ht')
        simp only at x0 x1 x2 x3 x4 y0 y1 y2 y3 y4 hra hra' hd1 hd2
        obtain ⟨Nm, hNm⟩ : ∃ x, Mk.bts nm = x := ⟨_, rfl⟩
        obtain ⟨Nm', hNm'⟩ : ∃ x, Mk.bts nm' = x := ⟨_, rfl⟩
        obtain ⟨Tx, hTx⟩ : ∃ x, Mk.bts tx = x := ⟨_, rfl⟩
        obtain ⟨Tx', hTx'⟩ : ∃ x, Mk.bts tx' = x := ⟨_, rfl⟩
        obtain ⟨m, hm⟩ : ∃ x, ats.length = x := ⟨_, rfl⟩
        obtain ⟨m', hm'⟩ : ∃ x, ats'.length = x := ⟨_, rfl⟩
        have hbn : (Nm.toList == Nm'.toList) = decide (nm = nm') := by rw [← hNm, ← hNm']; exact Mk.str_bo _ _
        have hbt : (Tx.toList == Tx'.toList) = decide (tx = tx') := by rw [← hTx, ← hTx']; exact Mk.str_bo _ _
        rw [hNm] at x1
        rw [hNm'] at y1
        rw [hTx] at x3
        rw [hTx'] at y3
        rw [hm] at x2 hra hd1
        rw [hm'] at y2 hra' hd2
        have HBa : Hid (Below w.heap.size w ((wq.alloc (.cells #[.int .u8 (kd : Int), .string Nm, .slice B1 m d1, .string Tx, .int .i64 (p : Int)] 38)).alloc (.cells #[.int .u8 (kd' : Int), .string Nm', .slice B2 m' d2, .string Tx', .int .i64 (p' : Int)] 38))) := (HB.out.alloc HB.out.size _).alloc (by rw [World.size_alloc]; have := HB.out.size; omega) _
        have HX : Hid (At ((wq.alloc (.cells #[.int .u8 (kd : Int), .string Nm, .slice B1 m d1, .string Tx, .int .i64 (p : Int)] 38)).alloc (.cells #[.int .u8 (kd' : Int), .string Nm', .slice B2 m' d2, .string Tx', .int .i64 (p' : Int)] 38)) wq.heap.size [.int .u8 (kd : Int), .string Nm, .slice B1 m d1, .string Tx, .int .i64 (p : Int)]) := (At.new _ _ _).allocO _
        have HY : Hid (At ((wq.alloc (.cells #[.int .u8 (kd : Int), .string Nm, .slice B1 m d1, .string Tx, .int .i64 (p : Int)] 38)).alloc (.cells #[.int .u8 (kd' : Int), .string Nm', .slice B2 m' d2, .string Tx', .int .i64 (p' : Int)] 38)) (wq.heap.size + 1) [.int .u8 (kd' : Int), .string Nm', .slice B2 m' d2, .string Tx', .int .i64 (p' : Int)]) := by
          have h := At.new (wq.alloc (.cells #[.int .u8 (kd : Int), .string Nm, .slice B1 m d1, .string Tx, .int .i64 (p : Int)] 38)) #[.int .u8 (kd' : Int), .string Nm', .slice B2 m' d2, .string Tx', .int .i64 (p' : Int)] 38
          rw [World.size_alloc] at h
          exact h
        have HRA := Lib.hid hra
        have HRA' := Lib.hid hra'
        have HM := Lib.hid hm
        have HM' := Lib.hid hm'
        have HNm := Lib.hid hNm
        have HNm' := Lib.hid hNm'
        have HTx := Lib.hid hTx
        have HTx' := Lib.hid hTx'
        clear ht ht' hNm hNm' hTx hTx' hra hra' hm hm'
        by_cases e0 : kd = kd'
        case neg =>
          have HNe := Lib.hid (hdiff.out (fun e => e0 (by injection e)))
          have g0 : ((kd : Int) == (kd' : Int)) = false := by rw [beq_eq_false_iff_ne]; omega
          have g1 : ¬ (kd : Int) = (kd' : Int) := by omega
          have g2 : ((kd : Int) != (kd' : Int)) = true := by rw [bne, g0]; rfl
          clear e0 hbn hbt
          go_wp2
          go_ret
          exact ⟨⟨false, rfl, by simpa using HNe.out⟩, HBa.out⟩
        subst e0
        by_cases e1 : nm = nm'
        case neg =>
          have HNe := Lib.hid (hdiff.out (fun e => e1 (by injection e)))
          have g0 : (Nm.toList == Nm'.toList) = false := by rw [hbn]; simpa using e1
          clear e1 hbn hbt
          go_wp2
          go_ret
          exact ⟨⟨false, rfl, by simpa using HNe.out⟩, HBa.out⟩
        have hNN : Nm = Nm' := by rw [← HNm.out, ← HNm'.out, e1]
        subst hNN e1
        by_cases e2 : tx = tx'
        case neg =>
          have HNe := Lib.hid (hdiff.out (fun e => e2 (by injection e)))
          have g0 : (Tx.toList == Tx'.toList) = false := by rw [hbt]; simpa using e2
          clear e2 hbn hbt
          go_wp2
          go_ret
          exact ⟨⟨false, rfl, by simpa using HNe.out⟩, HBa.out⟩
        have hTT : Tx = Tx' := by rw [← HTx.out, ← HTx'.out, e2]
        subst hTT e2
        by_cases e3 : p = p'
        case neg =>
          have HNe := Lib.hid (hdiff.out (fun e => e3 (by injection e)))
          have g0 : ((p : Int) == (p' : Int)) = false := by rw [beq_eq_false_iff_ne]; omega
          have g1 : ¬ (p : Int) = (p' : Int) := by omega
          have g2 : ((p : Int) != (p' : Int)) = true := by rw [bne, g0]; rfl
          clear e3 hbn hbt
          go_wp2
          go_ret
          exact ⟨⟨false, rfl, by simpa using HNe.out⟩, HBa.out⟩
        subst e3
        by_cases e4 : m = m'
        case neg =>
          have HNe := Lib.hid (hdiff.out (fun e => e4 (by injection e with _ _ h; rw [← HM.out, ← HM'.out, h])))
          have g4 : ((m : Int) == (m' : Int)) = false := by rw [beq_eq_false_iff_ne]; omega
          have g5 : ¬ (m : Int) = (m' : Int) := by omega
          have g6 : ((m : Int) != (m' : Int)) = true := by rw [bne, g4]; rfl
          clear e4 hbn hbt
          go_wp2
          go_ret
          exact ⟨⟨false, rfl, by simpa using HNe.out⟩, HBa.out⟩
        clear hbn hbt
        subst e4
        have hmw : IntKind.i64.wrap (m : Int) = (m : Int) := by rw [IntKind.wrap_i64]; unfold maxLen at hd1'; omega
        have hmb : m ≤ 9223372036854775807 := by unfold maxLen at hd1'; omega
        have HAq : Hid (ats = ats' → l.take (k + 1) = l'.take (k + 1)) := fun h => hsame.out (by rw [h])
        have HAn : Hid (¬ ats = ats' → ¬ l = l') := fun h => hdiff.out (fun e => h (by injection e))
        clear hdiff hsame
        go_wp2_with fail
        go_loopw [63] (fun i wr => ∃ j : Nat, j ≤ m ∧ i = .int .i64 (j : Int) ∧ Hid (ats.take j = ats'.take j) ∧ Hid (Drew ((wq.alloc (.cells #[.int .u8 (kd : Int), .string Nm, .slice B1 m d1, .string Tx, .int .i64 (p : Int)] 38)).alloc (.cells #[.int .u8 (kd : Int), .string Nm, .slice B2 m d2, .string Tx, .int .i64 (p : Int)] 38)) wr)) (fun i _ => m - (intOf i).toNat)
        case atStart => exact ⟨0, Nat.zero_le _, rfl, rfl, Drew.refl _⟩
        case round =>
          obtain ⟨j, hj, rfl, HEj, HD⟩ := hrel
          have HXd := Lib.hid (HX.out.drew HD.out)
          have HYd := Lib.hid (HY.out.drew HD.out)
          have xc := HXd.out.cell 2 _ rfl
          have yc := HYd.out.cell 2 _ rfl
          have zx := HXd.out.lt
          have zy := HYd.out.lt
          by_cases hlt2 : j < m
          · have HBq : Hid (Below wq.heap.size wq wr) := (((Below.refl _ _).alloc (Nat.le_refl _) _).alloc (by rw [World.size_alloc]; omega) _).trans (HD.out.below _)
            obtain ⟨bd, a, rfl, hbb, ha, u0, u1⟩ := Mk.attr_cells ((HRA.out.below HBq.out).more HBq.out.size) HM.out hlt2
            obtain ⟨bd', a', rfl, hbb', ha', v0, v1⟩ := Mk.attr_cells ((HRA'.out.below HBq.out).more HBq.out.size) HM'.out hlt2
            have hE := Mk.eq_attr a a'
            have r1 : (0 : Int) ≤ (j : Int) := by omega
            have r2 : (j : Int) < (m : Int) := by omega
            obtain ⟨s0, hs0⟩ : ∃ x, Mk.bts a.1 = x := ⟨_, rfl⟩
            obtain ⟨s1, hs1⟩ : ∃ x, Mk.bts a.2 = x := ⟨_, rfl⟩
            obtain ⟨s2, hs2⟩ : ∃ x, Mk.bts a'.1 = x := ⟨_, rfl⟩
            obtain ⟨s3, hs3⟩ : ∃ x, Mk.bts a'.2 = x := ⟨_, rfl⟩
            rw [hs0, hs1, hs2, hs3] at hE
            rw [hs0] at u0
            rw [hs1] at u1
            rw [hs2] at v0
            rw [hs3] at v1
            clear hs0 hs1 hs2 hs3
            by_cases haa : a = a'
            · have HEn : Hid (ats.take (j + 1) = ats'.take (j + 1)) := Mk.take_next HEj.out ha (by rw [haa]; exact ha')
              rw [decide_eq_true haa] at hE
              clear ha ha' haa
              go_wp2
              go_quiet (fail)
              go_wp2
              go_roundw
              case rel => exact ⟨j + 1, by omega, by go_num, HEn.out, HD.out.drewN _⟩
              case measure => simp [intOf]; omega
            · have HNe := Lib.hid (HAn.out (fun e => haa (Option.some.inj (ha.symm.trans (by rw [e]; exact ha')))))
              rw [decide_eq_false haa] at hE
              clear ha ha' haa
              go_wp2
              go_quiet (fail)
              go_wp2
              go_ret
              exact ⟨⟨false, rfl, by simpa using HNe.out⟩, HBa.out.trans ((HD.out.drewN _).below _)⟩
          · have r2 : ¬ (j : Int) < (m : Int) := by omega
            have HEn : Hid (l.take (k + 1) = l'.take (k + 1)) := HAq.out (by
              have h := HEj.out
              rw [List.take_of_length_le (by rw [HM.out]; omega), List.take_of_length_le (by rw [HM'.out]; omega)] at h
              exact h)
            go_wp2
            go_roundw
            case rel => exact ⟨k + 1, by omega, by go_num, HEn.out, HBa.out.trans (HD.out.below _)⟩
            case measure => simp [intOf]; omega
      · have q2 : ¬ (k : Int) < (n : Int) := by omega
        have HEq : Hid (l = l') := by
          have h := HE.out
          rw [List.take_of_length_le (by rw [HN.out]; omega), List.take_of_length_le (by rw [HN'.out]; omega)] at h
          exact h
        go_wp2
        go_ret
        first | exact ⟨.inr ⟨rfl, HEq.out⟩, HB.out⟩ | exact ⟨⟨true, rfl, by simpa using HEq.out⟩, HB.out⟩
  · have q0 : ((n : Int) == (n' : Int)) = false := by rw [beq_eq_false_iff_ne]; omega
    have HNe : Hid (¬ l = l') := fun e => hnn (by rw [← hn, ← hn', e])
    clear hr hr' hn hn'
    go_enter Tryd.func12, Tryd.ntmps12
    go_wp2
    go_ret
    exact ⟨⟨false, rfl, by simpa using HNe.out⟩, HB0.out⟩
end Go.Proofs.YtjbgmbhifnihaaaDoor
