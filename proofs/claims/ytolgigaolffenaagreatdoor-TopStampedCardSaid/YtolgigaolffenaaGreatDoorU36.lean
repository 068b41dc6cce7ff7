/- line.Of. -/
import Derived.Test.YtolgigaolffenaaGreatDoorU27
import Derived.Test.YtolgigaolffenaaGreatDoorU35
import Derived.Test.YtolgigaolffenaaGreatDoorU32
import Derived.Test.YtolgigaolffenaaGreatDoorU33
import Derived.Lib.SmallJoins

namespace Go.Proofs.YtolgigaolffenaaGreatDoor
open Go.RowKit Go.Shelf

theorem own_none {w : World} {base n c : Nat} {e : TypeId} {size : Nat} {A : Option Addr} {xs : List Value} (h : w.ownsRow base e size (.slice A n c) n xs) : A = none → c = 0 := by
  intro ha
  subst ha
  rcases h.2 with hn | ⟨g, cap, cur, hv, _⟩
  · simp_all
  · simp_all
set_option maxHeartbeats 8000000 in
set_option maxRecDepth 100000 in
theorem lnOf_any (s : Src.S) (z lo hi : Int) (rv zv lv : Value) (evs : List Value) (w : World) (hR : Src.SrcR w w.heap.size s rv zv lv evs) (hS : Vd.Sz s) (hW : Wo w) (hA : Wa w) (hz : -9223372036854775808 ≤ z ∧ z < 9223372036854775808)
    (hlo : -9223372036854775808 ≤ lo ∧ lo < 9223372036854775808) (hhi : -9223372036854775808 ≤ hi ∧ hi < 9223372036854775808) (hcc : ∀ x ∈ s.zones, ∀ e ∈ x.2, 0 ≤ e.u.c) (hwc : ∀ r ∈ s.rules, 0 ≤ r.c) :
    Calls Tryz.prog 21 #[.agg #[rv, zv, lv], .int .i64 z, .int .i64 lo, .int .i64 hi] w fun e w' => Below w.heap.size w w' ∧ Ln.OfRet s z lo hi w.heap.size e w' := by
  have HRu := Lib.hid (fun h : Vd.well s = true => Eg.rules_ok2 h hS.lims.rules)
  have HS := Lib.hid hS
  have HWc := Lib.hid hwc
  have HEn := Lib.hid (fun (W : World) (hR : Src.SrcR W W.heap.size s rv zv lv evs) (hW : Wo W) (hA : Wa W) => ends_any s z rv zv lv evs W hR hS hW hA hz hcc)
  have HR0 := Lib.hid hR
  obtain ⟨rA, rc, rfl, _⟩ := hR.rules
  obtain ⟨zA, zc, rfl, _⟩ := hR.zones
  obtain ⟨lA, lc, rfl, _⟩ := hR.links
  obtain ⟨n1, hn1⟩ : ∃ n, s.rules.length = n := ⟨_, rfl⟩
  obtain ⟨n2, hn2⟩ : ∃ n, s.zones.length = n := ⟨_, rfl⟩
  obtain ⟨n3, hn3⟩ : ∃ n, s.links.length = n := ⟨_, rfl⟩
  rw [hn1, hn2, hn3] at HEn HR0
  rw [hn1, hn2, hn3]
  obtain ⟨W1, hW1⟩ : ∃ W, w.alloc (.cells #[.slice rA n1 rc, .slice zA n2 zc, .slice lA n3 lc] 26) = W := ⟨_, rfl⟩
  have hb1 : Below w.heap.size w W1 := by rw [← hW1]; exact (Below.refl _ _).alloc (Nat.le_refl _) _
  have hA1 : At W1 w.heap.size [.slice rA n1 rc, .slice zA n2 zc, .slice lA n3 lc] := by rw [← hW1]; exact At.new _ _ _
  have HCl := Lib.hid (HEn.out W1 (HR0.out.call hb1) (hW.below hb1) (hA.below hb1))
  have HWo := Lib.hid hW
  have HA1 := Lib.hid hA1
  have HB1 := Lib.hid hb1
  have HW1 := Lib.hid hW1
  obtain ⟨b0, b1, b2, _⟩ := hA1.three
  clear hn1 hn2 hn3 hb1 hA1 hW1 hR hS hwc hcc hW hA hz
  go_enter Tryz.func21, Tryz.ntmps21
  go_wp2_with fail
  rw [HW1.out]
  refine HCl.out.mono ?_
  rintro e w2 ⟨hb2, (⟨hno, rfl⟩ | ⟨hwe, hno, rfl⟩ | ⟨x, v, hwe, hx, rfl, hown⟩)⟩
  · have HB2 := Lib.hid (below_then HB1.out hb2)
    have HF : Hid (Ln.OfRet s z lo hi w.heap.size (.returned (.tuple #[.slice none 0 0, .int .i64 2])) w2) := .inl ⟨hno, rfl⟩
    clear hb2 hno b0 b1 b2
    go_wp2
    go_ret2
    exact ⟨HB2.out, HF.out⟩
  · have HB2 := Lib.hid (below_then HB1.out hb2)
    have HF : Hid (Ln.OfRet s z lo hi w.heap.size (.returned (.tuple #[.slice none 0 0, .int .i64 3])) w2) := .inr (.inl ⟨hwe, hno, rfl⟩)
    clear hb2 hno hwe b0 b1 b2
    go_wp2
    go_ret2
    exact ⟨HB2.out, HF.out⟩
  have HB2 := Lib.hid (below_then HB1.out hb2)
  have HA2 := Lib.hid (HA1.out.call hb2)
  have hz2 := hb2.size
  have hz1 := HB1.out.size
  obtain ⟨c0, c1, c2, _⟩ := HA2.out.three
  have hmem : x ∈ s.zones := by
    unfold Eg.zoneAt at hx
    split at hx
    · exact List.mem_of_getElem? hx
    · cases hx
  by_cases hin : Ln.InY lo hi
  · obtain ⟨y1, y2, y3, y4⟩ := hin
    have HRu2 := HRu.out hwe
    have hzo := Eg.zone_ok hwe hmem
    have hz0 : 0 ≤ z := by
      unfold Eg.zoneAt at hx
      split at hx
      · assumption
      · cases hx
    obtain ⟨kz, rfl⟩ : ∃ k : Nat, z = (k : Int) := ⟨z.toNat, by omega⟩
    have hxk : s.zones[kz]? = some x := by
      unfold Eg.zoneAt at hx
      rw [if_pos hz0] at hx
      exact hx
    obtain ⟨F1, F2, F3, F4, F5⟩ := Ln.years_in y1 y2 y3
    obtain ⟨vA, vc, rfl, hv1, hv2⟩ := own_slice_cap hown
    obtain ⟨m0, hm0⟩ : ∃ m0, x.2.length = m0 + 1 := ⟨x.2.length - 1, by have := hzo.len.1; omega⟩
    have hm63 : m0 ≤ 63 := by have := hzo.len.2; omega
    obtain ⟨L, hL⟩ : ∃ L, Eg.ends s.rules x.2 = L := ⟨_, rfl⟩
    have hLl : L.length = m0 := by rw [← hL, Eg.ends_len, hm0]; rfl
    have hN : (Ln.pieces s.rules x.2 L (Oc.D lo * 86400) (Oc.D (hi + 1) * 86400) (m0 + 1)).length ≤ 900000000 := by
      have h1 := Ln.pieces_len (eras := x.2) (ends := L) HRu2.len F2 F3 (by rw [F4, F5]; omega) (m0 + 1)
      omega
    rw [hL, hLl] at hown hv1 ⊢
    obtain ⟨fr, hfr⟩ : ∃ q, Oc.D lo * 86400 = q := ⟨_, rfl⟩
    obtain ⟨te, hte⟩ : ∃ q, Oc.D (hi + 1) * 86400 = q := ⟨_, rfl⟩
    have e1 : Ln.begin_ lo = (fr, 0) := by unfold Ln.begin_; rw [if_pos (by omega), hfr]
    have e2 : Ln.begin_ (hi + 1) = (te, 0) := by unfold Ln.begin_; rw [if_pos (by omega), hte]
    have hlineq : Ln.lineOf s x.2 lo hi = Ln.line s.rules x.2 L fr te := by unfold Ln.lineOf; rw [hL, hfr, hte]
    rw [hfr] at F2 F4 hN
    rw [hte] at F3 F5 hN
    have HB := Lib.hid (fun W => e1 ▸ lnBegin_any lo W)
    have HBt := Lib.hid (fun W => e2 ▸ lnBegin_any (hi + 1) W)
    have HRv := Lib.hid (Reads.of_own hown)
    have H0c := Lib.hid (own_none hown)
    have HTime : Hid (∀ e ∈ x.2, IsTime e.std ∧ IsTime e.sv) := fun e he => by
      obtain ⟨h1, _, h3, _⟩ := hzo.ok e he
      refine ⟨h1, ?_⟩
      rcases h3 with q | q | q
      · rw [q.2.1]; decide
      · exact q.2.1
      · rw [q.2.1]; decide
    have HInY : Hid (Ln.InY lo hi) := ⟨y1, y2, y3, y4⟩
    have w1 : IntKind.i64.wrap (hi - lo) = hi - lo := by rw [IntKind.wrap_i64]; omega
    have w2' : IntKind.i64.wrap (hi + 1) = hi + 1 := by rw [IntKind.wrap_i64]; omega
    have q1 : ¬ lo ≤ 1 := by omega
    have q2 : ¬ 9999 ≤ hi := by omega
    have q3 : ¬ hi < lo := by omega
    have q4 : ¬ 400 ≤ hi - lo := by omega
    have HDraw := Lib.hid fun (gd : Nat) (W : World) (hD : Ln.Dr s (.slice rA n1 rc) (.slice zA n2 zc) (.slice lA n3 lc) evs (kz : Int) vA m0 vc fr te gd W) (hr : Reads W W.heap.size 1 vA m0 (Ln.i64s L)) => lnDraw_any gd s _ _ _ evs kz vA m0 vc fr te L W x hD hxk hm0 (by omega) hLl hv1 (by unfold maxLen at hv2 ⊢; exact hv2) H0c.out hr HTime.out F2 F3 (by omega) (by omega) hN
    have HLq := Lib.hid hlineq
    have HZa := Lib.hid hx
    have HWe := Lib.hid hwe
    have HRu3 := Lib.hid HRu2
    have hRb2 := HR0.out.call HB2.out
    clear hN hm0 hL hLl hown hfr hte e1 e2 hlineq F1 F2 F3 F4 F5 hx hxk hzo hwe hmem HRu2 y1 y2 y3 y4 b0 b1 b2
    go_wp2_with fail
    refine (HB.out w2).mono ?_
    rintro e w3 ⟨rfl, rfl⟩
    go_wp2_with fail
    refine (HBt.out w2).mono ?_
    rintro e w3 ⟨rfl, rfl⟩
    obtain ⟨W3, hW3⟩ : ∃ W, w2.alloc (.cells #[.slice rA n1 rc, .slice zA n2 zc, .slice lA n3 lc, .int .i64 (kz : Int), .slice vA m0 vc, .int .i64 fr, .int .i64 te] 140) = W := ⟨_, rfl⟩
    have HW3 := Lib.hid hW3
    have hb3 : Below w2.heap.size w2 W3 := by rw [← hW3]; exact (Below.refl _ _).alloc (Nat.le_refl _) _
    have hA3 : At W3 w2.heap.size [.slice rA n1 rc, .slice zA n2 zc, .slice lA n3 lc, .int .i64 (kz : Int), .slice vA m0 vc, .int .i64 fr, .int .i64 te] := by rw [← hW3]; exact At.new _ _ _
    have HB3 := Lib.hid hb3
    have hDr : Ln.Dr s (.slice rA n1 rc) (.slice zA n2 zc) (.slice lA n3 lc) evs (kz : Int) vA m0 vc fr te w2.heap.size W3 := ⟨hRb2.call hb3, hA3, HWo.out.below (HB2.out.trans (hb3.mono HB2.out.size)), HRu3.out, HWc.out⟩
    have HCd := Lib.hid (HDraw.out _ W3 hDr ((HRv.out.below hb3).more hb3.size))
    clear hW3 hb3 hA3 hDr hRb2
    go_wp2_with fail
    rw [HW3.out]
    refine HCd.out.mono ?_
    rintro e w4 ⟨⟨v, rfl, ho4⟩, hb4⟩
    have hbb := HB2.out.trans (HB3.out.mono HB2.out.size)
    have hbb4 : Below w.heap.size w w4 := hbb.trans (hb4.mono hbb.size)
    have HF : Hid (Below w.heap.size w w4 ∧ Ln.OfRet s (kz : Int) lo hi w.heap.size (.returned (.tuple #[v, .int .i64 0])) w4) := ⟨hbb4, .inr (.inr (.inr ⟨x, v, HWe.out, HZa.out, HInY.out, rfl, by rw [HLq.out]; exact Sc.own_mono ho4 hbb.size⟩))⟩
    clear ho4 hb4 hbb hbb4 c0 c1 c2
    go_wp2
    go_ret2
    exact HF.out
  · have HB2 := Lib.hid HB2.out
    have HF : Hid (Ln.OfRet s z lo hi w.heap.size (.returned (.tuple #[.slice none 0 0, .int .i64 1])) w2) := .inr (.inr (.inl ⟨x, hwe, hx, hin, rfl⟩))
    clear hwe hx hmem b0 b1 b2
    have w1 : 1 < lo → hi < 9999 → lo ≤ hi → IntKind.i64.wrap (hi - lo) = hi - lo := fun h1 h2 h3 => by rw [IntKind.wrap_i64]; omega
    have hc : lo ≤ 1 ∨ (¬ lo ≤ 1 ∧ 9999 ≤ hi) ∨ (¬ lo ≤ 1 ∧ ¬ 9999 ≤ hi ∧ hi < lo) ∨ (¬ lo ≤ 1 ∧ ¬ 9999 ≤ hi ∧ ¬ hi < lo ∧ 400 ≤ hi - lo ∧ IntKind.i64.wrap (hi - lo) = hi - lo) := by
      unfold Ln.InY at hin
      by_cases a : lo ≤ 1
      · exact .inl a
      · by_cases b : 9999 ≤ hi
        · exact .inr (.inl ⟨a, b⟩)
        · by_cases c : hi < lo
          · exact .inr (.inr (.inl ⟨a, b, c⟩))
          · exact .inr (.inr (.inr ⟨a, b, c, by omega, w1 (by omega) (by omega) (by omega)⟩))
    clear w1 hin hown
    rcases hc with k1 | ⟨k1, k2⟩ | ⟨k1, k2, k3⟩ | ⟨k1, k2, k3, k4, k5⟩
    all_goals
      go_wp2_with fail
      go_ret2
      exact ⟨HB2.out, HF.out⟩
end Go.Proofs.YtolgigaolffenaaGreatDoor

/- What the laws of lines ask of them. -/
namespace Go.Proofs.YtolgigaolffenaaGreatDoor
open Go.RowKit Go.Shelf

namespace Tp
theorem cells_one (l : List Ln.Sp) : ∀ u ∈ l.flatMap Ln.Sp.cells, u.oneCell' = true := by
  intro u hu
  obtain ⟨p, _, hp⟩ := List.mem_flatMap.1 hu
  exact Ln.cells_one p u hp
theorem len_le {s : Src.S} {eras : List Er.E} (hr : Eg.RulesOk s.rules) (hz : Eg.ZoneOk eras) {lo hi : Int} (h : Ln.InY lo hi) : (Ln.lineOf s eras lo hi).length ≤ 130000000 := by
  obtain ⟨y1, y2, y3, y4⟩ := h
  obtain ⟨F1, F2, F3, F4, F5⟩ := Ln.years_in y1 y2 y3
  have h1 := Ln.pieces_len (eras := eras) (ends := Eg.ends s.rules eras) hr.len F2 F3 (by rw [F4, F5]; omega) eras.length
  have h2 := Ln.fold_len (Ln.pieces s.rules eras (Eg.ends s.rules eras) (Oc.D lo * 86400) (Oc.D (hi + 1) * 86400) eras.length) []
  have h3 := hz.len
  unfold Ln.lineOf Ln.line
  simp only [List.length_nil] at h2
  omega
end Tp
end Go.Proofs.YtolgigaolffenaaGreatDoor

/- look.Cut, look.Year: what holds from a time on, up to another one; in a year. -/
namespace Go.Proofs.YtolgigaolffenaaGreatDoor
open Go.RowKit Go.Shelf

namespace Lo
theorem while_take {α : Type} {p : α → Bool} : ∀ {l : List α} {j : Nat}, (∀ i x, i < j → l[i]? = some x → p x = true) → (∀ x, l[j]? = some x → p x = false) → l.takeWhile p = l.take j
  | [], j, _, _ => by simp
  | a :: l, 0, _, h => by
    rw [List.takeWhile_cons_of_neg (by rw [h a rfl]; decide)]
    rfl
  | a :: l, j + 1, h1, h2 => by
    rw [List.takeWhile_cons_of_pos (h1 0 a (Nat.succ_pos _) rfl), List.take_succ_cons, while_take (j := j) (fun i x hi hx => h1 (i + 1) x (Nat.succ_lt_succ hi) (by simpa using hx)) (fun x hx => h2 x (by simpa using hx))]
def CtRet (l : List Ln.Sp) (fr te : Int) (w : World) (e : Ending) (w' : World) : Prop := (∃ k x v, Ab l fr (k + 1) ∧ l[k]? = some x ∧ e = .returned (.tuple #[v, .int .i64 0]) ∧ w'.ownsRow w.heap.size 71 3 v (cutL l fr te (k + 1) x).length (Ln.fl (cutL l fr te (k + 1) x))) ∧ Below w.heap.size w w'
theorem drop_reads {w : World} {B n r : Nat} {ad : Addr} {l : List Ln.Sp} (h : Reads w B 3 (some ad) n (l.flatMap Ln.Sp.cells)) (hn : l.length = n) (hr : r ≤ n) : Reads w B 3 (some (ad.add (r * 3))) (n - r) ((l.drop r).flatMap Ln.Sp.cells) := by
  have e : (l.drop r).flatMap Ln.Sp.cells = (l.flatMap Ln.Sp.cells).drop (r * 3) := by
    have h1 := Ln.fl_len (l.take r)
    unfold Ln.fl at h1
    have h2 : l.flatMap Ln.Sp.cells = (l.take r).flatMap Ln.Sp.cells ++ (l.drop r).flatMap Ln.Sp.cells := by rw [← List.flatMap_append, List.take_append_drop]
    have h3 : ((l.take r).flatMap Ln.Sp.cells).length = r * 3 := by rw [h1, List.length_take, Nat.min_eq_left (by omega)]
    rw [h2, List.drop_append_of_le_length (by rw [h3]; exact Nat.le_refl _), List.drop_of_length_le (l := (l.take r).flatMap Ln.Sp.cells) (by rw [h3]; exact Nat.le_refl _)]
    rfl
  rw [e]
  refine ⟨by rw [List.length_drop, h.1, Nat.sub_mul], fun hlt => ?_⟩
  obtain ⟨ad', e', hb, hc⟩ := h.2 (by omega)
  obtain rfl := Option.some.inj e'
  refine ⟨_, rfl, by rw [block_of_add]; exact hb, fun j u hu => ?_⟩
  rw [add_of_add]
  exact hc _ _ (by rw [← List.getElem?_drop]; exact hu)
end Lo
set_option maxHeartbeats 16000000 in
set_option maxRecDepth 200000 in
theorem lookCut_any (l : List Ln.Sp) (fr te : Int) (A : Option Addr) (n c : Nat) (w : World) (hn : l.length = n) (hn2 : n ≤ 900000000) (hnc : n ≤ c) (hcm : c ≤ maxLen) (hr : Lo.Right l) (h0 : ∀ x, l[0]? = some x → x.fr ≤ fr) (hlt : fr < te) (hR : Reads w w.heap.size 3 A n (l.flatMap Ln.Sp.cells)) :
    Calls Tryz.prog 62 #[.slice A n c, .int .i64 fr, .int .i64 te] w (Lo.CtRet l fr te w) := by
  have HCk := Lib.hid fun W (hb : Below w.heap.size w W) => lookCheck_any l A n c W hn (by omega) hr ((hR.below hb).more hb.size)
  have HAb := Lib.hid fun W (hb : Below w.heap.size w W) => lookAbove_any l fr A n c W hn (by omega) hr ((hR.below hb).more hb.size)
  have hn0 : 0 < n := by
    rw [← hn]
    exact List.length_pos_iff.2 hr.ne
  obtain ⟨ad, p0, rfl, hab0, Hp0, HL0⟩ := Ix.reads_cells (enc := Ln.Sp.cells) (m := 3) (fun _ => rfl) hn hR hn0
  have hp0 := h0 p0 Hp0.out
  have H0 := Lib.hid hp0
  have HN := Lib.hid hn
  have HR := Lib.hid hR
  have HLZ := Lib.hid (show ∀ W, Below w.heap.size w W → W.cell? ad = some (.int .i64 p0.fr) from fun W hb => by
    have h := HL0.out 0 _ rfl
    rw [Nat.zero_mul] at h
    exact (hb.cell (p := ad) hab0).trans h)
  have p1 : decide (te ≤ fr) = false := by rw [decide_eq_false_iff_not]; omega
  have p1' : ¬ te ≤ fr := by omega
  have p2 : ¬ fr < p0.fr := by omega
  have q0 : (0 : Int) < (n : Int) := by omega
  unfold maxLen at hcm
  clear hn hR hr h0 HL0 hp0 hab0
  go_enter Tryz.func62, Tryz.ntmps62
  go_wp2_with fail
  refine (HCk.out w (Below.refl _ _)).mono ?_
  rintro e w2 ⟨rfl, hb2⟩
  have HB2 := Lib.hid hb2
  have c0 := HLZ.out w2 hb2
  clear hb2
  go_wp2_with fail
  refine (HAb.out w2 HB2.out).mono ?_
  rintro e w3 ⟨⟨r, rfl, hA⟩, hb3⟩
  have HB3 := Lib.hid (HB2.out.trans (hb3.mono HB2.out.size))
  obtain ⟨k, rfl⟩ : ∃ k, r = k + 1 := ⟨r - 1, by
    rcases Nat.eq_zero_or_pos r with q | q
    · subst q
      have := hA.hi 0 p0 (Nat.le_refl _) Hp0.out
      have := H0.out
      omega
    · omega⟩
  have hkn : k + 1 ≤ n := by have := hA.le; have := HN.out; omega
  have HA := Lib.hid hA
  obtain ⟨ad', x, e0, hab, Hx, HLx⟩ := Ix.reads_cells (enc := Ln.Sp.cells) (m := 3) (fun _ => rfl) HN.out (HR.out.below HB3.out) (show k < n by omega)
  obtain rfl := Option.some.inj e0
  obtain ⟨ri, hri⟩ : ∃ ri : Int, ((k + 1 : Nat) : Int) = ri := ⟨_, rfl⟩
  rw [hri]
  have wj : IntKind.i64.wrap (ri - 1) = (k : Int) := by rw [IntKind.wrap_i64]; omega
  have q1 : (0 : Int) ≤ (k : Int) := by omega
  have q2 : (k : Int) < (n : Int) := by omega
  have q3 : 0 ≤ ri := by omega
  have q4 : ri ≤ (n : Int) := by omega
  have q5 : ri ≤ (c : Int) := by omega
  have ht : ri.toNat = k + 1 := by omega
  have x0 : w3.cell? (ad.add (k * 3)) = some (.int .i64 x.fr) := HLx.out 0 _ rfl
  have x1 : w3.cell? ⟨(ad.add (k * 3)).block, (ad.add (k * 3)).off + 1, none⟩ = some (.int .i64 x.off) := HLx.out 1 _ rfl
  have x2 : w3.cell? ⟨(ad.add (k * 3)).block, (ad.add (k * 3)).off + 2, none⟩ = some (.bool x.dst) := HLx.out 2 _ rfl
  clear hb3 hA HLx c0
  go_upto_region 11 with fail
  case inl =>
    obtain ⟨W5, hW5⟩ : ∃ W, (w3.alloc (.cells #[.int .i64 fr, .int .i64 x.off, .bool x.dst] 71)).alloc (.cells #[.int .i64 fr, .int .i64 x.off, .bool x.dst] 71) = W := ⟨_, rfl⟩
    rw [hW5]
    have hO5 : W5.ownsRow w.heap.size 71 3 (.slice (some ⟨w3.heap.size + 1, 0, none⟩) 1 1) 1 [.int .i64 fr, .int .i64 x.off, .bool x.dst] := by
      rw [← hW5]
      have h := World.ownsRow_lit (base := w.heap.size) (e := 71) (size := 3) (w3.alloc (.cells #[.int .i64 fr, .int .i64 x.off, .bool x.dst] 71)) #[.int .i64 fr, .int .i64 x.off, .bool x.dst] 1 (by rw [World.size_alloc]; have := HB3.out.size; omega) (by decide) rfl
      rw [World.size_alloc] at h
      exact h
    have hB5 : Below w.heap.size w W5 := by rw [← hW5]; exact (HB3.out.alloc HB3.out.size _).alloc (by rw [World.size_alloc]; have := HB3.out.size; omega) _
    have hm0 : n - (k + 1) = 0 := by omega
    have HRB := Lib.hid (show Reads w w.heap.size 3 (some ad) (n - (k + 1)) ((l.drop (k + 1)).flatMap Ln.Sp.cells) from ⟨(Ln.fl_len (l.drop (k + 1))).trans (by rw [List.length_drop, HN.out]), fun h => absurd h (by omega)⟩)
    have HBl : Hid ((l.drop (k + 1)).length = n - (k + 1)) := by show _ = _; rw [List.length_drop, HN.out]
    have HCt := Lib.hid (fun (V : World) (v : Value) (h : V.ownsRow w.heap.size 71 3 v (Lo.cutL l fr te (k + 1) x).length (Ln.fl (Lo.cutL l fr te (k + 1) x))) (hb : Below w.heap.size w V) => (show Lo.CtRet l fr te w (.returned (.tuple #[v, .int .i64 0])) V from ⟨⟨k, x, v, HA.out, Hx.out, rfl, h⟩, hb⟩))
    unfold Lo.cutL at HCt
    obtain ⟨Bl, hBl⟩ : ∃ L, l.drop (k + 1) = L := ⟨_, rfl⟩
    obtain ⟨m, hm⟩ : ∃ m, n - (k + 1) = m := ⟨_, rfl⟩
    obtain ⟨ad2, had⟩ : ∃ a, ad = a := ⟨_, rfl⟩
    rw [hBl] at HRB HBl HCt
    rw [hm] at HRB HBl
    rw [had] at HRB
    rw [had, hm]
    have hmn : m ≤ 900000000 := by omega
    have HO5 := Lib.hid hO5
    have HB5 := Lib.hid hB5
    clear hW5 hO5 hB5 hBl hm hm0 had x0 x1 x2
    go_loopw [46, 11] (fun i v wr => ∃ j : Nat, j ≤ m ∧ i = .int .i64 (j : Int) ∧ ∃ vA vc, v = .slice vA (j + 1) vc ∧ Hid (∀ q y, q < j → Bl[q]? = some y → y.fr < te) ∧ Hid (wr.ownsRow w.heap.size 71 3 (.slice vA (j + 1) vc) (j + 1) (Ln.fl (⟨fr, x.off, x.dst⟩ :: Bl.take j))) ∧ Hid (Below w.heap.size w wr)) (fun i _ _ => m - (intOf i).toNat)
    case atStart => exact ⟨0, Nat.zero_le _, rfl, _, 1, rfl, fun q y hq _ => (by omega), HO5.out, HB5.out⟩
    case round =>
      obtain ⟨j, hj, rfl, vA, vc, rfl, HQ, HO, HB⟩ := hrel
      have HEnd : Hid (∀ V, (∀ y, Bl[j]? = some y → ¬ y.fr < te) → V.ownsRow w.heap.size 71 3 (.slice vA (j + 1) vc) (j + 1) (Ln.fl (⟨fr, x.off, x.dst⟩ :: Bl.take j)) → Below w.heap.size w V → Lo.CtRet l fr te w (.returned (.tuple #[.slice vA (j + 1) vc, .int .i64 0])) V) := fun V hq ho hb => by
        refine HCt.out V _ ?_ hb
        rw [Lo.while_take (j := j) (fun i y hi hy => by rw [decide_eq_true_eq]; exact HQ.out i y hi hy) (fun y hy => by rw [decide_eq_false_iff_not]; exact hq y hy)]
        rw [List.length_cons, List.length_take, HBl.out, Nat.min_eq_left hj]
        exact ho
      by_cases hlt2 : j < m
      · obtain ⟨ad', y, e0, haby, Hy, HLy⟩ := Ix.reads_cells (enc := Ln.Sp.cells) (m := 3) (fun _ => rfl) HBl.out (HRB.out.below HB.out) hlt2
        obtain rfl := Option.some.inj e0
        have y0 : wr.cell? (ad2.add (j * 3)) = some (.int .i64 y.fr) := HLy.out 0 _ rfl
        have y1 : wr.cell? ⟨(ad2.add (j * 3)).block, (ad2.add (j * 3)).off + 1, none⟩ = some (.int .i64 y.off) := HLy.out 1 _ rfl
        have y2 : wr.cell? ⟨(ad2.add (j * 3)).block, (ad2.add (j * 3)).off + 2, none⟩ = some (.bool y.dst) := HLy.out 2 _ rfl
        have q6 : (0 : Int) ≤ (j : Int) := by omega
        have q7 : (j : Int) < (m : Int) := by omega
        obtain ⟨V1, hV1⟩ : ∃ W, wr.alloc (.cells #[.int .i64 y.fr, .int .i64 y.off, .bool y.dst] 71) = W := ⟨_, rfl⟩
        have hvb : Below wr.heap.size wr V1 := by rw [← hV1]; exact (Below.refl _ _).alloc (Nat.le_refl _) _
        obtain ⟨b9, hb9⟩ : ∃ b, wr.heap.size = b := ⟨_, rfl⟩
        have hAx : At V1 b9 [.int .i64 y.fr, .int .i64 y.off, .bool y.dst] := by rw [← hV1, ← hb9]; exact At.new _ _ _
        have hO1 : V1.ownsRow w.heap.size 71 3 (.slice vA (j + 1) vc) (j + 1) (Ln.fl (⟨fr, x.off, x.dst⟩ :: Bl.take j)) := by rw [← hV1]; exact HO.out.alloc _
        have HV1 := Lib.hid hV1
        have HB9 := Lib.hid hb9
        have HB1 := Lib.hid (HB.out.trans (hvb.mono HB.out.size))
        have HO1 := Lib.hid hO1
        have HAx := Lib.hid hAx
        clear hV1 hvb hb9 hAx hO1 haby HLy
        go_upto_region 13 with fail
        rw [HV1.out]
        try rw [HB9.out]
        obtain ⟨c0, c1, c2, _⟩ := HAx.out.three
        have zc := HAx.out.lt
        by_cases hbr : te ≤ y.fr
        · have HFin := Lib.hid (HEnd.out V1 (fun y' hy' => by
            rw [Hy.out] at hy'
            cases hy'
            omega) HO1.out HB1.out)
          go_wp2
          go_ret2
          exact HFin.out
        · have HNx : Hid (Ln.fl (⟨fr, x.off, x.dst⟩ :: Bl.take (j + 1)) = Ln.fl (⟨fr, x.off, x.dst⟩ :: Bl.take j) ++ [.int .i64 y.fr, .int .i64 y.off, .bool y.dst]) := by
            show _ = _
            rw [List.take_add_one, Hy.out]
            exact Ln.fl_snoc (⟨fr, x.off, x.dst⟩ :: Bl.take j) y
          have HQn : Hid (∀ q y, q < j + 1 → Bl[q]? = some y → y.fr < te) := fun q z hq hz => by
            rcases Nat.lt_or_ge q j with r | r
            · exact HQ.out q z r hz
            · obtain rfl : q = j := by omega
              rw [Hy.out] at hz
              cases hz
              omega
          have HAp := fun {ops : Array Oper} {rest : List Oper} {o : Oper} {a : Act} {Q : Exit → Act → World → Prop} hgd ho hs hx h => row_append (ops := ops) (rest := rest) (o := o) (a := a) (Q := Q) 66 71 3 24 _ #[.int .i64 y.fr, .int .i64 y.off, .bool y.dst] Tryz.underlying66 span_info rfl (by decide) rfl (by
            intro u hu
            simp at hu
            rcases hu with rfl | rfl | rfl <;> rfl) (by decide) V1 w.heap.size (j + 1) _ (.slice vA (j + 1) vc) 54 56 V1.heap.size rfl HO1.out (by omega) (HB1.out.size) hgd ho hs hx h
          go_wp2_with (at_builtin; refine HAp rfl rfl rfl rfl ?_; intro v9 w9 hown9 hb9 hg9 hat9; obtain ⟨A9, c9, rfl, _, _⟩ := own_slice_cap hown9)
          have HO9 : Hid (w9.ownsRow w.heap.size 71 3 (.slice A9 (j + 1 + 1) c9) (j + 1 + 1) (Ln.fl (⟨fr, x.off, x.dst⟩ :: Bl.take (j + 1)))) := by
            show World.ownsRow _ _ _ _ _ _ _
            rw [HNx.out]
            exact hown9
          have HB9' : Hid (Below w.heap.size w w9) := HB1.out.trans hb9
          have HMk := Lib.hid (show j + 1 ≤ m by omega)
          clear hown9 hb9 hg9 hat9 HAp
          go_roundw
          case rel => exact ⟨j + 1, HMk.out, by go_num, A9, c9, rfl, HQn.out, HO9.out, HB9'.out⟩
          case measure => simp [intOf]; omega
      · have hjm : j = m := by omega
        have HFin := Lib.hid (HEnd.out wr (fun y hy => by
          have h1 := (List.getElem?_eq_some_iff.1 hy).1
          have h2 := HBl.out
          omega) HO.out HB.out)
        have q7 : ¬ (j : Int) < (m : Int) := by omega
        clear hjm
        go_wp2
        go_ret2
        exact HFin.out
  case inr =>
    obtain ⟨W5, hW5⟩ : ∃ W, (w3.alloc (.cells #[.int .i64 fr, .int .i64 x.off, .bool x.dst] 71)).alloc (.cells #[.int .i64 fr, .int .i64 x.off, .bool x.dst] 71) = W := ⟨_, rfl⟩
    rw [hW5]
    have hO5 : W5.ownsRow w.heap.size 71 3 (.slice (some ⟨w3.heap.size + 1, 0, none⟩) 1 1) 1 [.int .i64 fr, .int .i64 x.off, .bool x.dst] := by
      rw [← hW5]
      have h := World.ownsRow_lit (base := w.heap.size) (e := 71) (size := 3) (w3.alloc (.cells #[.int .i64 fr, .int .i64 x.off, .bool x.dst] 71)) #[.int .i64 fr, .int .i64 x.off, .bool x.dst] 1 (by rw [World.size_alloc]; have := HB3.out.size; omega) (by decide) rfl
      rw [World.size_alloc] at h
      exact h
    have hB5 : Below w.heap.size w W5 := by rw [← hW5]; exact (HB3.out.alloc HB3.out.size _).alloc (by rw [World.size_alloc]; have := HB3.out.size; omega) _
    have HRB := Lib.hid (Lo.drop_reads HR.out HN.out hkn)
    have HBl : Hid ((l.drop (k + 1)).length = n - (k + 1)) := by show _ = _; rw [List.length_drop, HN.out]
    have HCt := Lib.hid (fun (V : World) (v : Value) (h : V.ownsRow w.heap.size 71 3 v (Lo.cutL l fr te (k + 1) x).length (Ln.fl (Lo.cutL l fr te (k + 1) x))) (hb : Below w.heap.size w V) => (show Lo.CtRet l fr te w (.returned (.tuple #[v, .int .i64 0])) V from ⟨⟨k, x, v, HA.out, Hx.out, rfl, h⟩, hb⟩))
    unfold Lo.cutL at HCt
    obtain ⟨Bl, hBl⟩ : ∃ L, l.drop (k + 1) = L := ⟨_, rfl⟩
    obtain ⟨m, hm⟩ : ∃ m, n - (k + 1) = m := ⟨_, rfl⟩
    obtain ⟨ad2, had⟩ : ∃ a, ad.add ((k + 1) * 3) = a := ⟨_, rfl⟩
    obtain ⟨cm, hcc⟩ : ∃ a, c - (k + 1) = a := ⟨_, rfl⟩
    rw [hBl] at HRB HBl HCt
    rw [hm] at HRB HBl
    rw [had] at HRB
    rw [had, hm, hcc]
    have hmn : m ≤ 900000000 := by omega
    have HO5 := Lib.hid hO5
    have HB5 := Lib.hid hB5
    clear hW5 hO5 hB5 hBl hm had hcc x0 x1 x2
    go_loopw [46, 11] (fun i v wr => ∃ j : Nat, j ≤ m ∧ i = .int .i64 (j : Int) ∧ ∃ vA vc, v = .slice vA (j + 1) vc ∧ Hid (∀ q y, q < j → Bl[q]? = some y → y.fr < te) ∧ Hid (wr.ownsRow w.heap.size 71 3 (.slice vA (j + 1) vc) (j + 1) (Ln.fl (⟨fr, x.off, x.dst⟩ :: Bl.take j))) ∧ Hid (Below w.heap.size w wr)) (fun i _ _ => m - (intOf i).toNat)
    case atStart => exact ⟨0, Nat.zero_le _, rfl, _, 1, rfl, fun q y hq _ => (by omega), HO5.out, HB5.out⟩
    case round =>
      obtain ⟨j, hj, rfl, vA, vc, rfl, HQ, HO, HB⟩ := hrel
      have HEnd : Hid (∀ V, (∀ y, Bl[j]? = some y → ¬ y.fr < te) → V.ownsRow w.heap.size 71 3 (.slice vA (j + 1) vc) (j + 1) (Ln.fl (⟨fr, x.off, x.dst⟩ :: Bl.take j)) → Below w.heap.size w V → Lo.CtRet l fr te w (.returned (.tuple #[.slice vA (j + 1) vc, .int .i64 0])) V) := fun V hq ho hb => by
        refine HCt.out V _ ?_ hb
        rw [Lo.while_take (j := j) (fun i y hi hy => by rw [decide_eq_true_eq]; exact HQ.out i y hi hy) (fun y hy => by rw [decide_eq_false_iff_not]; exact hq y hy)]
        rw [List.length_cons, List.length_take, HBl.out, Nat.min_eq_left hj]
        exact ho
      by_cases hlt2 : j < m
      · obtain ⟨ad', y, e0, haby, Hy, HLy⟩ := Ix.reads_cells (enc := Ln.Sp.cells) (m := 3) (fun _ => rfl) HBl.out (HRB.out.below HB.out) hlt2
        obtain rfl := Option.some.inj e0
        have y0 : wr.cell? (ad2.add (j * 3)) = some (.int .i64 y.fr) := HLy.out 0 _ rfl
        have y1 : wr.cell? ⟨(ad2.add (j * 3)).block, (ad2.add (j * 3)).off + 1, none⟩ = some (.int .i64 y.off) := HLy.out 1 _ rfl
        have y2 : wr.cell? ⟨(ad2.add (j * 3)).block, (ad2.add (j * 3)).off + 2, none⟩ = some (.bool y.dst) := HLy.out 2 _ rfl
        have q6 : (0 : Int) ≤ (j : Int) := by omega
        have q7 : (j : Int) < (m : Int) := by omega
        obtain ⟨V1, hV1⟩ : ∃ W, wr.alloc (.cells #[.int .i64 y.fr, .int .i64 y.off, .bool y.dst] 71) = W := ⟨_, rfl⟩
        have hvb : Below wr.heap.size wr V1 := by rw [← hV1]; exact (Below.refl _ _).alloc (Nat.le_refl _) _
        obtain ⟨b9, hb9⟩ : ∃ b, wr.heap.size = b := ⟨_, rfl⟩
        have hAx : At V1 b9 [.int .i64 y.fr, .int .i64 y.off, .bool y.dst] := by rw [← hV1, ← hb9]; exact At.new _ _ _
        have hO1 : V1.ownsRow w.heap.size 71 3 (.slice vA (j + 1) vc) (j + 1) (Ln.fl (⟨fr, x.off, x.dst⟩ :: Bl.take j)) := by rw [← hV1]; exact HO.out.alloc _
        have HV1 := Lib.hid hV1
        have HB9 := Lib.hid hb9
        have HB1 := Lib.hid (HB.out.trans (hvb.mono HB.out.size))
        have HO1 := Lib.hid hO1
        have HAx := Lib.hid hAx
        clear hV1 hvb hb9 hAx hO1 haby HLy
        go_upto_region 13 with fail
        rw [HV1.out]
        try rw [HB9.out]
        obtain ⟨c0, c1, c2, _⟩ := HAx.out.three
        have zc := HAx.out.lt
        by_cases hbr : te ≤ y.fr
        · have HFin := Lib.hid (HEnd.out V1 (fun y' hy' => by
            rw [Hy.out] at hy'
            cases hy'
            omega) HO1.out HB1.out)
          go_wp2
          go_ret2
          exact HFin.out
        · have HNx : Hid (Ln.fl (⟨fr, x.off, x.dst⟩ :: Bl.take (j + 1)) = Ln.fl (⟨fr, x.off, x.dst⟩ :: Bl.take j) ++ [.int .i64 y.fr, .int .i64 y.off, .bool y.dst]) := by
            show _ = _
            rw [List.take_add_one, Hy.out]
            exact Ln.fl_snoc (⟨fr, x.off, x.dst⟩ :: Bl.take j) y
          have HQn : Hid (∀ q y, q < j + 1 → Bl[q]? = some y → y.fr < te) := fun q z hq hz => by
            rcases Nat.lt_or_ge q j with r | r
            · exact HQ.out q z r hz
            · obtain rfl : q = j := by omega
              rw [Hy.out] at hz
              cases hz
              omega
          have HAp := fun {ops : Array Oper} {rest : List Oper} {o : Oper} {a : Act} {Q : Exit → Act → World → Prop} hgd ho hs hx h => row_append (ops := ops) (rest := rest) (o := o) (a := a) (Q := Q) 66 71 3 24 _ #[.int .i64 y.fr, .int .i64 y.off, .bool y.dst] Tryz.underlying66 span_info rfl (by decide) rfl (by
            intro u hu
            simp at hu
            rcases hu with rfl | rfl | rfl <;> rfl) (by decide) V1 w.heap.size (j + 1) _ (.slice vA (j + 1) vc) 54 56 V1.heap.size rfl HO1.out (by omega) (HB1.out.size) hgd ho hs hx h
          go_wp2_with (at_builtin; refine HAp rfl rfl rfl rfl ?_; intro v9 w9 hown9 hb9 hg9 hat9; obtain ⟨A9, c9, rfl, _, _⟩ := own_slice_cap hown9)
          have HO9 : Hid (w9.ownsRow w.heap.size 71 3 (.slice A9 (j + 1 + 1) c9) (j + 1 + 1) (Ln.fl (⟨fr, x.off, x.dst⟩ :: Bl.take (j + 1)))) := by
            show World.ownsRow _ _ _ _ _ _ _
            rw [HNx.out]
            exact hown9
          have HB9' : Hid (Below w.heap.size w w9) := HB1.out.trans hb9
          have HMk := Lib.hid (show j + 1 ≤ m by omega)
          clear hown9 hb9 hg9 hat9 HAp
          go_roundw
          case rel => exact ⟨j + 1, HMk.out, by go_num, A9, c9, rfl, HQn.out, HO9.out, HB9'.out⟩
          case measure => simp [intOf]; omega
      · have hjm : j = m := by omega
        have HFin := Lib.hid (HEnd.out wr (fun y hy => by
          have h1 := (List.getElem?_eq_some_iff.1 hy).1
          have h2 := HBl.out
          omega) HO.out HB.out)
        have q7 : ¬ (j : Int) < (m : Int) := by omega
        clear hjm
        go_wp2
        go_ret2
        exact HFin.out
set_option maxHeartbeats 8000000 in
set_option maxRecDepth 200000 in
theorem lookYear_any (l : List Ln.Sp) (y : Int) (A : Option Addr) (n c : Nat) (w : World) (hn : l.length = n) (hn2 : n ≤ 900000000) (hnc : n ≤ c) (hcm : c ≤ maxLen) (hr : Lo.Right l) (hy : 1 ≤ y ∧ y ≤ 9999) (h0 : ∀ x, l[0]? = some x → x.fr ≤ Oc.D y * 86400) (hR : Reads w w.heap.size 3 A n (l.flatMap Ln.Sp.cells)) :
    Calls Tryz.prog 28 #[.slice A n c, .int .i64 y] w (Lo.CtRet l (Oc.D y * 86400) (Oc.D (y + 1) * 86400) w) := by
  have hlt : Oc.D y * 86400 < Oc.D (y + 1) * 86400 := by have := Oc.D_next y; omega
  have HCk := Lib.hid (lookCheck_any l A n c w hn (by omega) hr hR)
  have HCt := Lib.hid fun W (hb : Below w.heap.size w W) => lookCut_any l (Oc.D y * 86400) (Oc.D (y + 1) * 86400) A n c W hn hn2 hnc hcm hr h0 hlt ((hR.below hb).more hb.size)
  have e1 : Ln.begin_ y = (Oc.D y * 86400, 0) := by unfold Ln.begin_; rw [if_pos (by omega)]
  have e2 : Ln.begin_ (y + 1) = (Oc.D (y + 1) * 86400, 0) := by unfold Ln.begin_; rw [if_pos (by omega)]
  have HB1 := Lib.hid fun W => e1 ▸ lnBegin_any y W
  have HB2 := Lib.hid fun W => e2 ▸ lnBegin_any (y + 1) W
  have HMo := Lib.hid (fun (w2 : World) (hb : Below w.heap.size w w2) (e : Ending) (w' : World) (h : Lo.CtRet l (Oc.D y * 86400) (Oc.D (y + 1) * 86400) w2 e w') => (show ∃ v, e = .returned (.tuple #[v, .int .i64 0]) ∧ Hid (Lo.CtRet l (Oc.D y * 86400) (Oc.D (y + 1) * 86400) w (.returned (.tuple #[v, .int .i64 0])) w') from by
    obtain ⟨⟨k, x, v, h1, h2, rfl, h3⟩, h4⟩ := h
    exact ⟨v, rfl, ⟨k, x, v, h1, h2, rfl, Go.Joins.ownsRow_le h3 hb.size⟩, hb.trans (h4.mono hb.size)⟩))
  obtain ⟨fr, hfr⟩ : ∃ q, Oc.D y * 86400 = q := ⟨_, rfl⟩
  obtain ⟨te, hte⟩ : ∃ q, Oc.D (y + 1) * 86400 = q := ⟨_, rfl⟩
  rw [hfr] at HB1 HCt HMo
  rw [hte] at HB2 HCt HMo
  rw [hfr, hte]
  have wy : IntKind.i64.wrap (y + 1) = y + 1 := by rw [IntKind.wrap_i64]; omega
  clear e1 e2 hfr hte hR hr h0 hn hlt
  go_enter Tryz.func28, Tryz.ntmps28
  go_wp2_with fail
  refine HCk.out.mono ?_
  rintro e w2 ⟨rfl, hb2⟩
  have HX2 := Lib.hid hb2
  clear hb2
  go_wp2_with fail
  refine (HB1.out _).mono ?_
  rintro e w3 ⟨rfl, rfl⟩
  go_wp2_with fail
  refine (HB2.out _).mono ?_
  rintro e w3 ⟨rfl, rfl⟩
  go_wp2_with fail
  refine (HCt.out w2 HX2.out).mono ?_
  intro e w4 h4
  obtain ⟨v, rfl, HFin⟩ := HMo.out w2 HX2.out e w4 h4
  clear h4
  go_wp2
  go_ret2
  exact HFin.out
end Go.Proofs.YtolgigaolffenaaGreatDoor
