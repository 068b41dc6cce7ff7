/- chart.Parse of a text without entries; what the laws of top 16 ask first. -/
import Derived.Test.YtjbgmbhifnihaaaDoorP31

namespace Go.Proofs.YtjbgmbhifnihaaaDoor
open Go.RowKit

namespace Mk
theorem chk_nil : Ca.chk [] = 0 := by decide +kernel
theorem ent_nil (w : World) (B : Nat) : Ca.EntR w B [] (.slice none 0 0) [] := ⟨⟨none, 0, rfl, Nat.le_refl _, Nat.zero_le _, Reads.none_⟩, rfl, fun p hp => by cases hp⟩
theorem wd_nil : Ca.Wd [] := ⟨by decide, fun e he => by cases he⟩
end Mk
set_option maxHeartbeats 4000000 in
set_option maxRecDepth 100000 in
theorem chartParse_none (s : ByteArray) (st : Mk.S) (hf : Mk.Fine s) (htk : Mk.tokens (tl s) = .inr st) (hno : ∀ t ∈ st.toks, ¬ (t.kind = 1 ∧ t.name = Mk.MAP)) (w : World) (hW : Wl w) :
    Calls Tryd.prog 16 #[.string s] w fun e w' => e = .returned (.tuple #[.slice none 0 0, .agg #[.int .i64 0, .int .i64 0, .int .i64 0]]) ∧ Below w.heap.size w w' := by
  have HT := Lib.hid (fun W hw => Mk.tok_ok s st hf htk W hw)
  obtain ⟨l, hl⟩ : ∃ l, st.toks = l := ⟨_, rfl⟩
  obtain ⟨m, hm⟩ : ∃ m, l.length = m := ⟨_, rfl⟩
  rw [hl] at HT hno
  rw [hm] at HT
  have HM := Lib.hid hm
  have HNo := Lib.hid hno
  have HW := Lib.hid hW
  have HB0 := Lib.hid (Mk.below_new w (.cells #[.int .i64 0, .int .i64 0, .int .i64 0] 32))
  have HZ0 : Hid (At (w.alloc (.cells #[.int .i64 0, .int .i64 0, .int .i64 0] 32)) w.heap.size [.int .i64 0, .int .i64 0, .int .i64 0]) := At.new _ _ _
  have hE := Mk.flt_zero
  clear hf htk hno hl hm hW
  go_enter Tryd.func16, Tryd.ntmps16
  go_wp2_with fail
  refine (HT.out _ (HW.out.below (Mk.below_new _ _))).mono ?_
  rintro e w1 ⟨⟨A, c, avs, rfl, hp⟩, hb⟩
  have hcap := hp.cap
  rw [HM.out] at hcap
  have hm63 : m ≤ 9223372036854775807 := by have h1 := hcap.1; have h2 := hcap.2; unfold maxLen at h2; omega
  have hmw : IntKind.i64.wrap (m : Int) = (m : Int) := by rw [IntKind.wrap_i64]; omega
  have HP := Lib.hid (hp.call (Mk.below_new w1 (.cells #[.int .i64 0, .int .i64 0, .int .i64 0] 32)))
  have HB1 := Lib.hid ((below_then HB0.out hb).alloc (below_then HB0.out hb).size (.cells #[.int .i64 0, .int .i64 0, .int .i64 0] 32))
  have HZ1 := Lib.hid ((HZ0.out.call hb).allocO (.cells #[.int .i64 0, .int .i64 0, .int .i64 0] 32))
  clear hp hb
  go_wp2_with fail
  obtain ⟨W0, hW0⟩ : ∃ W, w1.alloc (.cells #[.int .i64 0, .int .i64 0, .int .i64 0] 32) = W := ⟨_, rfl⟩
  rw [hW0] at HP HB1 HZ1 ⊢
  clear hW0
  go_loopw [6, 23] (fun v i wr => ∃ k : Nat, k ≤ m ∧ v = .slice none 0 0 ∧ i = .int .i64 (k : Int) ∧ Hid (Below W0.heap.size W0 wr)) (fun _ i _ => m - (intOf i).toNat)
  case atStart => exact ⟨0, Nat.zero_le _, rfl, rfl, Below.refl _ _⟩
  case round =>
    obtain ⟨k, hk, rfl, rfl, HB⟩ := hrel
    by_cases hlt : k < m
    · obtain ⟨ad, x, B, d1, rfl, hab, hx, hd1, hd1', _, x0, x1, x2, x3, x4⟩ := (HP.out.call HB.out).cells (show k < l.length by rw [HM.out]; exact hlt)
      have hxn := HNo.out x (List.mem_of_getElem? hx)
      have hkb : (ad.add (k * 5)).block < wr.heap.size := by rw [block_of_add]; exact hab
      have r1 : (0 : Int) ≤ (k : Int) := by omega
      have r2 : (k : Int) < (m : Int) := by omega
      obtain ⟨kd, nm, ats, tx, pt⟩ := x
      simp only at x0 x1 x2 x3 x4 hxn
      obtain ⟨Nm, hNm⟩ : ∃ q, Mk.bts nm = q := ⟨_, rfl⟩
      obtain ⟨Tx, hTx⟩ : ∃ q, Mk.bts tx = q := ⟨_, rfl⟩
      obtain ⟨d, hd⟩ : ∃ q, ats.length = q := ⟨_, rfl⟩
      rw [hNm] at x1
      rw [hTx] at x3
      rw [hd] at x2
      have HBn := Lib.hid (HB.out.alloc HB.out.size (.cells #[.int .u8 (kd : Int), .string Nm, .slice B d d1, .string Tx, .int .i64 (pt : Int)] 38))
      by_cases hk1 : kd = 1
      · have hnn : nm ≠ Mk.MAP := fun e => hxn ⟨hk1, e⟩
        have g1 : (Nm.toList == [109, 97, 112]) = false := Mk.not_list (by rw [← hNm, Mk.tl_bts]; exact hnn)
        subst hk1
        clear hxn hnn hNm hTx hd hx
        go_wp2
        go_roundw
        case rel => exact ⟨k + 1, by omega, rfl, by go_num, HBn.out⟩
        case measure => simp [intOf]; omega
      · have g0 : ((kd : Int) == 1) = false := by rw [beq_eq_false_iff_ne]; omega
        have g1 : ¬ (kd : Int) = 1 := by omega
        have g2 : ((kd : Int) != 1) = true := by rw [bne, g0]; rfl
        clear hxn hNm hTx hd hx hk1
        go_wp2
        go_roundw
        case rel => exact ⟨k + 1, by omega, rfl, by go_num, HBn.out⟩
        case measure => simp [intOf]; omega
    · have hkm : m = k := by omega
      subst hkm
      have q3 : ¬ (m : Int) < (m : Int) := by omega
      have HBw := Lib.hid (HB1.out.trans (HB.out.mono HB1.out.size))
      have HZw := Lib.hid (HZ1.out.call HB.out)
      have HCk := Lib.hid (caCheck_any [] none 0 0 [] wr (Mk.ent_nil _ _) rfl Mk.wd_nil)
      rw [Mk.chk_nil] at HCk
      go_wp2_with fail
      refine HCk.out.mono ?_
      rintro e w4 ⟨rfl, hb⟩
      have HBx := Lib.hid (below_then HBw.out hb)
      have HZx := Lib.hid (HZw.out.call hb)
      clear hb
      have hz := HZx.out.lt
      obtain ⟨f0, f1, f2, e5, e6, e7⟩ := HZx.out.three
      go_wp2
      refine bodyPost_ret (v := .tuple #[.slice none 0 0, .agg #[.int .i64 0, .int .i64 0, .int .i64 0]]) (by simp [results, Tryd.results16, go_sem, *]) rfl ⟨rfl, (((HBx.out.setCell (p := ⟨w.heap.size, _, none⟩) (Nat.le_refl _) _).setCell (p := ⟨w.heap.size, _, none⟩) (Nat.le_refl _) _).setCell (p := ⟨w.heap.size, _, none⟩) (Nat.le_refl _) _)⟩
namespace Mk
def lvx : Txt := [60, 120, 47, 62]
theorem lvx_tok : tokens lvx = .inr ⟨[⟨1, [120], [], [], 0⟩, ⟨2, [120], [], [], 0⟩], [], true⟩ := by kernel_rfl
theorem lvx_fine : Fine (bts lvx) := fine_ascii (by decide) (by decide +kernel) (by decide +kernel)
theorem lvx_no : ∀ t ∈ ([⟨1, [120], [], [], 0⟩, ⟨2, [120], [], [], 0⟩] : List T), ¬ (t.kind = 1 ∧ t.name = MAP) := by
  intro t ht h
  rcases List.mem_cons.1 ht with rfl | ht
  · have := h.2; revert this; decide
  · rw [List.mem_singleton.1 ht] at h
    have := h.1; revert this; decide
end Mk
set_option maxHeartbeats 4000000 in
set_option maxRecDepth 100000 in
theorem begins16_any (w : World) (hW : Wl w) : Calls Tryd.prog 13 #[] w fun e w' => e = .returned (.bool true) ∧ Below w.heap.size w w' := by
  have HC := Lib.hid (chartParse_none ⟨#[60, 120, 47, 62]⟩ _ Mk.lvx_fine Mk.lvx_tok Mk.lvx_no w hW)
  have HT := Lib.hid (fun W hw => Mk.tok_ok ⟨#[60, 120, 47, 62]⟩ _ Mk.lvx_fine Mk.lvx_tok W hw)
  have HW := Lib.hid hW
  have hE := Mk.flt_zero
  clear hW
  go_enter Tryd.func13, Tryd.ntmps13
  go_wp2_with fail
  refine HC.out.mono ?_
  rintro e w1 ⟨rfl, hb⟩
  have HB1 := Lib.hid hb
  clear hb
  go_wp2_with fail
  refine (HT.out _ ((HW.out.below HB1.out).below (Mk.below_new _ _))).mono ?_
  rintro e w2 ⟨⟨A, c, avs, rfl, _⟩, hb⟩
  have HK := Lib.hid ((At.new w1 #[.int .i64 0, .int .i64 0, .int .i64 0] 32).call hb)
  have HB2 := Lib.hid (below_then (HB1.out.alloc HB1.out.size (.cells #[.int .i64 0, .int .i64 0, .int .i64 0] 32)) hb)
  clear hb
  have hz := HK.out.lt
  obtain ⟨f0, f1, f2, _⟩ := HK.out.three
  have HBf := Lib.hid (HB2.out.alloc HB2.out.size (.cells #[.int .i64 0, .int .i64 0, .int .i64 0] 32))
  go_wp2
  go_ret
  exact ⟨rfl, HBf.out⟩
end Go.Proofs.YtjbgmbhifnihaaaDoor

/- top 16, plain: where the entries' parts lie; a chart's text is right. -/
namespace Go.Proofs.YtjbgmbhifnihaaaDoor
open Go.RowKit

namespace Mk
def mk (l : List En) : List T := ⟨1, CHART, [], [], 0⟩ :: ents 7 l
theorem ents_len : ∀ (l : List En) (p : Nat), (ents p l).length = 3 * l.length + 2
  | [], _ => rfl
  | e :: l, p => by
    have ih := ents_len l (p + 3 + (enTag e).length)
    rw [ents, List.length_cons, List.length_cons, List.length_cons, ih, List.length_cons]
    omega
theorem mk_len (l : List En) : (mk l).length = 3 * l.length + 3 := by unfold mk; rw [List.length_cons, ents_len]
theorem ents_text : ∀ (l : List En) (p j : Nat), j ≤ l.length → ∃ x : T, (ents p l)[3 * j]? = some x ∧ x.kind = 3
  | [], p, j, h => by
    obtain rfl : j = 0 := by simpa using h
    exact ⟨_, rfl, rfl⟩
  | e :: l, p, 0, _ => ⟨_, rfl, rfl⟩
  | e :: l, p, j + 1, h => by
    obtain ⟨x, hx, hk⟩ := ents_text l (p + 3 + (enTag e).length) j (by simpa using h)
    refine ⟨x, ?_, hk⟩
    rw [ents, show 3 * (j + 1) = 3 * j + 1 + 1 + 1 by omega, List.getElem?_cons_succ, List.getElem?_cons_succ, List.getElem?_cons_succ]
    exact hx
theorem ents_map : ∀ (l : List En) (p j : Nat) (e : En), l[j]? = some e → ∃ q, (ents p l)[3 * j + 1]? = some ⟨1, MAP, enAts e, [], q⟩ ∧ (ents p l)[3 * j + 2]? = some ⟨2, MAP, [], [], q⟩
  | [], p, j, e, h => by cases h
  | y :: l, p, 0, e, h => by
    cases h
    exact ⟨_, rfl, rfl⟩
  | y :: l, p, j + 1, e, h => by
    obtain ⟨q, h1, h2⟩ := ents_map l (p + 3 + (enTag y).length) j e h
    refine ⟨q, ?_, ?_⟩
    · rw [ents, show 3 * (j + 1) + 1 = (3 * j + 1) + 1 + 1 + 1 by omega, List.getElem?_cons_succ, List.getElem?_cons_succ, List.getElem?_cons_succ]
      exact h1
    · rw [ents, show 3 * (j + 1) + 2 = (3 * j + 2) + 1 + 1 + 1 by omega, List.getElem?_cons_succ, List.getElem?_cons_succ, List.getElem?_cons_succ]
      exact h2
theorem ents_end : ∀ (l : List En) (p : Nat), ∃ x : T, (ents p l)[3 * l.length + 1]? = some x ∧ x.kind = 2
  | [], p => ⟨_, rfl, rfl⟩
  | e :: l, p => by
    obtain ⟨x, hx, hk⟩ := ents_end l (p + 3 + (enTag e).length)
    refine ⟨x, ?_, hk⟩
    rw [ents, List.length_cons, show 3 * (l.length + 1) + 1 = (3 * l.length + 1) + 1 + 1 + 1 by omega, List.getElem?_cons_succ, List.getElem?_cons_succ, List.getElem?_cons_succ]
    exact hx
def cntE (l : List En) (i : Nat) : Nat := min (i / 3) l.length
theorem mk_step {l : List En} {i : Nat} (h : i < 3 * l.length + 3) :
    (∃ x : T, (mk l)[i]? = some x ∧ (x.kind ≠ 1 ∨ x.name ≠ MAP) ∧ cntE l (i + 1) = cntE l i) ∨
    (∃ (e : En) (q : Nat), l[cntE l i]? = some e ∧ (mk l)[i]? = some ⟨1, MAP, enAts e, [], q⟩ ∧ (mk l)[i + 1]? = some ⟨2, MAP, [], [], q⟩ ∧ cntE l (i + 1) = cntE l i + 1 ∧ cntE l i < l.length) := by
  cases i with
  | zero => exact .inl ⟨_, rfl, .inr (by decide), by unfold cntE; simp⟩
  | succ i =>
    have hi : i < 3 * l.length + 2 := by omega
    have hm : ∀ k, (mk l)[k + 1]? = (ents 7 l)[k]? := fun k => by unfold mk; rw [List.getElem?_cons_succ]
    obtain ⟨j, r, hj, hr⟩ : ∃ j r, i = 3 * j + r ∧ r < 3 := ⟨i / 3, i % 3, by omega, by omega⟩
    subst hj
    have c1 : r = 0 ∨ r = 1 ∨ r = 2 := by omega
    rcases c1 with rfl | rfl | rfl
    · obtain ⟨x, hx, hk⟩ := ents_text l 7 j (by omega)
      refine .inl ⟨x, by rw [hm]; exact hx, .inl (by rw [hk]; decide), ?_⟩
      unfold cntE
      rw [show (3 * j + 0 + 1 + 1) / 3 = j by omega, show (3 * j + 0 + 1) / 3 = j by omega]
    · by_cases hjl : j < l.length
      · obtain ⟨e, he⟩ : ∃ e, l[j]? = some e := ⟨_, List.getElem?_eq_getElem hjl⟩
        obtain ⟨q, h1, h2⟩ := ents_map l 7 j e he
        have c2 : cntE l (3 * j + 1 + 1) = j := by unfold cntE; rw [show (3 * j + 1 + 1) / 3 = j by omega]; omega
        refine .inr ⟨e, q, by rw [c2]; exact he, by rw [hm]; exact h1, by rw [hm]; exact h2, ?_, by rw [c2]; exact hjl⟩
        rw [c2]
        unfold cntE
        rw [show (3 * j + 1 + 1 + 1) / 3 = j + 1 by omega]
        omega
      · obtain rfl : j = l.length := by omega
        obtain ⟨x, hx, hk⟩ := ents_end l 7
        refine .inl ⟨x, by rw [hm]; exact hx, .inl (by rw [hk]; decide), ?_⟩
        unfold cntE
        rw [show (3 * l.length + 1 + 1 + 1) / 3 = l.length + 1 by omega, show (3 * l.length + 1 + 1) / 3 = l.length by omega]
        omega
    · obtain ⟨e, he⟩ : ∃ e, l[j]? = some e := ⟨_, List.getElem?_eq_getElem (by omega)⟩
      obtain ⟨q, _, h2⟩ := ents_map l 7 j e he
      refine .inl ⟨_, by rw [hm]; exact h2, .inl (show (2 : Nat) ≠ 1 by decide), ?_⟩
      unfold cntE
      rw [show (3 * j + 2 + 1 + 1) / 3 = j + 1 by omega, show (3 * j + 2 + 1) / 3 = j + 1 by omega]
theorem cnt_end (l : List En) : cntE l (3 * l.length + 3) = l.length := by
  unfold cntE
  rw [show (3 * l.length + 3) / 3 = l.length + 1 by omega]
  omega
/-- A text that is right, and has no bad byte. -/
def Gd (v : Txt) : Prop := Rt v ∧ ∀ b ∈ v, low b = false
theorem Gd.app {a b : Txt} (ha : Gd a) (hb : Gd b) : Gd (a ++ b) := ⟨ha.1.app hb.1, fun x hx => (List.mem_append.1 hx).elim (ha.2 x) (hb.2 x)⟩
theorem gd_ascii {v : Txt} (h : ∀ b ∈ v, b.toNat < 128 ∧ low b = false) : Gd v := ⟨rt_ascii v fun b hb => (h b hb).1, fun b hb => (h b hb).2⟩
theorem gd_cl {v : Txt} (h : Cl v) : Gd v := gd_ascii fun b hb => (h b hb).2.2.2
theorem gd_line {e : Ca.E} (h : EnR e) : Gd (line e) := by
  have hk : Gd (esc (tl e.key)) := ⟨rt_esc ((rt_iff e.key).1 h.key.2.1), low_esc h.key.2.2⟩
  unfold line pre
  exact (((((gd_ascii (by decide)).app hk).app (gd_ascii (by decide))).app (gd_cl h.terr.1)).app (gd_ascii (by decide))).app (gd_cl h.zs.1) |>.app (gd_ascii (by decide))
theorem gd_lines : ∀ l : List Ca.E, (∀ e ∈ l, EnR e) → Gd (l.flatMap line)
  | [], _ => gd_ascii (fun b hb => by cases hb)
  | e :: l, h => by
    rw [List.flatMap_cons]
    exact (gd_line (h e List.mem_cons_self)).app (gd_lines l fun x hx => h x (List.mem_cons_of_mem _ hx))
theorem ctext_fine {l : List Ca.E} (h : ∀ e ∈ l, EnR e) (hn : l.length ≤ 40) : Fine (bts (ctext l)) := by
  have hg : Gd (ctext l) := by
    unfold ctext
    exact ((gd_ascii (by decide)).app (gd_lines l h)).app (gd_ascii (by decide))
  have hl := acc_len l l.length h
  refine ⟨?_, (rt_iff _).2 hg.1, hg.2⟩
  rw [bts_size]
  unfold acc at hl
  rw [List.take_length] at hl
  unfold ctext
  rw [List.length_append]
  simp only [List.length_cons, List.length_nil]
  omega
theorem ctext_tokens {l : List Ca.E} (h : ∀ e ∈ l, EnR e) : tokens (tl (bts (ctext l))) = .inr ⟨mk (l.map en), [], true⟩ := by
  rw [tl_bts, ctext_chart]
  exact tokens_chart _ fun e he => by
    obtain ⟨x, hx, rfl⟩ := List.mem_map.1 he
    exact (h x hx).ok
theorem join_snoc (a : List Txt) (z : Txt) : Lib.join (a ++ [z]) [32] = if a = [] then z else Lib.join a [32] ++ [32] ++ z := by
  induction a with
  | nil => simp [Lib.join, List.intercalate]
  | cons x a ih =>
    cases a with
    | nil => simp [Lib.join, List.intercalate]
    | cons y a =>
      have e : ∀ r : List Txt, Lib.join (x :: y :: r) [32] = x ++ [32] ++ Lib.join (y :: r) [32] := fun r => by simp [Lib.join, List.intercalate]
      rw [if_neg (by simp)] at ih ⊢
      rw [List.cons_append, List.cons_append, e, e, ← List.cons_append, ih]
      simp
end Mk
/-- chart.Check of too many entries. -/
theorem caCheck_long (A : Option Addr) (n c : Nat) (w : World) (hn : 4096 < n) (_hc : n ≤ maxLen) : Calls Tryd.prog 27 #[.slice A n c] w fun e w' => e = .returned (.int .i64 6) ∧ w' = w := by
  have q0 : (4096 : Int) < (n : Int) := by omega
  go_enter Tryd.func27, Tryd.ntmps27
  go_wp2
  go_ret
  exact ⟨rfl, rfl⟩
theorem chartText_wide (l : List Ca.E) (A : Option Addr) (n c : Nat) (evs : List Value) (w : World) (hR : Ca.EntR w w.heap.size l (.slice A n c) evs) (hl : l.length = n) (hW : Ca.Wide l) :
    Calls Tryd.prog 14 #[.slice A n c] w fun e w' => ((Ca.chk l = 0 ∧ e = .returned (.tuple #[.string (Mk.bts (Mk.ctext l)), .int .i64 0])) ∨ (∃ v : Int, v ≠ 0 ∧ e = .returned (.tuple #[.string ⟨#[]⟩, .int .i64 v]))) ∧ Below w.heap.size w w' := by
  by_cases hn : n ≤ 4096
  · refine (chartText_any l A n c evs w hR hl ⟨by rw [hl]; exact hn, hW.all⟩).mono ?_
    rintro e w' ⟨h, hb⟩
    rcases h with h | ⟨h, he⟩
    · exact ⟨.inl h, hb⟩
    · exact ⟨.inr ⟨_, h, he⟩, hb⟩
  · have hcap : n ≤ maxLen := by
      obtain ⟨A', c', e, h1, h2, _⟩ := hR.row
      rw [hl] at e
      injection e with _ _ e2
      omega
    have HC := Lib.hid (caCheck_long A n c w (by omega) hcap)
    clear hR hl hW hn hcap
    go_enter Tryd.func14, Tryd.ntmps14
    go_wp2_with fail
    refine HC.out.mono ?_
    rintro e w1 ⟨rfl, rfl⟩
    go_wp2
    go_ret2
    exact ⟨.inr ⟨6, by decide, rfl⟩, Below.refl _ _⟩
end Go.Proofs.YtjbgmbhifnihaaaDoor

/- top 16: the law TopMarked, walked. -/
namespace Go.Proofs.YtjbgmbhifnihaaaDoor
open Go.RowKit

namespace Mk
theorem at_reads {w : World} {g size n : Nat} {xs : List Value} (h : At w g xs) (hl : xs.length = n * size) : Reads w w.heap.size size (some ⟨g, 0, none⟩) n xs :=
  ⟨hl, fun _ => ⟨_, rfl, h.lt, fun j u hu => by rw [add_off]; exact h.cell j u hu⟩⟩
theorem right_few {e : Ca.E} (h : Ca.right e = true) : (∀ z ∈ e.zones.map tl, z.length ≤ 64) ∧ e.zones.length ≤ 32 := by
  unfold Ca.right at h
  simp only [Bool.and_eq_true, decide_eq_true_eq] at h
  obtain ⟨⟨_, hz⟩, hn⟩ := h
  refine ⟨?_, hz.2⟩
  intro z hz2
  obtain ⟨y, hy, rfl⟩ := List.mem_map.1 hz2
  have h2 := List.all_eq_true.1 hn y hy
  unfold Ru.name at h2
  rw [Bool.and_eq_true] at h2
  have h3 := of_decide_eq_true h2.1
  exact h3.2
/-- The names put together one by one. -/
theorem join_take {zs : List ByteArray} {j : Nat} {z : ByteArray} (h : zs[j]? = some z) : Lib.join ((zs.map tl).take (j + 1)) [32] = if j = 0 then tl z else Lib.join ((zs.map tl).take j) [32] ++ [32] ++ tl z := by
  have hj := (List.getElem?_eq_some_iff.1 h).1
  have h2 : (zs.map tl)[j]? = some (tl z) := by rw [List.getElem?_map, h]; rfl
  rw [List.take_add_one, h2]
  show Lib.join ((zs.map tl).take j ++ [tl z]) [32] = _
  rw [join_snoc]
  by_cases e : j = 0
  · subst e; rfl
  · rw [if_neg e, if_neg]
    intro x
    have := congrArg List.length x
    rw [List.length_take, List.length_map, List.length_nil] at this
    omega
theorem join_take_len {zs : List ByteArray} (h : ∀ z ∈ zs.map tl, z.length ≤ 64) (j : Nat) (hj : j ≤ 32) : (Lib.join ((zs.map tl).take j) [32]).length ≤ 2080 := by
  have h1 := join_len ((zs.map tl).take j) 64 fun z hz => h z (List.mem_of_mem_take hz)
  have h2 : ((zs.map tl).take j).length ≤ 32 := by rw [List.length_take]; omega
  have h3 := Nat.mul_le_mul_right 65 h2
  omega
end Mk
set_option maxHeartbeats 8000000 in
set_option maxRecDepth 100000 in
theorem topMarked_any (l : List Ca.E) (A : Option Addr) (n c : Nat) (evs : List Value) (w : World) (hR : Ca.EntR w w.heap.size l (.slice A n c) evs) (hl : l.length = n) (hWd : Ca.Wide l) (hW : Wl w) :
    Calls Tryd.prog 6 #[.slice A n c] w fun e w' => e = .returned (.bool true) ∧ Below w.heap.size w w' := by
  have HLv := Lib.hid (begins16_any w hW)
  have HW := Lib.hid hW
  have HR := Lib.hid hR
  have HL := Lib.hid hl
  have HWd := Lib.hid hWd
  have HTx := Lib.hid (fun W (hb : Below w.heap.size w W) => chartText_wide l A n c evs W ((HR.out.below hb).more hb.size) hl hWd)
  have HSm := Lib.hid (fun W (hb : Below w.heap.size w W) => small32_any l A n c evs W ((HR.out.below hb).more hb.size) hl hWd)
  clear hW hR hl hWd
  go_enter Tryd.func6, Tryd.ntmps6
  go_wp2_with fail
  refine HLv.out.mono ?_
  rintro e w1 ⟨rfl, hb⟩
  have HB1 := Lib.hid hb
  clear hb
  go_wp2_with fail
  refine (HTx.out _ HB1.out).mono ?_
  rintro e w2 ⟨hcase, hb⟩
  have HB2 := Lib.hid (below_then HB1.out hb)
  clear hb
  rcases hcase with ⟨hchk, rfl⟩ | ⟨v, hv, rfl⟩
  rotate_left
  · have g0 : (v == 0) = false := by rw [beq_eq_false_iff_ne]; exact hv
    have g1 : (v != 0) = true := by rw [bne, g0]; rfl
    clear hv
    go_wp2_with fail
    refine (HSm.out _ HB2.out).mono ?_
    rintro e w3 ⟨hcs, hb⟩
    have HB3 := Lib.hid (below_then HB2.out hb)
    clear hb
    rcases hcs with rfl | ⟨rfl, _⟩
    all_goals
      go_wp2
      go_ret
      exact ⟨rfl, HB3.out⟩
  have HEn : Hid (∀ e ∈ l, Mk.EnR e) := fun e he => Mk.right_en (Mk.chk_right hchk e he)
  have HRg : Hid (∀ e ∈ l, Ca.right e = true) := Mk.chk_right hchk
  clear hchk
  go_wp2_with fail
  refine (HSm.out _ HB2.out).mono ?_
  rintro e w3 ⟨hcs, hb⟩
  have HB3 := Lib.hid (below_then HB2.out hb)
  clear hb
  rcases hcs with rfl | ⟨rfl, hfew⟩
  · go_wp2
    go_ret
    exact ⟨rfl, HB3.out⟩
  have HT := Lib.hid (fun W hw => Mk.tok_ok _ _ (Mk.ctext_fine HEn.out hfew.n) (Mk.ctext_tokens HEn.out) W hw)
  have hn40 : n ≤ 40 := by rw [← HL.out]; exact hfew.n
  obtain ⟨X, hX⟩ : ∃ X, Mk.bts (Mk.ctext l) = X := ⟨_, rfl⟩
  obtain ⟨P, hP⟩ : ∃ P, Mk.mk (l.map Mk.en) = P := ⟨_, rfl⟩
  have hPl : P.length = 3 * n + 3 := by rw [← hP, Mk.mk_len, List.length_map, HL.out]
  have HPx := Lib.hid hP
  rw [hX]
  rw [hX, hP] at HT
  obtain ⟨M, hM⟩ : ∃ M, P.length = M := ⟨_, rfl⟩
  have hM3 : M = 3 * n + 3 := by rw [← hM]; exact hPl
  rw [hM] at HT
  have HM := Lib.hid hM
  have HM3 := Lib.hid hM3
  have hE := Mk.flt_zero
  clear hX hP hPl hM hM3 hfew HSm HTx HLv
  go_wp2_with fail
  refine (HT.out _ (HW.out.below HB3.out)).mono ?_
  rintro e w4 ⟨⟨PA, pc, pvs, rfl, hp⟩, hb⟩
  have HP := Lib.hid (hp.call (Mk.below_new w4 (.cells #[.int .i64 0, .int .i64 0, .int .i64 0] 32)))
  have HB4 := Lib.hid ((below_then HB3.out hb).alloc (below_then HB3.out hb).size (.cells #[.int .i64 0, .int .i64 0, .int .i64 0] 32))
  clear hp hb
  go_wp2_with fail
  obtain ⟨W0, hW0⟩ : ∃ W, w4.alloc (.cells #[.int .i64 0, .int .i64 0, .int .i64 0] 32) = W := ⟨_, rfl⟩
  rw [hW0] at HP HB4 ⊢
  have hcE : Mk.cntE (l.map Mk.en) 0 = 0 := by unfold Mk.cntE; simp
  clear hW0
  have hM1000 : M ≤ 1000 := by have hM3 := HM3.out; omega
  have hmw : IntKind.i64.wrap (M : Int) = (M : Int) := by rw [IntKind.wrap_i64]; omega
  have hnw : IntKind.i64.wrap (n : Int) = (n : Int) := by rw [IntKind.wrap_i64]; omega
  go_loopw [7, 40] (fun v i wr => ∃ k : Nat, k ≤ M ∧ i = .int .i64 (k : Int) ∧ v = .int .i64 (Mk.cntE (l.map Mk.en) k : Int) ∧ Hid (Below W0.heap.size W0 wr)) (fun _ i _ => M - (intOf i).toNat)
  case atStart => exact ⟨0, Nat.zero_le _, rfl, by rw [hcE]; rfl, Below.refl _ _⟩
  case round =>
    obtain ⟨k, hk, rfl, rfl, HB⟩ := hrel
    obtain ⟨wq, rfl⟩ : ∃ x, x = wr := ⟨_, rfl⟩
    by_cases hlt : k < M
    · obtain ⟨ad, x, B, d1, rfl, hab, hx, hd1, hd1', hra, x0, x1, x2, x3, x4⟩ := (HP.out.call HB.out).cells (show k < P.length by rw [HM.out]; exact hlt)
      have hst := Mk.mk_step (l := l.map Mk.en) (i := k) (by have hM3 := HM3.out; rw [List.length_map, HL.out]; omega)
      rw [HPx.out, hx] at hst
      have hkb : (ad.add (k * 5)).block < wq.heap.size := by rw [block_of_add]; exact hab
      have r1 : (0 : Int) ≤ (k : Int) := by omega
      have r2 : (k : Int) < (M : Int) := by omega
      obtain ⟨K, hK⟩ : ∃ K, Mk.cntE (l.map Mk.en) k = K := ⟨_, rfl⟩
      have HK := Lib.hid hK
      rw [hK] at hst ⊢
      rcases hst with ⟨y, hy, hno, hcn⟩ | ⟨en, q, hen, hy, hy2, hcn, hKl⟩
      · obtain rfl := Option.some.inj hy
        have HCn := Lib.hid hcn
        obtain ⟨kd, nm, ats, tx, pt⟩ := x
        simp only at x0 x1 x2 x3 x4 hno
        obtain ⟨Nm, hNm⟩ : ∃ q, Mk.bts nm = q := ⟨_, rfl⟩
        obtain ⟨Tx, hTx⟩ : ∃ q, Mk.bts tx = q := ⟨_, rfl⟩
        obtain ⟨d, hd⟩ : ∃ q, ats.length = q := ⟨_, rfl⟩
        rw [hNm] at x1
        rw [hTx] at x3
        rw [hd] at x2
        have HBn := Lib.hid (HB.out.alloc HB.out.size (.cells #[.int .u8 (kd : Int), .string Nm, .slice B d d1, .string Tx, .int .i64 (pt : Int)] 38))
        by_cases hk1 : kd = 1
        · have hnn : nm ≠ Mk.MAP := by
            rcases hno with h | h
            · exact absurd hk1 h
            · exact h
          have g1 : (Nm.toList == [109, 97, 112]) = false := Mk.not_list (by rw [← hNm, Mk.tl_bts]; exact hnn)
          subst hk1
          clear hno hnn hNm hTx hd hx hy hcn hra
          go_wp2
          go_roundw
          case rel => exact ⟨k + 1, by omega, by go_num, by rw [HCn.out], HBn.out⟩
          case measure => simp [intOf]; omega
        · have g0 : ((kd : Int) == 1) = false := by rw [beq_eq_false_iff_ne]; omega
          have g1 : ¬ (kd : Int) = 1 := by omega
          have g2 : ((kd : Int) != 1) = true := by rw [bne, g0]; rfl
          clear hno hNm hTx hd hx hy hcn hk1 hra
          go_wp2
          go_roundw
          case rel => exact ⟨k + 1, by omega, by go_num, by rw [HCn.out], HBn.out⟩
          case measure => simp [intOf]; omega
      · have hkM : k + 1 < M := by
          by_cases h : k + 1 < M
          · exact h
          · exfalso
            rw [List.getElem?_eq_none (by rw [HM.out]; omega)] at hy2
            cases hy2
        obtain ⟨ad2, y, B2, d2, e2, _, hy', _, _, _, n0, _, _, _, n4⟩ := (HP.out.call HB.out).cells (show k + 1 < P.length by rw [HM.out]; exact hkM)
        injection e2 with e2
        subst e2
        rw [hy'] at hy2
        obtain rfl := Option.some.inj hy2
        obtain rfl := Option.some.inj hy
        have hKn : K < n := by rw [← HL.out, ← List.length_map (f := Mk.en)]; exact hKl
        obtain ⟨e, he, hee⟩ : ∃ e, l[K]? = some e ∧ en = Mk.en e := by
          rw [List.getElem?_map] at hen
          cases h : l[K]? with
          | none => rw [h] at hen; cases hen
          | some e => rw [h] at hen; exact ⟨e, rfl, (Option.some.inj hen).symm⟩
        subst hee
        have x0' : wq.cell? (ad.add (k * 5)) = some (.int .u8 1) := x0
        have x1' : wq.cell? ⟨(ad.add (k * 5)).block, (ad.add (k * 5)).off + 1, none⟩ = some (.string ⟨#[109, 97, 112]⟩) := x1
        have x2' : wq.cell? ⟨(ad.add (k * 5)).block, (ad.add (k * 5)).off + 2, none⟩ = some (.slice B 3 d1) := x2
        have x3' : wq.cell? ⟨(ad.add (k * 5)).block, (ad.add (k * 5)).off + 3, none⟩ = some (.string ⟨#[]⟩) := x3
        have x4' : wq.cell? ⟨(ad.add (k * 5)).block, (ad.add (k * 5)).off + 4, none⟩ = some (.int .i64 (q : Int)) := x4
        have n0' : wq.cell? (ad.add ((k + 1) * 5)) = some (.int .u8 2) := n0
        have n4' : wq.cell? ⟨(ad.add ((k + 1) * 5)).block, (ad.add ((k + 1) * 5)).off + 4, none⟩ = some (.int .i64 (q : Int)) := n4
        have hkb2 : (ad.add ((k + 1) * 5)).block < wq.heap.size := by rw [block_of_add]; exact hab
        have HRa : Hid (Reads wq wq.heap.size 2 B 3 (Mk.atCells (Mk.enAts (Mk.en e)))) := hra
        have HE0 := Lib.hid he
        have HCn := Lib.hid hcn
        have hrg := HRg.out e (List.mem_of_getElem? he)
        have HRe := Lib.hid hrg
        have s1 : (0 : Int) ≤ (k : Int) + 1 := by omega
        have s2 : (k : Int) + 1 < (M : Int) := by omega
        have s3 : ((k : Int) + 1).toNat = k + 1 := by omega
        have s4 : IntKind.i64.wrap ((k : Int) + 1) = (k : Int) + 1 := by rw [IntKind.wrap_i64]; omega
        have s5 : decide (n ≤ K) = false := by rw [decide_eq_false_iff_not]; omega
        have s6 : decide ((n : Int) ≤ (K : Int)) = false := by rw [decide_eq_false_iff_not]; omega
        have s7 : decide (M ≤ k + 1) = false := by rw [decide_eq_false_iff_not]; omega
        have s8 : decide ((M : Int) ≤ (k : Int) + 1) = false := by rw [decide_eq_false_iff_not]; omega
        have s9 : (0 : Int) ≤ (K : Int) := by omega
        have s10 : (K : Int) < (n : Int) := by omega
        have HVA : Hid (At (wq.alloc (.cells #[.int .u8 1, .string ⟨#[109, 97, 112]⟩, .slice B 3 d1, .string ⟨#[]⟩, .int .i64 (q : Int)] 38)) wq.heap.size [.int .u8 1, .string ⟨#[109, 97, 112]⟩, .slice B 3 d1, .string ⟨#[]⟩, .int .i64 (q : Int)]) := At.new _ _ _
        have HBV := Lib.hid (HB.out.alloc HB.out.size (.cells #[.int .u8 1, .string ⟨#[109, 97, 112]⟩, .slice B 3 d1, .string ⟨#[]⟩, .int .i64 (q : Int)] 38))
        have HBq := Lib.hid ((Below.refl wq.heap.size wq).alloc (Nat.le_refl _) (.cells #[.int .u8 1, .string ⟨#[109, 97, 112]⟩, .slice B 3 d1, .string ⟨#[]⟩, .int .i64 (q : Int)] 38))
        clear x0 x1 x2 x3 x4 n0 n4 hra hx hy' hen hy hy2 hcn hKl he hrg
        go_wp2_with fail
        go_quiet (fail)
        obtain ⟨W, hW⟩ : ∃ W, (wq.alloc (.cells #[.int .u8 1, .string ⟨#[109, 97, 112]⟩, .slice B 3 d1, .string ⟨#[]⟩, .int .i64 (q : Int)] 38)).drewN nq = W := ⟨_, rfl⟩
        have HVW : Hid (At W wq.heap.size [.int .u8 1, .string ⟨#[109, 97, 112]⟩, .slice B 3 d1, .string ⟨#[]⟩, .int .i64 (q : Int)]) := by rw [← hW]; exact HVA.out.drew ⟨nq, rfl⟩
        have HBW : Hid (Below W0.heap.size W0 W) := by rw [← hW]; exact below_drewN HBV.out nq
        have HBqW : Hid (Below wq.heap.size wq W) := by rw [← hW]; exact below_drewN HBq.out nq
        have HBwW : Hid (Below w.heap.size w W) := HB4.out.trans (HBW.out.mono HB4.out.size)
        rw [hW]
        clear hW HVA HBV HBq x0' x1' x2' x3' x4' n0' n4'
        obtain ⟨adE, eE, zA, m, zc, rfl, hab2, Hx, y0, y1, y2, Hm, hmz, hzc, HZr, _⟩ := ((HR.out.below HBwW.out).more HBwW.out.size).at_ HL.out hKn
        have hee := Option.some.inj (HE0.out.symm.trans Hx.out)
        subst hee
        have hrf := Mk.right_few HRe.out
        have hm32 : m ≤ 32 := by rw [← Hm.out]; exact hrf.2
        have HJl := Lib.hid (Mk.join_take_len hrf.1)
        have hmw2 : IntKind.i64.wrap (m : Int) = (m : Int) := by rw [IntKind.wrap_i64]; omega
        have hab3 : (adE.add (K * 3)).block < W.heap.size := by rw [block_of_add]; exact hab2
        clear hrf
        go_wp2_with fail
        go_loopw [10, 96] (fun s i wr => ∃ j : Nat, j ≤ m ∧ i = .int .i64 (j : Int) ∧ s = .string (Mk.bts (Lib.join ((e.zones.map tl).take j) [32])) ∧ W = wr) (fun _ i _ => m - (intOf i).toNat)
        case atStart => exact ⟨0, Nat.zero_le _, rfl, rfl, rfl⟩
        case round =>
          obtain ⟨j, hj, rfl, rfl, rfl⟩ := hrel
          have hJ0 := HJl.out j (by omega)
          by_cases hjm : j < m
          · obtain ⟨zad, u, rfl, hzb, hu, z0⟩ := HZr.out.at_ hjm
            obtain ⟨z, hz, hzu⟩ : ∃ z, e.zones[j]? = some z ∧ .string z = u := by
              rw [List.getElem?_map] at hu
              cases h : e.zones[j]? with
              | none => rw [h] at hu; cases hu
              | some z => rw [h] at hu; exact ⟨z, rfl, Option.some.inj hu⟩
            subst hzu
            have hJ := Mk.join_take hz
            have hzl : (tl z).length ≤ 100 := by
              have h1 := (Mk.right_few HRe.out).1 (tl z) (List.mem_map_of_mem (List.mem_of_getElem? hz))
              omega
            have HJ1 := Lib.hid hJ
            have t1 : (0 : Int) ≤ (j : Int) := by omega
            have t2 : (j : Int) < (m : Int) := by omega
            have hzb2 : (zad.add j).block < W.heap.size := by rw [block_of_add]; exact hzb
            obtain ⟨S, hS⟩ : ∃ x, Mk.bts (Lib.join ((e.zones.map tl).take j) [32]) = x := ⟨_, rfl⟩
            obtain ⟨S2, hS2⟩ : ∃ x, Mk.bts (Lib.join ((e.zones.map tl).take j) [32] ++ [32]) = x := ⟨_, rfl⟩
            obtain ⟨S3, hS3⟩ : ∃ x, Mk.bts (Lib.join ((e.zones.map tl).take (j + 1)) [32]) = x := ⟨_, rfl⟩
            have HS3 := Lib.hid hS3
            rw [hS]
            clear hJ hu
            by_cases hj0 : j = 0
            · have sm : ∀ V, (Op.stringOp .add S z).run Tryd.prog V = .ok (.string S3) V := fun V => by
                rw [← hS, ← hS3, HJ1.out, if_pos hj0]
                have := Mk.add_bts (Lib.join ((e.zones.map tl).take j) [32]) (tl z) (by omega) V
                have hn : Lib.join ((e.zones.map tl).take j) [32] = [] := by rw [hj0]; rfl
                rw [hn, List.nil_append] at this
                rw [hn]
                exact this
              have t3 : ¬ (0 : Int) < (j : Int) := by omega
              clear hS hS2 hS3 hj0 hz hzl
              go_wp2
              go_roundw
              case rel => exact ⟨j + 1, by omega, by go_num, by rw [HS3.out], trivial⟩
              case measure => simp [intOf]; omega
            · have sm1 : ∀ V, (Op.stringOp .add S ⟨#[32]⟩).run Tryd.prog V = .ok (.string S2) V := fun V => by
                rw [← hS, ← hS2]
                exact Mk.add_bts _ [32] (by simp only [List.length_cons, List.length_nil]; omega) V
              have sm2 : ∀ V, (Op.stringOp .add S2 z).run Tryd.prog V = .ok (.string S3) V := fun V => by
                rw [← hS2, ← hS3, HJ1.out, if_neg hj0]
                exact Mk.add_bts _ (tl z) (by simp only [List.length_append, List.length_cons, List.length_nil]; omega) V
              have t3 : (0 : Int) < (j : Int) := by omega
              clear hS hS2 hS3 hj0 hz hzl
              go_wp2
              go_roundw
              case rel => exact ⟨j + 1, by omega, by go_num, by rw [HS3.out], trivial⟩
              case measure => simp [intOf]; omega
          · obtain rfl : m = j := by omega
            have t2 : ¬ (m : Int) < (m : Int) := by omega
            obtain ⟨ZB, hZB⟩ : ∃ x, Mk.bts (Lib.join ((e.zones.map tl).take m) [32]) = x := ⟨_, rfl⟩
            have HZB : Hid (Mk.bts (Lib.join (e.zones.map tl) [32]) = ZB) := by
              show _ = _
              rw [← hZB, List.take_of_length_le (by rw [List.length_map, Hm.out]; omega)]
            rw [hZB]
            have k0 := cell_regrown y0
            have k1 := cell_regrown y1
            clear hZB hJ0
            go_upto_region 24 with fail
            refine wp_region_tail 14 (by kernel_rfl) (by kernel_rfl) ?_
            repeat (quiet_step (fail))
            refine wpQuiet_nil ?_
            intro wz hwz
            obtain ⟨⟨dq, osq⟩, hwz⟩ := hwz
            have hbz : Below W.heap.size W wz := by rw [hwz]; exact below_regrown _ _ _
            have HVz := Lib.hid ((HVW.out.call hbz).allocO (.cells #[.string ⟨#[107, 101, 121]⟩, .string e.key, .string ⟨#[116, 101, 114, 114, 105, 116, 111, 114, 121]⟩, .string e.terr, .string ⟨#[122, 111, 110, 101, 115]⟩, .string ZB] 40))
            have HW2 : Hid (At (wz.alloc (.cells #[.string ⟨#[107, 101, 121]⟩, .string e.key, .string ⟨#[116, 101, 114, 114, 105, 116, 111, 114, 121]⟩, .string e.terr, .string ⟨#[122, 111, 110, 101, 115]⟩, .string ZB] 40)) wz.heap.size (Mk.atCells (Mk.enAts (Mk.en e)))) := by
              show At _ _ _
              have h := At.new wz #[.string ⟨#[107, 101, 121]⟩, .string e.key, .string ⟨#[116, 101, 114, 114, 105, 116, 111, 114, 121]⟩, .string e.terr, .string ⟨#[122, 111, 110, 101, 115]⟩, .string ZB] 40
              rw [← HZB.out] at h ⊢
              exact h
            have HR2 := Lib.hid (Mk.at_reads (n := 3) (size := 2) HW2.out rfl)
            have HBz := Lib.hid ((below_then HBW.out hbz).alloc (below_then HBW.out hbz).size (.cells #[.string ⟨#[107, 101, 121]⟩, .string e.key, .string ⟨#[116, 101, 114, 114, 105, 116, 111, 114, 121]⟩, .string e.terr, .string ⟨#[122, 111, 110, 101, 115]⟩, .string ZB] 40))
            have HBqz := Lib.hid ((below_then HBqW.out hbz).alloc (below_then HBqW.out hbz).size (.cells #[.string ⟨#[107, 101, 121]⟩, .string e.key, .string ⟨#[116, 101, 114, 114, 105, 116, 111, 114, 121]⟩, .string e.terr, .string ⟨#[122, 111, 110, 101, 115]⟩, .string ZB] 40))
            clear hwz hbz k0 k1 y0 y1 y2 HW2
            show wpList _ _ _ (_ :: _) _ _
            go_upto_region 25 with fail
            obtain ⟨W2, hW2⟩ : ∃ x, wz.alloc (.cells #[.string ⟨#[107, 101, 121]⟩, .string e.key, .string ⟨#[116, 101, 114, 114, 105, 116, 111, 114, 121]⟩, .string e.terr, .string ⟨#[122, 111, 110, 101, 115]⟩, .string ZB] 40) = x := ⟨_, rfl⟩
            obtain ⟨wd, hwd⟩ : ∃ x : Addr, (⟨wz.heap.size, 0, none⟩ : Addr) = x := ⟨_, rfl⟩
            rw [hW2] at HVz HR2 HBz HBqz ⊢
            rw [hwd] at HR2 ⊢
            clear hW2 hwd
            have xc2 := HVz.out.cell 2 _ rfl
            have zx2 := HVz.out.lt
            go_wp2_with fail
            clear xc2 zx2
            go_loopw [127] (fun i wr => ∃ j : Nat, j ≤ 3 ∧ i = .int .i64 (j : Int) ∧ Hid (Below W2.heap.size W2 wr)) (fun i _ => 3 - (intOf i).toNat)
            case atStart => exact ⟨0, by omega, rfl, Below.refl _ _⟩
            case round =>
              obtain ⟨j, hj, rfl, HB9⟩ := hrel
              by_cases hj3 : j < 3
              · have HBq9 := Lib.hid (below_then HBqz.out HB9.out)
                obtain ⟨bd, a, rfl, hbb, ha, p0, p1⟩ := Mk.attr_cells ((HRa.out.below HBq9.out).more HBq9.out.size) rfl hj3
                obtain ⟨bd2, a2, e9, hbb2, ha2, v0, v1⟩ := Mk.attr_cells ((HR2.out.below HB9.out).more HB9.out.size) rfl hj3
                injection e9 with e9
                subst e9
                have haa := Option.some.inj (ha.symm.trans ha2)
                subst haa
                have hE2 := Mk.eq_attr a a
                rw [decide_eq_true rfl] at hE2
                obtain ⟨s0, hs0⟩ : ∃ x, Mk.bts a.1 = x := ⟨_, rfl⟩
                obtain ⟨s1, hs1⟩ : ∃ x, Mk.bts a.2 = x := ⟨_, rfl⟩
                rw [hs0, hs1] at hE2
                rw [hs0] at p0 v0
                rw [hs1] at p1 v1
                have t1 : (0 : Int) ≤ (j : Int) := by omega
                have t2 : (j : Int) < 3 := by omega
                have hbk : (bd.add (j * 2)).block < wr.heap.size := by rw [block_of_add]; exact hbb
                have hbk2 : (wd.add (j * 2)).block < wr.heap.size := by rw [block_of_add]; exact hbb2
                have HBa := Lib.hid (HB9.out.alloc HB9.out.size (.cells #[.string s0, .string s1] 40))
                clear hs0 hs1 ha ha2
                go_wp2_with fail
                go_quiet (fail)
                go_wp2
                go_roundw
                case rel => exact ⟨j + 1, by omega, by go_num, below_drewN HBa.out _⟩
                case measure => simp [intOf]; omega
              · obtain rfl : 3 = j := by omega
                have hkw : IntKind.i64.wrap ((K : Int) + 1) = (K : Int) + 1 := by rw [IntKind.wrap_i64]; omega
                have HBe := Lib.hid (below_then HBz.out HB9.out)
                go_wp2
                go_roundw
                case rel => exact ⟨k + 1, by omega, by go_num, by rw [HCn.out]; go_num, HBe.out⟩
                case measure => simp [intOf]; omega
    · obtain rfl : M = k := by omega
      have q3 : ¬ (M : Int) < (M : Int) := by omega
      have hce : Mk.cntE (l.map Mk.en) M = n := by
        rw [HM3.out]
        have h := Mk.cnt_end (l.map Mk.en)
        rw [List.length_map, HL.out] at h
        exact h
      rw [hce]
      have HBw := Lib.hid (HB4.out.trans (HB.out.mono HB4.out.size))
      clear hce
      go_wp2
      go_ret
      exact ⟨rfl, HBw.out⟩
theorem topMarked_row (l : List Ca.E) (A : Option Addr) (n c : Nat) (evs : List Value) (w : World) (hW : Wl w) (hR : Ca.EntR w w.heap.size l (.slice A n c) evs) (hl : l.length = n) (hWd : Ca.Wide l) :
    Calls Tryd.prog 6 #[.slice A n c] w fun e w' => e = .returned (.bool true) ∧ Below w.heap.size w w' := topMarked_any l A n c evs w hR hl hWd hW
end Go.Proofs.YtjbgmbhifnihaaaDoor
