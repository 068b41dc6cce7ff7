/- chart.Parse of a text without entries; what the laws of top 16 ask first. -/
import Derived.Test.YthmhadgbhakdlaaDoorP30
import Derived.Test.YthmhadgbhakdlaaDoorP31
import Derived.Test.YthmhadgbhakdlaaDoorP26
import Derived.Test.YthmhadgbhakdlaaDoorP29

namespace Go.Proofs.YthmhadgbhakdlaaDoor
open Go.RowKit

namespace Mk
theorem chk_nil : Ca.chk [] = 0 := by decide +kernel
theorem ent_nil (w : World) (B : Nat) : Ca.EntR w B [] (.slice none 0 0) [] := ⟨⟨none, 0, rfl, Nat.le_refl _, Nat.zero_le _, Reads.none_⟩, rfl, fun p hp => by cases hp⟩
theorem wd_nil : Ca.Wd [] := ⟨by decide, fun e he => by cases he⟩
end Mk
set_option maxHeartbeats 4000000 in
set_option maxRecDepth 100000 in
theorem chartParse_none (s : ByteArray) (st : Mk.S) (hf : Mk.Fine s) (htk : Mk.tokens (tl s) = .inr st) (hno : ∀ t ∈ st.toks, ¬ (t.kind = 1 ∧ t.name = Mk.MAP)) (w : World) (hW : Wl w) :
    Calls Tryd.prog 8 #[.string s] w fun e w' => e = .returned (.tuple #[.slice none 0 0, .agg #[.int .i64 0, .int .i64 0, .int .i64 0]]) ∧ Below w.heap.size w w' := by
  have HT := Lib.hid (fun W hw => Mk.tok_ok s st hf htk W hw)
  obtain ⟨l, hl⟩ : ∃ l, st.toks = l := ⟨_, rfl⟩
  obtain ⟨m, hm⟩ : ∃ m, l.length = m := ⟨_, rfl⟩
  rw [hl] at HT hno
  rw [hm] at HT
  have HM := Lib.hid hm
  have HNo := Lib.hid hno
  have HW := Lib.hid hW
  have HB0 := Lib.hid (Mk.below_new w (.cells #[.int .i64 0, .int .i64 0, .int .i64 0] 30))
  have HZ0 : Hid (At (w.alloc (.cells #[.int .i64 0, .int .i64 0, .int .i64 0] 30)) w.heap.size [.int .i64 0, .int .i64 0, .int .i64 0]) := At.new _ _ _
  have hE := Mk.flt_zero
  clear hf htk hno hl hm hW
  go_enter Tryd.func8, Tryd.ntmps8
  go_wp2_with fail
  refine (HT.out _ (HW.out.below (Mk.below_new _ _))).mono ?_
  rintro e w1 ⟨⟨A, c, avs, rfl, hp⟩, hb⟩
  have hcap := hp.cap
  rw [HM.out] at hcap
  have hm63 : m ≤ 9223372036854775807 := by have h1 := hcap.1; have h2 := hcap.2; unfold maxLen at h2; omega
  have hmw : IntKind.i64.wrap (m : Int) = (m : Int) := by rw [IntKind.wrap_i64]; omega
  have HP := Lib.hid (hp.call (Mk.below_new w1 (.cells #[.int .i64 0, .int .i64 0, .int .i64 0] 30)))
  have HB1 := Lib.hid ((below_then HB0.out hb).alloc (below_then HB0.out hb).size (.cells #[.int .i64 0, .int .i64 0, .int .i64 0] 30))
  have HZ1 := Lib.hid ((HZ0.out.call hb).allocO (.cells #[.int .i64 0, .int .i64 0, .int .i64 0] 30))
  clear hp hb
  go_wp2_with fail
  obtain ⟨W0, hW0⟩ : ∃ W, w1.alloc (.cells #[.int .i64 0, .int .i64 0, .int .i64 0] 30) = W := ⟨_, rfl⟩
  rw [hW0] at HP HB1 HZ1 ⊢
  clear hW0
  go_loopw [6, 23] (fun v i wr => ∃ k : Nat, k ≤ m ∧ v = .slice none 0 0 ∧ i = .int .i64 (k : Int) ∧ Hid (Below W0.heap.size W0 wr)) (fun _ i _ => m - (intOf i).toNat)
  case atStart => exact ⟨0, Nat.zero_le _, rfl, rfl, Below.refl _ _⟩
  case round =>
    obtain ⟨k, hk, rfl, rfl, HB⟩ := hrel
    by_cases hlt : k < m
    · obtain ⟨ad, x, B, d1, rfl, hab, hx, hd1, hd1', _, x0, x1, x2, x3, x4⟩ := (HP.out.call HB.out).cells (show k < l.length by rw [HM.out]; exact hlt)
      have hxn := HNo.out x (List.mem_of_getElem? hx)
      have hkb : (ad.add (k * 5)).block < wr.heap.size := by rw [block_of_add]; exact hab
      have r1 : (0 : Int) ≤ (k : Int) := by omega
      have r2 : (k : Int) < (m : Int) := by omega
      obtain ⟨kd, nm, ats, tx, pt⟩ := x
      simp only at x0 x1 x2 x3 x4 hxn
      obtain ⟨Nm, hNm⟩ : ∃ q, Mk.bts nm = q := ⟨_, rfl⟩
      obtain ⟨Tx, hTx⟩ : ∃ q, Mk.bts tx = q := ⟨_, rfl⟩
      obtain ⟨d, hd⟩ : ∃ q, ats.length = q := ⟨_, rfl⟩
      rw [hNm] at x1
      rw [hTx] at x3
      rw [hd] at x2
      have HBn := Lib.hid (HB.out.alloc HB.out.size (.cells #[.int .u8 (kd : Int), .string Nm, .slice B d d1, .string Tx, .int .i64 (pt : Int)] 59))
      by_cases hk1 : kd = 1
      · have hnn : nm ≠ Mk.MAP := fun e => hxn ⟨hk1, e⟩
        have g1 : (Nm.toList == [109, 97, 112]) = false := Mk.not_list (by rw [← hNm, Mk.tl_bts]; exact hnn)
        subst hk1
        clear hxn hnn hNm hTx hd hx
        go_wp2
        go_roundw
        case rel => exact ⟨k + 1, by omega, rfl, by go_num, HBn.out⟩
        case measure => simp [intOf]; omega
      · have g0 : ((kd : Int) == 1) = false := by rw [beq_eq_false_iff_ne]; omega
        have g1 : ¬ (kd : Int) = 1 := by omega
        have g2 : ((kd : Int) != 1) = true := by rw [bne, g0]; rfl
        clear hxn hNm hTx hd hx hk1
        go_wp2
        go_roundw
        case rel => exact ⟨k + 1, by omega, rfl, by go_num, HBn.out⟩
        case measure => simp [intOf]; omega
    · have hkm : m = k := by omega
      subst hkm
      have q3 : ¬ (m : Int) < (m : Int) := by omega
      have HBw := Lib.hid (HB1.out.trans (HB.out.mono HB1.out.size))
      have HZw := Lib.hid (HZ1.out.call HB.out)
      have HCk := Lib.hid (caCheck_any [] none 0 0 [] wr (Mk.ent_nil _ _) rfl Mk.wd_nil)
      rw [Mk.chk_nil] at HCk
      go_wp2_with fail
      refine HCk.out.mono ?_
      rintro e w4 ⟨rfl, hb⟩
      have HBx := Lib.hid (below_then HBw.out hb)
      have HZx := Lib.hid (HZw.out.call hb)
      clear hb
      have hz := HZx.out.lt
      obtain ⟨f0, f1, f2, e5, e6, e7⟩ := HZx.out.three
      go_wp2
      refine bodyPost_ret (v := .tuple #[.slice none 0 0, .agg #[.int .i64 0, .int .i64 0, .int .i64 0]]) (by simp [results, Tryd.results8, go_sem, *]) rfl ⟨rfl, (((HBx.out.setCell (p := ⟨w.heap.size, _, none⟩) (Nat.le_refl _) _).setCell (p := ⟨w.heap.size, _, none⟩) (Nat.le_refl _) _).setCell (p := ⟨w.heap.size, _, none⟩) (Nat.le_refl _) _)⟩
namespace Mk
def lvx : Txt := [60, 120, 47, 62]
theorem lvx_tok : tokens lvx = .inr ⟨[⟨1, [120], [], [], 0⟩, ⟨2, [120], [], [], 0⟩], [], true⟩ := by kernel_rfl
theorem lvx_fine : Fine (bts lvx) := fine_ascii (by decide) (by decide +kernel) (by decide +kernel)
theorem lvx_no : ∀ t ∈ ([⟨1, [120], [], [], 0⟩, ⟨2, [120], [], [], 0⟩] : List T), ¬ (t.kind = 1 ∧ t.name = MAP) := by
  intro t ht h
  rcases List.mem_cons.1 ht with rfl | ht
  · have := h.2; revert this; decide
  · rw [List.mem_singleton.1 ht] at h
    have := h.1; revert this; decide
end Mk
set_option maxHeartbeats 4000000 in
set_option maxRecDepth 100000 in
theorem begins16_any (w : World) (hW : Wl w) : Calls Tryd.prog 4 #[] w fun e w' => e = .returned (.bool true) ∧ Below w.heap.size w w' := by
  have HC := Lib.hid (chartParse_none ⟨#[60, 120, 47, 62]⟩ _ Mk.lvx_fine Mk.lvx_tok Mk.lvx_no w hW)
  have HT := Lib.hid (fun W hw => Mk.tok_ok ⟨#[60, 120, 47, 62]⟩ _ Mk.lvx_fine Mk.lvx_tok W hw)
  have HW := Lib.hid hW
  have hE := Mk.flt_zero
  clear hW
  go_enter Tryd.func4, Tryd.ntmps4
  go_wp2_with fail
  refine HC.out.mono ?_
  rintro e w1 ⟨rfl, hb⟩
  have HB1 := Lib.hid hb
  clear hb
  go_wp2_with fail
  refine (HT.out _ ((HW.out.below HB1.out).below (Mk.below_new _ _))).mono ?_
  rintro e w2 ⟨⟨A, c, avs, rfl, _⟩, hb⟩
  have HK := Lib.hid ((At.new w1 #[.int .i64 0, .int .i64 0, .int .i64 0] 30).call hb)
  have HB2 := Lib.hid (below_then (HB1.out.alloc HB1.out.size (.cells #[.int .i64 0, .int .i64 0, .int .i64 0] 30)) hb)
  clear hb
  have hz := HK.out.lt
  obtain ⟨f0, f1, f2, _⟩ := HK.out.three
  have HBf := Lib.hid (HB2.out.alloc HB2.out.size (.cells #[.int .i64 0, .int .i64 0, .int .i64 0] 30))
  go_wp2
  go_ret
  exact ⟨rfl, HBf.out⟩
end Go.Proofs.YthmhadgbhakdlaaDoor

/- top 16, plain: where the entries' parts lie; a chart's text is right. -/
namespace Go.Proofs.YthmhadgbhakdlaaDoor
open Go.RowKit

namespace Mk
def mk (l : List En) : List T := ⟨1, CHART, [], [], 0⟩ :: ents 7 l
theorem ents_len : ∀ (l : List En) (p : Nat), (ents p l).length = 3 * l.length + 2
  | [], _ => rfl
  | e :: l, p => by
    have ih := ents_len l (p + 3 + (enTag e).length)
    rw [ents, List.length_cons, List.length_cons, List.length_cons, ih, List.length_cons]
    omega
theorem mk_len (l : List En) : (mk l).length = 3 * l.length + 3 := by unfold mk; rw [List.length_cons, ents_len]
theorem ents_text : ∀ (l : List En) (p j : Nat), j ≤ l.length → ∃ x : T, (ents p l)[3 * j]? = some x ∧ x.kind = 3
  | [], p, j, h => by
    obtain rfl : j = 0 := by simpa using h
    exact ⟨_, rfl, rfl⟩
  | e :: l, p, 0, _ => ⟨_, rfl, rfl⟩
  | e :: l, p, j + 1, h => by
    obtain ⟨x, hx, hk⟩ := ents_text l (p + 3 + (enTag e).length) j (by simpa using h)
    refine ⟨x, ?_, hk⟩
    rw [ents, show 3 * (j + 1) = 3 * j + 1 + 1 + 1 by omega, List.getElem?_cons_succ, List.getElem?_cons_succ, List.getElem?_cons_succ]
    exact hx
theorem ents_map : ∀ (l : List En) (p j : Nat) (e : En), l[j]? = some e → ∃ q, (ents p l)[3 * j + 1]? = some ⟨1, MAP, enAts e, [], q⟩ ∧ (ents p l)[3 * j + 2]? = some ⟨2, MAP, [], [], q⟩
  | [], p, j, e, h => by cases h
  | y :: l, p, 0, e, h => by
    cases h
    exact ⟨_, rfl, rfl⟩
  | y :: l, p, j + 1, e, h => by
    obtain ⟨q, h1, h2⟩ := ents_map l (p + 3 + (enTag y).length) j e h
    refine ⟨q, ?_, ?_⟩
    · rw [ents, show 3 * (j + 1) + 1 = (3 * j + 1) + 1 + 1 + 1 by omega, List.getElem?_cons_succ, List.getElem?_cons_succ, List.getElem?_cons_succ]
      exact h1
    · rw [ents, show 3 * (j + 1) + 2 = (3 * j + 2) + 1 + 1 + 1 by omega, List.getElem?_cons_succ, List.getElem?_cons_succ, List.getElem?_cons_succ]
      exact h2
theorem ents_end : ∀ (l : List En) (p : Nat), ∃ x : T, (ents p l)[3 * l.length + 1]? = some x ∧ x.kind = 2
  | [], p => ⟨_, rfl, rfl⟩
  | e :: l, p => by
    obtain ⟨x, hx, hk⟩ := ents_end l (p + 3 + (enTag e).length)
    refine ⟨x, ?_, hk⟩
    rw [ents, List.length_cons, show 3 * (l.length + 1) + 1 = (3 * l.length + 1) + 1 + 1 + 1 by omega, List.getElem?_cons_succ, List.getElem?_cons_succ, List.getElem?_cons_succ]
    exact hx
def cntE (l : List En) (i : Nat) : Nat := min (i / 3) l.length
theorem mk_step {l : List En} {i : Nat} (h : i < 3 * l.length + 3) :
    (∃ x : T, (mk l)[i]? = some x ∧ (x.kind ≠ 1 ∨ x.name ≠ MAP) ∧ cntE l (i + 1) = cntE l i) ∨
    (∃ (e : En) (q : Nat), l[cntE l i]? = some e ∧ (mk l)[i]? = some ⟨1, MAP, enAts e, [], q⟩ ∧ (mk l)[i + 1]? = some ⟨2, MAP, [], [], q⟩ ∧ cntE l (i + 1) = cntE l i + 1 ∧ cntE l i < l.length) := by
  cases i with
  | zero => exact .inl ⟨_, rfl, .inr (by decide), by unfold cntE; simp⟩
  | succ i =>
    have hi : i < 3 * l.length + 2 := by omega
    have hm : ∀ k, (mk l)[k + 1]? = (ents 7 l)[k]? := fun k => by unfold mk; rw [List.getElem?_cons_succ]
    obtain ⟨j, r, hj, hr⟩ : ∃ j r, i = 3 * j + r ∧ r < 3 := ⟨i / 3, i % 3, by omega, by omega⟩
    subst hj
    have c1 : r = 0 ∨ r = 1 ∨ r = 2 := by omega
    rcases c1 with rfl | rfl | rfl
    · obtain ⟨x, hx, hk⟩ := ents_text l 7 j (by omega)
      refine .inl ⟨x, by rw [hm]; exact hx, .inl (by rw [hk]; decide), ?_⟩
      unfold cntE
      rw [show (3 * j + 0 + 1 + 1) / 3 = j by omega, show (3 * j + 0 + 1) / 3 = j by omega]
    · by_cases hjl : j < l.length
      · obtain ⟨e, he⟩ : ∃ e, l[j]? = some e := ⟨_, List.getElem?_eq_getElem hjl⟩
        obtain ⟨q, h1, h2⟩ := ents_map l 7 j e he
        have c2 : cntE l (3 * j + 1 + 1) = j := by unfold cntE; rw [show (3 * j + 1 + 1) / 3 = j by omega]; omega
        refine .inr ⟨e, q, by rw [c2]; exact he, by rw [hm]; exact h1, by rw [hm]; exact h2, ?_, by rw [c2]; exact hjl⟩
        rw [c2]
        unfold cntE
        rw [show (3 * j + 1 + 1 + 1) / 3 = j + 1 by omega]
        omega
      · obtain rfl : j = l.length := by omega
        obtain ⟨x, hx, hk⟩ := ents_end l 7
        refine .inl ⟨x, by rw [hm]; exact hx, .inl (by rw [hk]; decide), ?_⟩
        unfold cntE
        rw [show (3 * l.length + 1 + 1 + 1) / 3 = l.length + 1 by omega, show (3 * l.length + 1 + 1) / 3 = l.length by omega]
        omega
    · obtain ⟨e, he⟩ : ∃ e, l[j]? = some e := ⟨_, List.getElem?_eq_getElem (by omega)⟩
      obtain ⟨q, _, h2⟩ := ents_map l 7 j e he
      refine .inl ⟨_, by rw [hm]; exact h2, .inl (show (2 : Nat) ≠ 1 by decide), ?_⟩
      unfold cntE
      rw [show (3 * j + 2 + 1 + 1) / 3 = j + 1 by omega, show (3 * j + 2 + 1) / 3 = j + 1 by omega]
theorem cnt_end (l : List En) : cntE l (3 * l.length + 3) = l.length := by
  unfold cntE
  rw [show (3 * l.length + 3) / 3 = l.length + 1 by omega]
  omega
/-- A text that is right, and has no bad byte. -/
def Gd (v : Txt) : Prop := Rt v ∧ ∀ b ∈ v, low b = false
theorem Gd.app {a b : Txt} (ha : Gd a) (hb : Gd b) : Gd (a ++ b) := ⟨ha.1.app hb.1, fun x hx => (List.mem_append.1 hx).elim (ha.2 x) (hb.2 x)⟩
theorem gd_ascii {v : Txt} (h : ∀ b ∈ v, b.toNat < 128 ∧ low b = false) : Gd v := ⟨rt_ascii v fun b hb => (h b hb).1, fun b hb => (h b hb).2⟩
theorem gd_cl {v : Txt} (h : Cl v) : Gd v := gd_ascii fun b hb => (h b hb).2.2.2
theorem gd_line {e : Ca.E} (h : EnR e) : Gd (line e) := by
  have hk : Gd (esc (tl e.key)) := ⟨rt_esc ((rt_iff e.key).1 h.key.2.1), low_esc h.key.2.2⟩
  unfold line pre
  exact (((((gd_ascii (by decide)).app hk).app (gd_ascii (by decide))).app (gd_cl h.terr.1)).app (gd_ascii (by decide))).app (gd_cl h.zs.1) |>.app (gd_ascii (by decide))
theorem gd_lines : ∀ l : List Ca.E, (∀ e ∈ l, EnR e) → Gd (l.flatMap line)
  | [], _ => gd_ascii (fun b hb => by cases hb)
  | e :: l, h => by
    rw [List.flatMap_cons]
    exact (gd_line (h e List.mem_cons_self)).app (gd_lines l fun x hx => h x (List.mem_cons_of_mem _ hx))
theorem ctext_fine {l : List Ca.E} (h : ∀ e ∈ l, EnR e) (hn : l.length ≤ 40) : Fine (bts (ctext l)) := by
  have hg : Gd (ctext l) := by
    unfold ctext
    exact ((gd_ascii (by decide)).app (gd_lines l h)).app (gd_ascii (by decide))
  have hl := acc_len l l.length h
  refine ⟨?_, (rt_iff _).2 hg.1, hg.2⟩
  rw [bts_size]
  unfold acc at hl
  rw [List.take_length] at hl
  unfold ctext
  rw [List.length_append]
  simp only [List.length_cons, List.length_nil]
  omega
theorem ctext_tokens {l : List Ca.E} (h : ∀ e ∈ l, EnR e) : tokens (tl (bts (ctext l))) = .inr ⟨mk (l.map en), [], true⟩ := by
  rw [tl_bts, ctext_chart]
  exact tokens_chart _ fun e he => by
    obtain ⟨x, hx, rfl⟩ := List.mem_map.1 he
    exact (h x hx).ok
theorem join_snoc (a : List Txt) (z : Txt) : Lib.join (a ++ [z]) [32] = if a = [] then z else Lib.join a [32] ++ [32] ++ z := by
  induction a with
  | nil => simp [Lib.join, List.intercalate]
  | cons x a ih =>
    cases a with
    | nil => simp [Lib.join, List.intercalate]
    | cons y a =>
      have e : ∀ r : List Txt, Lib.join (x :: y :: r) [32] = x ++ [32] ++ Lib.join (y :: r) [32] := fun r => by simp [Lib.join, List.intercalate]
      rw [if_neg (by simp)] at ih ⊢
      rw [List.cons_append, List.cons_append, e, e, ← List.cons_append, ih]
      simp
end Mk
/-- chart.Check of too many entries. -/
theorem caCheck_long (A : Option Addr) (n c : Nat) (w : World) (hn : 4096 < n) (_hc : n ≤ maxLen) : Calls Tryd.prog 11 #[.slice A n c] w fun e w' => e = .returned (.int .i64 6) ∧ w' = w := by
  have q0 : (4096 : Int) < (n : Int) := by omega
  go_enter Tryd.func11, Tryd.ntmps11
  go_wp2
  go_ret
  exact ⟨rfl, rfl⟩
theorem chartText_wide (l : List Ca.E) (A : Option Addr) (n c : Nat) (evs : List Value) (w : World) (hR : Ca.EntR w w.heap.size l (.slice A n c) evs) (hl : l.length = n) (hW : Ca.Wide l) :
    Calls Tryd.prog 5 #[.slice A n c] w fun e w' => ((Ca.chk l = 0 ∧ e = .returned (.tuple #[.string (Mk.bts (Mk.ctext l)), .int .i64 0])) ∨ (∃ v : Int, v ≠ 0 ∧ e = .returned (.tuple #[.string ⟨#[]⟩, .int .i64 v]))) ∧ Below w.heap.size w w' := by
  by_cases hn : n ≤ 4096
  · refine (chartText_any l A n c evs w hR hl ⟨by rw [hl]; exact hn, hW.all⟩).mono ?_
    rintro e w' ⟨h, hb⟩
    rcases h with h | ⟨h, he⟩
    · exact ⟨.inl h, hb⟩
    · exact ⟨.inr ⟨_, h, he⟩, hb⟩
  · have hcap : n ≤ maxLen := by
      obtain ⟨A', c', e, h1, h2, _⟩ := hR.row
      rw [hl] at e
      injection e with _ _ e2
      omega
    have HC := Lib.hid (caCheck_long A n c w (by omega) hcap)
    clear hR hl hW hn hcap
    go_enter Tryd.func5, Tryd.ntmps5
    go_wp2_with fail
    refine HC.out.mono ?_
    rintro e w1 ⟨rfl, rfl⟩
    go_wp2
    go_ret2
    exact ⟨.inr ⟨6, by decide, rfl⟩, Below.refl _ _⟩
end Go.Proofs.YthmhadgbhakdlaaDoor

/- top 16: the wrapped text: how it is put together; it may be read. -/
namespace Go.Proofs.YthmhadgbhakdlaaDoor
open Go.RowKit

namespace Mk
def W1 : Txt := [60, 63, 120, 63, 62, 60, 33, 45, 45, 32, 121, 32, 45, 45, 62, 10, 60, 97, 32, 98, 61, 34]
def W2 : Txt := [34, 62]
def W3 : Txt := [60, 109, 97, 112, 115, 32, 107, 101, 121, 61, 39, 39, 47, 62]
def W4 : Txt := [60, 47, 97, 62]
theorem wrap_text (v : Txt) (l : List Ca.E) : W1 ++ v ++ W2 ++ v ++ ctext l ++ W3 ++ v ++ W4 = wrapC v (l.map en) := by
  rw [ctext_chart]
  unfold wrapC chartT aTag aIn attrT W1 W2 W3 W4
  rw [body_lineT]
  simp
theorem ctext_gd {l : List Ca.E} (h : ∀ e ∈ l, EnR e) : Gd (ctext l) := by
  unfold ctext
  exact ((gd_ascii (by decide)).app (gd_lines l h)).app (gd_ascii (by decide))
theorem ctext_len {l : List Ca.E} (h : ∀ e ∈ l, EnR e) (hn : l.length ≤ 40) : (ctext l).length ≤ 110000 := by
  have hl := acc_len l l.length h
  unfold acc at hl
  rw [List.take_length] at hl
  unfold ctext
  rw [List.length_append]
  simp only [List.length_cons, List.length_nil]
  omega
theorem wrap_fine {m : Txt} {l : List Ca.E} (hm : Gd m) (hml : m.length ≤ 1000) (h : ∀ e ∈ l, EnR e) (hn : l.length ≤ 40) : Fine (bts (wrapC (esc m) (l.map en))) := by
  have he : Gd (esc m) := ⟨rt_esc hm.1, low_esc hm.2⟩
  have hg : Gd (wrapC (esc m) (l.map en)) := by
    rw [← wrap_text]
    exact ((((((gd_ascii (by decide)).app he).app (gd_ascii (by decide))).app he).app (ctext_gd h)).app (gd_ascii (by decide))).app he |>.app (gd_ascii (by decide))
  have hl := ctext_len h hn
  have hx := (esc_len m).2
  refine ⟨?_, (rt_iff _).2 hg.1, hg.2⟩
  rw [bts_size, ← wrap_text]
  simp only [List.length_append, W1, W2, W3, W4, List.length_cons, List.length_nil]
  omega
theorem mapsOf_take {l : List T} {k : Nat} {x : T} (h : l[k]? = some x) : mapsOf (l.take (k + 1)) = mapsOf (l.take k) ++ (if x.kind = 1 ∧ x.name = MAP then [x.attrs] else []) := by
  rw [List.take_add_one, h]
  show mapsOf (l.take k ++ [x]) = _
  rw [mapsOf_app]
  congr 1
  unfold mapsOf
  rw [List.filterMap_cons]
  split <;> simp_all
end Mk
end Go.Proofs.YthmhadgbhakdlaaDoor

/- top 16: the zones of a right entry are words. -/
namespace Go.Proofs.YthmhadgbhakdlaaDoor
open Go.RowKit

namespace Mk
theorem nm_blank (b : UInt8) : (Ru.letr (b.toNat : Int) || Ru.rest (b.toNat : Int)) = true → b ≠ 32 := byte_all (P := fun b => (Ru.letr (b.toNat : Int) || Ru.rest (b.toNat : Int)) = true → b ≠ 32) (by decide +kernel) b
theorem right_words {e : Ca.E} (h : Ca.right e = true) : e.zones ≠ [] ∧ e.zones.length ≤ 32 ∧ (∀ z ∈ e.zones, ∀ c ∈ tl z, c ≠ 32) ∧ ∀ z ∈ e.zones, tl z ≠ [] := by
  unfold Ca.right at h
  simp only [Bool.and_eq_true, decide_eq_true_eq] at h
  obtain ⟨⟨_, hz⟩, hn⟩ := h
  have hall : ∀ z ∈ e.zones, (∀ c ∈ tl z, c ≠ 32) ∧ tl z ≠ [] := by
    intro z hzz
    have h2 := List.all_eq_true.1 hn z hzz
    unfold Ru.name at h2
    rw [Bool.and_eq_true] at h2
    have h3 := of_decide_eq_true h2.1
    refine ⟨fun b hb => nm_blank b (nameAll_mem _ _ h2.2 b hb), fun e0 => ?_⟩
    rw [e0] at h3
    exact absurd h3.1 (by decide)
  refine ⟨fun e0 => ?_, hz.2, fun z hzz => (hall z hzz).1, fun z hzz => (hall z hzz).2⟩
  have := hz.1
  rw [e0] at this
  exact absurd this (by decide)
end Mk
end Go.Proofs.YthmhadgbhakdlaaDoor

/- chart.Parse of a text whose maps are a right chart's. -/
namespace Go.Proofs.YthmhadgbhakdlaaDoor
open Go.RowKit

namespace Mk
theorem maps_next {toks : List T} {l : List Ca.E} {k : Nat} {x : T} (hm : mapsOf toks = l.map fun e => enAts (en e)) (hx : toks[k]? = some x) (hx1 : x.kind = 1 ∧ x.name = MAP) :
    ∃ e, l[(mapsOf (toks.take k)).length]? = some e ∧ x.attrs = enAts (en e) ∧ (mapsOf (toks.take (k + 1))).length = (mapsOf (toks.take k)).length + 1 := by
  have h1 := mapsOf_take hx
  rw [if_pos hx1] at h1
  have h2 : mapsOf toks = mapsOf (toks.take k) ++ [x.attrs] ++ mapsOf (toks.drop (k + 1)) := by
    rw [← h1, ← mapsOf_app, List.take_append_drop]
  have h3 : (l.map fun e => enAts (en e))[(mapsOf (toks.take k)).length]? = some x.attrs := by
    rw [← hm, h2, List.append_assoc, List.getElem?_append_right (Nat.le_refl _), Nat.sub_self]
    rfl
  rw [List.getElem?_map] at h3
  cases h : l[(mapsOf (toks.take k)).length]? with
  | none => rw [h] at h3; cases h3
  | some e =>
    rw [h] at h3
    exact ⟨e, rfl, (Option.some.inj h3).symm, by rw [h1, List.length_append]; rfl⟩
theorem maps_skip {toks : List T} {k : Nat} {x : T} (hx : toks[k]? = some x) (hx1 : ¬ (x.kind = 1 ∧ x.name = MAP)) : mapsOf (toks.take (k + 1)) = mapsOf (toks.take k) := by
  rw [mapsOf_take hx, if_neg hx1, List.append_nil]
theorem take_next2 {α : Type} {l : List α} {k : Nat} {x : α} (h : l[k]? = some x) : l.take (k + 1) = l.take k ++ [x] := by
  rw [List.take_add_one, h]
  rfl
theorem right_few' {e : Ca.E} (h : Ca.right e = true) : (∀ z ∈ e.zones.map tl, z.length ≤ 64) ∧ e.zones.length ≤ 32 := by
  unfold Ca.right at h
  simp only [Bool.and_eq_true, decide_eq_true_eq] at h
  obtain ⟨⟨_, hz⟩, hn⟩ := h
  refine ⟨?_, hz.2⟩
  intro z hz2
  obtain ⟨y, hy, rfl⟩ := List.mem_map.1 hz2
  have h2 := List.all_eq_true.1 hn y hy
  unfold Ru.name at h2
  rw [Bool.and_eq_true] at h2
  have h3 := of_decide_eq_true h2.1
  exact h3.2
theorem right_wd {e : Ca.E} (h : Ca.right e = true) : e.key.size ≤ maxLen ∧ e.terr.size ≤ maxLen ∧ ∀ z ∈ e.zones, z.size ≤ maxLen := by
  have hE := right_en h
  have h1 := hE.ksz
  have h2 := hE.terr.2
  refine ⟨by unfold maxLen; omega, by unfold maxLen; omega, fun z hz => ?_⟩
  have h3 := (right_few' h).1 (tl z) (List.mem_map_of_mem hz)
  rw [tl_length] at h3
  unfold maxLen
  omega
end Mk
set_option maxRecDepth 100000 in
/-- An append of one entry. -/
theorem ent_append {ops : Array Oper} {rest : List Oper} {o : Oper} {a : Act} {Q : Exit → Act → World → Prop} (W : World) (B n : Nat) (xs : List Value) (v : Value) (k t : ByteArray) (zA : Option Addr) (zn zc : Nat) (x y : Nat)
    (hO : W.ownsRow B 49 3 v n xs) (hl : n ≤ 2000000) (hB : B ≤ W.heap.size) (hgd : o.guard = none)
    (ho : o.op = .call { callee := .builtin .append, args := #[.tmp x, .tmp y], argTypes := #[22, 22] }) (hs : a.eval (.tmp x) = v) (hx : a.eval (.tmp y) = .slice (some ⟨W.heap.size, 0, none⟩) 1 1)
    (h : ∀ v' w', w'.ownsRow B 49 3 v' (n + 1) (xs ++ [.string k, .string t, .slice zA zn zc]) → (W.alloc (.cells #[.string k, .string t, .slice zA zn zc] 49)).grownBy w' v.ownBlock → (v'.ownBlock = v.ownBlock ∨ v'.ownBlock = some (W.heap.size + 1)) → wpList Tryd.prog ops Q rest (a.put o.dst v') w') :
    wpList Tryd.prog ops Q (o :: rest) a (W.alloc (.cells #[.string k, .string t, .slice zA zn zc] 49)) := by
  obtain ⟨i0, hi0, hz0, hz1, hz2⟩ : ∃ i, Tryd.prog.info? 49 = some i ∧ i.zero = some (.agg #[.string ⟨#[]⟩, .string ⟨#[]⟩, .slice none 0 0]) ∧ i.size = 3 ∧ i.bytes = 56 := by
    have h : (Tryd.prog.info? 49).map (fun i => (i.zero, i.size, i.bytes)) = some (some (.agg #[.string ⟨#[]⟩, .string ⟨#[]⟩, .slice none 0 0]), 3, 56) := by kernel_rfl
    cases hc : Tryd.prog.info? 49 with
    | none => rw [hc] at h; cases h
    | some i =>
      rw [hc] at h
      simp only [Option.map_some, Option.some.injEq, Prod.mk.injEq] at h
      exact ⟨i, rfl, h.1, h.2.1, h.2.2⟩
  have hA := At.new W #[.string k, .string t, .slice zA zn zc] 49
  have hR : Reads (W.alloc (.cells #[.string k, .string t, .slice zA zn zc] 49)) (W.heap.size + 1) 3 (some ⟨W.heap.size, 0, none⟩) 1 [.string k, .string t, .slice zA zn zc] :=
    ⟨rfl, fun _ => ⟨_, rfl, Nat.lt_succ_self _, fun j u hu => by rw [Mk.add_off]; exact hA.cell j u hu⟩⟩
  have h1 : ∀ u ∈ [Value.string k, .string t, .slice zA zn zc], u.oneCell' = true := by
    intro u hu
    simp only [List.mem_cons, List.not_mem_nil, or_false] at hu
    rcases hu with rfl | rfl | rfl <;> rfl
  refine wpList_append_any (P := Tryd.prog) _ hgd (.tmp x) (.tmp y) 22 ho B 49 i0 _ 3 56 Tryd.underlying22 hi0 hz0 hz1 hz2 rfl (by omega) v n xs hs (hO.alloc _) _ _ 1 1 _ hx hR h1 (by unfold maxLen; omega) (by omega) (by rw [World.size_alloc]; omega) ?_
  intro v' w' hown hg hat
  rw [World.size_alloc] at hat
  exact h v' w' hown hg hat
namespace Mk
theorem PI.entR3 {w wr : World} {l : List Ca.E} {lv : Value} {evs : List Value} (h : PI w l lv evs wr) (b : Nat) (hp : b < w.heap.size) (i j k : Nat) (x y z : Value) :
    Ca.EntR (((wr.setCell ⟨b, i, none⟩ x).setCell ⟨b, j, none⟩ y).setCell ⟨b, k, none⟩ z) (((wr.setCell ⟨b, i, none⟩ x).setCell ⟨b, j, none⟩ y).setCell ⟨b, k, none⟩ z).heap.size l lv evs := by
  have key : ∀ {e : TypeId} {size n : Nat} {v : Value} {xs : List Value}, wr.ownsRow w.heap.size e size v n xs → Src.RowR (((wr.setCell ⟨b, i, none⟩ x).setCell ⟨b, j, none⟩ y).setCell ⟨b, k, none⟩ z) (((wr.setCell ⟨b, i, none⟩ x).setCell ⟨b, j, none⟩ y).setCell ⟨b, k, none⟩ z).heap.size size n v xs := by
    intro e size n v xs ho
    have hne : v.ownBlock ≠ some b := fun q => by have := (ho.lt b q).1; omega
    exact Src.RowR.of_own (ownsRow_setCell_other (ownsRow_setCell_other (ownsRow_setCell_other ho (a := ⟨b, i, none⟩) hne _) (a := ⟨b, j, none⟩) hne _) (a := ⟨b, k, none⟩) hne _)
  exact ⟨key h.own, h.len, fun p hp => key (h.zns p hp)⟩
theorem PI.entR {w wr : World} {l : List Ca.E} {lv : Value} {evs : List Value} (h : PI w l lv evs wr) : Ca.EntR wr wr.heap.size l lv evs :=
  ⟨Src.RowR.of_own h.own, h.len, fun p hp => Src.RowR.of_own (h.zns p hp)⟩
end Mk
set_option maxHeartbeats 8000000 in
set_option maxRecDepth 100000 in
theorem chartParse_maps (s : ByteArray) (st : Mk.S) (l : List Ca.E) (hf : Mk.Fine s) (htk : Mk.tokens (tl s) = .inr st) (hmp : Mk.mapsOf st.toks = l.map fun e => Mk.enAts (Mk.en e)) (hc : Ca.chk l = 0) (hl40 : l.length ≤ 40) (w : World) (hW : Wl w) :
    Calls Tryd.prog 8 #[.string s] w fun e w' => (∃ lv evs, e = .returned (.tuple #[lv, .agg #[.int .i64 0, .int .i64 0, .int .i64 0]]) ∧ Ca.EntR w' w'.heap.size l lv evs) ∧ Below w.heap.size w w' := by
  have HT := Lib.hid (fun W hw => Mk.tok_ok s st hf htk W hw)
  obtain ⟨tk, htl⟩ : ∃ tk, st.toks = tk := ⟨_, rfl⟩
  obtain ⟨m, hm⟩ : ∃ m, tk.length = m := ⟨_, rfl⟩
  rw [htl] at HT hmp
  rw [hm] at HT
  have HRg : Hid (∀ e ∈ l, Ca.right e = true) := Mk.chk_right hc
  have HM := Lib.hid hm
  have HMp := Lib.hid hmp
  have HL40 := Lib.hid hl40
  have HCk0 := Lib.hid hc
  have HW := Lib.hid hW
  have HB0 := Lib.hid (Mk.below_new w (.cells #[.int .i64 0, .int .i64 0, .int .i64 0] 30))
  have HZ0 : Hid (At (w.alloc (.cells #[.int .i64 0, .int .i64 0, .int .i64 0] 30)) w.heap.size [.int .i64 0, .int .i64 0, .int .i64 0]) := At.new _ _ _
  have hE := Mk.flt_zero
  clear hf htk htl hm hW hmp hc hl40
  go_enter Tryd.func8, Tryd.ntmps8
  go_wp2_with fail
  refine (HT.out _ (HW.out.below (Mk.below_new _ _))).mono ?_
  rintro e w1 ⟨⟨A, c, avs, rfl, hp⟩, hb⟩
  have hcap := hp.cap
  rw [HM.out] at hcap
  have hm63 : m ≤ 9223372036854775807 := by have h1 := hcap.1; have h2 := hcap.2; unfold maxLen at h2; omega
  have hmw : IntKind.i64.wrap (m : Int) = (m : Int) := by rw [IntKind.wrap_i64]; omega
  have HP := Lib.hid (hp.call (Mk.below_new w1 (.cells #[.int .i64 0, .int .i64 0, .int .i64 0] 30)))
  have HB1 := Lib.hid ((below_then HB0.out hb).alloc (below_then HB0.out hb).size (.cells #[.int .i64 0, .int .i64 0, .int .i64 0] 30))
  have HZ1 := Lib.hid ((HZ0.out.call hb).allocO (.cells #[.int .i64 0, .int .i64 0, .int .i64 0] 30))
  clear hp hb hcap
  go_wp2_with fail
  obtain ⟨W0, hW0⟩ : ∃ W, w1.alloc (.cells #[.int .i64 0, .int .i64 0, .int .i64 0] 30) = W := ⟨_, rfl⟩
  rw [hW0] at HP HB1 HZ1 ⊢
  clear hW0
  go_loopw [6, 23] (fun v i wr => ∃ k n0 : Nat, k ≤ m ∧ i = .int .i64 (k : Int) ∧ Hid (n0 = (Mk.mapsOf (tk.take k)).length) ∧ n0 ≤ 40 ∧ ∃ vA vc evs, v = .slice vA n0 vc ∧ Hid (Mk.PI W0 (l.take n0) (.slice vA n0 vc) evs wr)) (fun _ i _ => m - (intOf i).toNat)
  case atStart => exact ⟨0, 0, Nat.zero_le _, rfl, rfl, Nat.zero_le _, none, 0, [], rfl, Mk.PI.nil W0⟩
  case round =>
    obtain ⟨k, n0, hk, rfl, HN0, hn0, vA, vc, evs, rfl, HI⟩ := hrel
    by_cases hlt : k < m
    · obtain ⟨ad, x, B, d1, rfl, hab, hx, hd1, hd1', hra, x0, x1, x2, x3, x4⟩ := (HP.out.call HI.out.bel).cells (show k < tk.length by rw [HM.out]; exact hlt)
      have hkb : (ad.add (k * 5)).block < wr.heap.size := by rw [block_of_add]; exact hab
      have r1 : (0 : Int) ≤ (k : Int) := by omega
      have r2 : (k : Int) < (m : Int) := by omega
      by_cases hmap : x.kind = 1 ∧ x.name = Mk.MAP
      · obtain ⟨e, he, hat, hcnt⟩ := Mk.maps_next HMp.out hx hmap
        rw [← HN0.out] at he hcnt
        obtain ⟨kd, nm, ats, tx, pt⟩ := x
        simp only at x0 x1 x2 x3 x4 hmap hat hra hd1
        obtain ⟨rfl, rfl⟩ := hmap
        subst hat
        have HE0 := Lib.hid he
        have HCn := Lib.hid hcnt
        have hlt0 : n0 < l.length := (List.getElem?_eq_some_iff.1 he).1
        have HTk : Hid (l.take (n0 + 1) = l.take n0 ++ [e]) := Mk.take_next2 he
        have HLn : Hid ((l.take n0).length = n0) := by show _ = _; rw [List.length_take]; omega
        have hn1 : n0 + 1 ≤ 40 := by have := HL40.out; omega
        have HRe := Lib.hid (HRg.out e (List.mem_of_getElem? he))
        obtain ⟨z1, z2, z3, z4⟩ := Mk.right_words HRe.out
        have hER := Mk.right_en HRe.out
        have hzj : (Lib.join (e.zones.map tl) [32]).length ≤ 2080 := hER.zs.2
        have x0' : wr.cell? (ad.add (k * 5)) = some (.int .u8 1) := x0
        have x1' : wr.cell? ⟨(ad.add (k * 5)).block, (ad.add (k * 5)).off + 1, none⟩ = some (.string ⟨#[109, 97, 112]⟩) := x1
        have x2' : wr.cell? ⟨(ad.add (k * 5)).block, (ad.add (k * 5)).off + 2, none⟩ = some (.slice B 3 d1) := x2
        obtain ⟨Tx, hTx⟩ : ∃ q, Mk.bts tx = q := ⟨_, rfl⟩
        rw [hTx] at x3
        have HC := Lib.hid (chartEntry_three e.key e.terr Tx e.zones B d1 pt (wr.alloc (.cells #[.int .u8 1, .string ⟨#[109, 97, 112]⟩, .slice B 3 d1, .string Tx, .int .i64 (pt : Int)] 59)) ((HW.out.below (HB1.out.trans (HI.out.bel.mono HB1.out.size))).below (Mk.below_new _ _)) z1 z3 z4 (by omega) (by omega) ((Reads.below (B := wr.heap.size) hra (Mk.below_new _ _)).more (Mk.below_new _ _).size))
        obtain ⟨zn, hzn⟩ : ∃ zn, e.zones.length = zn := ⟨_, rfl⟩
        have HZn := Lib.hid hzn
        have hsz0 := HI.out.bel.size
        have HIa := Lib.hid (HI.out.call (Mk.below_new wr (.cells #[.int .u8 1, .string ⟨#[109, 97, 112]⟩, .slice B 3 d1, .string Tx, .int .i64 (pt : Int)] 59)))
        have HKs : Hid (e.key.size ≤ maxLen ∧ e.terr.size ≤ maxLen ∧ ∀ z ∈ e.zones, z.size ≤ maxLen) := Mk.right_wd HRe.out
        clear x0 x1 x2 hTx he hcnt z1 z2 z3 z4 hER hzj hra hx hd1 hd1' hlt0 hzn
        go_wp2_with fail
        refine HC.out.mono ?_
        rintro e9 w4 ⟨⟨zv, rfl, hzo⟩, hb⟩
        obtain ⟨zA, zc, rfl, _⟩ := own_slice hzo
        rw [HZn.out] at hzo ⊢
        have hzcap := Mk.own_cap hzo
        obtain ⟨zA', zc', ezz, hzc1, hzc2⟩ := hzcap
        injection ezz with ez1 ez2 ez3
        subst ez1 ez3
        have HIb := Lib.hid ((HIa.out.call hb).call (Mk.below_new w4 (.cells #[.string e.key, .string e.terr, .slice zA zn zc] 49)))
        have HAe : Hid (At (w4.alloc (.cells #[.string e.key, .string e.terr, .slice zA zn zc] 49)) w4.heap.size [.string e.key, .string e.terr, .slice zA zn zc]) := At.new _ _ _
        have HZo := Lib.hid (own_below hzo (Mk.below_new w4 (.cells #[.string e.key, .string e.terr, .slice zA zn zc] 49)))
        have HRt := Lib.hid (caRight_any e zA zc (w4.alloc (.cells #[.string e.key, .string e.terr, .slice zA zn zc] 49)) (by
          obtain ⟨A3, c3, e3, _, _, h3⟩ := Src.RowR.of_own HZo.out
          injection e3 with e31
          subst e31
          rw [HZn.out]
          exact h3) (by rw [HZn.out]; exact hzc1) HKs.out.1 HKs.out.2.1 HKs.out.2.2)
        rw [HZn.out, HRe.out] at HRt
        have hsz4 : wr.heap.size + 1 ≤ w4.heap.size := by have := hb.size; rw [World.size_alloc] at this; exact this
        have HIl := Lib.hid HI.out.own.lt
        have HZl : Hid (∀ g, (Value.slice zA zn zc).ownBlock = some g → wr.heap.size + 1 ≤ g) := fun g q => by have := (hzo.lt g q).1; rw [World.size_alloc] at this; exact this
        clear hzo hb hzc1 hzc2
        go_wp2_with fail
        refine HRt.out.mono ?_
        rintro e8 w5 ⟨rfl, hb⟩
        have HIc := Lib.hid (HIb.out.call hb)
        have HAc := Lib.hid (HAe.out.call hb)
        have HZc := Lib.hid (own_below HZo.out hb)
        have hsz5 : w4.heap.size + 1 ≤ w5.heap.size := by have := hb.size; rw [World.size_alloc] at this; exact this
        obtain ⟨c0, c1, c2, _⟩ := HAc.out.three
        have hzl5 := HAc.out.lt
        have hO := HIc.out.own
        rw [HLn.out] at hO
        clear hb
        go_wp2_with (at_builtin; go_loud (refine ent_append w5 W0.heap.size n0 _ (.slice vA n0 vc) e.key e.terr zA zn zc 51 53 hO (by omega) HIc.out.bel.size rfl rfl rfl rfl ?_; intro v9 w9 hown9 hg9 hat9; obtain ⟨vA9, vc9, rfl, _⟩ := own_slice hown9))
        have HI9 : Hid (Mk.PI W0 (l.take (n0 + 1)) (.slice vA9 (n0 + 1) vc9) (evs ++ [.slice zA zn zc]) w9) := by
          show Mk.PI _ _ _ _ _
          rw [HTk.out]
          have hI' := HIc.out.call (Mk.below_new w5 (.cells #[.string e.key, .string e.terr, .slice zA zn zc] 49))
          refine hI'.push (e := e) (v := .slice zA zn zc) ?_ ?_ hg9 ?_ ?_ ?_
          · rw [HZn.out]
            exact own_below (Mk.own_mono HZc.out (by rw [World.size_alloc]; omega)) (Mk.below_new w5 _)
          · intro g q q2
            have h1 := HZl.out g q
            have h2 := (HIl.out g q2).2
            omega
          · rw [HLn.out]
            exact hown9
          · intro g hg q
            rw [World.size_alloc] at hg
            rcases hat9 with q2 | q2
            · rw [q2]; exact q
            · rw [q2]
              intro q3
              have := Option.some.inj q3
              omega
          · exact hI'.bel.grown hg9 hI'.bel.size (fun g q => (hO.lt g q).1)
        go_roundw
        case rel => exact ⟨k + 1, n0 + 1, by omega, by go_num, HCn.out.symm, hn1, _, _, _, rfl, HI9.out⟩
        case measure => simp [intOf]; omega
      · have HSk := Lib.hid (Mk.maps_skip hx hmap)
        obtain ⟨kd, nm, ats, tx, pt⟩ := x
        simp only at x0 x1 x2 x3 x4 hmap
        obtain ⟨Nm, hNm⟩ : ∃ q, Mk.bts nm = q := ⟨_, rfl⟩
        obtain ⟨Tx, hTx⟩ : ∃ q, Mk.bts tx = q := ⟨_, rfl⟩
        obtain ⟨d, hd⟩ : ∃ q, ats.length = q := ⟨_, rfl⟩
        rw [hNm] at x1
        rw [hTx] at x3
        rw [hd] at x2
        have HIn := Lib.hid (HI.out.call (Mk.below_new wr (.cells #[.int .u8 (kd : Int), .string Nm, .slice B d d1, .string Tx, .int .i64 (pt : Int)] 59)))
        by_cases hk1 : kd = 1
        · have hnn : nm ≠ Mk.MAP := fun e => hmap ⟨hk1, e⟩
          have g1 : (Nm.toList == [109, 97, 112]) = false := Mk.not_list (by rw [← hNm, Mk.tl_bts]; exact hnn)
          subst hk1
          clear hmap hnn hNm hTx hd hx hra
          go_wp2
          go_roundw
          case rel => exact ⟨k + 1, n0, by omega, by go_num, by show _ = _; rw [HSk.out]; exact HN0.out, hn0, _, _, _, rfl, HIn.out⟩
          case measure => simp [intOf]; omega
        · have g0 : ((kd : Int) == 1) = false := by rw [beq_eq_false_iff_ne]; omega
          have g1 : ¬ (kd : Int) = 1 := by omega
          have g2 : ((kd : Int) != 1) = true := by rw [bne, g0]; rfl
          clear hmap hNm hTx hd hx hk1 hra
          go_wp2
          go_roundw
          case rel => exact ⟨k + 1, n0, by omega, by go_num, by show _ = _; rw [HSk.out]; exact HN0.out, hn0, _, _, _, rfl, HIn.out⟩
          case measure => simp [intOf]; omega
    · have hkm : m = k := by omega
      subst hkm
      have q3 : ¬ (m : Int) < (m : Int) := by omega
      have hnl : n0 = l.length := by
        have h := HN0.out
        rw [List.take_of_length_le (by rw [HM.out]; exact Nat.le_refl _), HMp.out, List.length_map] at h
        exact h
      have HIe : Hid (Mk.PI W0 l (.slice vA l.length vc) evs wr) := by
        have h := HI.out
        rw [List.take_of_length_le (by omega), hnl] at h
        exact h
      subst hnl
      clear HI HN0
      have HBw := Lib.hid (HB1.out.trans (HIe.out.bel.mono HB1.out.size))
      have HZw := Lib.hid (HZ1.out.call HIe.out.bel)
      have HCk := Lib.hid (caCheck_any l vA l.length vc evs wr HIe.out.entR rfl ⟨by have := HL40.out; omega, fun e he => Mk.right_wd (HRg.out e he)⟩)
      rw [HCk0.out] at HCk
      obtain ⟨nl, hnl⟩ : ∃ nl, l.length = nl := ⟨_, rfl⟩
      have HNl := Lib.hid hnl
      rw [hnl] at HCk HIe ⊢
      clear hnl
      go_wp2_with fail
      refine HCk.out.mono ?_
      rintro e w4 ⟨rfl, hb⟩
      have HBx := Lib.hid (below_then HBw.out hb)
      have HZx := Lib.hid (HZw.out.call hb)
      have HIx := Lib.hid (HIe.out.call hb)
      have HWl := Lib.hid HZ1.out.lt
      clear hb
      have hz := HZx.out.lt
      obtain ⟨f0, f1, f2, e5, e6, e7⟩ := HZx.out.three
      go_wp2
      refine bodyPost_ret (v := .tuple #[.slice vA nl vc, .agg #[.int .i64 0, .int .i64 0, .int .i64 0]]) (by simp [results, Tryd.results8, go_sem, *]) rfl ⟨⟨_, _, rfl, HIx.out.entR3 w.heap.size HWl.out _ _ _ _ _ _⟩, (((HBx.out.setCell (p := ⟨w.heap.size, _, none⟩) (Nat.le_refl _) _).setCell (p := ⟨w.heap.size, _, none⟩) (Nat.le_refl _) _).setCell (p := ⟨w.heap.size, _, none⟩) (Nat.le_refl _) _)⟩
end Go.Proofs.YthmhadgbhakdlaaDoor

/- chart: a list of entries is the same as itself: solsticeref32.Same. -/
namespace Go.Proofs.YthmhadgbhakdlaaDoor
open Go.RowKit

set_option maxHeartbeats 4000000 in
set_option maxRecDepth 100000 in
theorem chartSame_self (l : List Ca.E) (A A' : Option Addr) (n c c' : Nat) (evs evs' : List Value) (w : World) (hR : Ca.EntR w w.heap.size l (.slice A n c) evs) (hR' : Ca.EntR w w.heap.size l (.slice A' n c') evs') (hl : l.length = n) (hn : n ≤ 4096) (hz : ∀ e ∈ l, e.zones.length ≤ maxLen) :
    Calls Tryd.prog 9 #[.slice A n c, .slice A' n c'] w fun e w' => e = .returned (.bool true) ∧ Below w.heap.size w w' := by
  have hw : IntKind.i64.wrap (n : Int) = (n : Int) := by rw [IntKind.wrap_i64]; omega
  have q0 : ((n : Int) == (n : Int)) = true := beq_self_eq_true _
  have HR := Lib.hid hR
  have HR' := Lib.hid hR'
  have HL := Lib.hid hl
  have HZ := Lib.hid hz
  have HB0 := Lib.hid (Below.refl w.heap.size w)
  clear hR hR' hl hz
  go_enter Tryd.func9, Tryd.ntmps9
  go_wp2
  go_loopw [13] (fun i wr => ∃ k : Nat, k ≤ n ∧ i = .int .i64 (k : Int) ∧ Hid (Below w.heap.size w wr)) (fun i _ => n - (intOf i).toNat)
  case atStart => exact ⟨0, Nat.zero_le _, rfl, HB0.out⟩
  case round =>
    obtain ⟨k, hk, rfl, HB⟩ := hrel
    obtain ⟨wq, rfl⟩ : ∃ x, x = wr := ⟨_, rfl⟩
    by_cases hlt : k < n
    · obtain ⟨ad, e, zA, m, zc, rfl, hab, Hx, x0, x1, x2, Hm, hmz, hzc, HZr, _⟩ := (HR.out.call HB.out).at_ HL.out hlt
      obtain ⟨ad', e', zA', m', zc', rfl, hab', Hx', y0, y1, y2, Hm', hmz', hzc', HZr', _⟩ := (HR'.out.call HB.out).at_ HL.out hlt
      have hee := Option.some.inj (Hx.out.symm.trans Hx'.out)
      subst hee
      have hmm : m = m' := Hm.out.symm.trans Hm'.out
      subst hmm
      have hkb : (ad.add (k * 3)).block < wq.heap.size := by rw [block_of_add]; exact hab
      have hkb' : (ad'.add (k * 3)).block < wq.heap.size := by rw [block_of_add]; exact hab'
      have q1 : (0 : Int) ≤ (k : Int) := by omega
      have q2 : (k : Int) < (n : Int) := by omega
      have g0 : (e.key.toList == e.key.toList) = true := beq_self_eq_true _
      have g1 : (e.terr.toList == e.terr.toList) = true := beq_self_eq_true _
      have HTx : Hid (∀ W, Drew wq W → Calls Tryd.prog 20 #[.slice zA m zc, .slice zA' m zc'] W fun e w' => e = .returned (.bool true) ∧ Drew W w') := fun W hd => by
        have hb := hd.below wq.heap.size
        refine (refTexts_any zA zA' m m zc zc' e.zones e.zones W (Nat.le_trans hmz hzc) (Nat.le_trans hmz hzc) ((HZr.out.below hb).more hb.size) ((HZr'.out.below hb).more hb.size)).mono ?_
        rintro e9 w9 ⟨rfl, h9⟩
        exact ⟨by simp, h9⟩
      clear hmz hmz' hzc hzc' hab hab'
      go_wp2_with fail
      go_quiet ((go_at_call 20; exact Calls.quiet_of (HTx.out _ ⟨_, rfl⟩)))
      have HBq := Lib.hid (below_drewN HB.out nq)
      go_wp2
      go_roundw
      case rel => exact ⟨k + 1, by omega, by go_num, HBq.out⟩
      case measure => simp [intOf]; omega
    · have hkn : n = k := by omega
      subst hkn
      have q2 : ¬ (n : Int) < (n : Int) := by omega
      go_wp2
      go_ret
      exact ⟨rfl, HB.out⟩
end Go.Proofs.YthmhadgbhakdlaaDoor
