/- markup: an element is closed: (*walk).finish. -/
import Derived.Test.YthmhadgbhakdlaaDoorP10
import Derived.Deep.QuietTactic
import Derived.BigQuiet
import Derived.Deep.DeepCutAuto
import Derived.Test.YthmhadgbhakdlaaDoorP06

namespace Go.Proofs.YthmhadgbhakdlaaDoor
open Go.RowKit

namespace Mk
theorem fin_none {t : Tag} {p : Nat} {st : S} (h : st.opened = []) : finish t p st = .inl 12 := by unfold finish; rw [h]; rfl
theorem fin_other {t : Tag} {p : Nat} {st : S} {x : Txt} (h : st.opened.getLast? = some x) (hx : x ≠ t.name) : finish t p st = .inl 12 := by
  unfold finish
  rw [h, if_neg (fun e => hx (Option.some.inj e))]
theorem fin_yes {t : Tag} {p : Nat} {st : S} (h : st.opened.getLast? = some t.name) : finish t p st = .inr ⟨st.toks ++ [⟨2, t.name, [], [], p⟩], st.opened.dropLast, st.rooted⟩ := by
  unfold finish
  rw [if_pos h]
theorem bts_inj {a b : Txt} (h : bts a = bts b) : a = b := by have := congrArg tl h; simpa [tl_bts] using this
theorem str_ne {a b : Txt} (h : a ≠ b) : ((bts a).toList == (bts b).toList) = false := by
  rw [Lib.toList_data, Lib.toList_data]
  exact beq_eq_false_iff_ne.2 h
theorem str_eq (a : ByteArray) : (a.toList == a.toList) = true := beq_self_eq_true _
/-- Sizes that a walk keeps to. -/
structure Sm (st : S) : Prop where
  toks : st.toks.length ≤ 100000000
  op : st.opened.length ≤ 32
theorem kp_box {w : World} {S : Nat → Prop} (cs : Array Value) (t : TypeId) : Kp S w (w.alloc (.cells cs t)) := (Kp.refl S w).alloc _
theorem tok_new (W : World) (a b c d e : Value) : ∀ j u, [a, b, c, d, e][j]? = some u → ((W.alloc (.cells #[a, b, c, d, e] 59)).drewN 1).cell? ((⟨W.heap.size, 0, none⟩ : Addr).add j) = some u :=
  World.news_of_block (cs := #[a, b, c, d, e]) (fr := (0, 0)) (heap_alloc_new W _)
end Mk
set_option maxHeartbeats 2000000 in
set_option maxRecDepth 100000 in
theorem finish_any (w : World) (g : Nat) (s : ByteArray) (st : Mk.S) (tv ov av : Value) (avs : List Value) (t : Mk.Tag) (b1 b2 : Bool) (p : Nat) (H : Mk.Wk w g s st tv ov avs []) (hm : Mk.Sm st) :
    Calls Tryd.prog 56 #[.pointer (some ⟨g, 0, none⟩), .agg #[.string (Mk.bts t.name), av, .bool b1, .bool b2], .int .i64 (p : Int)] w (Mk.WRet w g s tv ov (fun _ => False) (Mk.finish t p st)) := by
  obtain ⟨R, hR⟩ : ∃ R, Mk.finish t p st = R := ⟨_, rfl⟩
  have HR := Lib.hid hR
  rw [hR]
  clear hR
  have HTk := H.tk
  have HOp := H.op
  obtain ⟨tA, tc, rfl, _⟩ := own_slice HTk
  obtain ⟨oA, oc, rfl, _⟩ := own_slice HOp
  obtain ⟨n, hn⟩ : ∃ n, st.opened.length = n := ⟨_, rfl⟩
  obtain ⟨L, hL⟩ : ∃ L, st.toks.length = L := ⟨_, rfl⟩
  have hn32 := hm.op
  have hL8 := hm.toks
  have ho0 : st.opened = [] → n = 0 := fun e => by rw [← hn, e]; rfl
  have HW := Lib.hid (H.alloc (.cells #[.string (Mk.bts t.name), av, .bool b1, .bool b2] 100))
  have HB := Lib.hid (At.new w #[.string (Mk.bts t.name), av, .bool b1, .bool b2] 100)
  have hg : g < w.heap.size := H.at_.lt
  rw [hn] at HW HOp hn32 H ⊢
  rw [hL] at HW HTk hL8 H ⊢
  have HN := Lib.hid hn
  have HLL := Lib.hid hL
  have hb0 : (w.alloc (.cells #[.string (Mk.bts t.name), av, .bool b1, .bool b2] 100)).cell? ⟨g, 2, none⟩ = some (.slice oA n oc) := HW.out.at_.cell 2 _ rfl
  by_cases h0 : n = 0
  · have HE : Hid (R = .inl 12) := by show _ = _; rw [← HR.out]; exact Mk.fin_none (List.length_eq_zero_iff.1 (hn.trans h0))
    have e0 : ((n : Int) == 0) = true := by rw [h0]; rfl
    clear hn hL ho0 H HTk HOp hm HR
    go_enter Tryd.func56, Tryd.ntmps56
    go_wp2
    go_quiet (fail)
    go_wp2
    refine bodyPost_ret (v := .int .i64 12) (by simp [results, Tryd.results56, go_sem, *]) rfl ⟨?_, by rw [HE.out]; rfl⟩
    first | exact (Mk.kp_box _ _).drewN _ | exact Mk.kp_box _ _
  obtain ⟨m, rfl⟩ : ∃ m, n = m + 1 := ⟨n - 1, by omega⟩
  obtain ⟨nm, hnm⟩ : ∃ x, st.opened.getLast? = some x := by
    cases e : st.opened.getLast? with
    | none => rw [List.getLast?_eq_none_iff] at e; exact absurd (ho0 e) h0
    | some x => exact ⟨x, rfl⟩
  have hat : st.opened[m]? = some nm := by
    rw [List.getLast?_eq_getElem?, hn] at hnm
    exact hnm
  obtain ⟨ad, u, rfl, hab, hu, hcu⟩ := (Reads.of_own HOp).at_ (Nat.lt_succ_self m)
  have hu2 : u = .string (Mk.bts nm) := by
    unfold Mk.opCells at hu
    rw [List.getElem?_map, hat] at hu
    exact (Option.some.inj hu).symm
  subst hu2
  have hca : (w.alloc (.cells #[.string (Mk.bts t.name), av, .bool b1, .bool b2] 100)).cell? (ad.add m) = some (.string (Mk.bts nm)) := (World.cell?_alloc_lt w _ _ (by rw [block_of_add]; exact hab)).trans hcu
  have k1 : IntKind.i64.wrap (m : Int) = (m : Int) := by rw [IntKind.wrap_i64]; omega
  have k0 : (0 : Int) ≤ (m : Int) := by omega
  have hmc : m ≤ oc := by
    rcases HOp.2 with ⟨h, _⟩ | ⟨_, _, _, h, _, _, h2, _⟩
    · cases h
    · injection h with _ _ h3; omega
  have hf2 : w.frozen? ⟨g, 2, none⟩ = false := H.at_.free 2 _ rfl
  have k2 : (m : Int) < (m : Int) + 1 := by omega
  have e0 : ((m : Int) + 1 == 0) = false := by rw [beq_eq_false_iff_ne]; omega
  obtain ⟨X, hX⟩ : ∃ X, Mk.bts nm = X := ⟨_, rfl⟩
  obtain ⟨Y, hY⟩ : ∃ X, Mk.bts t.name = X := ⟨_, rfl⟩
  by_cases hne : nm = t.name
  · have HE : Hid (R = .inr ⟨st.toks ++ [⟨2, t.name, [], [], p⟩], st.opened.dropLast, st.rooted⟩) := by show _ = _; rw [← HR.out]; exact Mk.fin_yes (by rw [hnm, hne])
    have hXY : X = Y := by rw [← hX, ← hY, hne]
    subst hXY
    have hs := Mk.str_eq X
    rw [hX] at hcu hca
    rw [hY] at hca HW HB hb0 ⊢
    have HY := Lib.hid hY
    clear hX hY hn hL ho0 H HTk HOp hm HR hnm hne hu hat
    go_enter Tryd.func56, Tryd.ntmps56
    go_wp2
    go_quiet (fail)
    go_wp2
    obtain ⟨W, hW⟩ : ∃ W, ((w.alloc (.cells #[.string X, av, .bool b1, .bool b2] 100)).drewN nq).setCell ⟨g, 2, none⟩ (.slice (some ad) m oc) = W := ⟨_, rfl⟩
    have HW2 : Hid (Mk.Wk W g s ⟨st.toks, st.opened.dropLast, st.rooted⟩ (.slice tA L tc) (.slice (some ad) m oc) avs []) := by rw [← hW]; exact (HW.out.drewN nq).pop HN.out
    have HB2 : Hid (At W w.heap.size [.string X, av, .bool b1, .bool b2]) := by rw [← hW]; exact (HB.out.drew ⟨nq, rfl⟩).set_other _ _ (Nat.ne_of_lt hg)
    have HK : Hid (Mk.Kp (fun k => Mk.Sg g (.slice tA L tc) (.slice (some ad) (m + 1) oc) k ∨ False) w W) := by rw [← hW]; exact ((Mk.kp_box _ _).drewN _).set (fun _ => .inl (.inl rfl)) _
    rw [hW]
    clear hW hb0 hca hcu HB HW
    obtain ⟨i0, i1, i2, i3, i4⟩ := info_parts Mk.tok_info
    have HI := Lib.hid (And.intro i1 (And.intro i2 (And.intro i3 i4)))
    clear i1 i2 i3 i4
    have c1 := HW2.out.at_.cell 1 _ rfl
    have d0 := HB2.out.cell 0 _ rfl
    have zW := HW2.out.at_.lt
    have HW3 := Lib.hid (((HW2.out.add0 75 2).alloc (.cells #[.int .u8 2, .string X, .slice none 0 0, .string ⟨#[]⟩, .int .i64 (p : Int)] 59)).drewN 1)
    have HO : Hid (((W.alloc (.cells #[.int .u8 2, .string X, .slice none 0 0, .string ⟨#[]⟩, .int .i64 (p : Int)] 59)).drewN 1).ownsRow (g + 1) 59 5 (.slice tA L tc) L (Mk.tkCells st.toks avs)) := by
      have h := HW3.out.tk
      rw [HLL.out] at h
      exact h
    have HNw := Lib.hid (Mk.tok_new W (.int .u8 2) (.string X) (.slice none 0 0) (.string ⟨#[]⟩) (.int .i64 (p : Int)))
    have HEnd : Hid (∀ (g9 cp9 : Nat) (w9 : World), w9.ownsRow (g + 1) 59 5 (.slice (some ⟨g9, 0, none⟩) (L + 1) cp9) (L + 1) (Mk.tkCells st.toks avs ++ [.int .u8 2, .string X, .slice none 0 0, .string ⟨#[]⟩, .int .i64 (p : Int)]) → ((W.alloc (.cells #[.int .u8 2, .string X, .slice none 0 0, .string ⟨#[]⟩, .int .i64 (p : Int)] 59)).drewN 1).grownBy w9 (Value.slice tA L tc).ownBlock →
        ((Value.slice tA L tc).ownBlock = some g9 ∨ g9 = ((W.alloc (.cells #[.int .u8 2, .string X, .slice none 0 0, .string ⟨#[]⟩, .int .i64 (p : Int)] 59)).drewN 1).heap.size) →
        Mk.WRet w g s (.slice tA L tc) (.slice (some ad) (m + 1) oc) (fun _ => False) R (.returned (.int .i64 0)) (w9.setCell ⟨g, 1, none⟩ (.slice (some ⟨g9, 0, none⟩) (L + 1) cp9))) := by
      intro g9 cp9 w9 hown hg9 hat9
      rw [← HY.out] at hown
      obtain ⟨h1, h2, h3⟩ := Mk.push_end (t := ⟨2, t.name, [], [], p⟩) ((HK.out.alloc _).drewN 1) HW3.out HLL.out hown hg9 hat9
      exact ⟨h1, by rw [HE.out]; exact ⟨rfl, _, _, _, h2, h3, .inl rfl⟩⟩
    go_region_law (refine step_append_lies _ (by rfl) (.tmp 42) (.tmp 47) 35 (by rfl) (g + 1) 59 i0 _ 5 72 Tryd.underlying35 HI.out.1 HI.out.2.1 HI.out.2.2.1 HI.out.2.2.2 (by rfl) (by decide) _ L _ (by rfl) HO.out _ 1 1 _ (by rfl) (by rfl) HNw.out (by simp [Value.oneCell']) (by decide) (by unfold maxLen; omega) (by omega) (by simp; omega) _ rfl ?_; intro g9 cp9 w9 hown9 hg9 hat9 hlt9; have h9 := Mk.At.grownO HW3.out.at_ hg9 (fun e => by have := (HO.out.lt _ e).1; omega); have c9 : w9.cell? ⟨g, 1, none⟩ = some (.slice tA L tc) := h9.cell 1 _ rfl; have f9 : w9.frozen? ⟨g, 1, none⟩ = false := h9.free 1 _ rfl; have z9 := h9.lt)
    all_goals (have HF := Lib.hid hown9; have HG := Lib.hid hg9; have HT9 := Lib.hid hat9; clear hown9 hg9 hat9 h9)
    all_goals go_wp2
    all_goals refine bodyPost_ret (v := .int .i64 0) (by simp [results, Tryd.results56, go_sem, *]) rfl (HEnd.out g9 cp9 w9 HF.out HG.out HT9.out)
  · have HE : Hid (R = .inl 12) := by show _ = _; rw [← HR.out]; exact Mk.fin_other hnm hne
    have hs := Mk.str_ne hne
    rw [hX, hY] at hs
    rw [hX] at hcu hca
    rw [hY] at hca HW HB hb0 ⊢
    clear hX hn hL ho0 H HTk HOp hm HR hnm hne hu hat
    go_enter Tryd.func56, Tryd.ntmps56
    go_wp2
    go_quiet (fail)
    go_wp2
    refine bodyPost_ret (v := .int .i64 12) (by simp [results, Tryd.results56, go_sem, *]) rfl ⟨?_, by rw [HE.out]; rfl⟩
    first | exact (Mk.kp_box _ _).drewN _ | exact Mk.kp_box _ _
end Go.Proofs.YthmhadgbhakdlaaDoor

/- markup.Resolve: a text with what stands for each reference in its place. -/
namespace Go.Proofs.YthmhadgbhakdlaaDoor
open Go.RowKit

namespace Mk
theorem wr64 (n : Nat) (h : n ≤ 1000000000) : wrap64 (n : Int) = (n : Int) := by unfold wrap64; omega
theorem wri64 (n : Nat) (h : n ≤ 1000000000) : IntKind.i64.wrap (n : Int) = (n : Int) := by rw [IntKind.wrap_i64]; omega
def RAt (w : World) (s : ByteArray) (R : Txt × Nat × Nat) (i : Value) (wr : World) : Prop :=
  ∃ (p f : Nat) (acc : Txt), p ≤ s.size ∧ s.size ≤ p + f ∧ i = .int .i64 (p : Int) ∧ Hid (res (f + 1) ((tl s).drop p) p acc = R) ∧ Hid (acc.length ≤ 4 * p) ∧ Hid (IsB wr w.heap.size acc) ∧ Hid (Below w.heap.size w wr)
end Mk
set_option maxHeartbeats 4000000 in
set_option maxRecDepth 100000 in
theorem resolve_any (s : ByteArray) (hs : s.size ≤ 100000000) (w : World) :
    Calls Tryd.prog 51 #[.string s] w fun e w' => e = .returned (.tuple #[.string (Mk.bts (Mk.resolve (tl s)).1), .int .i64 ((Mk.resolve (tl s)).2.1 : Int), .int .i64 ((Mk.resolve (tl s)).2.2 : Int)]) ∧ Below w.heap.size w w' := by
  have hmax : IntKind.i64.wrap (s.size : Int) = s.size := by rw [IntKind.wrap_i64]; omega
  have HL := Lib.hid (tl_length s)
  obtain ⟨R, hR⟩ : ∃ R, Mk.resolve (tl s) = R := ⟨_, rfl⟩
  have HR0 : Hid (Mk.res (s.size + 1) ((tl s).drop 0) 0 [] = R) := by rw [← hR, ← tl_length s]; rfl
  rw [hR]
  clear hR
  go_enter Tryd.func51, Tryd.ntmps51
  go_wp2_with fail
  go_loopw [6] (fun i wr => Mk.RAt w s R i wr) (fun i _ => s.size + 1 - (intOf i).toNat)
  case atStart => exact ⟨0, s.size, [], Nat.zero_le _, by omega, rfl, HR0.out, by show 0 ≤ _; omega, Mk.fresh w, Mk.below_new w _⟩
  case round =>
    obtain ⟨p, f, acc, hp, hf, rfl, HR, HLe, HI, HB⟩ := hrel
    have p0 : (0 : Int) ≤ (p : Int) := by omega
    have p1 : (p : Int) ≤ (s.size : Int) := by omega
    obtain ⟨L, hL⟩ : ∃ L, (tl s).drop p = L := ⟨_, rfl⟩
    have HLL : Hid (tl (s.extract p s.size) = L) := by show _ = _; rw [Mk.tl_from, hL]
    have HLn : Hid (L.length = s.size - p) := by show _ = _; rw [← hL, List.length_drop, tl_length]
    have HLd : Hid (∀ k, (tl s).drop (p + k) = L.drop k) := fun k => by rw [← hL, List.drop_drop]
    rw [hL] at HR
    clear hL
    have HI1 : Hid (∀ W, Calls Tryd.prog 36 #[.string (s.extract p s.size), .int .u8 38] W fun e w' => e = .returned (.int .i64 (Mk.ib 38 L)) ∧ w' = W) := fun W => by
      have h := Mk.idx_any (s.extract p s.size) 38 W
      rw [HLL.out] at h
      exact h
    have hsi : (s.size : Int) ≤ 100000000 := by omega
    have hacc : acc.length ≤ 400000000 := by have := HLe.out; omega
    by_cases hA : Mk.aft 38 L = []
    · have HE : Hid (R = (acc ++ L, 0, 0)) := by show _ = _; rw [← HR.out]; exact Mk.res_end hA
      have HI2 : Hid (∀ W, Calls Tryd.prog 36 #[.string (s.extract p s.size), .int .u8 38] W fun e w' => e = .returned (.int .i64 (-1)) ∧ w' = W) := fun W => by
        have h := HI1.out W
        rw [Mk.ib, if_pos hA] at h
        exact h
      clear HI1 hA HR
      go_wp2_with (refine (HI2.out _).mono ?_; rintro e w' ⟨rfl, rfl⟩)
      refine (Mk.putS (s.extract p s.size) HI.out (by omega) (by simp only [ByteArray.size_extract]; omega)).mono ?_
      rintro e w2 ⟨rfl, hI, hb⟩
      rw [HLL.out] at hI
      have HI3 := Lib.hid hI
      have HB3 := Lib.hid (HB.out.trans hb)
      clear hI hb
      go_wp2_with fail
      refine (Mk.takeS HI3.out).mono ?_
      rintro e w3 ⟨rfl, hb⟩
      have HB4 := Lib.hid (HB3.out.trans hb)
      clear hb
      go_wp2_with fail
      go_ret3
      exact ⟨by rw [HE.out]; rfl, HB4.out⟩
    · obtain ⟨a, ha⟩ : ∃ a, (Mk.bef 38 L).length = a := ⟨_, rfl⟩
      obtain ⟨L2, hL2⟩ : ∃ x, Mk.aft 38 L = x := ⟨_, rfl⟩
      have hsum := Mk.bef_len 38 L
      rw [ha, hL2] at hsum
      have hL2n : L2.length ≠ 0 := fun e => hA (by rw [hL2]; exact List.eq_nil_of_length_eq_zero e)
      obtain ⟨q, hq⟩ : ∃ q : Nat, p + a = q := ⟨_, rfl⟩
      have hqs : q < s.size := by have := HLn.out; omega
      have HL2d : Hid ((tl s).drop q = L2) := by show _ = _; rw [← hq, HLd.out a, ← hL2, Mk.aft_drop 38 L, ha]
      have HP : Hid (tl (s.extract p q) = Mk.bef 38 L) := by
        show _ = _
        rw [Mk.tl_mid, ← Mk.tl_from, HLL.out, Mk.bef_take 38 L, ha, ← hq, Nat.add_sub_cancel_left]
      have hqi : (p : Int) + (a : Int) = (q : Int) := by omega
      have q0 : (0 : Int) ≤ (q : Int) := by omega
      have q1 : (q : Int) ≤ (s.size : Int) := by omega
      have q2 : (p : Int) ≤ (q : Int) := by omega
      have HI2 : Hid (∀ W, Calls Tryd.prog 36 #[.string (s.extract p s.size), .int .u8 38] W fun e w' => e = .returned (.int .i64 (a : Int)) ∧ w' = W) := fun W => by
        have h := HI1.out W
        rw [Mk.ib, if_neg hA, ha] at h
        exact h
      have n1 : ¬ (a : Int) < 0 := by omega
      obtain ⟨B, hB⟩ : ∃ x, Mk.bef 38 L = x := ⟨_, rfl⟩
      rw [hB] at HP
      have HLL2 : Hid (tl (s.extract q s.size) = L2) := by show _ = _; rw [Mk.tl_from, HL2d.out]
      have HI5 : Hid (∀ W, Calls Tryd.prog 36 #[.string (s.extract q s.size), .int .u8 59] W fun e w' => e = .returned (.int .i64 (Mk.ib 59 L2)) ∧ w' = W) := fun W => by
        have h := Mk.idx_any (s.extract q s.size) 59 W
        rw [HLL2.out] at h
        exact h
      have HBl : Hid (B.length = a) := by show _ = _; rw [← hB]; exact ha
      have HNil : Hid (Mk.aft 38 L ≠ []) := hA
      have HaL2 := Lib.hid hL2
      have HbB := Lib.hid hB
      have Ha := Lib.hid ha
      have Hsum := Lib.hid hsum
      have Hq := Lib.hid hq
      clear hA ha hL2 hB HI1 hsum hq hL2n
      by_cases hC : Mk.aft 59 L2 = []
      · have HE : Hid (R = ([], q, 4)) := by
          show _ = _
          rw [← HR.out, Mk.res_open HNil.out (by rw [HaL2.out]; exact hC), Ha.out, Hq.out]
        have HI6 : Hid (∀ W, Calls Tryd.prog 36 #[.string (s.extract q s.size), .int .u8 59] W fun e w' => e = .returned (.int .i64 (-1)) ∧ w' = W) := fun W => by
          have h := HI5.out W
          rw [Mk.ib, if_pos hC] at h
          exact h
        clear HI5 hC
        go_wp2_with (refine (HI2.out _).mono ?_; rintro e w' ⟨rfl, rfl⟩)
        refine (Mk.putS (s.extract p q) HI.out (by omega) (by simp only [ByteArray.size_extract]; omega)).mono ?_
        rintro e w2 ⟨rfl, hI, hb⟩
        have HB3 := Lib.hid (HB.out.trans hb)
        clear hI hb
        go_wp2_with (refine (HI6.out _).mono ?_; rintro e w' ⟨rfl, rfl⟩)
        go_ret3
        exact ⟨by rw [HE.out]; rfl, HB3.out⟩
      · obtain ⟨m, hm⟩ : ∃ m, (Mk.bef 59 L2).length = m := ⟨_, rfl⟩
        have hsum2 := Mk.bef_len 59 L2
        rw [hm] at hsum2
        have hAn := List.length_pos_iff.2 hC
        have hm1 : 1 ≤ m := by
          rw [← hm]
          have h38 := Mk.aft_head HNil.out
          rw [HaL2.out] at h38
          cases hc : L2 with
          | nil => rw [hc] at h38; cases h38
          | cons x r =>
            rw [hc] at h38
            cases h38
            rw [Mk.bef_cons (by decide), List.length_cons]
            omega
        obtain ⟨r, hr⟩ : ∃ r : Nat, q + m = r := ⟨_, rfl⟩
        have hrs : r < s.size := by have := Hsum.out; have := HLn.out; have := Hq.out; omega
        have hri : (q : Int) + (m : Int) = (r : Int) := by omega
        obtain ⟨u, hu⟩ : ∃ u : Nat, q + 1 = u := ⟨_, rfl⟩
        have hui : (q : Int) + 1 = (u : Int) := by omega
        obtain ⟨v, hv⟩ : ∃ v : Nat, m + 1 = v := ⟨_, rfl⟩
        have hvi : (m : Int) + 1 = (v : Int) := by omega
        obtain ⟨t, ht⟩ : ∃ t : Nat, q + v = t := ⟨_, rfl⟩
        have hti : (q : Int) + (v : Int) = (t : Int) := by omega
        have hts : t ≤ s.size := by omega
        have u0 : (0 : Int) ≤ (u : Int) := by omega
        have r1 : (r : Int) ≤ (s.size : Int) := by omega
        have r2 : (u : Int) ≤ (r : Int) := by omega
        obtain ⟨x, hx⟩ : ∃ x, (Mk.bef 59 L2).drop 1 = x := ⟨_, rfl⟩
        have HX : Hid (tl (s.extract u r) = x) := by
          show _ = _
          rw [Mk.tl_mid, ← hu, ← List.drop_drop, HL2d.out, ← hx, Mk.bef_take 59 L2, hm, show r - (q + 1) = m - 1 by omega, List.drop_take]
        have HRf := Lib.hid (fun W => reference_any (s.extract u r) (by simp only [ByteArray.size_extract, maxLen]; omega) W)
        rw [HX.out] at HRf
        have n2 : ¬ (m : Int) < 0 := by omega
        have HI6 : Hid (∀ W, Calls Tryd.prog 36 #[.string (s.extract q s.size), .int .u8 59] W fun e w' => e = .returned (.int .i64 (m : Int)) ∧ w' = W) := fun W => by
          have h := HI5.out W
          rw [Mk.ib, if_neg hC, hm] at h
          exact h
        have HE1 : Hid ((Mk.ref x).1 ≠ 0 → R = ([], q, (Mk.ref x).1)) := fun h => by
          have h2 := Mk.res_bad (f := f) (a := p) (acc := acc) HNil.out (by rw [HaL2.out]; exact hC) (by rw [HaL2.out, hx]; exact h)
          rw [HaL2.out, hx, Ha.out, Hq.out, HR.out] at h2
          exact h2
        have HTd : Hid ((tl s).drop t = (Mk.aft 59 L2).drop 1) := by
          show _ = _
          rw [Mk.aft_drop 59 L2, hm, List.drop_drop, ← HL2d.out, List.drop_drop]
          congr 1
          omega
        have HE2 : Hid ((Mk.ref x).1 = 0 → Mk.res f ((tl s).drop t) t (acc ++ B ++ (Mk.ref x).2) = R) := fun h => by
          have h2 := Mk.res_more (f := f) (a := p) (acc := acc) HNil.out (by rw [HaL2.out]; exact hC) (by rw [HaL2.out, hx]; exact h)
          rw [HaL2.out, hx, Ha.out, Hq.out, HR.out, HbB.out, hm] at h2
          rw [HTd.out, show t = q + m + 1 by omega]
          exact h2.symm
        have HRl := Lib.hid (Mk.ref_len x)
        obtain ⟨c, hc⟩ : ∃ c, Mk.ref x = c := ⟨_, rfl⟩
        rw [hc] at HRf HE1 HE2 HRl
        have hlen : acc.length + a + 4 ≤ 4 * t := by have := HLe.out; have := Hq.out; omega
        have htp : p < t := by have := Hq.out; omega
        have htf : s.size + 1 ≤ t + f := by have := Hq.out; omega
        have hf1 : 1 ≤ f := by omega
        clear hc hC hx HX HTd hsum2 hAn hm HI5
        go_wp2_with (refine (HI2.out _).mono ?_; rintro e w' ⟨rfl, rfl⟩)
        refine (Mk.putS (s.extract p q) HI.out (by omega) (by simp only [ByteArray.size_extract]; omega)).mono ?_
        rintro e w2 ⟨rfl, hI, hb⟩
        rw [HP.out] at hI
        have HI3 := Lib.hid hI
        have HB3 := Lib.hid (HB.out.trans hb)
        clear hI hb
        go_wp2_with (refine (HI6.out _).mono ?_; rintro e w' ⟨rfl, rfl⟩)
        refine (HRf.out _).mono ?_
        rintro e w3 ⟨rfl, hb⟩
        have HI4 := Lib.hid (HI3.out.call hb)
        have HB4 := Lib.hid (HB3.out.trans (hb.mono (Nat.le_of_lt HI3.out.lt)))
        clear hb
        by_cases h0 : c.1 = 0
        · have c0 : ((c.1 : Int) != 0) = false := by rw [h0]; rfl
          have c1 : (c.1 : Int) = 0 := by omega
          go_wp2_with fail
          refine (Mk.putS (Mk.bts c.2) HI4.out (by rw [List.length_append, HBl.out]; omega) (by rw [Mk.bts_size]; have := HRl.out; omega)).mono ?_
          rintro e w4 ⟨rfl, hI, hb⟩
          have HI5 := Lib.hid hI
          have HB5 := Lib.hid (HB4.out.trans hb)
          clear hI hb
          go_wp2
          go_roundw
          case rel =>
            obtain ⟨f, rfl⟩ : ∃ g, f = g + 1 := ⟨f - 1, by omega⟩
            exact ⟨t, f, acc ++ B ++ c.2, hts, by omega, by go_num, HE2.out h0, by show _ ≤ _; rw [List.length_append, List.length_append, HBl.out]; have := HRl.out; omega, HI5.out, HB5.out⟩
          case measure => simp [intOf]; omega
        · have c0 : ((c.1 : Int) != 0) = true := by rw [bne_iff_ne]; omega
          have c1 : ¬ (c.1 : Int) = 0 := by omega
          go_wp2_with fail
          go_ret3
          exact ⟨by rw [HE1.out h0]; rfl, HB4.out⟩
end Go.Proofs.YthmhadgbhakdlaaDoor

/- markup: the text between two pieces: (*walk).between. -/
namespace Go.Proofs.YthmhadgbhakdlaaDoor
open Go.RowKit

namespace Mk
/-- What a method of a walk answers with a fault: a place and a reason, or the walk, held still. -/
def FRet (w : World) (g : Nat) (s : ByteArray) (tv ov : Value) (o : (Nat × Nat) ⊕ S) (e : Ending) (w' : World) : Prop :=
  Kp (fun k => Sg g tv ov k ∨ False) w w' ∧ match o with
  | .inl x => e = .returned (.agg #[.int .i64 0, .int .i64 (x.1 : Int), .int .i64 (x.2 : Int)])
  | .inr st' => e = .returned (.agg #[.int .i64 0, .int .i64 0, .int .i64 0]) ∧ ∃ tv' ov' avs', Wk w' g s st' tv' ov' avs' [] ∧ Mv w tv tv' ∧ Mv w ov ov'
theorem bt_out {pre : Txt} {p : Nat} {st : S} (h : st.opened = []) (h2 : skip pre = []) : between pre p st = .inr st := by unfold between; rw [if_pos h, if_pos h2]
theorem bt_turn {pre : Txt} {p : Nat} {st : S} (h : st.opened = []) (h2 : skip pre ≠ []) : between pre p st = .inl (p + pre.length - (skip pre).length, 12) := by unfold between; rw [if_pos h, if_neg h2]
theorem bt_none {pre : Txt} {p : Nat} {st : S} (h : st.opened ≠ []) (h2 : pre = []) : between pre p st = .inr st := by unfold between; rw [if_neg h, if_pos h2]
theorem bt_bad {pre : Txt} {p : Nat} {st : S} (h : st.opened ≠ []) (h2 : pre ≠ []) (h3 : (resolve pre).2.2 ≠ 0) : between pre p st = .inl (p + (resolve pre).2.1, (resolve pre).2.2) := by unfold between; rw [if_neg h, if_neg h2, if_pos h3]
theorem bt_text {pre : Txt} {p : Nat} {st : S} (h : st.opened ≠ []) (h2 : pre ≠ []) (h3 : (resolve pre).2.2 = 0) : between pre p st = .inr ⟨st.toks ++ [⟨3, [], [], (resolve pre).1, p⟩], st.opened, st.rooted⟩ := by unfold between; rw [if_neg h, if_neg h2, if_neg (fun x => x h3)]
/-- Block b is of a fault's cells. -/
def Ty (w : World) (b : Nat) : Prop := ∃ cs fz, w.heap[b]? = some (.cells cs 30 fz)
theorem Ty.new (w : World) (cs : Array Value) : Ty (w.alloc (.cells cs 30)) w.heap.size := ⟨cs, (0, 0), heap_alloc_new w _⟩
theorem Ty.lt {w : World} {b : Nat} (h : Ty w b) : b < w.heap.size := by
  obtain ⟨cs, fz, h⟩ := h
  exact (Array.getElem?_eq_some_iff.1 h).1
theorem Ty.kp {w w' : World} {b : Nat} {S : Nat → Prop} (h : Ty w b) (k : Kp S w w') (hb : ¬ S b) : Ty w' b := by
  have hl := h.lt
  obtain ⟨cs, fz, h⟩ := h
  exact ⟨cs, fz, (k.block b hl hb).trans h⟩
theorem Ty.call {w w' : World} {b : Nat} (h : Ty w b) (hb : Below w.heap.size w w') : Ty w' b := h.kp (Kp.of_below (S := fun _ => False) hb) (fun x => x)
theorem Ty.set {w : World} {b : Nat} (h : Ty w b) (p : Addr) (v : Value) : Ty (w.setCell p v) b := by
  obtain ⟨cs, fz, h⟩ := h
  by_cases e : p.block = b
  · subst e
    refine ⟨if p.spot.isSome then cs else cs.setIfInBounds p.off v, fz, ?_⟩
    simp only [World.setCell, Array.getElem?_modify, if_pos, h, Option.map_some]
  · exact ⟨cs, fz, (Below.heap_setCell _ _ _ _ (Ne.symm e)).trans h⟩
theorem Ty.row {w : World} {b B : Nat} {e : TypeId} {size : Nat} {v : Value} {n : Nat} {xs : List Value} (h : Ty w b) (hr : w.ownsRow B e size v n xs) (he : e ≠ 30) : v.ownBlock ≠ some b := by
  intro hv
  obtain ⟨cs, fz, h⟩ := h
  rcases hr.2 with ⟨rfl, _⟩ | ⟨g', cap, cur, rfl, _, hgg, _⟩
  · cases hv
  · have hv2 : g' = b := Option.some.inj hv
    subst hv2
    rw [hgg] at h
    injection h with h
    injection h with _ h _
    exact he h
theorem atRows_e : ∀ (l : List T) (vs : List Value) (r : Row), r ∈ atRows l vs → r.e = 75
  | t :: l, v :: vs, r, h => by
    rw [atRows] at h
    rcases List.mem_cons.1 h with rfl | h
    · rfl
    · exact atRows_e l vs r h
  | [], _, _, h => by simp [atRows] at h
  | _ :: _, [], _, h => by simp [atRows] at h
theorem Wk.rows_e {w : World} {g : Nat} {s : ByteArray} {st : S} {tv ov : Value} {avs : List Value} (_ : Wk w g s st tv ov avs []) (r : Row) (hr : r ∈ tkRow st.toks tv avs :: opRow st.opened ov :: ([] ++ atRows st.toks avs)) : r.e ≠ 30 := by
  rcases List.mem_cons.1 hr with rfl | hr
  · show 59 ≠ _; decide
  rcases List.mem_cons.1 hr with rfl | hr
  · show 9 ≠ _; decide
  · rw [atRows_e _ _ r (by simpa using hr)]; decide
/-- A store into a fault's cells. -/
theorem Wk.setF {w : World} {g b i : Nat} {s : ByteArray} {st : S} {tv ov : Value} {avs : List Value} (h : Wk w g s st tv ov avs []) (ht : Ty w b) (hb : b ≠ g) (v : Value) : Wk (w.setCell ⟨b, i, none⟩ v) g s st tv ov avs [] :=
  ⟨h.at_.set_other _ _ hb, h.len, ⟨fun r hr => ownsRow_setCell_other (h.many.own r hr) (ht.row (h.many.own r hr) (h.rows_e r hr)) v, h.many.apart⟩⟩
theorem Wk.setF3 {w : World} {g b : Nat} {s : ByteArray} {st : S} {tv ov : Value} {avs : List Value} (h : Wk w g s st tv ov avs []) (ht : Ty w b) (hb : b ≠ g) (x y z : Value) :
    Wk (((w.setCell ⟨b, 0, none⟩ x).setCell ⟨b, 1, none⟩ y).setCell ⟨b, 2, none⟩ z) g s st tv ov avs [] :=
  ((h.setF ht hb x).setF (ht.set _ _) hb y).setF ((ht.set _ _).set _ _) hb z
theorem Kp.set3 {S : Nat → Prop} {a w : World} {b : Nat} (k : Kp S a w) (hb : a.heap.size ≤ b) (x y z : Value) : Kp S a (((w.setCell ⟨b, 0, none⟩ x).setCell ⟨b, 1, none⟩ y).setCell ⟨b, 2, none⟩ z) :=
  ((k.set (p := ⟨b, 0, none⟩) (fun h => by have : b < a.heap.size := h; omega) x).set (p := ⟨b, 1, none⟩) (fun h => by have : b < a.heap.size := h; omega) y).set (p := ⟨b, 2, none⟩) (fun h => by have : b < a.heap.size := h; omega) z
end Mk
set_option maxHeartbeats 2000000 in
set_option maxRecDepth 100000 in
theorem between_any (w : World) (g : Nat) (s : ByteArray) (st : Mk.S) (tv ov : Value) (avs : List Value) (a b : Nat) (hab : a ≤ b) (hbs : b ≤ s.size) (hs : s.size ≤ 100000000) (H : Mk.Wk w g s st tv ov avs []) (hm : Mk.Sm st) :
    Calls Tryd.prog 37 #[.pointer (some ⟨g, 0, none⟩), .int .i64 (a : Int), .int .i64 (b : Int)] w (Mk.FRet w g s tv ov (Mk.between (tl (s.extract a b)) a st)) := by
  obtain ⟨R, hR⟩ : ∃ R, Mk.between (tl (s.extract a b)) a st = R := ⟨_, rfl⟩
  rw [hR]
  have HTk := H.tk
  have HOp := H.op
  obtain ⟨tA, tc, rfl, _⟩ := own_slice HTk
  obtain ⟨oA, oc, rfl, _⟩ := own_slice HOp
  obtain ⟨n, hn⟩ : ∃ n, st.opened.length = n := ⟨_, rfl⟩
  obtain ⟨L, hL⟩ : ∃ L, st.toks.length = L := ⟨_, rfl⟩
  have hL8 := hm.toks
  have ho0 : st.opened = [] ↔ n = 0 := by rw [← hn, List.length_eq_zero_iff]
  have hg : g < w.heap.size := H.at_.lt
  rw [hn] at HOp H ⊢
  rw [hL] at HTk hL8 H ⊢
  have hb0 : w.cell? ⟨g, 0, none⟩ = some (.string s) := H.at_.cell 0 _ rfl
  have hb2 : w.cell? ⟨g, 2, none⟩ = some (.slice oA n oc) := H.at_.cell 2 _ rfl
  have a0 : (0 : Int) ≤ (a : Int) := by omega
  have a1 : (a : Int) ≤ (b : Int) := by omega
  have a2 : (b : Int) ≤ (s.size : Int) := by omega
  have HLL := Lib.hid hL
  obtain ⟨P, hP⟩ : ∃ P, s.extract a b = P := ⟨_, rfl⟩
  have hPs : P.size = b - a := by rw [← hP, ByteArray.size_extract]; omega
  have HPx : Hid (s.extract a b = P) := hP
  rw [hP] at hR
  have HZ0 : Hid (At (w.alloc (.cells #[.int .i64 0, .int .i64 0, .int .i64 0] 30)) w.heap.size [.int .i64 0, .int .i64 0, .int .i64 0]) := At.new _ _ _
  have HW0 := Lib.hid (H.alloc (.cells #[.int .i64 0, .int .i64 0, .int .i64 0] 30))
  have HK0 : Hid (Mk.Kp (fun k => Mk.Sg g (.slice tA L tc) (.slice oA n oc) k ∨ False) w (w.alloc (.cells #[.int .i64 0, .int .i64 0, .int .i64 0] 30))) := Mk.kp_box _ _
  have HPl := Lib.hid (tl_length P)
  have HT0 : Hid (Mk.Ty (w.alloc (.cells #[.int .i64 0, .int .i64 0, .int .i64 0] 30)) w.heap.size) := Mk.Ty.new _ _
  have HFt := Lib.hid (fun (c y : Int) W => fault_any c y W)
  by_cases h0 : n = 0
  · have e0 : ((n : Int) == 0) = true := by rw [h0]; rfl
    have hop := ho0.2 h0
    have HSk := Lib.hid (fun W => skipWhite_any P W)
    obtain ⟨T, hT⟩ : ∃ T, Mk.skip (tl P) = T := ⟨_, rfl⟩
    have hTl : T.length ≤ (tl P).length := by rw [← hT]; exact Mk.skip_len _
    rw [hT] at HSk
    obtain ⟨X, hX⟩ : ∃ X, Mk.bts T = X := ⟨_, rfl⟩
    have hXs : X.size = T.length := by rw [← hX]; rfl
    rw [hX, ← HPx.out] at HSk
    rw [HPl.out] at hTl
    by_cases ht : T = []
    · have q0 : X.toList.isEmpty = true := Mk.emp_yes (by rw [hXs, ht]; rfl)
      have HE : Hid (R = .inr st) := by show _ = _; rw [← hR]; exact Mk.bt_out hop (hT.trans ht)
      clear hR hT hX hXs ht hTl hop ho0 hn hL hm HTk HOp H hPs hP
      go_enter Tryd.func37, Tryd.ntmps37
      go_wp2_with fail
      refine (HSk.out _).mono ?_
      rintro e w1 ⟨rfl, hb⟩
      have HZ1 := Lib.hid (HZ0.out.call hb)
      have HW1 := Lib.hid (HW0.out.call hb)
      have HK1 := Lib.hid (HK0.out.then_ hb)
      have HT1 := Lib.hid (HT0.out.call hb)
      clear hb
      have hz1 := HZ1.out.lt
      obtain ⟨f0, f1, f2, e5, e6, e7⟩ := HZ1.out.three
      go_wp2
      refine bodyPost_ret (v := .agg #[.int .i64 0, .int .i64 0, .int .i64 0]) (by simp [results, Tryd.results37, go_sem, *]) rfl ⟨HK1.out.set3 (Nat.le_refl _) _ _ _, by rw [HE.out]; exact ⟨rfl, _, _, avs, HW1.out.setF3 HT1.out (Nat.ne_of_gt hg) _ _ _, Mk.Mv.refl _ _, Mk.Mv.refl _ _⟩⟩
    · have q0 : X.toList.isEmpty = false := Mk.emp_no (by rw [hXs]; exact List.length_pos_iff.2 ht)
      obtain ⟨c, hc⟩ : ∃ c : Nat, a + (tl P).length - T.length = c := ⟨_, rfl⟩
      have HE : Hid (R = .inl (c, 12)) := by show _ = _; rw [← hR, Mk.bt_turn hop (by rw [hT]; exact ht), hT, hc]
      rw [HPl.out] at hc
      have hcx : IntKind.i64.wrap ((b : Int) - (X.size : Int)) = (c : Int) := by rw [IntKind.wrap_i64]; omega
      clear hR hT hX hXs ht hTl hop ho0 hn hL hm HTk HOp H hPs hP hc
      go_enter Tryd.func37, Tryd.ntmps37
      go_wp2_with fail
      refine (HSk.out _).mono ?_
      rintro e w1 ⟨rfl, hb⟩
      have HZ1 := Lib.hid (HZ0.out.call hb)
      have HW1 := Lib.hid (HW0.out.call hb)
      have HK1 := Lib.hid (HK0.out.then_ hb)
      have HT1 := Lib.hid (HT0.out.call hb)
      clear hb
      go_wp2_with fail
      refine (HFt.out _ _ _).mono ?_
      rintro e w2 ⟨rfl, hb⟩
      have HZ2 := Lib.hid (HZ1.out.call hb)
      have HK2 := Lib.hid (HK1.out.then_ hb)
      clear hb
      have hz1 := HZ2.out.lt
      obtain ⟨f0, f1, f2, e5, e6, e7⟩ := HZ2.out.three
      go_wp2
      refine bodyPost_ret (v := .agg #[.int .i64 0, .int .i64 ((c : Int)), .int .i64 (12)]) (by simp [results, Tryd.results37, go_sem, *]) rfl ⟨HK2.out.set3 (Nat.le_refl _) _ _ _, by rw [HE.out]; rfl⟩
  · have e0 : ((n : Int) == 0) = false := by rw [beq_eq_false_iff_ne]; omega
    have hop : st.opened ≠ [] := fun e => h0 (ho0.1 e)
    by_cases hp0 : tl P = []
    · have q0 : (s.extract a b).toList.isEmpty = true := Mk.emp_yes (by rw [HPx.out, ← HPl.out, hp0]; rfl)
      have HE : Hid (R = .inr st) := by show _ = _; rw [← hR]; exact Mk.bt_none hop hp0
      clear hR hp0 hop ho0 hn hL hm HTk HOp H hPs hP
      go_enter Tryd.func37, Tryd.ntmps37
      have hz1 := HZ0.out.lt
      obtain ⟨f0, f1, f2, e5, e6, e7⟩ := HZ0.out.three
      go_wp2
      refine bodyPost_ret (v := .agg #[.int .i64 0, .int .i64 0, .int .i64 0]) (by simp [results, Tryd.results37, go_sem, *]) rfl ⟨HK0.out, by rw [HE.out]; exact ⟨rfl, _, _, avs, HW0.out, Mk.Mv.refl _ _, Mk.Mv.refl _ _⟩⟩
    have q0 : (s.extract a b).toList.isEmpty = false := Mk.emp_no (by rw [HPx.out, ← HPl.out]; exact List.length_pos_iff.2 hp0)
    have HRs := Lib.hid (fun W => resolve_any P (by omega) W)
    have hpl : (Mk.resolve (tl P)).2.2 ≠ 0 → (Mk.resolve (tl P)).2.1 ≤ P.size := fun h => by rw [← HPl.out]; exact Mk.resolve_place h
    obtain ⟨⟨T, i, y⟩, hT⟩ : ∃ x, Mk.resolve (tl P) = x := ⟨_, rfl⟩
    rw [hT] at HRs hpl
    simp only at HRs hpl
    obtain ⟨X, hX⟩ : ∃ X, Mk.bts T = X := ⟨_, rfl⟩
    have HX := Lib.hid hX
    rw [hX, ← HPx.out] at HRs
    by_cases hy : y = 0
    · subst hy
      have HE : Hid (R = .inr ⟨st.toks ++ [⟨3, [], [], T, a⟩], st.opened, st.rooted⟩) := by show _ = _; rw [← hR, Mk.bt_text hop hp0 (by rw [hT]), hT]
      clear hR hT hX hpl hp0 hop ho0 hn hL hm HTk HOp H hPs hP
      go_enter Tryd.func37, Tryd.ntmps37
      go_wp2_with fail
      refine (HRs.out _).mono ?_
      rintro e w1 ⟨rfl, hb⟩
      have HZ1 := Lib.hid (HZ0.out.call hb)
      have HW1 := Lib.hid (HW0.out.call hb)
      have HK1 := Lib.hid (HK0.out.then_ hb)
      have HT1 := Lib.hid (HT0.out.call hb)
      clear hb
      obtain ⟨i0, i1, i2, i3, i4⟩ := info_parts Mk.tok_info
      have HI := Lib.hid (And.intro i1 (And.intro i2 (And.intro i3 i4)))
      clear i1 i2 i3 i4
      have c1 := HW1.out.at_.cell 1 _ rfl
      have zW := HW1.out.at_.lt
      have HW3 := Lib.hid ((HW1.out.add0 75 2).alloc (.cells #[.int .u8 3, .string ⟨#[]⟩, .slice none 0 0, .string X, .int .i64 (a : Int)] 59))
      have HO : Hid ((w1.alloc (.cells #[.int .u8 3, .string ⟨#[]⟩, .slice none 0 0, .string X, .int .i64 (a : Int)] 59)).ownsRow (g + 1) 59 5 (.slice tA L tc) L (Mk.tkCells st.toks avs)) := by
        have h := HW3.out.tk
        rw [HLL.out] at h
        exact h
      have HNw := Lib.hid (Mk.tok_new w1 (.int .u8 3) (.string ⟨#[]⟩) (.slice none 0 0) (.string X) (.int .i64 (a : Int)))
      have HEnd : Hid (∀ (g9 cp9 : Nat) (w9 : World), w9.ownsRow (g + 1) 59 5 (.slice (some ⟨g9, 0, none⟩) (L + 1) cp9) (L + 1) (Mk.tkCells st.toks avs ++ [.int .u8 3, .string ⟨#[]⟩, .slice none 0 0, .string X, .int .i64 (a : Int)]) → (w1.alloc (.cells #[.int .u8 3, .string ⟨#[]⟩, .slice none 0 0, .string X, .int .i64 (a : Int)] 59)).grownBy w9 (Value.slice tA L tc).ownBlock →
          ((Value.slice tA L tc).ownBlock = some g9 ∨ g9 = (w1.alloc (.cells #[.int .u8 3, .string ⟨#[]⟩, .slice none 0 0, .string X, .int .i64 (a : Int)] 59)).heap.size) →
          (w.heap.size < w9.heap.size ∧ w9.cell? ⟨w.heap.size, 0, none⟩ = some (.int .i64 0) ∧ w9.cell? ⟨w.heap.size, 1, none⟩ = some (.int .i64 0) ∧ w9.cell? ⟨w.heap.size, 2, none⟩ = some (.int .i64 0) ∧
            w9.frozen? ⟨w.heap.size, 0, none⟩ = false ∧ w9.frozen? ⟨w.heap.size, 1, none⟩ = false ∧ w9.frozen? ⟨w.heap.size, 2, none⟩ = false) ∧ (g < w9.heap.size ∧ w9.cell? ⟨g, 1, none⟩ = some (.slice tA L tc) ∧ w9.frozen? ⟨g, 1, none⟩ = false) ∧
          ∀ (x y z : Value), Mk.FRet w g s (.slice tA L tc) (.slice oA n oc) R (.returned (.agg #[.int .i64 0, .int .i64 0, .int .i64 0])) ((((w9.setCell ⟨g, 1, none⟩ (.slice (some ⟨g9, 0, none⟩) (L + 1) cp9)).setCell ⟨w.heap.size, 0, none⟩ x).setCell ⟨w.heap.size, 1, none⟩ y).setCell ⟨w.heap.size, 2, none⟩ z)) := by
        intro g9 cp9 w9 hown hg9 hat9
        have hne := HT1.out.call (Mk.below_new w1 (.cells #[.int .u8 3, .string ⟨#[]⟩, .slice none 0 0, .string X, .int .i64 (a : Int)] 59))
        have hrow := hne.row HO.out (by decide)
        have hz9 := Mk.At.grownO (HZ1.out.allocO (.cells #[.int .u8 3, .string ⟨#[]⟩, .slice none 0 0, .string X, .int .i64 (a : Int)] 59)) hg9 hrow
        have h9 := Mk.At.grownO HW3.out.at_ hg9 (fun e => by have := (HO.out.lt _ e).1; omega)
        obtain ⟨u0, u1, u2, u3, u4, u5⟩ := hz9.three
        have ht9 : Mk.Ty w9 w.heap.size := by
          obtain ⟨cs, fz, h⟩ := hne
          exact ⟨cs, fz, (hg9.block _ (by rw [World.size_alloc]; have := HZ1.out.lt; omega) (fun e => hrow e.symm)).trans h⟩
        rw [← HX.out] at hown
        obtain ⟨h1, h2, h3⟩ := Mk.push_end (t := ⟨3, [], [], T, a⟩) (HK1.out.alloc _) HW3.out HLL.out hown hg9 hat9
        exact ⟨⟨hz9.lt, u0, u1, u2, u3, u4, u5⟩, ⟨h9.lt, h9.cell 1 _ rfl, h9.free 1 _ rfl⟩, fun x y z => ⟨h1.set3 (Nat.le_refl _) _ _ _, by rw [HE.out]; exact ⟨rfl, _, _, _, h2.setF3 (ht9.set _ _) (Nat.ne_of_gt hg) _ _ _, h3, Mk.Mv.refl _ _⟩⟩⟩
      have hne2 : w.heap.size ≠ g := Nat.ne_of_gt hg
      have hne3 : g ≠ w.heap.size := Nat.ne_of_lt hg
      go_wp2_with (first
        | (at_builtin; (refine wpList_append_lies _ rfl (.tmp 55) (.tmp 59) 35 rfl (g + 1) 59 i0 _ 5 72 Tryd.underlying35 HI.out.1 HI.out.2.1 HI.out.2.2.1 HI.out.2.2.2 rfl (by decide) _ L _ rfl HO.out _ 1 1 _ rfl rfl HNw.out (by simp [Value.oneCell']) (by decide) (by unfold maxLen; omega) (by omega) (by simp; omega) _ rfl ?_; intro g9 cp9 w9 hown9 hg9 hat9 hlt9; obtain ⟨⟨z1, u0, u1, u2, u3, u4, u5⟩, ⟨z2, u6, u7⟩, hend⟩ := HEnd.out g9 cp9 w9 hown9 hg9 hat9; have HEn := Lib.hid hend; clear hown9 hg9 hat9 hlt9 hend)))
      refine bodyPost_ret (v := .agg #[.int .i64 0, .int .i64 0, .int .i64 0]) (by simp [results, Tryd.results37, go_sem, *]) rfl (HEn.out _ _ _)
    · obtain ⟨c, hc⟩ : ∃ c : Nat, a + i = c := ⟨_, rfl⟩
      have hpl2 := hpl hy
      have HE : Hid (R = .inl (c, y)) := by show _ = _; rw [← hR, Mk.bt_bad hop hp0 (by rw [hT]; exact hy), hT, hc]
      have hcx : IntKind.i64.wrap ((a : Int) + (i : Int)) = (c : Int) := by rw [IntKind.wrap_i64]; omega
      have q1 : ((y : Int) == 0) = false := by rw [beq_eq_false_iff_ne]; omega
      clear hR hT hX hpl hp0 hop ho0 hn hL hm HTk HOp H hPs hP hc hpl2
      go_enter Tryd.func37, Tryd.ntmps37
      go_wp2_with fail
      refine (HRs.out _).mono ?_
      rintro e w1 ⟨rfl, hb⟩
      have HZ1 := Lib.hid (HZ0.out.call hb)
      have HW1 := Lib.hid (HW0.out.call hb)
      have HK1 := Lib.hid (HK0.out.then_ hb)
      have HT1 := Lib.hid (HT0.out.call hb)
      clear hb
      go_wp2_with fail
      refine (HFt.out _ _ _).mono ?_
      rintro e w2 ⟨rfl, hb⟩
      have HZ2 := Lib.hid (HZ1.out.call hb)
      have HK2 := Lib.hid (HK1.out.then_ hb)
      clear hb
      have hz1 := HZ2.out.lt
      obtain ⟨f0, f1, f2, e5, e6, e7⟩ := HZ2.out.three
      go_wp2
      refine bodyPost_ret (v := .agg #[.int .i64 0, .int .i64 ((c : Int)), .int .i64 ((y : Int))]) (by simp [results, Tryd.results37, go_sem, *]) rfl ⟨HK2.out.set3 (Nat.le_refl _) _ _ _, by rw [HE.out]⟩
end Go.Proofs.YthmhadgbhakdlaaDoor
