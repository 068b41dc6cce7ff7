/- markup: an element is closed: (*walk).finish. -/
import Derived.Test.YtjbgmbhifnihaaaDoorMkWk
import Derived.Deep.QuietTactic
import Derived.BigQuiet
import Derived.Deep.DeepCutAuto
namespace Go.Proofs.YtjbgmbhifnihaaaDoor
open Go.RowKit

namespace Mk
theorem fin_none {t : Tag} {p : Nat} {st : S} (h : st.opened = []) : finish t p st = .inl 12 := by unfold finish; rw [h]; rfl
theorem fin_other {t : Tag} {p : Nat} {st : S} {x : Txt} (h : st.opened.getLast? = some x) (hx : x ≠ t.name) : finish t p st = .inl 12 := by
  unfold finish
  rw [h, if_neg (fun e => hx (Option.some.inj e))]
theorem fin_yes {t : Tag} {p : Nat} {st : S} (h : st.opened.getLast? = some t.name) : finish t p st = .inr ⟨st.toks ++ [⟨2, t.name, [], [], p⟩], st.opened.dropLast, st.rooted⟩ := by
  unfold finish
  rw [if_pos h]
theorem bts_inj {a b : Txt} (h : bts a = bts b) : a = b := by have := congrArg tl h; simpa [tl_bts] using this
theorem str_ne {a b : Txt} (h : a ≠ b) : ((bts a).toList == (bts b).toList) = false := by
  rw [Lib.toList_data, Lib.toList_data]
  exact beq_eq_false_iff_ne.2 h
theorem str_eq (a : ByteArray) : (a.toList == a.toList) = true := beq_self_eq_true _
/-- Sizes that a walk keeps to. -/
structure Sm (st : S) : Prop where
  toks : st.toks.length ≤ 100000000
  op : st.opened.length ≤ 32
theorem kp_box {w : World} {S : Nat → Prop} (cs : Array Value) (t : TypeId) : Kp S w (w.alloc (.cells cs t)) := (Kp.refl S w).alloc _
theorem tok_new (W : World) (a b c d e : Value) : ∀ j u, [a, b, c, d, e][j]? = some u → ((W.alloc (.cells #[a, b, c, d, e] 38)).drewN 1).cell? ((⟨W.heap.size, 0, none⟩ : Addr).add j) = some u :=
  World.news_of_block (cs := #[a, b, c, d, e]) (fr := (0, 0)) (heap_alloc_new W _)
end Mk
set_option maxHeartbeats 2000000 in
set_option maxRecDepth 100000 in
theorem finish_any (w : World) (g : Nat) (s : ByteArray) (st : Mk.S) (tv ov av : Value) (avs : List Value) (t : Mk.Tag) (b1 b2 : Bool) (p : Nat) (H : Mk.Wk w g s st tv ov avs []) (hm : Mk.Sm st) :
    Calls Tryd.prog 62 #[.pointer (some ⟨g, 0, none⟩), .agg #[.string (Mk.bts t.name), av, .bool b1, .bool b2], .int .i64 (p : Int)] w (Mk.WRet w g s tv ov (fun _ => False) (Mk.finish t p st)) := by
  obtain ⟨R, hR⟩ : ∃ R, Mk.finish t p st = R := ⟨_, rfl⟩
  have HR := Lib.hid hR
  rw [hR]
  clear hR
  have HTk := H.tk
  have HOp := H.op
  obtain ⟨tA, tc, rfl, _⟩ := own_slice HTk
  obtain ⟨oA, oc, rfl, _⟩ := own_slice HOp
  obtain ⟨n, hn⟩ : ∃ n, st.opened.length = n := ⟨_, rfl⟩
  obtain ⟨L, hL⟩ : ∃ L, st.toks.length = L := ⟨_, rfl⟩
  have hn32 := hm.op
  have hL8 := hm.toks
  have ho0 : st.opened = [] → n = 0 := fun e => by rw [← hn, e]; rfl
  have HW := Lib.hid (H.alloc (.cells #[.string (Mk.bts t.name), av, .bool b1, .bool b2] 95))
  have HB := Lib.hid (At.new w #[.string (Mk.bts t.name), av, .bool b1, .bool b2] 95)
  have hg : g < w.heap.size := H.at_.lt
  rw [hn] at HW HOp hn32 H ⊢
  rw [hL] at HW HTk hL8 H ⊢
  have HN := Lib.hid hn
  have HLL := Lib.hid hL
  have hb0 : (w.alloc (.cells #[.string (Mk.bts t.name), av, .bool b1, .bool b2] 95)).cell? ⟨g, 2, none⟩ = some (.slice oA n oc) := HW.out.at_.cell 2 _ rfl
  by_cases h0 : n = 0
  · have HE : Hid (R = .inl 12) := by show _ = _; rw [← HR.out]; exact Mk.fin_none (List.length_eq_zero_iff.1 (hn.trans h0))
    have e0 : ((n : Int) == 0) = true := by rw [h0]; rfl
    clear hn hL ho0 H HTk HOp hm HR
    go_enter Tryd.func62, Tryd.ntmps62
    go_wp2
    go_quiet (fail)
    go_wp2
    refine bodyPost_ret (v := .int .i64 12) (by simp [results, Tryd.results62, go_sem, *]) rfl ⟨?_, by rw [HE.out]; rfl⟩
    first | exact (Mk.kp_box _ _).drewN _ | exact Mk.kp_box _ _
  obtain ⟨m, rfl⟩ : ∃ m, n = m + 1 := ⟨n - 1, by omega⟩
  obtain ⟨nm, hnm⟩ : ∃ x, st.opened.getLast? = some x := by
    cases e : st.opened.getLast? with
    | none => rw [List.getLast?_eq_none_iff] at e; exact absurd (ho0 e) h0
    | some x => exact ⟨x, rfl⟩
  have hat : st.opened[m]? = some nm := by
    rw [List.getLast?_eq_getElem?, hn] at hnm
    exact hnm
  obtain ⟨ad, u, rfl, hab, hu, hcu⟩ := (Reads.of_own HOp).at_ (Nat.lt_succ_self m)
  have hu2 : u = .string (Mk.bts nm) := by
    unfold Mk.opCells at hu
    rw [List.getElem?_map, hat] at hu
    exact (Option.some.inj hu).symm
  subst hu2
  have hca : (w.alloc (.cells #[.string (Mk.bts t.name), av, .bool b1, .bool b2] 95)).cell? (ad.add m) = some (.string (Mk.bts nm)) := (World.cell?_alloc_lt w _ _ (by rw [block_of_add]; exact hab)).trans hcu
  have k1 : IntKind.i64.wrap (m : Int) = (m : Int) := by rw [IntKind.wrap_i64]; omega
  have k0 : (0 : Int) ≤ (m : Int) := by omega
  have hmc : m ≤ oc := by
    rcases HOp.2 with ⟨h, _⟩ | ⟨_, _, _, h, _, _, h2, _⟩
    · cases h
    · injection h with _ _ h3; omega
  have hf2 : w.frozen? ⟨g, 2, none⟩ = false := H.at_.free 2 _ rfl
  have k2 : (m : Int) < (m : Int) + 1 := by omega
  have e0 : ((m : Int) + 1 == 0) = false := by rw [beq_eq_false_iff_ne]; omega
  obtain ⟨X, hX⟩ : ∃ X, Mk.bts nm = X := ⟨_, rfl⟩
  obtain ⟨Y, hY⟩ : ∃ X, Mk.bts t.name = X := ⟨_, rfl⟩
  by_cases hne : nm = t.name
  · have HE : Hid (R = .inr ⟨st.toks ++ [⟨2, t.name, [], [], p⟩], st.opened.dropLast, st.rooted⟩) := by show _ = _; rw [← HR.out]; exact Mk.fin_yes (by rw [hnm, hne])
    have hXY : X = Y := by rw [← hX, ← hY, hne]
    subst hXY
    have hs := Mk.str_eq X
    rw [hX] at hcu hca
    rw [hY] at hca HW HB hb0 ⊢
    have HY := Lib.hid hY
    clear hX hY hn hL ho0 H HTk HOp hm HR hnm hne hu hat
    go_enter Tryd.func62, Tryd.ntmps62
    go_wp2
    go_quiet (fail)
    go_wp2
    obtain ⟨W, hW⟩ : ∃ W, ((w.alloc (.cells #[.string X, av, .bool b1, .bool b2] 95)).drewN nq).setCell ⟨g, 2, none⟩ (.slice (some ad) m oc) = W := ⟨_, rfl⟩
    have HW2 : Hid (Mk.Wk W g s ⟨st.toks, st.opened.dropLast, st.rooted⟩ (.slice tA L tc) (.slice (some ad) m oc) avs []) := by rw [← hW]; exact (HW.out.drewN nq).pop HN.out
    have HB2 : Hid (At W w.heap.size [.string X, av, .bool b1, .bool b2]) := by rw [← hW]; exact (HB.out.drew ⟨nq, rfl⟩).set_other _ _ (Nat.ne_of_lt hg)
    have HK : Hid (Mk.Kp (fun k => Mk.Sg g (.slice tA L tc) (.slice (some ad) (m + 1) oc) k ∨ False) w W) := by rw [← hW]; exact ((Mk.kp_box _ _).drewN _).set (fun _ => .inl (.inl rfl)) _
    rw [hW]
    clear hW hb0 hca hcu HB HW
    obtain ⟨i0, i1, i2, i3, i4⟩ := info_parts Mk.tok_info
    have HI := Lib.hid (And.intro i1 (And.intro i2 (And.intro i3 i4)))
    clear i1 i2 i3 i4
    have c1 := HW2.out.at_.cell 1 _ rfl
    have d0 := HB2.out.cell 0 _ rfl
    have zW := HW2.out.at_.lt
    have HW3 := Lib.hid (((HW2.out.add0 40 2).alloc (.cells #[.int .u8 2, .string X, .slice none 0 0, .string ⟨#[]⟩, .int .i64 (p : Int)] 38)).drewN 1)
    have HO : Hid (((W.alloc (.cells #[.int .u8 2, .string X, .slice none 0 0, .string ⟨#[]⟩, .int .i64 (p : Int)] 38)).drewN 1).ownsRow (g + 1) 38 5 (.slice tA L tc) L (Mk.tkCells st.toks avs)) := by
      have h := HW3.out.tk
      rw [HLL.out] at h
      exact h
    have HNw := Lib.hid (Mk.tok_new W (.int .u8 2) (.string X) (.slice none 0 0) (.string ⟨#[]⟩) (.int .i64 (p : Int)))
    have HEnd : Hid (∀ (g9 cp9 : Nat) (w9 : World), w9.ownsRow (g + 1) 38 5 (.slice (some ⟨g9, 0, none⟩) (L + 1) cp9) (L + 1) (Mk.tkCells st.toks avs ++ [.int .u8 2, .string X, .slice none 0 0, .string ⟨#[]⟩, .int .i64 (p : Int)]) → ((W.alloc (.cells #[.int .u8 2, .string X, .slice none 0 0, .string ⟨#[]⟩, .int .i64 (p : Int)] 38)).drewN 1).grownBy w9 (Value.slice tA L tc).ownBlock →
        ((Value.slice tA L tc).ownBlock = some g9 ∨ g9 = ((W.alloc (.cells #[.int .u8 2, .string X, .slice none 0 0, .string ⟨#[]⟩, .int .i64 (p : Int)] 38)).drewN 1).heap.size) →
        Mk.WRet w g s (.slice tA L tc) (.slice (some ad) (m + 1) oc) (fun _ => False) R (.returned (.int .i64 0)) (w9.setCell ⟨g, 1, none⟩ (.slice (some ⟨g9, 0, none⟩) (L + 1) cp9))) := by
      intro g9 cp9 w9 hown hg9 hat9
      rw [← HY.out] at hown
      obtain ⟨h1, h2, h3⟩ := Mk.push_end (t := ⟨2, t.name, [], [], p⟩) ((HK.out.alloc _).drewN 1) HW3.out HLL.out hown hg9 hat9
      exact ⟨h1, by rw [HE.out]; exact ⟨rfl, _, _, _, h2, h3, .inl rfl⟩⟩
    go_region_law (refine step_append_lies _ (by rfl) (.tmp 42) (.tmp 47) 30 (by rfl) (g + 1) 38 i0 _ 5 72 Tryd.underlying30 HI.out.1 HI.out.2.1 HI.out.2.2.1 HI.out.2.2.2 (by rfl) (by decide) _ L _ (by rfl) HO.out _ 1 1 _ (by rfl) (by rfl) HNw.out (by simp [Value.oneCell']) (by decide) (by unfold maxLen; omega) (by omega) (by simp; omega) _ rfl ?_; intro g9 cp9 w9 hown9 hg9 hat9 hlt9; have h9 := Mk.At.grownO HW3.out.at_ hg9 (fun e => by have := (HO.out.lt _ e).1; omega); have c9 : w9.cell? ⟨g, 1, none⟩ = some (.slice tA L tc) := h9.cell 1 _ rfl; have f9 : w9.frozen? ⟨g, 1, none⟩ = false := h9.free 1 _ rfl; have z9 := h9.lt)
    all_goals (have HF := Lib.hid hown9; have HG := Lib.hid hg9; have HT9 := Lib.hid hat9; clear hown9 hg9 hat9 h9)
    all_goals go_wp2
    all_goals refine bodyPost_ret (v := .int .i64 0) (by simp [results, Tryd.results62, go_sem, *]) rfl (HEnd.out g9 cp9 w9 HF.out HG.out HT9.out)
  · have HE : Hid (R = .inl 12) := by show _ = _; rw [← HR.out]; exact Mk.fin_other hnm hne
    have hs := Mk.str_ne hne
    rw [hX, hY] at hs
    rw [hX] at hcu hca
    rw [hY] at hca HW HB hb0 ⊢
    clear hX hn hL ho0 H HTk HOp hm HR hnm hne hu hat
    go_enter Tryd.func62, Tryd.ntmps62
    go_wp2
    go_quiet (fail)
    go_wp2
    refine bodyPost_ret (v := .int .i64 12) (by simp [results, Tryd.results62, go_sem, *]) rfl ⟨?_, by rw [HE.out]; rfl⟩
    first | exact (Mk.kp_box _ _).drewN _ | exact Mk.kp_box _ _
end Go.Proofs.YtjbgmbhifnihaaaDoor
