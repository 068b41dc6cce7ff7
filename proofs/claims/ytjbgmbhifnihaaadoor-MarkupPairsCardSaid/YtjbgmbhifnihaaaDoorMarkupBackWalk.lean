/- markup: the law MarkupBack, walked. -/
import Derived.Test.YtjbgmbhifnihaaaDoorMkLives
import Derived.Shelf.Strings.BuilderK
namespace Go.Proofs.YtjbgmbhifnihaaaDoor
open Go.RowKit

namespace Mk
theorem add_bts (a b : Txt) (h : a.length + b.length ≤ 9000000000000000000) (W : World) : (Op.stringOp .add (bts a) (bts b)).run Tryd.prog W = .ok (.string (bts (a ++ b))) W := by
  have e : bts (a ++ b) = bts a ++ bts b := by
    apply ByteArray.ext
    unfold bts
    rw [ByteArray.data_append]
    simp
  rw [e]
  exact run_string_add_sum W _ _ (by rw [bts_size, bts_size]; omega)
theorem addr_zero (a : Addr) : a.add 0 = a := by unfold Addr.add; rw [if_pos rfl]
end Mk
set_option maxHeartbeats 4000000 in
set_option maxRecDepth 100000 in
theorem markupBack_any (s : ByteArray) (w : World) (hW : Wl w) (hs : s.size ≤ maxLen) :
    Calls Tryd.prog 3 #[.string s] w fun e w' => e = .returned (.bool true) ∧ Below w.heap.size w w' := by
  unfold maxLen at hs
  have HLv := Lib.hid (lives31_any w hW)
  have HW := Lib.hid hW
  have hmax : IntKind.i64.wrap (s.size : Int) = s.size := by rw [IntKind.wrap_i64]; omega
  clear hW
  by_cases hl : 4096 < s.size
  · have q1 : (4096 : Int) < (s.size : Int) := by omega
    clear hl
    go_enter Tryd.func3, Tryd.ntmps3
    go_wp2_with fail
    refine HLv.out.mono ?_
    rintro e w1 ⟨rfl, hb⟩
    have HB1 := Lib.hid hb
    clear hb
    go_wp2
    go_ret
    exact ⟨rfl, HB1.out⟩
  have q1 : ¬ (4096 : Int) < (s.size : Int) := by omega
  have HEs := Lib.hid (fun W => escape_any s (by omega) W)
  have HUt := Lib.hid (fun W => utfPlace_any s (by unfold maxLen; omega) W)
  have HSl : Hid (s.size ≤ 4096) := by show _ ≤ _; omega
  clear hl
  go_enter Tryd.func3, Tryd.ntmps3
  go_wp2_with fail
  refine HLv.out.mono ?_
  rintro e w1 ⟨rfl, hb⟩
  have HB1 := Lib.hid hb
  clear hb
  go_wp2_with fail
  refine (HEs.out _).mono ?_
  rintro e w2 ⟨⟨E, v, rfl, hE⟩, hb⟩
  have HB2 := Lib.hid (below_then HB1.out hb)
  clear hb
  go_wp2_with fail
  refine (HUt.out _).mono ?_
  rintro e w3 ⟨⟨i, hi, rfl⟩, hb⟩
  have HB3 := Lib.hid (below_then HB2.out hb)
  clear hb
  rcases hE with ⟨rfl, hE, hright, hlow⟩ | ⟨rfl, rfl, _⟩
  · rw [hright, if_pos rfl]
    have hfine : Mk.Rt (tl s) := (Mk.rt_iff s).1 hright
    obtain ⟨n, hn⟩ : ∃ n, s.size = n := ⟨_, rfl⟩
    obtain ⟨l, hl⟩ : ∃ l, tl s = l := ⟨_, rfl⟩
    have hll : l.length = n := by rw [← hl, tl_length, hn]
    have hn4 := HSl.out
    rw [hn] at hn4
    rw [hl] at hE hlow hfine
    have hel := Mk.esc_len l
    have hsb : s = Mk.bts l := by rw [← hl]; rfl
    obtain ⟨x, hx⟩ : ∃ x, Mk.esc l = x := ⟨_, rfl⟩
    have HRs : Hid (∀ W, Calls Tryd.prog 10 #[.string E] W fun e w' => e = .returned (.tuple #[.string s, .int .i64 0, .int .i64 0]) ∧ Below W.heap.size W w') := fun W => by
      have h := resolve_any E (by rw [hE, Mk.bts_size]; omega) W
      rw [hE, Mk.tl_bts, Mk.resolve_esc, ← hE, ← hsb] at h
      exact h
    have hwr := Mk.rt_wrap hfine
    have hlw := Mk.low_wrap hlow
    have htk := Mk.tokens_wrap l
    rw [hx] at hE hel hwr hlw htk
    obtain ⟨X1, hX1⟩ : ∃ y, Mk.bts ([60, 97, 32, 98, 61, 34] ++ x) = y := ⟨_, rfl⟩
    obtain ⟨X2, hX2⟩ : ∃ y, Mk.bts ([60, 97, 32, 98, 61, 34] ++ x ++ [34, 62]) = y := ⟨_, rfl⟩
    obtain ⟨X3, hX3⟩ : ∃ y, Mk.bts ([60, 97, 32, 98, 61, 34] ++ x ++ [34, 62] ++ x) = y := ⟨_, rfl⟩
    obtain ⟨X4, hX4⟩ : ∃ y, Mk.bts (Mk.wrap x) = y := ⟨_, rfl⟩
    have hxl : x.length ≤ 30000 := by omega
    have sm1 : ∀ W, (Op.stringOp .add ⟨#[60, 97, 32, 98, 61, 34]⟩ E).run Tryd.prog W = .ok (.string X1) W := fun W => by rw [← hX1, hE]; exact Mk.add_bts [60, 97, 32, 98, 61, 34] x (by simp only [List.length_cons, List.length_nil]; omega) W
    have sm2 : ∀ W, (Op.stringOp .add X1 ⟨#[34, 62]⟩).run Tryd.prog W = .ok (.string X2) W := fun W => by rw [← hX1, ← hX2]; exact Mk.add_bts _ [34, 62] (by simp only [List.length_append, List.length_cons, List.length_nil]; omega) W
    have sm3 : ∀ W, (Op.stringOp .add X2 E).run Tryd.prog W = .ok (.string X3) W := fun W => by rw [← hX2, ← hX3, hE]; exact Mk.add_bts _ x (by simp only [List.length_append, List.length_cons, List.length_nil]; omega) W
    have sm4 : ∀ W, (Op.stringOp .add X3 ⟨#[60, 47, 97, 62]⟩).run Tryd.prog W = .ok (.string X4) W := fun W => by rw [← hX3, ← hX4]; exact Mk.add_bts _ [60, 47, 97, 62] (by simp only [List.length_append, List.length_cons, List.length_nil]; omega) W
    have htl4 : tl X4 = Mk.wrap x := by rw [← hX4]; rfl
    have h4s : X4.size ≤ 1048576 := by
      rw [← tl_length, htl4]
      unfold Mk.wrap
      simp only [List.length_append, List.length_cons, List.length_nil]
      omega
    have hf4 : Mk.Fine X4 := ⟨h4s, (Mk.rt_iff X4).2 (by rw [htl4]; exact hwr), by rw [htl4]; exact hlw⟩
    have HT := Lib.hid (fun W hw => Mk.tok_ok X4 _ hf4 (by rw [htl4]; exact htk) W hw)
    have hss : (s.toList == s.toList) = true := beq_self_eq_true _
    clear hE hright hlow hfine hwr hlw htk hX1 hX2 hX3 hX4 htl4 h4s hf4 hi
    by_cases h0 : l = []
    · have e0 : s.toList.isEmpty = true := Mk.emp_yes (by rw [hn, ← hll, h0]; rfl)
      rw [h0, if_pos rfl] at HT
      have HT2 : Hid (∀ W, Wl W → Calls Tryd.prog 11 #[.string X4] W fun e w' => (∃ A c avs, e = .returned (.tuple #[.slice A 2 c, .agg #[.int .i64 0, .int .i64 0, .int .i64 0]]) ∧ Mk.Parts w' A c [⟨1, [97], [([98], [])], [], 0⟩, ⟨2, [97], [], [], 8 + 2 * x.length⟩] avs) ∧ Below W.heap.size W w') := fun W hw => by
        have h := HT.out W hw
        exact h
      have hsb2 : s = ⟨#[]⟩ := by rw [hsb, h0]; rfl
      clear HT hll hl hel hx hxl h0 hn hn4 hsb
      go_wp2_with fail
      refine (HRs.out _).mono ?_
      rintro e w4 ⟨rfl, hb⟩
      have HB4 := Lib.hid (below_then HB3.out hb)
      clear hb
      go_wp2_with fail
      refine (HT2.out _ (HW.out.below HB4.out)).mono ?_
      rintro e w5 ⟨⟨A, c, avs, rfl, hp⟩, hb⟩
      have HB5 := Lib.hid (below_then HB4.out hb)
      clear hb
      obtain ⟨ad, t, B, d, rfl, hab, ht, hd1, hd2, hra, _, _, k2, _, _⟩ := hp.cells (show 0 < 2 by decide)
      cases ht
      obtain ⟨bd, a, rfl, hbb, ha, _, u1⟩ := Mk.attr_cells hra rfl (show 0 < 1 by decide)
      cases ha
      simp only [Nat.zero_mul, Mk.addr_zero] at k2 u1
      have k2' : w5.cell? ⟨ad.block, ad.off + 2, none⟩ = some (.slice (some bd) 1 d) := k2
      have u1' : w5.cell? ⟨bd.block, bd.off + 1, none⟩ = some (.string ⟨#[]⟩) := u1
      have HBf := Lib.hid (HB5.out.alloc HB5.out.size (.cells #[.int .i64 0, .int .i64 0, .int .i64 0] 32))
      clear k2 u1 hp hra
      go_wp2
      go_ret
      exact ⟨rfl, HBf.out⟩
    · have e0 : s.toList.isEmpty = false := Mk.emp_no (by rw [hn, ← hll]; exact List.length_pos_iff.2 h0)
      rw [if_neg h0] at HT
      obtain ⟨q, hq⟩ : ∃ q, 8 + x.length = q := ⟨_, rfl⟩
      have HT2 : Hid (∀ W, Wl W → Calls Tryd.prog 11 #[.string X4] W fun e w' => (∃ A c avs, e = .returned (.tuple #[.slice A 3 c, .agg #[.int .i64 0, .int .i64 0, .int .i64 0]]) ∧ Mk.Parts w' A c [⟨1, [97], [([98], l)], [], 0⟩, ⟨3, [], [], l, q⟩, ⟨2, [97], [], [], 8 + 2 * x.length⟩] avs) ∧ Below W.heap.size W w') := fun W hw => by
        have h := HT.out W hw
        rw [hq] at h
        exact h
      have HSB := Lib.hid hsb
      clear HT hll hl hel hx hxl h0 hn hn4 hsb hq
      go_wp2_with fail
      refine (HRs.out _).mono ?_
      rintro e w4 ⟨rfl, hb⟩
      have HB4 := Lib.hid (below_then HB3.out hb)
      clear hb
      go_wp2_with fail
      refine (HT2.out _ (HW.out.below HB4.out)).mono ?_
      rintro e w5 ⟨⟨A, c, avs, rfl, hp⟩, hb⟩
      have HB5 := Lib.hid (below_then HB4.out hb)
      clear hb
      obtain ⟨ad, t, B, d, rfl, hab, ht, hd1, hd2, hra, _, _, k2, _, _⟩ := hp.cells (show 0 < 3 by decide)
      cases ht
      obtain ⟨bd, a, rfl, hbb, ha, _, u1⟩ := Mk.attr_cells hra rfl (show 0 < 1 by decide)
      cases ha
      obtain ⟨ad', t', B', d', e', hab', ht', _, _, _, m0, _, _, m3, _⟩ := hp.cells (show 1 < 3 by decide)
      injection e' with e'
      subst e'
      cases ht'
      simp only [Nat.zero_mul, Nat.one_mul, Mk.addr_zero] at k2 u1 m0 m3
      have k2' : w5.cell? ⟨ad.block, ad.off + 2, none⟩ = some (.slice (some bd) 1 d) := k2
      have u1' : w5.cell? ⟨bd.block, bd.off + 1, none⟩ = some (.string s) := by rw [HSB.out]; exact u1
      have m0' : w5.cell? ⟨ad.block, ad.off + 5, none⟩ = some (.int .u8 3) := m0
      have m3' : w5.cell? ⟨ad.block, ad.off + 5 + 3, none⟩ = some (.string s) := by rw [HSB.out]; exact m3
      have HBf := Lib.hid (HB5.out.alloc HB5.out.size (.cells #[.int .i64 0, .int .i64 0, .int .i64 0] 32))
      clear k2 u1 m0 m3 hp hra
      go_wp2
      go_ret
      exact ⟨rfl, HBf.out⟩
  · have HBf := Lib.hid HB3.out
    cases hrt : Te.right s with
    | false =>
      go_wp2
      go_ret
      exact ⟨rfl, HBf.out⟩
    | true =>
      go_wp2
      go_ret
      exact ⟨rfl, HBf.out⟩
end Go.Proofs.YtjbgmbhifnihaaaDoor
