/- markup: the law MarkupPairs, walked. -/
import Derived.Test.YtjbgmbhifnihaaaDoorMkLives
import Derived.Test.YtjbgmbhifnihaaaDoorMarkupBackWalk
namespace Go.Proofs.YtjbgmbhifnihaaaDoor
open Go.RowKit

namespace Mk
def badS (p : Option Nat) (op : List Txt) (x : T) : Bool :=
  match p with
  | some p => decide (x.at_ < p) || decide (op = [])
  | none => decide (x.kind ≠ 1)
def nxtS (op : List Txt) (x : T) : Option (List Txt) :=
  if x.kind = 1 then some (op ++ [x.name]) else if x.kind = 2 then (if op.getLast? = some x.name then some op.dropLast else none) else if x.kind = 3 then (if x.text = [] ∨ x.name ≠ [] then none else some op) else none
theorem step_eq (N : Nat) (p : Option Nat) (op : List Txt) (x : T) : step N (p, op) x = if N ≤ x.at_ then none else if badS p op x = true then none else
    match nxtS op x with
    | none => none
    | some o => if 32 < o.length ∨ 32 < x.attrs.length then none else some (some x.at_, o) := by
  cases p <;> rfl
theorem nxt_some {op o : List Txt} {x : T} (h : nxtS op x = some o) : (x.kind = 1 ∧ o = op ++ [x.name]) ∨ (x.kind = 2 ∧ op.getLast? = some x.name ∧ o = op.dropLast) ∨ (x.kind = 3 ∧ x.text ≠ [] ∧ x.name = [] ∧ o = op) := by
  unfold nxtS at h
  by_cases h1 : x.kind = 1
  · rw [if_pos h1] at h
    exact .inl ⟨h1, (Option.some.inj h).symm⟩
  rw [if_neg h1] at h
  by_cases h2 : x.kind = 2
  · rw [if_pos h2] at h
    by_cases h3 : op.getLast? = some x.name
    · rw [if_pos h3] at h
      exact .inr (.inl ⟨h2, h3, (Option.some.inj h).symm⟩)
    · rw [if_neg h3] at h; cases h
  rw [if_neg h2] at h
  by_cases h4 : x.kind = 3
  · rw [if_pos h4] at h
    by_cases h5 : x.text = [] ∨ x.name ≠ []
    · rw [if_pos h5] at h; cases h
    · rw [if_neg h5] at h
      refine .inr (.inr ⟨h4, fun e => h5 (.inl e), ?_, (Option.some.inj h).symm⟩)
      by_cases e : x.name = []
      · exact e
      · exact absurd (.inr e) h5
  · rw [if_neg h4] at h; cases h
theorem step_some {N : Nat} {p : Option Nat} {op : List Txt} {x : T} {s2 : Option Nat × List Txt} (h : step N (p, op) x = some s2) :
    x.at_ < N ∧ (∀ p0, p = some p0 → p0 ≤ x.at_ ∧ op ≠ []) ∧ (p = none → x.kind = 1) ∧ x.attrs.length ≤ 32 ∧ s2.2.length ≤ 32 ∧ s2.1 = some x.at_ ∧
    ((x.kind = 1 ∧ s2.2 = op ++ [x.name]) ∨ (x.kind = 2 ∧ op.getLast? = some x.name ∧ s2.2 = op.dropLast) ∨ (x.kind = 3 ∧ x.text ≠ [] ∧ x.name = [] ∧ s2.2 = op)) := by
  rw [step_eq] at h
  by_cases h1 : N ≤ x.at_
  · rw [if_pos h1] at h; cases h
  rw [if_neg h1] at h
  by_cases h2 : badS p op x = true
  · rw [if_pos h2] at h; cases h
  rw [if_neg h2] at h
  cases h3 : nxtS op x with
  | none => rw [h3] at h; cases h
  | some o =>
    rw [h3] at h
    have h' : (if 32 < o.length ∨ 32 < x.attrs.length then none else some (some x.at_, o)) = some s2 := h
    by_cases h4 : 32 < o.length ∨ 32 < x.attrs.length
    · rw [if_pos h4] at h'; cases h'
    rw [if_neg h4] at h'
    obtain rfl := Option.some.inj h'
    refine ⟨by omega, ?_, ?_, by omega, by show o.length ≤ 32; omega, rfl, nxt_some h3⟩
    · rintro p0 rfl
      unfold badS at h2
      simp only [Bool.or_eq_true, decide_eq_true_eq] at h2
      exact ⟨by omega, fun e => h2 (.inr e)⟩
    · rintro rfl
      unfold badS at h2
      simp only [decide_eq_true_eq] at h2
      exact Decidable.not_not.1 h2
theorem chk_cons {N : Nat} {x : T} {l : List T} {s r : Option Nat × List Txt} (h : chk N (x :: l) s = some r) : ∃ s2, step N s x = some s2 ∧ chk N l s2 = some r := by
  unfold chk at h ⊢
  rw [List.foldlM_cons] at h
  cases e : step N s x with
  | none => rw [e] at h; cases h
  | some s2 => rw [e] at h; exact ⟨s2, rfl, h⟩
theorem chk_two {N : Nat} {l : List T} {p : Option Nat} (h : chk N l (none, []) = some (p, [])) (hl : l ≠ []) : 2 ≤ l.length := by
  match l, hl with
  | [], hl => exact absurd rfl hl
  | [x], _ =>
    exfalso
    obtain ⟨s2, h1, h2⟩ := chk_cons h
    obtain ⟨_, _, h3, _, _, _, h4⟩ := step_some h1
    have hk := h3 rfl
    have h5 : s2 = (p, []) := Option.some.inj h2
    rcases h4 with ⟨_, h4⟩ | ⟨hk2, _⟩ | ⟨hk2, _⟩
    · rw [h5] at h4
      cases h4
    · omega
    · omega
  | _ :: _ :: _, _ => simp
theorem one_new0 (W : World) (a : Value) : ∀ j u, [a][j]? = some u → (W.alloc (.cells #[a] 9)).cell? ((⟨W.heap.size, 0, none⟩ : Addr).add j) = some u :=
  World.news_of_block (cs := #[a]) (fr := (0, 0)) (heap_alloc_new W _)
theorem opCells_snoc (l : List Txt) (t : Txt) : opCells (l ++ [t]) = opCells l ++ [.string (bts t)] := by unfold opCells; rw [List.map_append]; rfl
theorem own_pop {w : World} {base n c : Nat} {A : Option Addr} {op : List Txt} (h : w.ownsRow base 9 1 (.slice A (n + 1) c) (n + 1) (opCells op)) (hn : op.length = n + 1) : w.ownsRow base 9 1 (.slice A n c) n (opCells op.dropLast) := by
  obtain ⟨gb, cap, e, _, _⟩ := h.form (Nat.succ_pos n)
  injection e with e _ e2
  subst e e2
  have hne : op ≠ [] := fun e => by rw [e] at hn; cases hn
  have hsp : opCells op = opCells op.dropLast ++ opCells [op.getLast hne] := by
    unfold opCells
    rw [← List.map_append, List.dropLast_concat_getLast]
  have hdl : op.dropLast.length = n := by rw [List.length_dropLast, hn]; rfl
  rw [hsp] at h
  exact ownsRow_pop (by unfold opCells; rw [List.length_map, hdl, Nat.mul_one]) h
/-- What Tokens answers, in two cases. -/
theorem tok_cases (s : ByteArray) (hs : s.size ≤ maxLen) (w : World) (hW : Wl w) :
    Calls Tryd.prog 11 #[.string s] w fun e w' => ((∃ c y : Nat, e = .returned (.tuple #[.slice none 0 0, .agg #[.int .i64 0, .int .i64 (c : Int), .int .i64 (y : Int)]]) ∧ y ≠ 0 ∧ c ≤ s.size) ∨
      (Fine s ∧ ∃ st A c avs, tokens (tl s) = .inr st ∧ e = .returned (.tuple #[.slice A st.toks.length c, .agg #[.int .i64 0, .int .i64 0, .int .i64 0]]) ∧ Parts w' A c st.toks avs)) ∧ Below w.heap.size w w' := by
  refine (tokens_any s hs w hW).mono ?_
  rintro e w' ⟨hb, h1, h2⟩
  refine ⟨?_, hb⟩
  by_cases hf : Fine s
  · have h := h1 hf
    cases ht : tokens (tl s) with
    | inl x =>
      rw [ht] at h
      have hw := tokens_why ht
      exact .inl ⟨x.1, x.2, h, hw.1, by rw [← tl_length]; exact hw.2⟩
    | inr st =>
      rw [ht] at h
      obtain ⟨A, c, avs, h3, h4⟩ := h
      exact .inr ⟨hf, st, A, c, avs, rfl, h3, h4⟩
  · exact .inl (h2 hf)
end Mk
set_option maxHeartbeats 4000000 in
set_option maxRecDepth 100000 in
theorem markupPairs_any (s : ByteArray) (w : World) (hW : Wl w) (hs : s.size ≤ maxLen) :
    Calls Tryd.prog 4 #[.string s] w fun e w' => e = .returned (.bool true) ∧ Below w.heap.size w w' := by
  have hs' := hs
  unfold maxLen at hs
  have HLv := Lib.hid (lives31_any w hW)
  have HW := Lib.hid hW
  have hmax : IntKind.i64.wrap (s.size : Int) = s.size := by rw [IntKind.wrap_i64]; omega
  clear hW
  by_cases hl : 8192 < s.size
  · have q1 : (8192 : Int) < (s.size : Int) := by omega
    clear hl
    go_enter Tryd.func4, Tryd.ntmps4
    go_wp2_with fail
    refine HLv.out.mono ?_
    rintro e w1 ⟨rfl, hb⟩
    have HB1 := Lib.hid hb
    clear hb
    go_wp2
    go_ret
    exact ⟨rfl, HB1.out⟩
  have q1 : ¬ (8192 : Int) < (s.size : Int) := by omega
  have HTc := Lib.hid (fun W hw => Mk.tok_cases s hs' W hw)
  have HSl : Hid (s.size ≤ 8192) := by show _ ≤ _; omega
  clear hl hs'
  go_enter Tryd.func4, Tryd.ntmps4
  go_wp2_with fail
  refine HLv.out.mono ?_
  rintro e w1 ⟨rfl, hb⟩
  have HB1 := Lib.hid hb
  clear hb
  go_wp2_with fail
  refine (HTc.out _ (HW.out.below HB1.out)).mono ?_
  rintro e w2 ⟨hcase, hb⟩
  have HB2 := Lib.hid (below_then HB1.out hb)
  clear hb
  rcases hcase with ⟨c, y, rfl, hy, hc⟩ | ⟨hf, st, A, c, avs, htk, rfl, hp⟩
  · have hE := Mk.flt_some (c : Int) (y : Int) (by simpa using hy)
    have HBf := Lib.hid (HB2.out.alloc HB2.out.size (.cells #[.int .i64 0, .int .i64 (c : Int), .int .i64 (y : Int)] 32))
    have r1 : (0 : Int) ≤ (c : Int) := by omega
    have r2 : (c : Int) ≤ (s.size : Int) := by omega
    have r3 : ((y : Int) == 0) = false := by rw [beq_eq_false_iff_ne]; omega
    have r4 : ¬ (y : Int) = 0 := by omega
    have r5 : ((y : Int) != 0) = true := by rw [bne, r3]; rfl
    clear hy hc
    go_wp2
    go_ret
    exact ⟨rfl, HBf.out⟩
  · obtain ⟨n, hn⟩ : ∃ n, s.size = n := ⟨_, rfl⟩
    have hn8 := HSl.out
    rw [hn] at hn8
    obtain ⟨X, hX⟩ : ∃ y, Mk.bts (tl s ++ Mk.tailC) = y := ⟨_, rfl⟩
    have htX : tl X = tl s ++ Mk.tailC := by rw [← hX]; rfl
    have sm1 : ∀ W, (Op.stringOp .add s ⟨#[60, 33, 45, 45, 32, 120, 32, 45, 45, 62, 10]⟩).run Tryd.prog W = .ok (.string X) W := fun W => by
      rw [← hX]
      exact Mk.add_bts (tl s) Mk.tailC (by rw [tl_length, hn, show Mk.tailC.length = 11 from rfl]; omega) W
    have hfX : Mk.Fine X := by
      refine ⟨by rw [← tl_length, htX, List.length_append, tl_length, hn, show Mk.tailC.length = 11 from rfl]; omega, (Mk.rt_iff X).2 (by rw [htX]; exact Mk.Rt.app ((Mk.rt_iff s).1 hf.2.1) (Mk.rt_ascii _ (by decide))), ?_⟩
      rw [htX]
      intro b hb
      rcases List.mem_append.1 hb with hb | hb
      · exact hf.2.2 b hb
      · exact (show ∀ b ∈ Mk.tailC, Mk.low b = false by decide) b hb
    have HT2 := Lib.hid (fun W hw => Mk.tok_ok X st hfX (by rw [htX]; exact Mk.tokens_tail htk) W hw)
    obtain ⟨hchk, hne⟩ := Mk.tokens_right htk
    rw [tl_length, hn] at hchk
    have htwo := Mk.chk_two hchk hne
    have hE := Mk.flt_zero
    obtain ⟨l, hl⟩ : ∃ l, st.toks = l := ⟨_, rfl⟩
    obtain ⟨m, hm⟩ : ∃ m, l.length = m := ⟨_, rfl⟩
    rw [hl] at hchk hp HT2 htwo ⊢
    rw [hm] at htwo ⊢
    have hcap := hp.cap
    rw [hm] at hcap
    have HP := Lib.hid (hp.call (Mk.below_new w2 (.cells #[.int .i64 0, .int .i64 0, .int .i64 0] 32)))
    have HBf := Lib.hid (HB2.out.alloc HB2.out.size (.cells #[.int .i64 0, .int .i64 0, .int .i64 0] 32))
    have HM := Lib.hid hm
    have hm63 : m ≤ 9223372036854775807 := by have h1 := hcap.1; have h2 := hcap.2; unfold maxLen at h2; omega
    have HCk := Lib.hid hchk
    have HNs := Lib.hid hn
    clear hn hf htk hp hX htX hfX hchk hne hl hm
    go_wp2_with fail
    refine (HT2.out _ (HW.out.below HBf.out)).mono ?_
    rintro e w3 ⟨⟨A', c', avs', rfl, hp'⟩, hb⟩
    have HP3 := Lib.hid (HP.out.call hb)
    have HB3 := Lib.hid (below_then HBf.out hb)
    clear hb
    have HS := Lib.hid (same_any A A' m m c c' l l avs avs' (w3.alloc (.cells #[.int .i64 0, .int .i64 0, .int .i64 0] 32)) HM.out HM.out (HP3.out.call (Mk.below_new _ _)) (hp'.call (Mk.below_new _ _)))
    have HBg := Lib.hid (HB3.out.alloc HB3.out.size (.cells #[.int .i64 0, .int .i64 0, .int .i64 0] 32))
    have HP4 := Lib.hid (HP3.out.call (Mk.below_new w3 (.cells #[.int .i64 0, .int .i64 0, .int .i64 0] 32)))
    rw [HM.out]
    clear hp'
    go_wp2_with fail
    refine HS.out.mono ?_
    rintro e w4 ⟨⟨bb, rfl, hbb⟩, hb⟩
    obtain rfl : bb = true := by simpa using hbb
    have HP5 := Lib.hid (HP4.out.call hb)
    have HB5 := Lib.hid (below_then HBg.out hb)
    clear hb hbb
    go_wp2_with fail
    go_loopw [7, 65] (fun v i wr => ∃ (k : Nat) (op : List Mk.Txt), k ≤ m ∧ i = .int .i64 (k : Int) ∧ Hid (Mk.chk n (l.drop k) (Mk.lastAt (l.take k), op) = some (Mk.lastAt l, [])) ∧ Hid (wr.ownsRow w4.heap.size 9 1 v op.length (Mk.opCells op)) ∧ Hid (Below w4.heap.size w4 wr)) (fun _ i _ => m - (intOf i).toNat)
    case atStart => exact ⟨0, [], Nat.zero_le _, rfl, HCk.out, World.ownsRow_nil _ _ _ _, Below.refl _ _⟩
    case round =>
      obtain ⟨k, op, hk, rfl, HC, HO, HB⟩ := hrel
      obtain ⟨wq, rfl⟩ : ∃ x, x = wr := ⟨_, rfl⟩
      obtain ⟨oA, oc, rfl, _⟩ := own_slice HO.out
      have hPq := (HP5.out.call HB.out)
      by_cases hlt : k < m
      · obtain ⟨ad, x, B, d1, rfl, hab, hx, hd1, hd1', _, x0, x1, x2, x3, x4⟩ := hPq.cells (show k < l.length by rw [HM.out]; exact hlt)
        have hdr : l.drop k = x :: l.drop (k + 1) := by
          obtain ⟨h1, h2⟩ := List.getElem?_eq_some_iff.1 hx
          rw [List.drop_eq_getElem_cons h1, h2]
        have hch := HC.out
        rw [hdr] at hch
        obtain ⟨s2, hst, hrest⟩ := Mk.chk_cons hch
        obtain ⟨t1, t2, t3, t4, t5, t6, t7⟩ := Mk.step_some hst
        have hlast : Mk.lastAt (l.take (k + 1)) = some x.at_ := by rw [List.take_add_one, hx]; exact Mk.lastAt_snoc _ _
        have hs2 : s2 = (Mk.lastAt (l.take (k + 1)), s2.2) := by rw [hlast, ← t6]
        rw [hs2] at hrest
        have hkb : (ad.add (k * 5)).block < wq.heap.size := by rw [block_of_add]; exact hab
        have r1 : (0 : Int) ≤ (k : Int) := by omega
        have r2 : (k : Int) < (m : Int) := by omega
        obtain ⟨no, hno⟩ : ∃ q, op.length = q := ⟨_, rfl⟩
        have hon : op = [] ↔ no = 0 := by rw [← hno, List.length_eq_zero_iff]
        rw [hno] at HO ⊢
        obtain ⟨s0, s1, s3, s4, s5⟩ := info_parts Mk.text_info
        have HIs := Lib.hid (And.intro s1 (And.intro s3 (And.intro s4 s5)))
        have hno32 : no ≤ 40 := by
          rcases t7 with ⟨_, h⟩ | ⟨_, _, h⟩ | ⟨_, _, _, h⟩
          · rw [h, List.length_append, List.length_singleton] at t5; omega
          · rw [h, List.length_dropLast] at t5; omega
          · rw [h] at t5; omega
        have HNo := Lib.hid hno
        obtain ⟨kd, nm, ats, tx, pt⟩ := x
        simp only at x0 x1 x2 x3 x4 t1 t2 t3 t4 t7 hd1
        obtain ⟨Nm, hNm⟩ : ∃ q, Mk.bts nm = q := ⟨_, rfl⟩
        obtain ⟨Tx, hTx⟩ : ∃ q, Mk.bts tx = q := ⟨_, rfl⟩
        obtain ⟨d, hd⟩ : ∃ q, ats.length = q := ⟨_, rfl⟩
        rw [hNm] at x1
        rw [hTx] at x3
        rw [hd] at x2 t4
        have HRs := Lib.hid hrest
        have HNm := Lib.hid hNm
        have hn := HNs.out
        have r3 : (pt : Int) < (s.size : Int) := by omega
        have r4 : (0 : Int) ≤ (pt : Int) := by omega
        have r5 : ¬ (32 : Int) < (d : Int) := by omega
        have r6 : ¬ (s.size : Int) ≤ (pt : Int) := by omega
        have g1 : decide ((pt : Int) < 0) = false := by rw [decide_eq_false_iff_not]; omega
        have g5 : decide (s.size ≤ pt) = false := by rw [decide_eq_false_iff_not]; omega
        have g2 : decide ((s.size : Int) ≤ (pt : Int)) = false := by rw [decide_eq_false_iff_not]; omega
        clear hn s1 s3 s4 s5 hch hst hrest hs2 t6 hdr hlast
        rcases Nat.eq_zero_or_pos k with hk0 | hkp
        · subst hk0
          simp only [Nat.zero_mul, Mk.addr_zero] at x0 x1 x2 x3 x4
          have hkd : kd = 1 := t3 rfl
          subst hkd
          have h7 : s2.2 = op ++ [nm] := by
            rcases t7 with ⟨_, h⟩ | ⟨h, _⟩ | ⟨h, _⟩
            · exact h
            · cases h
            · cases h
          have hnn : no + 1 ≤ 32 := by rw [h7, List.length_append, hno] at t5; exact t5
          have r7 : ¬ (32 : Int) < (no : Int) + 1 := by omega
          have HS2 := Lib.hid h7
          clear t1 t2 t3 t4 t5 t7 hNm hTx hd h7 hno hon hx
          have HVA : Hid (At (wq.alloc (.cells #[.int .u8 1, .string Nm, .slice B d d1, .string Tx, .int .i64 (pt : Int)] 38)) wq.heap.size [.int .u8 1, .string Nm, .slice B d d1, .string Tx, .int .i64 (pt : Int)]) := At.new _ _ _
          have HOV := Lib.hid (HO.out.alloc (.cells #[.int .u8 1, .string Nm, .slice B d d1, .string Tx, .int .i64 (pt : Int)] 38))
          have HBV := Lib.hid (HB.out.alloc HB.out.size (.cells #[.int .u8 1, .string Nm, .slice B d d1, .string Tx, .int .i64 (pt : Int)] 38))
          go_wp2_with fail
          go_quiet (fail)
          obtain ⟨W, hW⟩ : ∃ W, (wq.alloc (.cells #[.int .u8 1, .string Nm, .slice B d d1, .string Tx, .int .i64 (pt : Int)] 38)).drewN nq = W := ⟨_, rfl⟩
          have HVW : Hid (At W wq.heap.size [.int .u8 1, .string Nm, .slice B d d1, .string Tx, .int .i64 (pt : Int)]) := by rw [← hW]; exact HVA.out.drew ⟨nq, rfl⟩
          have HOW : Hid (W.ownsRow w4.heap.size 9 1 (.slice oA no oc) no (Mk.opCells op)) := by rw [← hW]; exact HOV.out
          have HBW : Hid (Below w4.heap.size w4 W) := by rw [← hW]; exact below_drewN HBV.out nq
          rw [hW]
          clear hW HVA HOV HBV x0 x1 x2 x3 x4
          have xc0 := HVW.out.cell 0 _ rfl
          have xc1 := HVW.out.cell 1 _ rfl
          have xc2 := HVW.out.cell 2 _ rfl
          have xc3 := HVW.out.cell 3 _ rfl
          have xc4 := HVW.out.cell 4 _ rfl
          have zx := HVW.out.lt
          have HOa := Lib.hid (HOW.out.alloc (.cells #[.string Nm] 9))
          have HNw := Lib.hid (Mk.one_new0 W (.string Nm))
          have HVa := Lib.hid (HVW.out.allocO (.cells #[.string Nm] 9))
          have HEn : Hid (∀ (g9 cp9 : Nat) (w9 : World), (W.alloc (.cells #[.string Nm] 9)).grownBy w9 (Value.slice oA no oc).ownBlock → At w9 wq.heap.size [.int .u8 1, .string Nm, .slice B d d1, .string Tx, .int .i64 (pt : Int)] ∧ Below w4.heap.size w4 w9) := fun g9 cp9 w9 hg9 => by
            refine ⟨Mk.At.grownO HVa.out hg9 (fun e => by have := (HO.out.lt _ e).2; omega), ?_⟩
            exact (HBW.out.alloc HBW.out.size _).grown hg9 (HBW.out.alloc HBW.out.size (.cells #[.string Nm] 9)).size (fun j e => (HOW.out.lt _ e).1)
          go_wp2_with (first
            | (at_builtin; (refine wpList_append_lies _ rfl (.tmp 108) (.tmp 111) 43 rfl w4.heap.size 9 s0 _ 1 16 Tryd.underlying43 HIs.out.1 HIs.out.2.1 HIs.out.2.2.1 HIs.out.2.2.2 rfl (by decide) _ no _ rfl HOa.out _ 1 1 [.string Nm] rfl rfl HNw.out (by simp [Value.oneCell']) (by decide) (by unfold maxLen; omega) (by omega) (by rw [World.size_alloc]; have := HBW.out.size; omega) _ rfl ?_; intro g9 cp9 w9 hown9 hg9 _ _; obtain ⟨ha9, hb9⟩ := HEn.out g9 cp9 w9 hg9; have HF9 := Lib.hid hown9; have HA9 := Lib.hid ha9; have HB9 := Lib.hid hb9; clear hown9 hg9 ha9 hb9; have y0 := HA9.out.cell 0 _ rfl; have y2 := HA9.out.cell 2 _ rfl; have zy := HA9.out.lt)))
          go_roundw
          case rel => exact ⟨0 + 1, op ++ [nm], by omega, by go_num, by rw [← HS2.out]; exact HRs.out, by rw [List.length_append, HNo.out]; have h := HF9.out; rw [← HNm.out, ← Mk.opCells_snoc] at h; exact h, HB9.out⟩
          case measure => simp [intOf]; omega
        · obtain ⟨j, rfl⟩ : ∃ j, k = j + 1 := ⟨k - 1, by omega⟩
          obtain ⟨ad2, y, B2, d2, e2, _, hy, _, _, _, _, _, _, _, y4⟩ := hPq.cells (show j < l.length by rw [HM.out]; omega)
          injection e2 with e2
          subst e2
          have hla : Mk.lastAt (l.take (j + 1)) = some y.at_ := by rw [List.take_add_one, hy]; exact Mk.lastAt_snoc _ _
          obtain ⟨u1, u2⟩ := t2 y.at_ hla
          obtain ⟨pa, hpa⟩ : ∃ q, y.at_ = q := ⟨_, rfl⟩
          rw [hpa] at y4 u1
          have hno0 : no ≠ 0 := fun e => u2 (hon.2 e)
          have v1 : ¬ (pt : Int) < (pa : Int) := by omega
          have v2 : (0 : Int) < (j : Int) + 1 := by omega
          have v3 : IntKind.i64.wrap (j : Int) = (j : Int) := by rw [IntKind.wrap_i64]; have := hcap.1; have := hcap.2; unfold maxLen at this; omega
          have v4 : (0 : Int) ≤ (j : Int) := by omega
          have v5 : (j : Int) < (m : Int) := by omega
          have v6 : ((no : Int) == 0) = false := by rw [beq_eq_false_iff_ne]; omega
          have v7 : ((j : Int) + 1 == 0) = false := by rw [beq_eq_false_iff_ne]; omega
          have v8 : ¬ (no : Int) = 0 := by omega
          have g3 : decide ((0 : Int) < (j : Int) + 1) = true := by rw [decide_eq_true_iff]; omega
          have g4 : decide ((pt : Int) < (pa : Int)) = false := by rw [decide_eq_false_iff_not]; omega
          have g6 : decide (pt < pa) = false := by rw [decide_eq_false_iff_not]; omega
          have hpab : (ad.add (j * 5)).block < wq.heap.size := by rw [block_of_add]; exact hab
          clear t1 t2 t3 t4 hd u1 u2 hla hx hy hpa
          rcases t7 with ⟨hkd, h7⟩ | ⟨hkd, hgl, h7⟩ | ⟨hkd, htx, hnm0, h7⟩
          · subst hkd
            have hnn : no + 1 ≤ 32 := by rw [h7, List.length_append, hno] at t5; exact t5
            have r7 : ¬ (32 : Int) < (no : Int) + 1 := by omega
            have HS2 := Lib.hid h7
            clear t5 hNm hTx h7 hno hon
            have HVA : Hid (At (wq.alloc (.cells #[.int .u8 1, .string Nm, .slice B d d1, .string Tx, .int .i64 (pt : Int)] 38)) wq.heap.size [.int .u8 1, .string Nm, .slice B d d1, .string Tx, .int .i64 (pt : Int)]) := At.new _ _ _
            have HOV := Lib.hid (HO.out.alloc (.cells #[.int .u8 1, .string Nm, .slice B d d1, .string Tx, .int .i64 (pt : Int)] 38))
            have HBV := Lib.hid (HB.out.alloc HB.out.size (.cells #[.int .u8 1, .string Nm, .slice B d d1, .string Tx, .int .i64 (pt : Int)] 38))
            go_wp2_with fail
            go_quiet (fail)
            obtain ⟨W, hW⟩ : ∃ W, (wq.alloc (.cells #[.int .u8 1, .string Nm, .slice B d d1, .string Tx, .int .i64 (pt : Int)] 38)).drewN nq = W := ⟨_, rfl⟩
            have HVW : Hid (At W wq.heap.size [.int .u8 1, .string Nm, .slice B d d1, .string Tx, .int .i64 (pt : Int)]) := by rw [← hW]; exact HVA.out.drew ⟨nq, rfl⟩
            have HOW : Hid (W.ownsRow w4.heap.size 9 1 (.slice oA no oc) no (Mk.opCells op)) := by rw [← hW]; exact HOV.out
            have HBW : Hid (Below w4.heap.size w4 W) := by rw [← hW]; exact below_drewN HBV.out nq
            rw [hW]
            clear hW HVA HOV HBV x0 x1 x2 x3 x4
            have xc0 := HVW.out.cell 0 _ rfl
            have xc1 := HVW.out.cell 1 _ rfl
            have xc2 := HVW.out.cell 2 _ rfl
            have xc3 := HVW.out.cell 3 _ rfl
            have xc4 := HVW.out.cell 4 _ rfl
            have zx := HVW.out.lt
            have HOa := Lib.hid (HOW.out.alloc (.cells #[.string Nm] 9))
            have HNw := Lib.hid (Mk.one_new0 W (.string Nm))
            have HVa := Lib.hid (HVW.out.allocO (.cells #[.string Nm] 9))
            have HEn : Hid (∀ (g9 cp9 : Nat) (w9 : World), (W.alloc (.cells #[.string Nm] 9)).grownBy w9 (Value.slice oA no oc).ownBlock → At w9 wq.heap.size [.int .u8 1, .string Nm, .slice B d d1, .string Tx, .int .i64 (pt : Int)] ∧ Below w4.heap.size w4 w9) := fun g9 cp9 w9 hg9 => by
              refine ⟨Mk.At.grownO HVa.out hg9 (fun e => by have := (HO.out.lt _ e).2; omega), ?_⟩
              exact (HBW.out.alloc HBW.out.size _).grown hg9 (HBW.out.alloc HBW.out.size (.cells #[.string Nm] 9)).size (fun j e => (HOW.out.lt _ e).1)
            go_wp2_with (first
              | (at_builtin; (refine wpList_append_lies _ rfl (.tmp 108) (.tmp 111) 43 rfl w4.heap.size 9 s0 _ 1 16 Tryd.underlying43 HIs.out.1 HIs.out.2.1 HIs.out.2.2.1 HIs.out.2.2.2 rfl (by decide) _ no _ rfl HOa.out _ 1 1 [.string Nm] rfl rfl HNw.out (by simp [Value.oneCell']) (by decide) (by unfold maxLen; omega) (by omega) (by rw [World.size_alloc]; have := HBW.out.size; omega) _ rfl ?_; intro g9 cp9 w9 hown9 hg9 _ _; obtain ⟨ha9, hb9⟩ := HEn.out g9 cp9 w9 hg9; have HF9 := Lib.hid hown9; have HA9 := Lib.hid ha9; have HB9 := Lib.hid hb9; clear hown9 hg9 ha9 hb9; have y0 := HA9.out.cell 0 _ rfl; have y2 := HA9.out.cell 2 _ rfl; have zy := HA9.out.lt)))
            go_roundw
            case rel => exact ⟨(j + 1) + 1, op ++ [nm], by omega, by go_num, by rw [← HS2.out]; exact HRs.out, by rw [List.length_append, HNo.out]; have h := HF9.out; rw [← HNm.out, ← Mk.opCells_snoc] at h; exact h, HB9.out⟩
            case measure => simp [intOf]; omega
          · subst hkd
            obtain ⟨q, rfl⟩ : ∃ q, no = q + 1 := ⟨no - 1, by omega⟩
            have hat : op[q]? = some nm := by
              rw [List.getLast?_eq_getElem?, hno] at hgl
              exact hgl
            have w1' : ((q : Int) + 1 == 0) = false := by rw [beq_eq_false_iff_ne]; omega
            have w2' : IntKind.i64.wrap (q : Int) = (q : Int) := by rw [IntKind.wrap_i64]; omega
            have w3' : (0 : Int) ≤ (q : Int) := by omega
            have w4' : (q : Int) < (q : Int) + 1 := by omega
            have w5' : ¬ (32 : Int) < (q : Int) := by have h := t5; rw [h7, List.length_dropLast, hno] at h; omega
            have hmc : q ≤ oc := by
              rcases HO.out.2 with ⟨h, _⟩ | ⟨_, _, _, h, _, _, h2, _⟩
              · cases h
              · injection h with _ _ h3; omega
            have hstr := Mk.str_eq Nm
            obtain ⟨ao, uo, rfl, hao, huo, hco⟩ := (Reads.of_own HO.out).at_ (Nat.lt_succ_self q)
            have huo2 : uo = .string Nm := by
              unfold Mk.opCells at huo
              rw [List.getElem?_map, hat, Option.map_some, hNm] at huo
              exact (Option.some.inj huo).symm
            subst huo2
            have HCo : Hid (∀ W', Below wq.heap.size wq W' → W'.cell? (ao.add q) = some (.string Nm)) := fun W' hb => (hb.cell (p := ao.add q) (by rw [block_of_add]; exact hao)).trans hco
            have HS2 := Lib.hid h7
            clear t5 hNm hTx h7 hno hon hat hgl v6 v8 huo
            have HVA : Hid (At (wq.alloc (.cells #[.int .u8 2, .string Nm, .slice B d d1, .string Tx, .int .i64 (pt : Int)] 38)) wq.heap.size [.int .u8 2, .string Nm, .slice B d d1, .string Tx, .int .i64 (pt : Int)]) := At.new _ _ _
            have HOV := Lib.hid (HO.out.alloc (.cells #[.int .u8 2, .string Nm, .slice B d d1, .string Tx, .int .i64 (pt : Int)] 38))
            have HBV := Lib.hid (HB.out.alloc HB.out.size (.cells #[.int .u8 2, .string Nm, .slice B d d1, .string Tx, .int .i64 (pt : Int)] 38))
            go_wp2_with fail
            go_quiet (fail)
            obtain ⟨W, hW⟩ : ∃ W, (wq.alloc (.cells #[.int .u8 2, .string Nm, .slice B d d1, .string Tx, .int .i64 (pt : Int)] 38)).drewN nq = W := ⟨_, rfl⟩
            have HVW : Hid (At W wq.heap.size [.int .u8 2, .string Nm, .slice B d d1, .string Tx, .int .i64 (pt : Int)]) := by rw [← hW]; exact HVA.out.drew ⟨nq, rfl⟩
            have HOW : Hid (W.ownsRow w4.heap.size 9 1 (.slice (some ao) (q + 1) oc) (q + 1) (Mk.opCells op)) := by rw [← hW]; exact HOV.out
            have HBW : Hid (Below w4.heap.size w4 W) := by rw [← hW]; exact below_drewN HBV.out nq
            have hco2 : W.cell? (ao.add q) = some (.string Nm) := HCo.out W (by rw [← hW]; exact below_drewN ((Below.refl _ _).alloc (Nat.le_refl _) _) nq)
            rw [hW]
            clear hW HVA HOV HBV hco x0 x1 x2 x3 x4
            have xc0 := HVW.out.cell 0 _ rfl
            have xc1 := HVW.out.cell 1 _ rfl
            have xc2 := HVW.out.cell 2 _ rfl
            have xc3 := HVW.out.cell 3 _ rfl
            have xc4 := HVW.out.cell 4 _ rfl
            have zx := HVW.out.lt
            go_wp2_with fail
            go_quiet (fail)
            go_wp2
            go_roundw
            case rel => exact ⟨j + 1 + 1, op.dropLast, by omega, by go_num, by rw [← HS2.out]; exact HRs.out, by rw [List.length_dropLast, HNo.out]; exact Mk.own_pop HOW.out HNo.out, below_drewN HBW.out _⟩
            case measure => simp [intOf]; omega
          · subst hkd
            have w1' : Tx.toList.isEmpty = false := Mk.emp_no (by rw [← hTx, Mk.bts_size]; exact List.length_pos_iff.2 htx)
            have w2' : Nm.toList.isEmpty = true := Mk.emp_yes (by rw [← hNm, hnm0]; rfl)
            have hnn : no ≤ 32 := by rw [h7, hno] at t5; exact t5
            have w5' : ¬ (32 : Int) < (no : Int) := by omega
            have HS2 := Lib.hid h7
            clear t5 hNm hTx h7 hno hon htx hnm0
            have HVA : Hid (At (wq.alloc (.cells #[.int .u8 3, .string Nm, .slice B d d1, .string Tx, .int .i64 (pt : Int)] 38)) wq.heap.size [.int .u8 3, .string Nm, .slice B d d1, .string Tx, .int .i64 (pt : Int)]) := At.new _ _ _
            have HOV := Lib.hid (HO.out.alloc (.cells #[.int .u8 3, .string Nm, .slice B d d1, .string Tx, .int .i64 (pt : Int)] 38))
            have HBV := Lib.hid (HB.out.alloc HB.out.size (.cells #[.int .u8 3, .string Nm, .slice B d d1, .string Tx, .int .i64 (pt : Int)] 38))
            go_wp2_with fail
            go_quiet (fail)
            obtain ⟨W, hW⟩ : ∃ W, (wq.alloc (.cells #[.int .u8 3, .string Nm, .slice B d d1, .string Tx, .int .i64 (pt : Int)] 38)).drewN nq = W := ⟨_, rfl⟩
            have HVW : Hid (At W wq.heap.size [.int .u8 3, .string Nm, .slice B d d1, .string Tx, .int .i64 (pt : Int)]) := by rw [← hW]; exact HVA.out.drew ⟨nq, rfl⟩
            have HOW : Hid (W.ownsRow w4.heap.size 9 1 (.slice oA no oc) no (Mk.opCells op)) := by rw [← hW]; exact HOV.out
            have HBW : Hid (Below w4.heap.size w4 W) := by rw [← hW]; exact below_drewN HBV.out nq
            rw [hW]
            clear hW HVA HOV HBV x0 x1 x2 x3 x4
            have xc0 := HVW.out.cell 0 _ rfl
            have xc1 := HVW.out.cell 1 _ rfl
            have xc2 := HVW.out.cell 2 _ rfl
            have xc3 := HVW.out.cell 3 _ rfl
            have xc4 := HVW.out.cell 4 _ rfl
            have zx := HVW.out.lt
            go_wp2
            go_roundw
            case rel => exact ⟨j + 1 + 1, op, by omega, by go_num, by rw [← HS2.out]; exact HRs.out, by rw [HNo.out]; exact HOW.out, HBW.out⟩
            case measure => simp [intOf]; omega
      · have hkm : m = k := by omega
        subst hkm
        have q3 : ¬ (m : Int) < (m : Int) := by omega
        have hop : op = [] := by
          have h := HC.out
          rw [List.drop_of_length_le (by rw [HM.out]; exact Nat.le_refl _)] at h
          have h2 := Option.some.inj h
          exact congrArg Prod.snd h2
        subst hop
        have v1 : (2 : Int) ≤ (m : Int) := by omega
        have HBe := Lib.hid (HB5.out.trans (HB.out.mono HB5.out.size))
        go_wp2
        go_ret
        exact ⟨rfl, HBe.out⟩
end Go.Proofs.YtjbgmbhifnihaaaDoor
