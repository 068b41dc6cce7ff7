/- The walk of the law TellBack. -/
import Derived.Test.YtlmheieabkdhjaaDoorTellSmall
import Derived.Deep.DeepCutAuto
namespace Go.Proofs.YtlmheieabkdhjaaDoor
open Go.RowKit

/-- A text, or none. -/
theorem tellText_two (A : Option Addr) (n c : Nat) (l : List Te.M) (w : World) (hW : Wt w) (hn : l.length = n) (hf : Te.Few l) (hr : Reads w w.heap.size 3 A n (Te.rows l)) :
    Calls Tryd.prog 6 #[.slice A n c] w fun e w' => (∃ T Y, e = .returned (.tuple #[.string T, .int .i64 Y]) ∧ ((Y = 0 ∧ Te.okAll l = true ∧ T = Te.bts (Te.text l)) ∨ Y = 2)) ∧ Below w.heap.size w w' := by
  refine (tellText_any A n c l w hW hn (by have := hf.1; omega) (fun m hm => by have := hf.2 m hm; unfold maxLen; omega) hr).mono ?_
  rintro e w' ⟨rfl, hb⟩
  refine ⟨?_, hb⟩
  cases h : Te.okAll l with
  | true => exact ⟨_, 0, rfl, .inl ⟨rfl, rfl, rfl⟩⟩
  | false => exact ⟨_, 2, rfl, .inr rfl⟩
/-- What is read of a text, or the fault. -/
theorem tellParse_two (s : ByteArray) (w : World) (hW : Wt w) (hs : s.size ≤ 1000000) :
    Calls Tryd.prog 7 #[.string s] w fun e w' => ((∃ l A c, Te.okAll l = true ∧ Te.text l = tl s ∧ e = .returned (.tuple #[.slice A l.length c, .agg #[.int .i64 0, .int .i64 0, .int .i64 0]]) ∧ Reads w' w'.heap.size 3 A l.length (Te.rows l)) ∨
      (∃ no why : Nat, 0 < why ∧ e = .returned (.tuple #[.slice none 0 0, .agg #[.int .i64 no, .int .i64 1, .int .i64 why]]))) ∧ Below w.heap.size w w' := by
  cases h : Te.parse ((tl s).length + 1) (tl s) with
  | some l =>
    refine (tellParse_ok s l w hW hs h).mono ?_
    rintro e w' ⟨⟨A, c, rfl, hr⟩, hb⟩
    obtain ⟨h1, h2⟩ := Te.text_parse _ _ _ (Nat.lt_succ_self _) h
    exact ⟨.inl ⟨l, A, c, h1, h2, rfl, hr⟩, hb⟩
  | none =>
    rw [Te.parse_F _ 1] at h
    cases h2 : (Te.parseF ((tl s).length + 1) 1 (tl s)).2 with
    | none => rw [h2, if_pos rfl] at h; cases h
    | some p =>
      obtain ⟨no, why⟩ := p
      refine (tellParse_bad s no why w hW hs h2).mono ?_
      rintro e w' ⟨rfl, hb⟩
      exact ⟨.inr ⟨no, why, Te.parseF_why _ _ _ _ _ h2, rfl⟩, hb⟩
theorem missed_i0 : ∃ i, Tryd.prog.info? 37 = some i ∧ i.zero = some (.agg #[.string ⟨#[]⟩, .int .i64 0, .int .u8 0]) ∧ i.size = 3 ∧ i.bytes = 32 := by
  have h := missed_info
  cases hc : Tryd.prog.info? 37 with
  | none => rw [hc] at h; cases h
  | some i =>
    rw [hc] at h
    simp only [Option.map_some, Option.some.injEq, Prod.mk.injEq] at h
    exact ⟨i, rfl, h.1, h.2.1, h.2.2⟩
theorem back_append {ops : Array Oper} {rest : List Oper} {o : Oper} {a : Act} {Q : Exit → Act → World → Prop} (W : World) (B n : Nat) (xs : List Value) (v : Value) (k : ByteArray) (y : Int) (r : Nat)
    (hO : W.ownsRow B 37 3 v n xs) (hl : n ≤ 1000000) (hB : B ≤ W.heap.size) (hgd : o.guard = none)
    (ho : o.op = .call { callee := .builtin .append, args := #[.tmp 144, .tmp 146], argTypes := #[22, 22] }) (hs : a.eval (.tmp 144) = v) (hx : a.eval (.tmp 146) = .slice (some ⟨W.heap.size, 0, none⟩) 1 1)
    (h : ∀ v' w', w'.ownsRow B 37 3 v' (n + 1) (xs ++ [.string k, .int .i64 y, .int .u8 r]) → Below B W w' → (∀ g xs, At W g xs → v.ownBlock ≠ some g → At w' g xs ∧ v'.ownBlock ≠ some g) → wpList Tryd.prog ops Q rest (a.put o.dst v') w') :
    wpList Tryd.prog ops Q (o :: rest) a (W.alloc (.cells #[.string k, .int .i64 y, .int .u8 r] 37)) := by
  obtain ⟨i0, hi0, hz0, hz1, hz2⟩ := missed_i0
  have hR := reads_block W #[.string k, .int .i64 y, .int .u8 r] 37
  refine wpList_append_any (P := Tryd.prog) _ hgd (.tmp 144) (.tmp 146) 22 ho B 37 i0 _ 3 32 Tryd.underlying22 hi0 hz0 hz1 hz2 rfl (by omega) v n xs hs (hO.alloc _) (W.heap.size + 1) _ 1 1 _ hx hR (by simp [Value.oneCell']) (by unfold maxLen; omega) (by omega) (by rw [World.size_alloc]; omega) ?_
  intro v' w' hown hg hat
  refine h v' w' hown (((Below.refl B W).alloc hB _).grown hg (by rw [World.size_alloc]; omega) (fun g e => (hO.lt g e).1)) ?_
  intro g xs hA hne
  refine ⟨at_grown (hA.alloc _ _) hg (fun e => hne e.symm), ?_⟩
  rcases hat with e | e
  · rw [e]; exact hne
  · rw [e, World.size_alloc]
    intro e2
    have := hA.lt
    injection e2 with e2
    omega
theorem idx_six (x0 x1 x2 x3 x4 x5 : Nat) (j : Nat) (h : j < 6) (W : World) :
    (Instr.index 39 (.agg #[.int .i64 (x0 : Int), .int .i64 (x1 : Int), .int .i64 (x2 : Int), .int .i64 (x3 : Int), .int .i64 (x4 : Int), .int .i64 (x5 : Int)]) (.int .i64 (j : Int))).run Tryd.prog W = .ok (.int .i64 (([x0, x1, x2, x3, x4, x5].getD j 0 : Nat) : Int)) W := by
  have e0 : (Instr.index 39 (.agg #[.int .i64 (x0 : Int), .int .i64 (x1 : Int), .int .i64 (x2 : Int), .int .i64 (x3 : Int), .int .i64 (x4 : Int), .int .i64 (x5 : Int)]) (.int .i64 0)).run Tryd.prog W = .ok (.int .i64 (x0 : Int)) W := by kernel_rfl
  have e1 : (Instr.index 39 (.agg #[.int .i64 (x0 : Int), .int .i64 (x1 : Int), .int .i64 (x2 : Int), .int .i64 (x3 : Int), .int .i64 (x4 : Int), .int .i64 (x5 : Int)]) (.int .i64 1)).run Tryd.prog W = .ok (.int .i64 (x1 : Int)) W := by kernel_rfl
  have e2 : (Instr.index 39 (.agg #[.int .i64 (x0 : Int), .int .i64 (x1 : Int), .int .i64 (x2 : Int), .int .i64 (x3 : Int), .int .i64 (x4 : Int), .int .i64 (x5 : Int)]) (.int .i64 2)).run Tryd.prog W = .ok (.int .i64 (x2 : Int)) W := by kernel_rfl
  have e3 : (Instr.index 39 (.agg #[.int .i64 (x0 : Int), .int .i64 (x1 : Int), .int .i64 (x2 : Int), .int .i64 (x3 : Int), .int .i64 (x4 : Int), .int .i64 (x5 : Int)]) (.int .i64 3)).run Tryd.prog W = .ok (.int .i64 (x3 : Int)) W := by kernel_rfl
  have e4 : (Instr.index 39 (.agg #[.int .i64 (x0 : Int), .int .i64 (x1 : Int), .int .i64 (x2 : Int), .int .i64 (x3 : Int), .int .i64 (x4 : Int), .int .i64 (x5 : Int)]) (.int .i64 4)).run Tryd.prog W = .ok (.int .i64 (x4 : Int)) W := by kernel_rfl
  have e5 : (Instr.index 39 (.agg #[.int .i64 (x0 : Int), .int .i64 (x1 : Int), .int .i64 (x2 : Int), .int .i64 (x3 : Int), .int .i64 (x4 : Int), .int .i64 (x5 : Int)]) (.int .i64 5)).run Tryd.prog W = .ok (.int .i64 (x5 : Int)) W := by kernel_rfl
  rcases (by omega : j = 0 ∨ j = 1 ∨ j = 2 ∨ j = 3 ∨ j = 4 ∨ j = 5) with rfl | rfl | rfl | rfl | rfl | rfl
  · rw [show (((0 : Nat)) : Int) = 0 from rfl, e0]
    rfl
  · rw [show (((1 : Nat)) : Int) = 1 from rfl, e1]
    rfl
  · rw [show (((2 : Nat)) : Int) = 2 from rfl, e2]
    rfl
  · rw [show (((3 : Nat)) : Int) = 3 from rfl, e3]
    rfl
  · rw [show (((4 : Nat)) : Int) = 4 from rfl, e4]
    rfl
  · rw [show (((5 : Nat)) : Int) = 5 from rfl, e5]
    rfl
theorem drop_sum (xs : List Nat) (j : Nat) (h : j < xs.length) : (xs.drop j).sum = xs.getD j 0 + (xs.drop (j + 1)).sum := by
  rw [List.drop_eq_getElem_cons h, List.sum_cons]
  simp [List.getD, h]
def sliceLen (v : Value) : Nat := match v with | .slice _ n _ => n | _ => 0
/-- Where the law stands at a round's begin: the years of the first k runs lie in one row. -/
structure LbAt (l : List Te.M) (w5 : World) (v i : Value) (wr : World) : Prop where
  st : ∃ k : Nat, k ≤ (Te.runs l).length ∧ i = .int .i64 k ∧ wr.ownsRow w5.heap.size 37 3 v (Te.pre l k).length (Te.rows (Te.pre l k))
  below : Below w5.heap.size w5 wr
/-- Behind the test of the run ahead. -/
structure LcAt (w5 : World) (g N : Nat) (six xs : List Value) (v : Value) (wx : World) : Prop where
  own : wx.ownsRow w5.heap.size 37 3 v N xs
  blk : At wx g six
  below : Below w5.heap.size w5 wx
/-- Where the inner loop stands. -/
structure LdAt (w5 : World) (g N : Nat) (six xs : List Value) (p : Te.Run) (v u : Value) (wr : World) : Prop where
  st : ∃ (j gm : Nat), j < (Te.expand p).length ∧ u = .pointer (some ⟨gm, 0, none⟩) ∧ gm ≠ g ∧ w5.heap.size ≤ gm ∧ v.ownBlock ≠ some gm ∧ At wr gm [.string p.1.k, .int .i64 (p.1.y + (j : Int)), .int .u8 p.1.r] ∧
    wr.ownsRow w5.heap.size 37 3 v (N + j) (xs ++ Te.rows ((Te.expand p).take j))
  ne : v.ownBlock ≠ some g
  blk : At wr g six
  below : Below w5.heap.size w5 wr
set_option maxHeartbeats 16000000 in
set_option maxRecDepth 100000 in
theorem tellBack_any (A : Option Addr) (n c : Nat) (l : List Te.M) (s key : ByteArray) (w : World) (hW : Wt w) (hn : l.length = n) (hn6 : n ≤ maxLen) (hy : ∀ m ∈ l, -9223372036854775808 ≤ m.y ∧ m.y ≤ 9223372036854775807) (hr : Reads w w.heap.size 3 A n (Te.rows l)) (hs : s.size ≤ maxLen) (hk : key.size ≤ maxLen) :
    Calls Tryd.prog 3 #[.slice A n c, .string s, .string key] w fun e w' => e = .returned (.bool true) ∧ Below w.heap.size w w' := by
  have HL := Lib.hid fun W hw => lives39 W hw
  have HSm := Lib.hid fun W hr => tellFew_any A n c l W hn hn6 hr
  have HT := Lib.hid fun W hw hf hr => tellText_two A n c l W hw hn hf hr
  have HW := Lib.hid hW
  have HN := Lib.hid hn
  have HY := Lib.hid hy
  have HR := Lib.hid hr
  unfold maxLen at hs hk
  clear hW hn hy hr hn6
  go_enter Tryd.func3, Tryd.ntmps3
  go_wp2_with fail
  refine (HL.out _ HW.out).mono ?_
  rintro e w1 ⟨rfl, hb1⟩
  have HB1 := Lib.hid hb1
  clear hb1
  go_wp2_with fail
  refine (HSm.out _ ((HR.out.below HB1.out).more HB1.out.size)).mono ?_
  rintro e w2 ⟨⟨b, rfl, hfew⟩, hb⟩
  have HB2 := Lib.hid (below_then HB1.out hb)
  clear hb HB1
  cases b with
  | false =>
    go_wp2
    go_ret
    exact ⟨rfl, HB2.out⟩
  | true =>
    have HFw := Lib.hid (hfew rfl)
    clear hfew
    by_cases q1 : (8192 : Int) < (s.size : Int)
    · go_wp2
      go_ret
      exact ⟨rfl, HB2.out⟩
    by_cases q2 : (1000 : Int) < (key.size : Int)
    · go_wp2
      go_ret
      exact ⟨rfl, HB2.out⟩
    have HPs := Lib.hid fun W hw => tellParse_two s W hw (by omega)
    go_wp2_with fail
    refine (HT.out _ (HW.out.below HB2.out) HFw.out ((HR.out.below HB2.out).more HB2.out.size)).mono ?_
    rintro e w3 ⟨⟨T, Y, rfl, hcase⟩, hb⟩
    have HCase := Lib.hid hcase
    have HB3 := Lib.hid (below_then HB2.out hb)
    clear hb HB2 hcase
    go_upto_if 46 with fail
    go_cut [] (fun wx => Hid (Below w.heap.size w wx))
    case first =>
      rcases HCase.out with ⟨rfl, hok, hT⟩ | rfl
      · have hP := fun W hw => tellParse_ok (Te.bts (Te.text l)) l W hw (by
          have h1 := Te.text_len l hok
          have h2 := HFw.out.1
          rw [Te.bts_size]
          omega) (by
          rw [tl_bts]
          exact Te.parse_text l _ hok (Nat.lt_succ_of_le (Te.len_text l)))
        rw [← hT] at hP
        have HP := Lib.hid hP
        have HS := Lib.hid fun A' c' W hr' hr => tellSame_yes A' A l.length n c' c l l W (by have := HFw.out.1; unfold maxLen; omega) (by have := HFw.out.1; have := HN.out; unfold maxLen; omega) rfl HN.out hr' hr true (by simp)
        clear hT hok hP
        go_wp2_with fail
        refine (HP.out _ (HW.out.below HB3.out)).mono ?_
        rintro e w4 ⟨⟨A', c', rfl, hr4⟩, hb⟩
        have HF := Lib.hid (At.new w4 #[.int .i64 0, .int .i64 0, .int .i64 0] 29)
        have HB4 := Lib.hid ((below_then HB3.out hb).alloc (below_then HB3.out hb).size (.cells #[.int .i64 0, .int .i64 0, .int .i64 0] 29))
        have HR4 := Lib.hid ((hr4.alloc (Nat.le_refl _) (.cells #[.int .i64 0, .int .i64 0, .int .i64 0] 29)).more (by simp : w4.heap.size ≤ (w4.alloc (.cells #[.int .i64 0, .int .i64 0, .int .i64 0] 29)).heap.size))
        clear hb hr4
        obtain ⟨f0, f1, f2, _⟩ := HF.out.three
        go_wp2_with fail
        refine (HS.out _ _ _ HR4.out ((HR.out.below HB4.out).more HB4.out.size)).mono ?_
        rintro e w5 ⟨rfl, hb⟩
        have HB5 := Lib.hid (below_then HB4.out hb)
        clear hb f0 f1 f2
        go_wp2
        go_meet
        exact HB5.out
      · go_wp2
        go_meet
        exact HB3.out
    case rest =>
    as_aux_lemma =>
    have HB := hcut
    clear hcut HCase HB3
    apply_assumption
    refine wp_seq_k fun _ _ => ?_
    go_cut [] (fun wx => Hid (Below w.heap.size w wx))
    case first =>
      go_wp2_with fail
      refine (HPs.out _ (HW.out.below HB.out)).mono ?_
      rintro e w4 ⟨hcase, hb⟩
      rcases hcase with ⟨x, A', c', hx1, hx2, rfl, hr4⟩ | ⟨no, why, hw0, rfl⟩
      · have hxl : x.length ≤ 8192 := by
          have h1 := Te.len_text x
          rw [hx2, tl_length] at h1
          omega
        have hTx := fun W hw hr => tellText_any A' x.length c' x W hw rfl (by omega) (fun m hm => by
          have h1 := Te.key_size (Te.okM_parts (List.all_eq_true.1 hx1 m hm)).1
          unfold maxLen
          omega) hr
        rw [hx1, if_pos rfl, hx2, show Te.bts (tl s) = s from Te.bytes_tl s] at hTx
        have HTx := Lib.hid hTx
        have HF := Lib.hid (At.new w4 #[.int .i64 0, .int .i64 0, .int .i64 0] 29)
        have HB4 := Lib.hid ((below_then HB.out hb).alloc (below_then HB.out hb).size (.cells #[.int .i64 0, .int .i64 0, .int .i64 0] 29))
        have HR4 := Lib.hid ((hr4.alloc (Nat.le_refl _) (.cells #[.int .i64 0, .int .i64 0, .int .i64 0] 29)).more (by simp : w4.heap.size ≤ (w4.alloc (.cells #[.int .i64 0, .int .i64 0, .int .i64 0] 29)).heap.size))
        clear hb hr4 hTx hx1 hx2
        obtain ⟨f0, f1, f2, _⟩ := HF.out.three
        go_wp2_with fail
        refine (HTx.out _ (HW.out.below HB4.out) HR4.out).mono ?_
        rintro e w5 ⟨rfl, hb⟩
        have HB5 := Lib.hid (below_then HB4.out hb)
        clear hb f0 f1 f2
        go_wp2
        go_meet
        exact HB5.out
      · have HB4 := Lib.hid ((below_then HB.out hb).alloc (below_then HB.out hb).size (.cells #[.int .i64 no, .int .i64 1, .int .i64 why] 29))
        have HF := Lib.hid (At.new w4 #[.int .i64 no, .int .i64 1, .int .i64 why] 29)
        obtain ⟨f0, f1, f2, _⟩ := HF.out.three
        clear hb hw0
        go_wp2
        go_meet
        exact HB4.out
    case rest =>
    as_aux_lemma =>
    have HB := hcut
    clear hcut
    have HRn := Lib.hid fun W hr => tellRuns_any A n c l W HN.out (by have := HFw.out.1; have := HN.out; omega) HY.out hr
    clear HPs HT HSm HL
    go_wp2_with fail
    refine (HRn.out _ ((HR.out.below HB.out).more HB.out.size)).mono ?_
    rintro e w5 ⟨⟨AR, cR, rfl, hrr⟩, hb⟩
    have HB5 := Lib.hid (below_then HB.out hb)
    have HRR := Lib.hid hrr
    clear hb hrr HB HRn
    go_wp2
    go_loopw [15, 84] (fun v i wr => LbAt l w5 v i wr) (fun _ i _ => (Te.runs l).length - (intOf i).toNat)
    case atStart => exact ⟨⟨0, Nat.zero_le _, rfl, World.ownsRow_nil _ _ _ _⟩, Below.refl _ _⟩
    case round =>
      obtain ⟨⟨k, hk, rfl, hO⟩, hB⟩ := hrel
      by_cases hlt : k < (Te.runs l).length
      · obtain ⟨p, hp⟩ : ∃ p, (Te.runs l)[k]? = some p := ⟨_, List.getElem?_eq_getElem hlt⟩
        obtain ⟨Av, cv, rfl, _⟩ := own_slice hO
        have hRA := Te.run_at hp
        have hgk := hRA.good.k
        have hgr := hRA.good.r
        have hgy := hRA.good.y
        have hfirst := hRA.first
        have hfits := hRA.fits
        have hap := hRA.apart
        have hps := Te.pre_succ hp
        have hxl := Te.expand_len p
        have hend := Te.expand_end hRA.good
        have htk := fun j h => Te.take_one (p := p) (j := j) h
        have hyz : p.2.y ≤ 9223372036854775807 := by
          obtain ⟨rr, hrr⟩ := hRA.all
          exact (HY.out p.2 (by rw [hrr]; exact List.mem_append_right _ (List.mem_append_left _ (List.mem_of_getLast? (Te.expand_last hRA.good))))).2
        obtain ⟨W1, hW1⟩ : ∃ W, World.alloc wr (.cells #[.string p.1.k, .int .i64 p.1.y, .int .u8 p.1.r, .string p.2.k, .int .i64 p.2.y, .int .u8 p.2.r] 38) = W := ⟨_, rfl⟩
        have hA1 := At.new wr #[.string p.1.k, .int .i64 p.1.y, .int .u8 p.1.r, .string p.2.k, .int .i64 p.2.y, .int .u8 p.2.r] 38
        have hO1 := hO.alloc (.cells #[.string p.1.k, .int .i64 p.1.y, .int .u8 p.1.r, .string p.2.k, .int .i64 p.2.y, .int .u8 p.2.r] 38)
        have hB1 := hB.alloc hB.size (.cells #[.string p.1.k, .int .i64 p.1.y, .int .u8 p.1.r, .string p.2.k, .int .i64 p.2.y, .int .u8 p.2.r] 38)
        rw [hW1] at hA1 hO1 hB1
        have HBw := Lib.hid (HB5.out.trans (hB1.mono HB5.out.size))
        obtain ⟨adr, rfl, har, r0, r1, r2, r3, r4, r5⟩ := Te.run_cells (HRR.out.below hB) hp hlt
        have hNn : (Te.pre l k).length < n := by rw [hxl] at hfits; have := HN.out; omega
        have hn60 : n ≤ 60 := by have := HFw.out.1; have := HN.out; omega
        obtain ⟨adl, rfl, hal, l0, l1, l2⟩ := Te.row_cells (HR.out.below HBw.out) hfirst hNn
        have hyp := HY.out _ (List.mem_of_getElem? hfirst)
        obtain ⟨⟨pk, py, pr⟩, ⟨zk, zy, zr⟩⟩ := p
        simp only at hgk hgr hgy hyz hfirst hxl hyp r0 r1 r2 r3 r4 r5 l0 l1 l2 hA1 hW1 htk
        replace hgk := hgk.symm
        replace hgr := hgr.symm
        subst hgk hgr
        have hzy : zy - py < 60 := by rw [hxl] at hfits; have := HN.out; omega
        have hne0 : (Value.slice Av (Te.pre l k).length cv).ownBlock ≠ some wr.heap.size := fun e => by have := (hO.lt _ e).2; omega
        have HRo := Lib.hid (Reads.of_own hO1)
        have HNx := Lib.hid hps
        obtain ⟨N, hN⟩ : ∃ N, (Te.pre l k).length = N := ⟨_, rfl⟩
        have HQ : Hid (0 < k → ∃ q : Te.M, (Te.pre l k)[N - 1]? = some q ∧ 0 < N ∧ Te.goesOn q ⟨pk, py, pr⟩ = false ∧ -9223372036854775808 ≤ q.y) := by
          intro h0
          obtain ⟨q, h1, h2⟩ := hap h0
          rw [List.getLast?_eq_getElem?, hN] at h1
          obtain ⟨rr, hrr⟩ := hRA.all
          refine ⟨q, h1, ?_, h2, (HY.out q (by rw [hrr]; exact List.mem_append_left _ (List.mem_of_getElem? h1))).1⟩
          rcases Nat.eq_zero_or_pos N with e | e
          · rw [e] at hN
            rw [List.eq_nil_of_length_eq_zero hN] at h1
            cases h1
          · exact e
        rw [hN] at hNn hfits hne0 hO1 HRo l0 l1 l2 ⊢
        have HNl := Lib.hid hN
        obtain ⟨XS, hXS⟩ : ∃ X, Te.rows (Te.pre l k) = X := ⟨_, rfl⟩
        rw [hXS] at hO1
        have HXS := Lib.hid hXS
        obtain ⟨G, hG⟩ : ∃ G, wr.heap.size = G := ⟨_, rfl⟩
        rw [hG] at hA1 hne0
        have HG := Lib.hid hG
        clear hG
        have HA1 := Lib.hid hA1
        have HO1 := Lib.hid hO1
        have HB1 := Lib.hid hB1
        have HW1 := Lib.hid hW1
        have HNE := Lib.hid hne0
        have HEnd := Lib.hid hend
        have HTk := Lib.hid htk
        have HXl := Lib.hid hxl
        have hqs := rec_same (⟨pk, py, pr⟩ : Te.M) ⟨pk, py, pr⟩
        rw [(Te.same_iff _ _).2 rfl] at hqs
        simp only at hqs
        have hk60 : k ≤ 60 := by have := Te.runsTo_len l l.length; have := HN.out; unfold Te.runs at hlt; omega
        have q1 : (0 : Int) ≤ (k : Int) := by omega
        have q2 : (k : Int) < ((Te.runs l).length : Int) := by omega
        have q3 : (0 : Int) ≤ (N : Int) := by omega
        have q4 : (N : Int) < (n : Int) := by omega
        have q5 : ¬ n ≤ N := by omega
        have q6 : decide (n ≤ N) = false := by simpa using q5
        have q7 : IntKind.i64.wrap (zy - py) = zy - py := by rw [IntKind.wrap_i64]; omega
        have q8 : wrap64 (zy - py) = zy - py := by unfold wrap64; omega
        have hLn : zy - py < (n : Int) := by rw [hxl] at hfits; have := HN.out; omega
        have q9 : ¬ (n : Int) ≤ zy - py := by omega
        have q10 : decide ((n : Int) ≤ zy - py) = false := by simpa using hLn
        have HLn := Lib.hid hLn
        have HFt : Hid (N + ((zy - py).toNat + 1) ≤ n) := by
          have := HN.out
          rw [hxl] at hfits
          show _ ≤ _
          omega
        have HYP := Lib.hid (And.intro hyp (And.intro hgy (And.intro hzy hyz)))
        clear hyz hLn hps hap hend htk hxl hfirst hN hXS hA1 hO1 hB1 hW1 hne0 hp hO hRA hfits hgy hyp hzy
        obtain ⟨b0, b1, b2, b3, b4, b5, _⟩ := at_six HA1.out
        go_wp2_with fail
        rw [HW1.out, HG.out]
        go_quiet (fail)
        obtain ⟨W2, hW2⟩ : ∃ W, W1.drewN nq = W := ⟨_, rfl⟩
        have HA3 := Lib.hid (show At W2 G [.string pk, .int .i64 py, .int .u8 pr, .string pk, .int .i64 zy, .int .u8 pr] by rw [← hW2]; exact HA1.out)
        have HO3 := Lib.hid (show W2.ownsRow w5.heap.size 37 3 (.slice Av N cv) N XS by rw [← hW2]; exact HO1.out)
        have HB3 := Lib.hid (show Below w5.heap.size w5 W2 by rw [← hW2]; exact below_drewN HB1.out nq)
        have HR3 := Lib.hid (show Reads W2 W2.heap.size 3 Av N (Te.rows (Te.pre l k)) by rw [← hW2]; exact HRo.out)
        rw [hW2]
        clear hW2 b0 b1 b2 b3 b4 b5 l0 l1 l2 HA1 HO1 HB1 HRo
        obtain ⟨b0, b1, b2, b3, b4, b5, _⟩ := at_six HA3.out
        have zG := HA3.out.lt
        go_upto_if 117 with fail
        go_cut [] (fun wx => LcAt w5 G N [.string pk, .int .i64 py, .int .u8 pr, .string pk, .int .i64 zy, .int .u8 pr] XS (.slice Av N cv) wx)
        case first =>
          by_cases h0 : 0 < k
          · obtain ⟨q, hq1, hN0, hq2, hq3⟩ := HQ.out h0
            obtain ⟨adv, rfl, hav, v0, v1, v2⟩ := Te.row_cells HR3.out hq1 (by omega)
            have qd3 : decide (0 < k) = true := by simpa using h0
            have qN1 : IntKind.i64.wrap ((N : Int) - 1) = (N : Int) - 1 := by rw [IntKind.wrap_i64]; omega
            have qN2 : ((N : Int) - 1).toNat = N - 1 := by omega
            have qN3 : (0 : Int) ≤ (N : Int) - 1 := by omega
            have qN4 : (N : Int) - 1 < (N : Int) := by omega
            have qN5 : (1 : Int) ≤ (N : Int) := by omega
            obtain ⟨qk, qy, qr⟩ := q
            simp only at v0 v1 v2 hq3
            have HO2 := Lib.hid (HO3.out.alloc (.cells #[.string qk, .int .i64 qy, .int .u8 qr] 37))
            have HA2 := Lib.hid (HA3.out.alloc #[.string qk, .int .i64 qy, .int .u8 qr] 37)
            have HB2 := Lib.hid (HB3.out.alloc HB3.out.size (.cells #[.string qk, .int .i64 qy, .int .u8 qr] 37))
            clear hq1 hN0
            by_cases hly : qy < py
            · have hyp := HYP.out
              have qy1 : IntKind.i64.wrap (qy + 1) = qy + 1 := by rw [IntKind.wrap_i64]; omega
              have qy2 : wrap64 (qy + 1) = qy + 1 := by unfold wrap64; omega
              have hqe := rec_same (⟨qk, qy + 1, qr⟩ : Te.M) ⟨pk, py, pr⟩
              have hqf : Te.same ⟨qk, qy + 1, qr⟩ ⟨pk, py, pr⟩ = false := by
                cases h : Te.same ⟨qk, qy + 1, qr⟩ ⟨pk, py, pr⟩ with
                | false => rfl
                | true =>
                  have e := (Te.same_iff _ _).1 h
                  have e2 := (Te.goesOn_iff ⟨qk, qy, qr⟩ ⟨pk, py, pr⟩).2 e.symm
                  rw [hq2] at e2
                  cases e2
              rw [hqf] at hqe
              simp only at hqe
              clear hqf hq2 hyp hq3
              go_wp2
              go_meet
              exact ⟨HO3.out.alloc _, HA3.out.alloc _ _, HB3.out.alloc HB3.out.size _⟩
            · clear hq2 hq3
              go_wp2
              go_meet
              exact ⟨HO2.out, HA2.out, HB2.out⟩
          · have qd3 : decide (0 < k) = false := by simpa using h0
            have qd4 : ¬ 0 < k := h0
            clear h0
            go_wp2
            go_meet
            exact ⟨HO3.out, HA3.out, HB3.out⟩
        case rest =>
          have HOx := Lib.hid hcut.own
          have HAx := Lib.hid hcut.blk
          have HBx := Lib.hid hcut.below
          have hne0 := HNE.out
          clear hcut b0 b1 b2 b3 b4 b5 HA3 HO3 HB3 HR3 HNE HQ q7 q8 q9 q10 zG
          obtain ⟨b0, b1, b2, b3, b4, b5, _⟩ := at_six HAx.out
          have zG := HAx.out.lt
          go_wp2
          go_loopw [15, 19] (fun v u wi => LdAt w5 G N [.string pk, .int .i64 py, .int .u8 pr, .string pk, .int .i64 zy, .int .u8 pr] XS ((⟨pk, py, pr⟩ : Te.M), (⟨pk, zy, pr⟩ : Te.M)) v u wi) (fun v _ _ => N + (Te.expand ((⟨pk, py, pr⟩ : Te.M), (⟨pk, zy, pr⟩ : Te.M))).length - sliceLen v)
          case atStart =>
            refine ⟨⟨0, _, by rw [HXl.out]; omega, rfl, ?_, HBx.out.size, ?_, ?_, ?_⟩, hne0, HAx.out.allocO _, HBx.out.alloc HBx.out.size _⟩
            · omega
            · intro e
              have := (HOx.out.lt _ e).2
              omega
            · have h := At.new wc #[.string pk, .int .i64 py, .int .u8 pr] 37
              simpa using h
            · rw [List.take_zero]
              show World.ownsRow _ _ _ _ _ (N + 0) (XS ++ [])
              rw [List.append_nil]
              exact HOx.out.alloc _
          case round =>
            obtain ⟨⟨j, gm, hj, rfl, hgm, hgB, hvg, hM, hOj⟩, hne, hblk, hbel⟩ := hrel
            obtain ⟨J, hJ⟩ : ∃ J, N + j = J := ⟨_, rfl⟩
            have hyp := HYP.out
            have hj2 := hj
            rw [HXl.out] at hj2
            have hft := HFt.out
            have hJn : J < n := by omega
            have hJ6 : J ≤ 1000000 := by omega
            have hYz : py + (j : Int) ≤ zy := by omega
            rw [hJ] at hOj
            have hE := HEnd.out j
            have hT := HTk.out j hj
            have hown : XS ++ Te.rows ((Te.expand ((⟨pk, py, pr⟩ : Te.M), (⟨pk, zy, pr⟩ : Te.M))).take (j + 1)) = XS ++ Te.rows ((Te.expand ((⟨pk, py, pr⟩ : Te.M), (⟨pk, zy, pr⟩ : Te.M))).take j) ++ [.string pk, .int .i64 (py + (j : Int)), .int .u8 pr] := by
              rw [hT, Te.rows_snoc, List.append_assoc]
              rfl
            have hqz := rec_same (⟨pk, py + (j : Int), pr⟩ : Te.M) ⟨pk, zy, pr⟩
            have hsz : (j + 1 = (Te.expand ((⟨pk, py, pr⟩ : Te.M), (⟨pk, zy, pr⟩ : Te.M))).length → Te.same (⟨pk, py + (j : Int), pr⟩ : Te.M) ⟨pk, zy, pr⟩ = true) ∧ (¬ j + 1 = (Te.expand ((⟨pk, py, pr⟩ : Te.M), (⟨pk, zy, pr⟩ : Te.M))).length → Te.same (⟨pk, py + (j : Int), pr⟩ : Te.M) ⟨pk, zy, pr⟩ = false) := by
              refine ⟨fun h => (Te.same_iff _ _).2 (hE.2 h), fun h => ?_⟩
              cases hc : Te.same (⟨pk, py + (j : Int), pr⟩ : Te.M) ⟨pk, zy, pr⟩ with
              | false => rfl
              | true => exact absurd (hE.1 ((Te.same_iff _ _).1 hc)) h
            obtain ⟨Aj, cj, rfl, _⟩ := own_slice hOj
            obtain ⟨Y, hY⟩ : ∃ Y : Int, py + (j : Int) = Y := ⟨_, rfl⟩
            have hMj : At wr gm [.string pk, .int .i64 Y, .int .u8 pr] := by
              have h := hM
              simp only at h
              rw [hY] at h
              exact h
            rw [hY] at hqz hsz hown hYz
            obtain ⟨m0, m1, m2, _⟩ := hMj.three
            have zM := hMj.lt
            have hBi := hbel.size
            have HOj := Lib.hid hOj
            have HMj := Lib.hid hMj
            have HVg := Lib.hid hvg
            have HNg := Lib.hid hne
            have HBk := Lib.hid hblk
            have HBl := Lib.hid hbel
            have HJ := Lib.hid hJ
            have HY2 := Lib.hid hY
            have HOw := Lib.hid hown
            clear hOj hMj hM hvg hne hblk hbel hown hE hT hY
            by_cases hjl : j + 1 = (Te.expand ((⟨pk, py, pr⟩ : Te.M), (⟨pk, zy, pr⟩ : Te.M))).length
            · have hs := hsz.1 hjl
              rw [hs] at hqz
              simp only at hqz
              have HNext : Hid (∀ v' W, W.ownsRow w5.heap.size 37 3 v' (J + 1) (XS ++ Te.rows ((Te.expand ((⟨pk, py, pr⟩ : Te.M), (⟨pk, zy, pr⟩ : Te.M))).take j) ++ [.string pk, .int .i64 Y, .int .u8 pr]) → Below w5.heap.size w5 W → LbAt l w5 v' (.int .i64 ((k : Int) + 1)) W) := by
                intro v' W ho hb
                refine ⟨⟨k + 1, hlt, by simp, ?_⟩, hb⟩
                rw [HNx.out, List.length_append, HNl.out, ← hjl, show N + (j + 1) = J + 1 by omega]
                have e : Te.rows (Te.pre l k ++ Te.expand ((⟨pk, py, pr⟩ : Te.M), (⟨pk, zy, pr⟩ : Te.M))) = XS ++ Te.rows ((Te.expand ((⟨pk, py, pr⟩ : Te.M), (⟨pk, zy, pr⟩ : Te.M))).take (j + 1)) := by
                  rw [hjl, List.take_length, ← HXS.out]
                  unfold Te.rows
                  rw [List.flatMap_append]
                rw [e, HOw.out]
                exact ho
              clear hsz hs hjl hyp hft hj hj2 hJ hYz
              go_wp2_with (first | (at_builtin; refine back_append _ w5.heap.size J _ _ pk Y pr HOj.out hJ6 hBi rfl rfl rfl rfl ?_; intro v9 w9 hown9 hb9 hat9; have hm9 := hat9 gm _ HMj.out HVg.out; have hg9 := hat9 G _ HBk.out HNg.out; have m0' := hm9.1.cell 0 _ rfl; have m1' := hm9.1.cell 1 _ rfl; have m2' := hm9.1.cell 2 _ rfl; have z3 := hg9.1.cell 3 _ rfl; have z4 := hg9.1.cell 4 _ rfl; have z5 := hg9.1.cell 5 _ rfl; have HB9 := Lib.hid (HBl.out.trans hb9); have HO9 := Lib.hid hown9; clear hown9 hb9 hat9 hm9 hg9))
              go_roundw
              case rel => exact HNext.out _ _ HO9.out HB9.out
              case measure => simp [intOf]; omega
            · have hs := hsz.2 hjl
              rw [hs] at hqz
              simp only at hqz
              have hY1 : Y + 1 ≤ zy := by
                have := HXl.out
                have := HY2.out
                omega
              have hY5 := HY2.out
              have y1 : IntKind.i64.wrap (Y + 1) = Y + 1 := by rw [IntKind.wrap_i64]; omega
              have y2 : wrap64 (Y + 1) = Y + 1 := by unfold wrap64; omega
              have HJl := Lib.hid hjl
              have HJj := Lib.hid hj
              have y3 : ¬ n < J + 1 := by omega
              have y4 : decide (n < J + 1) = false := by simpa using y3
              have y5 : ¬ (n : Int) < (J : Int) + 1 := by omega
              clear hsz hs hjl hyp hft hj2 hYz hY1 hJ hY5
              go_wp2_with (first | (at_builtin; refine back_append _ w5.heap.size J _ _ pk Y pr HOj.out hJ6 hBi rfl rfl rfl rfl ?_; intro v9 w9 hown9 hb9 hat9; have hm9 := hat9 gm _ HMj.out HVg.out; have hg9 := hat9 G _ HBk.out HNg.out; have m0' := hm9.1.cell 0 _ rfl; have m1' := hm9.1.cell 1 _ rfl; have m2' := hm9.1.cell 2 _ rfl; have z3 := hg9.1.cell 3 _ rfl; have z4 := hg9.1.cell 4 _ rfl; have z5 := hg9.1.cell 5 _ rfl; have HB9 := Lib.hid (HBl.out.trans hb9); have HO9 := Lib.hid hown9; have HG9 := Lib.hid hg9; obtain ⟨A9, c9, rfl, _⟩ := own_slice hown9; clear hown9 hb9 hat9 hm9 hg9))
              go_roundw
              case rel =>
                have hj3 := HJj.out
                have hj4 := HJl.out
                have hJ4 := HJ.out
                refine ⟨⟨j + 1, w9.heap.size, by omega, rfl, ?_, HB9.out.size, ?_, ?_, ?_⟩, HG9.out.2, HG9.out.1.allocO _, HB9.out.alloc HB9.out.size _⟩
                · have := HG9.out.1.lt
                  omega
                · intro e
                  have := (HO9.out.lt _ e).2
                  omega
                · have h := At.new w9 #[.string pk, .int .i64 (Y + 1), .int .u8 pr] 37
                  have e : py + ((j + 1 : Nat) : Int) = Y + 1 := by have := HY2.out; omega
                  show At _ _ [.string pk, .int .i64 (py + ((j + 1 : Nat) : Int)), .int .u8 pr]
                  rw [e]
                  exact h
                · rw [show N + (j + 1) = J + 1 by omega, HOw.out]
                  exact HO9.out.alloc _
              case measure =>
                have hj3 := HJj.out
                have hJ4 := HJ.out
                show N + _ - (J + 1) < N + _ - J
                omega
      · have q2 : ¬ (k : Int) < ((Te.runs l).length : Int) := by omega
        have hkR : k = (Te.runs l).length := by omega
        subst hkR
        rw [Te.pre_all] at hO
        obtain ⟨Av, cv, rfl, _⟩ := own_slice hO
        have HRa := Lib.hid (Reads.of_own hO)
        have HBa := Lib.hid (HB5.out.trans (hB.mono HB5.out.size))
        have HS := Lib.hid fun W hr' hr => tellSame_yes Av A l.length n cv c l l W (by have := HFw.out.1; unfold maxLen; omega) (by have := HFw.out.1; have := HN.out; unfold maxLen; omega) rfl HN.out hr' hr true (by simp)
        have hn60 : n ≤ 60 := by have := HFw.out.1; have := HN.out; omega
        clear hO hB hlt hk HRR HY HFw HB5
        go_wp2_with fail
        refine (HS.out _ HRa.out ((HR.out.below HBa.out).more HBa.out.size)).mono ?_
        rintro e w6 ⟨rfl, hb⟩
        have HB6 := Lib.hid (below_then HBa.out hb)
        clear hb HRa HBa HS
        go_wp2
        go_loopw [20, 165] (fun x i wr => ∃ k : Nat, k ≤ n ∧ i = .int .i64 k ∧ x = .int .i64 ((Te.tot key (l.take k) : Nat) : Int) ∧ Hid (Below w.heap.size w wr)) (fun _ i _ => n - (intOf i).toNat)
        case atStart => exact ⟨0, Nat.zero_le _, rfl, rfl, HB6.out⟩
        case round =>
          obtain ⟨k, hk, rfl, rfl, HB⟩ := hrel
          by_cases hlt : k < n
          · obtain ⟨m, hm⟩ : ∃ m, l[k]? = some m := ⟨_, List.getElem?_eq_getElem (by rw [HN.out]; exact hlt)⟩
            obtain ⟨ad, rfl, hab, c0, c1, c2⟩ := Te.row_cells (HR.out.below HB.out) hm hlt
            have q1 : (0 : Int) ≤ (k : Int) := by omega
            have q2 : (k : Int) < (n : Int) := by omega
            have htk : l.take (k + 1) = l.take k ++ [m] := by rw [List.take_add_one, hm]; rfl
            have hts := Te.tot_snoc key (l.take k) m
            rw [← htk] at hts
            have htl := (show Te.tot key (l.take k) ≤ (l.take k).length from List.countP_le_length)
            rw [List.length_take] at htl
            have HBa := Lib.hid (HB.out.alloc HB.out.size (.cells #[.string m.k, .int .i64 m.y, .int .u8 m.r] 37))
            obtain ⟨x, hx⟩ : ∃ x, Te.tot key (l.take k) = x := ⟨_, rfl⟩
            rw [hx] at hts htl
            have hx6 : x ≤ 60 := by omega
            rw [hx]
            clear htk hm htl hx
            by_cases hok : m.k = key ∧ m.r < 6
            · rw [if_pos hok] at hts
              have HTs := Lib.hid hts
              obtain ⟨kk, y, r⟩ := m
              obtain ⟨rfl, hr6⟩ := hok
              simp only at c0 c1 c2 HBa hr6
              have q3 : (r : Int) < 6 := by omega
              have q5 : IntKind.i64.wrap ((x : Int) + 1) = (x : Int) + 1 := by rw [IntKind.wrap_i64]; omega
              have q6 : wrap64 ((x : Int) + 1) = (x : Int) + 1 := by unfold wrap64; omega
              clear hts
              go_wp2
              go_roundw
              case rel => exact ⟨k + 1, by omega, by go_num, by rw [HTs.out]; simp, HBa.out⟩
              case measure => simp [intOf]; omega
            · rw [if_neg hok, Nat.add_zero] at hts
              have HTs := Lib.hid hts
              obtain ⟨kk, y, r⟩ := m
              simp only at c0 c1 c2 HBa hok
              clear hts
              by_cases hkk : kk = key
              · subst hkk
                have q3 : ¬ (r : Int) < 6 := fun e => hok ⟨rfl, by omega⟩
                have q4 : ¬ r < 6 := by omega
                clear hok
                go_wp2
                go_roundw
                case rel => exact ⟨k + 1, by omega, by go_num, by rw [HTs.out]; rfl, HBa.out⟩
                case measure => simp [intOf]; omega
              · have qe : (kk.toList == key.toList) = false := by
                  rw [beq_eq_false_iff_ne]
                  intro e
                  exact hkk ((Te.tl_iff _ _).1 e)
                have qe' : ¬ kk.toList = key.toList := by simpa using qe
                clear hok hkk
                go_wp2
                go_roundw
                case rel => exact ⟨k + 1, by omega, by go_num, by rw [HTs.out]; rfl, HBa.out⟩
                case measure => simp [intOf]; omega
          · have q2 : ¬ (k : Int) < (n : Int) := by omega
            have hsum := Te.tot_sum key l
            have htl := (show Te.tot key l ≤ l.length from List.countP_le_length)
            have hC := fun W hr => tellCount_any A n c l key W HN.out (by omega) hr
            unfold Te.cv at hC
            have htk : l.take k = l := List.take_of_length_le (by rw [HN.out]; omega)
            rw [htk]
            obtain ⟨x0, e0⟩ : ∃ x, Te.cnt key l 0 = x := ⟨_, rfl⟩
            obtain ⟨x1, e1⟩ : ∃ x, Te.cnt key l 1 = x := ⟨_, rfl⟩
            obtain ⟨x2, e2⟩ : ∃ x, Te.cnt key l 2 = x := ⟨_, rfl⟩
            obtain ⟨x3, e3⟩ : ∃ x, Te.cnt key l 3 = x := ⟨_, rfl⟩
            obtain ⟨x4, e4⟩ : ∃ x, Te.cnt key l 4 = x := ⟨_, rfl⟩
            obtain ⟨x5, e5⟩ : ∃ x, Te.cnt key l 5 = x := ⟨_, rfl⟩
            rw [e0, e1, e2, e3, e4, e5] at hC hsum
            have hl60 : l.length ≤ 60 := by rw [HN.out]; exact hn60
            have HC := Lib.hid hC
            have hidx := idx_six x0 x1 x2 x3 x4 x5
            rw [hsum] at htl ⊢
            have HX := Lib.hid hidx
            have HXb := Lib.hid htl
            clear hC hsum htl hidx e0 e1 e2 e3 e4 e5 htk
            go_wp2_with fail
            refine (HC.out _ ((HR.out.below HB.out).more HB.out.size)).mono ?_
            rintro e w7 ⟨rfl, hb⟩
            have HB7 := Lib.hid (below_then HB.out hb)
            clear hb HB HC
            go_wp2
            have HDs := Lib.hid (drop_sum [x0, x1, x2, x3, x4, x5])
            go_loop [20, 184] (fun x i => ∃ j : Nat, j ≤ 6 ∧ i = .int .i64 j ∧ x = .int .i64 ((([x0, x1, x2, x3, x4, x5].drop j).sum : Nat) : Int) ∧ Hid (([x0, x1, x2, x3, x4, x5].drop j).sum ≤ 60)) (fun _ i => 6 - (intOf i).toNat)
            case atStart =>
              have := HXb.out
              have e : ([x0, x1, x2, x3, x4, x5].drop 0).sum = x0 + x1 + x2 + x3 + x4 + x5 := by simp; omega
              exact ⟨0, by omega, rfl, by rw [e]; simp, (by rw [e]; omega : _ ≤ 60)⟩
            case round =>
              obtain ⟨j, hj, rfl, rfl, hb60⟩ := hrel
              by_cases hlt6 : j < 6
              · have hI := fun W => HX.out j hlt6 W
                have hd := HDs.out j hlt6
                have hb := hb60.out
                obtain ⟨X, hX⟩ : ∃ X, [x0, x1, x2, x3, x4, x5].getD j 0 = X := ⟨_, rfl⟩
                obtain ⟨S, hS⟩ : ∃ S, ([x0, x1, x2, x3, x4, x5].drop (j + 1)).sum = S := ⟨_, rfl⟩
                obtain ⟨T, hT⟩ : ∃ T, ([x0, x1, x2, x3, x4, x5].drop j).sum = T := ⟨_, rfl⟩
                rw [hX] at hI hd
                rw [hS] at hd
                rw [hT] at hd hb ⊢
                have HS := Lib.hid hS
                have hTX : (T : Int) - (X : Int) = (S : Int) := by omega
                have w1 : IntKind.i64.wrap (S : Int) = (S : Int) := by rw [IntKind.wrap_i64]; omega
                have w2 : wrap64 (S : Int) = (S : Int) := by unfold wrap64; omega
                have q1 : (0 : Int) ≤ (j : Int) := by omega
                have q2 : (j : Int) < 6 := by omega
                have hS60 : S ≤ 60 := by
                  have h1 : S ≤ X + S := Nat.le_add_left S X
                  rw [← hd] at h1
                  exact Nat.le_trans h1 hb
                clear hX hS hT hd hb HX
                go_wp2
                go_round
                case rel => exact ⟨j + 1, by omega, by go_num, by rw [HS.out], (by rw [HS.out]; exact hS60 : _ ≤ 60)⟩
                case measure => simp [intOf]; omega
              · have hj6 : j = 6 := by omega
                subst hj6
                have e : ([x0, x1, x2, x3, x4, x5].drop 6).sum = 0 := rfl
                rw [e]
                clear e hb60 hlt6 hj
                go_wp2
                go_ret
                exact ⟨rfl, HB7.out⟩
end Go.Proofs.YtlmheieabkdhjaaDoor
