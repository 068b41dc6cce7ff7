/- tell.Parse: the years whose text a text is. -/
import Derived.Test.YtlmheieabkdhjaaDoorTellParse
namespace Go.Proofs.YtlmheieabkdhjaaDoor
open Go.RowKit

namespace Te
def mc (m : M) : List Value := [.string m.k, .int .i64 m.y, .int .u8 m.r]
def rows (l : List M) : List Value := l.flatMap mc
theorem rows_snoc (l : List M) (m : M) : rows (l ++ [m]) = rows l ++ mc m := by unfold rows; simp
/-- What is read up to a fault, and the fault: its line's number, and why. -/
def parseF : Nat → Nat → Txt → List M × Option (Nat × Nat)
  | 0, _, _ => ([], none)
  | f + 1, no, s => if s = [] then ([], none) else
    if (Lib.cut s [10]).2.2 then match pl (Lib.cut s [10]).1 with
      | none => ([], some (no, 4))
      | some m => (m :: (parseF f (no + 1) (Lib.cut s [10]).2.1).1, (parseF f (no + 1) (Lib.cut s [10]).2.1).2)
    else ([], some (no, 5))
theorem parse_F : ∀ (f no : Nat) (s : Txt), parse f s = if (parseF f no s).2 = none then some (parseF f no s).1 else none
  | 0, no, s => rfl
  | f + 1, no, s => by
    unfold parse parseF
    by_cases h1 : s = []
    · rw [if_pos h1, if_pos h1]; rfl
    · rw [if_neg h1, if_neg h1]
      by_cases h2 : (Lib.cut s [10]).2.2 = true
      · rw [if_pos h2, if_pos h2]
        cases hp : pl (Lib.cut s [10]).1 with
        | none => rfl
        | some m =>
          simp only
          rw [parse_F f (no + 1) (Lib.cut s [10]).2.1]
          by_cases h3 : (parseF f (no + 1) (Lib.cut s [10]).2.1).2 = none
          · rw [if_pos h3, if_pos h3]; rfl
          · rw [if_neg h3, if_neg h3]; rfl
      · rw [if_neg h2, if_neg h2]; rfl
/-- What tell.Parse hands back. -/
def PsRet (s : Txt) (w : World) (e : Ending) (w' : World) : Prop :=
  (match (parseF (s.length + 1) 1 s).2 with
    | none => ∃ A c, e = .returned (.tuple #[.slice A (parseF (s.length + 1) 1 s).1.length c, .agg #[.int .i64 0, .int .i64 0, .int .i64 0]]) ∧
        Reads w' w'.heap.size 3 A (parseF (s.length + 1) 1 s).1.length (rows (parseF (s.length + 1) 1 s).1)
    | some (no, why) => e = .returned (.tuple #[.slice none 0 0, .agg #[.int .i64 no, .int .i64 1, .int .i64 why]])) ∧ Below w.heap.size w w'
end Te
theorem grown_of_below {w w' : World} (hb : Below w.heap.size w w') (row : Option Nat) : w.grownBy w' row := ⟨hb.os, hb.tape, hb.output, hb.size, fun k hk _ => hb.block k hk⟩
theorem missed_info : (Tryd.prog.info? 37).map (fun i => (i.zero, i.size, i.bytes)) = some (some (.agg #[.string ⟨#[]⟩, .int .i64 0, .int .u8 0]), 3, 32) := by kernel_rfl
theorem reads_missed (w : World) (a b c : Value) (t : TypeId) : Reads (w.alloc (.cells #[a, b, c] t)) (w.heap.size + 1) 3 (some ⟨w.heap.size, 0, none⟩) 1 [a, b, c] := by
  refine ⟨by simp, fun _ => ⟨_, rfl, Nat.lt_succ_self _, fun j u hu => ?_⟩⟩
  have e : (⟨w.heap.size, 0, none⟩ : Addr).add j = ⟨w.heap.size, j, none⟩ := by
    unfold Addr.add
    split
    · subst_vars; rfl
    · simp
  rw [e]
  exact (At.new w #[a, b, c] t).cell j u hu
theorem at_grown {w w' : World} {g : Nat} {xs : List Value} {row : Option Nat} (h : At w g xs) (hg : w.grownBy w' row) (hne : some g ≠ row) : At w' g xs :=
  ⟨Nat.lt_of_lt_of_le h.1 hg.size, fun i v hi => ⟨(World.cell?_of_block (a := ⟨g, i, none⟩) (hg.block g h.1 hne)).trans (h.2 i v hi).1, (World.frozen?_of_block (a := ⟨g, i, none⟩) (hg.block g h.1 hne)).trans (h.2 i v hi).2⟩⟩
theorem empty_not (s : ByteArray) (h : ¬ tl s = []) : s.toList.isEmpty = false := by
  rw [ByteArray.toList_eq]
  cases e : s.data.toList with
  | nil => exact absurd e h
  | cons _ _ => rfl
/-- Where tell.Parse stands at a round's begin. -/
structure PsAt (s : Te.Txt) (w : World) (x v n : Value) (wr : World) : Prop where
  st : ∃ (r : ByteArray) (no f : Nat) (done : List Te.M), x = .string r ∧ n = .int .i64 no ∧ r.size < f ∧ r.size + done.length ≤ s.length ∧ no = done.length + 1 ∧
    done ++ (Te.parseF f no (tl r)).1 = (Te.parseF (s.length + 1) 1 s).1 ∧ (Te.parseF f no (tl r)).2 = (Te.parseF (s.length + 1) 1 s).2 ∧
    wr.ownsRow (w.heap.size + 1) 37 3 v done.length (Te.rows done)
  below : Below w.heap.size w wr
  fault : At wr w.heap.size [.int .i64 0, .int .i64 0, .int .i64 0]
def strSize (v : Value) : Nat := match v with | .string s => s.size | _ => 0
set_option maxHeartbeats 4000000 in
set_option maxRecDepth 100000 in
theorem tellParse_any (s : ByteArray) (w : World) (hW : Wt w) (hs : s.size ≤ 1000000) :
    Calls Tryd.prog 7 #[.string s] w (Te.PsRet (tl s) w) := by
  have HW := Lib.hid hW
  have hl := tl_length s
  go_enter Tryd.func7, Tryd.ntmps7
  go_wp2
  go_loopw [0, 4, 5] (fun x v n wr => PsAt (tl s) w x v n wr) (fun x _ _ _ => strSize x)
  case atStart =>
    exact ⟨⟨s, 1, s.size + 1, [], rfl, rfl, by omega, by rw [hl]; simp, rfl, by rw [hl]; rfl, by rw [hl], World.ownsRow_nil _ _ _ _⟩,
      (Below.refl _ _).alloc (Nat.le_refl _) _, At.new w #[.int .i64 0, .int .i64 0, .int .i64 0] 29⟩
  case round =>
    obtain ⟨⟨r, no, f, done, rfl, rfl, hf, hn, hno, h1, h2, hO⟩, hB, hM⟩ := hrel
    obtain ⟨f, rfl⟩ : ∃ g, f = g + 1 := ⟨f - 1, by omega⟩
    by_cases h0 : tl r = []
    · have hE1 : (Te.parseF (f + 1) no (tl r)).1 = [] := by unfold Te.parseF; rw [if_pos h0]
      have hE2 : (Te.parseF (f + 1) no (tl r)).2 = none := by unfold Te.parseF; rw [if_pos h0]
      rw [hE1, List.append_nil] at h1
      rw [hE2] at h2
      have hr0 : r = ⟨#[]⟩ := by
        obtain ⟨⟨l⟩⟩ := r
        have : l = [] := h0
        rw [this]
      obtain ⟨A, c, rfl, hcm⟩ := own_slice hO
      have HO := Lib.hid hO
      have HM := Lib.hid hM
      have HB := Lib.hid hB
      have H1 := Lib.hid h1
      have H2 := Lib.hid h2
      clear h0 hE1 hE2 h1 h2 hO hM hB hn hf hno hl hs hW
      subst hr0
      obtain ⟨c0, c1, c2, f0, f1, f2⟩ := HM.out.three
      have zM := HM.out.lt
      go_wp2
      refine bodyPost_ret (v := .tuple #[.slice A done.length c, .agg #[.int .i64 0, .int .i64 0, .int .i64 0]]) (by simp [results, Tryd.results7, go_sem, *]) rfl ?_
      refine ⟨?_, ((HB.out.setCell (p := ⟨w.heap.size, _, none⟩) (Nat.le_refl _) _).setCell (p := ⟨w.heap.size, _, none⟩) (Nat.le_refl _) _).setCell (p := ⟨w.heap.size, _, none⟩) (Nat.le_refl _) _⟩
      rw [← H2.out, ← H1.out]
      exact ⟨A, c, rfl, Reads.of_own (ownsRow_setCell_below (ownsRow_setCell_below (ownsRow_setCell_below HO.out (Nat.lt_succ_self _) _) (Nat.lt_succ_self _) _) (Nat.lt_succ_self _) _)⟩
    · have hem := empty_not r h0
      have hFu : ∀ (c : Te.Txt × Te.Txt × Bool), Lib.cut (tl r) [10] = c → Te.parseF (f + 1) no (tl r) = if c.2.2 then (match Te.pl c.1 with
          | none => ([], some (no, 4))
          | some m => (m :: (Te.parseF f (no + 1) c.2.1).1, (Te.parseF f (no + 1) c.2.1).2)) else ([], some (no, 5)) := by
        intro c hc
        rw [Te.parseF, if_neg h0, hc]
      have hC := fun W hw => cut_t r 10 W hw (by rw [hl] at hn; omega)
      have hcl := cut_length (tl r) [10]
      rw [tl_length] at hcl
      obtain ⟨c, hc⟩ : ∃ c, Lib.cut (tl r) [10] = c := ⟨_, rfl⟩
      have hF := hFu c hc
      have hspl := Te.cut_true 10 (tl r)
      rw [hc] at hC hcl hspl
      obtain ⟨A, B, o⟩ := c
      simp only at hC hcl hF hspl
      clear hFu hc
      have HC := Lib.hid hC
      have hwr : Wt wr := HW.out.below hB
      cases o with
      | false =>
        rw [if_neg (by decide)] at hF
        have H2 : Hid (some (no, 5) = (Te.parseF ((tl s).length + 1) 1 (tl s)).2) := by
          show some (no, 5) = _
          rw [← h2, hF]
        have HM := Lib.hid hM
        have HB := Lib.hid hB
        have HWr := Lib.hid hwr
        clear hF h1 h2 hM hB hO hn hf hno hl hs hW hC hcl hspl hwr h0
        go_wp2_with fail
        refine (HC.out _ HWr.out).mono ?_
        rintro e w1 ⟨rfl, hd⟩
        obtain ⟨c0, c1, c2, f0, f1, f2⟩ := (HM.out.drew hd).three
        have zM := (HM.out.drew hd).lt
        have HB1 := Lib.hid (HB.out.trans (hd.below _))
        clear hd
        go_wp2
        refine bodyPost_ret (v := .tuple #[.slice none 0 0, .agg #[.int .i64 no, .int .i64 1, .int .i64 5]]) (by simp [results, Tryd.results7, go_sem, *]) rfl ?_
        refine ⟨?_, ((HB1.out.setCell (p := ⟨w.heap.size, _, none⟩) (Nat.le_refl _) _).setCell (p := ⟨w.heap.size, _, none⟩) (Nat.le_refl _) _).setCell (p := ⟨w.heap.size, _, none⟩) (Nat.le_refl _) _⟩
        rw [← H2.out]
        rfl
      | true =>
        rw [if_pos rfl] at hF
        have HP := Lib.hid (fun W hw => tellPl_any (Te.bts A) W hw (by rw [Te.bts_size]; rw [hl] at hn; omega))
        rw [tl_bts] at HP
        cases hpl : Te.pl A with
        | none =>
          rw [hpl] at hF
          simp only at hF
          have H2 : Hid (some (no, 4) = (Te.parseF ((tl s).length + 1) 1 (tl s)).2) := by
            show some (no, 4) = _
            rw [← h2, hF]
          have HP2 : Hid (∀ W, Wt W → Calls Tryd.prog 18 #[.string (Te.bts A)] W fun e w' => (∃ m', e = .returned (.tuple #[Te.mv m', .bool false])) ∧ Below W.heap.size W w') := fun W hw => (HP.out W hw).mono fun e w' ⟨⟨m', _, he⟩, hb⟩ => ⟨⟨m', by rw [he, hpl]; rfl⟩, hb⟩
          have HM := Lib.hid hM
          have HB := Lib.hid hB
          have HWr := Lib.hid hwr
          clear hF h1 h2 hM hB hO hn hf hno hl hs hW hC hcl hspl hwr h0 hpl HP
          go_wp2_with fail
          refine (HC.out _ HWr.out).mono ?_
          rintro e w1 ⟨rfl, hd⟩
          have HM1 := Lib.hid (HM.out.drew hd)
          have HB1 := Lib.hid (HB.out.trans (hd.below _))
          clear hd HM HB
          go_wp2_with fail
          refine (HP2.out _ (HW.out.below HB1.out)).mono ?_
          rintro e w2 ⟨⟨⟨k', y', r'⟩, rfl⟩, hb2⟩
          unfold Te.mv
          have HM2 := Lib.hid (HM1.out.call hb2)
          have HB2 := Lib.hid (below_then HB1.out hb2)
          clear hb2 HM1 HB1
          obtain ⟨c0, c1, c2, f0, f1, f2⟩ := HM2.out.three
          have zM := HM2.out.lt
          go_wp2
          refine bodyPost_ret (v := .tuple #[.slice none 0 0, .agg #[.int .i64 no, .int .i64 1, .int .i64 4]]) (by simp [results, Tryd.results7, go_sem, *]) rfl ?_
          refine ⟨?_, (((HB2.out.setCell (p := ⟨w.heap.size, _, none⟩) (Nat.le_refl _) _).setCell (p := ⟨w.heap.size, _, none⟩) (Nat.le_refl _) _).setCell (p := ⟨w.heap.size, _, none⟩) (Nat.le_refl _) _).alloc (by simp only [heap_set]; exact HB2.out.size) _⟩
          rw [← H2.out]
          rfl
        | some m =>
          rw [hpl] at hF
          simp only at hF
          have HP2 : Hid (∀ W, Wt W → Calls Tryd.prog 18 #[.string (Te.bts A)] W fun e w' => e = .returned (.tuple #[Te.mv m, .bool true]) ∧ Below W.heap.size W w') := fun W hw => (HP.out W hw).mono fun e w' ⟨⟨m', hm, he⟩, hb⟩ => ⟨by rw [he, hpl, hm m hpl]; rfl, hb⟩
          have hsp := hspl rfl
          have hsl := congrArg List.length hsp
          rw [tl_length, List.length_append, List.length_cons] at hsl
          rw [hF] at h1 h2
          have HK : Hid (∀ v' W', W'.ownsRow (w.heap.size + 1) 37 3 v' (done.length + 1) (Te.rows done ++ Te.mc m) → Below w.heap.size w W' → At W' w.heap.size [.int .i64 0, .int .i64 0, .int .i64 0] →
              PsAt (tl s) w (.string (Te.bts B)) v' (.int .i64 ((no : Int) + 1)) W') := by
            intro v' W' ho hb ha
            refine ⟨⟨Te.bts B, no + 1, f, done ++ [m], rfl, by simp, by rw [Te.bts_size]; omega, by rw [Te.bts_size, List.length_append, List.length_singleton]; omega, by rw [List.length_append, List.length_singleton]; omega, ?_, ?_, ?_⟩, hb, ha⟩
            · rw [tl_bts, ← h1]; simp
            · rw [tl_bts]; exact h2
            · rw [List.length_append, List.length_singleton, Te.rows_snoc]; exact ho
          have hBs : (Te.bts B).size < r.size := by rw [Te.bts_size]; omega
          have hdl : done.length + 1 ≤ 1000001 := by rw [hl] at hn; omega
          have hnl : (no : Int) ≤ 1000002 := by omega
          have HM := Lib.hid hM
          have HB := Lib.hid hB
          have HO := Lib.hid hO
          have HWr := Lib.hid hwr
          clear hF h1 h2 hM hB hO hn hf hno hl hs hW hC hcl hspl hwr h0 hpl HP hsp hsl
          obtain ⟨bA, hbA⟩ : ∃ x, Te.bts A = x := ⟨_, rfl⟩
          obtain ⟨bB, hbB⟩ : ∃ x, Te.bts B = x := ⟨_, rfl⟩
          rw [hbA] at HC HP2
          rw [hbB] at HC HK hBs
          clear hbA hbB
          go_wp2_with fail
          refine (HC.out _ HWr.out).mono ?_
          rintro e w1 ⟨rfl, hd⟩
          have HM1 := Lib.hid (HM.out.drew hd)
          have HB1 := Lib.hid (HB.out.trans (hd.below _))
          have HO1 := Lib.hid (HO.out.kept (grown_of_below (hd.below _) none) (by cases u4.ownBlock <;> simp))
          clear hd HM HB HO
          go_wp2_with fail
          refine (HP2.out _ (HW.out.below HB1.out)).mono ?_
          rintro e w2 ⟨rfl, hb2⟩
          have HM2 := Lib.hid (HM1.out.call hb2)
          have HB2 := Lib.hid (below_then HB1.out hb2)
          have HO2 := Lib.hid (HO1.out.kept (grown_of_below hb2 none) (by cases u4.ownBlock <;> simp))
          clear hb2 HM1 HB1 HO1
          obtain ⟨k, y, rr⟩ := m
          unfold Te.mv
          unfold Te.mc at HK
          simp only at HK ⊢
          have HN := Lib.hid (At.new w2 #[.string k, .int .i64 y, .int .u8 rr] 37)
          obtain ⟨d0, d1, d2, _, _, _⟩ := HN.out.three
          have w1 : IntKind.i64.wrap ((no : Int) + 1) = (no : Int) + 1 := by rw [IntKind.wrap_i64]; omega
          have w3 : wrap64 ((no : Int) + 1) = (no : Int) + 1 := by unfold wrap64; omega
          obtain ⟨i0, hi0, hz0, hz1, hz2⟩ : ∃ i, Tryd.prog.info? 37 = some i ∧ i.zero = some (.agg #[.string ⟨#[]⟩, .int .i64 0, .int .u8 0]) ∧ i.size = 3 ∧ i.bytes = 32 := by
            have h := missed_info
            cases hc : Tryd.prog.info? 37 with
            | none => rw [hc] at h; cases h
            | some i =>
              rw [hc] at h
              simp only [Option.map_some, Option.some.injEq, Prod.mk.injEq] at h
              exact ⟨i, rfl, h.1, h.2.1, h.2.2⟩
          have HI := Lib.hid (And.intro hi0 (And.intro hz0 (And.intro hz1 hz2)))
          clear hi0 hz0 hz1 hz2
          have HRd : Hid (Reads ((w2.alloc (.cells #[.string k, .int .i64 y, .int .u8 rr] 37)).alloc (.cells #[.string k, .int .i64 y, .int .u8 rr] 37)) (w2.heap.size + 2) 3 (some ⟨w2.heap.size + 1, 0, none⟩) 1 [.string k, .int .i64 y, .int .u8 rr]) := by
            have h := reads_missed (w2.alloc (.cells #[.string k, .int .i64 y, .int .u8 rr] 37)) (.string k) (.int .i64 y) (.int .u8 rr) 37
            rw [World.size_alloc] at h
            exact h
          have HAp := fun {ops : Array Oper} {rest : List Oper} {o : Oper} {a : Act} {Q : Exit → Act → World → Prop} (hgd : o.guard = none) (ho : o.op = .call { callee := .builtin .append, args := #[.tmp 33, .tmp 35], argTypes := #[22, 22] }) (hs : a.eval (.tmp 33) = u4) (hx : a.eval (.tmp 35) = .slice (some ⟨w2.heap.size + 1, 0, none⟩) 1 1) h => wpList_append_any (P := Tryd.prog) (ops := ops) (rest := rest) (o := o) (a := a) (Q := Q) ((w2.alloc (.cells #[.string k, .int .i64 y, .int .u8 rr] 37)).alloc (.cells #[.string k, .int .i64 y, .int .u8 rr] 37)) hgd (.tmp 33) (.tmp 35) 22 ho (w.heap.size + 1) 37 i0 _ 3 32 Tryd.underlying22 HI.out.1 HI.out.2.1 HI.out.2.2.1 HI.out.2.2.2 rfl (by omega) u4 done.length (Te.rows done) hs ((HO2.out.alloc _).alloc _) (w2.heap.size + 2) _ 1 1 _ hx HRd.out (by simp [Value.oneCell']) (by unfold maxLen; omega) (by omega) (by simp only [World.size_alloc]; have := HM2.out.lt; omega) h
          go_wp2_with (at_builtin; refine HAp rfl rfl rfl rfl ?_; intro v9 w9 hown9 hg9 hat9)
          go_roundw
          case rel =>
            refine HK.out v9 w9 hown9 (((HB2.out.alloc HB2.out.size _).alloc (by rw [World.size_alloc]; have := HB2.out.size; omega) _).grown hg9 (by simp only [World.size_alloc]; have := HB2.out.size; omega) (fun g hg => ?_)) (at_grown ((HM2.out.alloc _ _).alloc _ _) hg9 (fun e => ?_))
            · have := (HO2.out.lt g hg).1
              omega
            · have := (HO2.out.lt _ e.symm).1
              omega
          case measure => exact hBs
end Go.Proofs.YtlmheieabkdhjaaDoor
