/- source.Rules. -/
import Derived.Test.YtmobejhfajnbhaaDoorK42
import Derived.Test.YtmobejhfajnbhaaDoorK16
import Derived.Deep.QuietTactic
import Derived.BigQuiet
import Derived.Test.YtmobejhfajnbhaaDoorK11
namespace Go.Proofs.YtmobejhfajnbhaaDoor
open Go.RowKit

theorem reads_cells_at (w : World) (g : Nat) (cs : Array Value) (m : Nat) (t : TypeId) (hg : g = w.heap.size) (hm : cs.size = m) : Reads (w.alloc (.cells cs t)) (w.alloc (.cells cs t)).heap.size m (some ⟨g, 0, none⟩) 1 cs.toList := by
  subst hg
  refine ⟨by simpa using hm, fun _ => ⟨_, rfl, by simp, fun j u hu => cells_new w cs t j u hu⟩⟩
namespace Src
def ofName (name : ByteArray) (l : List Ru.R) : List Ru.R := l.filter fun r => decide (r.nm = name)
theorem ofName_yes {name : ByteArray} {l : List Ru.R} {k : Nat} {r : Ru.R} (h : l[k]? = some r) (hn : r.nm = name) : ofName name (l.take (k + 1)) = ofName name (l.take k) ++ [r] := by
  unfold ofName
  rw [List.take_add_one, h]
  simp [hn]
theorem ofName_no {name : ByteArray} {l : List Ru.R} {k : Nat} {r : Ru.R} (h : l[k]? = some r) (hn : ¬ r.nm = name) : ofName name (l.take (k + 1)) = ofName name (l.take k) := by
  unfold ofName
  rw [List.take_add_one, h]
  simp [hn]
theorem ofName_le (name : ByteArray) (l : List Ru.R) (k : Nat) : (ofName name (l.take k)).length ≤ k := by
  unfold ofName
  exact Nat.le_trans (List.length_filter_le _ _) (by simp; omega)
def RRel (W0 : World) (name : ByteArray) (l : List Ru.R) (n : Nat) (v i : Value) (wr : World) : Prop :=
  ∃ k : Nat, k ≤ n ∧ i = .int .i64 k ∧ Hid (wr.ownsRow W0.heap.size 34 11 v (ofName name (l.take k)).length ((ofName name (l.take k)).flatMap Ru.R.cells)) ∧ Hid (Below W0.heap.size W0 wr)
end Src
set_option maxHeartbeats 2000000 in
set_option maxRecDepth 100000 in
/-- source.Rules. -/
theorem srcRules_any (s : Src.S) (rv zv lv : Value) (evs : List Value) (name : ByteArray) (w : World) (hR : Src.SrcR w w.heap.size s rv zv lv evs) (hL : s.rules.length ≤ 4096) :
    Calls Tryd.prog 12 #[.agg #[rv, zv, lv], .string name] w fun e w' => ∃ v, e = .returned v ∧ Below w.heap.size w w' ∧ w'.ownsRow w.heap.size 34 11 v (Src.ofName name s.rules).length ((Src.ofName name s.rules).flatMap Ru.R.cells) := by
  obtain ⟨rules, zones, links, op⟩ := s
  obtain ⟨⟨rA, rc, rfl, hr1, hr2, hr3⟩, ⟨zA, zc, rfl, hz1, hz2, hz3⟩, ⟨lA, lc, rfl, hl1, hl2, hl3⟩, hlen, hers⟩ := hR
  simp only at hr1 hr3 hL ⊢
  obtain ⟨n1, hn1⟩ : ∃ n, rules.length = n := ⟨_, rfl⟩
  obtain ⟨n2, hn2⟩ : ∃ n, zones.length = n := ⟨_, rfl⟩
  obtain ⟨n3, hn3⟩ : ∃ n, links.length = n := ⟨_, rfl⟩
  rw [hn1] at hr3 hL hr1 ⊢
  rw [hn2, hn3]
  have HN := Lib.hid hn1
  have HR := Lib.hid hr3
  unfold maxLen at hr2
  obtain ⟨i0, i1, i2, i3, i4⟩ := info_parts rule_info
  have HI := Lib.hid (And.intro i1 (And.intro i2 (And.intro i3 i4)))
  clear i1 i2 i3 i4 hn1 hn2 hn3 hr3 hz1 hz2 hz3 hl1 hl2 hl3 hlen hers
  obtain ⟨W0, hW0⟩ : ∃ x, w.alloc (.cells #[.slice rA n1 rc, .slice zA n2 zc, .slice lA n3 lc] 26) = x := ⟨_, rfl⟩
  have HB0 := Lib.hid (show Below w.heap.size w W0 by rw [← hW0]; exact (Below.refl _ _).alloc (Nat.le_refl _) _)
  have hs0 : w.heap.size < W0.heap.size := by rw [← hW0]; simp
  have HA0 := Lib.hid (show At W0 w.heap.size [.slice rA n1 rc, .slice zA n2 zc, .slice lA n3 lc] by rw [← hW0]; exact At.new w #[.slice rA n1 rc, .slice zA n2 zc, .slice lA n3 lc] 26)
  obtain ⟨a0, a1, a2, _⟩ := HA0.out.three
  go_enter Tryd.func12, Tryd.ntmps12
  go_wp2_with fail
  clear hW0 a0 a1 a2
  go_loopw [5, 11] (fun v i wr => Src.RRel W0 name rules n1 v i wr) (fun _ i _ => n1 - (intOf i).toNat)
  case atStart => exact ⟨0, Nat.zero_le _, rfl, World.ownsRow_nil _ _ _ _, Below.refl _ _⟩
  case round =>
    obtain ⟨k, hk, rfl, HO, HB⟩ := hrel
    obtain ⟨q, hq⟩ : ∃ q, (Src.ofName name (rules.take k)).length = q := ⟨_, rfl⟩
    have hqk : q ≤ k := by rw [← hq]; exact Src.ofName_le name rules k
    rw [hq] at HO
    have HQ := Lib.hid hq
    obtain ⟨vA, vc, hv, hv1, hv2⟩ := own_slice_cap HO.out
    subst hv
    have hwr := HB.out.size
    clear hq
    by_cases hlt : k < n1
    · have q1 : (0 : Int) ≤ (k : Int) := by omega
      have q2 : (k : Int) < (n1 : Int) := by omega
      have HBw := Lib.hid (below_then HB0.out HB.out)
      obtain ⟨ad, x, rfl, hab, Hx, HLc⟩ := Ix.reads_cells (enc := Ru.R.cells) (m := 11) (fun _ => rfl) HN.out (HR.out.below HBw.out) hlt
      obtain ⟨nm, fr, tt, mo, kk, nn, d, sc, cc, sv, lt⟩ := x
      have x0 : wr.cell? (ad.add (k * 11)) = some (.string nm) := HLc.out 0 _ rfl
      have x1 : wr.cell? ⟨(ad.add (k * 11)).block, (ad.add (k * 11)).off + 1, none⟩ = some (.int .i64 fr) := HLc.out 1 _ rfl
      have x2 : wr.cell? ⟨(ad.add (k * 11)).block, (ad.add (k * 11)).off + 2, none⟩ = some (.int .i64 tt) := HLc.out 2 _ rfl
      have x3 : wr.cell? ⟨(ad.add (k * 11)).block, (ad.add (k * 11)).off + 3, none⟩ = some (.int .i64 mo) := HLc.out 3 _ rfl
      have x4 : wr.cell? ⟨(ad.add (k * 11)).block, (ad.add (k * 11)).off + 4, none⟩ = some (.int .u8 kk) := HLc.out 4 _ rfl
      have x5 : wr.cell? ⟨(ad.add (k * 11)).block, (ad.add (k * 11)).off + 5, none⟩ = some (.int .i64 nn) := HLc.out 5 _ rfl
      have x6 : wr.cell? ⟨(ad.add (k * 11)).block, (ad.add (k * 11)).off + 6, none⟩ = some (.int .i64 d) := HLc.out 6 _ rfl
      have x7 : wr.cell? ⟨(ad.add (k * 11)).block, (ad.add (k * 11)).off + 7, none⟩ = some (.int .i64 sc) := HLc.out 7 _ rfl
      have x8 : wr.cell? ⟨(ad.add (k * 11)).block, (ad.add (k * 11)).off + 8, none⟩ = some (.int .u8 cc) := HLc.out 8 _ rfl
      have x9 : wr.cell? ⟨(ad.add (k * 11)).block, (ad.add (k * 11)).off + 9, none⟩ = some (.int .i64 sv) := HLc.out 9 _ rfl
      have x10 : wr.cell? ⟨(ad.add (k * 11)).block, (ad.add (k * 11)).off + 10, none⟩ = some (.string lt) := HLc.out 10 _ rfl
      by_cases hnm : nm = name
      · have hyes := Src.ofName_yes Hx.out hnm
        have HY := Lib.hid hyes
        subst hnm
        have b0 : (nm == nm) = true := by rw [beq_toListBytes]; simp
        have b1 : (nm.toList == nm.toList) = true := by simp
        have HAp := fun {ops : Array Oper} {rest : List Oper} {o : Oper} {a : Act} {Q : Exit → Act → World → Prop} (hgd : o.guard = none) (ho : o.op = .call { callee := .builtin .append, args := #[.tmp 19, .tmp 21], argTypes := #[22, 22] }) (hs : a.eval (.tmp 19) = .slice vA q vc) (hx : a.eval (.tmp 21) = .slice (some ⟨wr.heap.size + 1, 0, none⟩) 1 1) h => wpList_append_any (P := Tryd.prog) (ops := ops) (rest := rest) (o := o) (a := a) (Q := Q) ((wr.alloc (.cells #[.string nm, .int .i64 fr, .int .i64 tt, .int .i64 mo, .int .u8 kk, .int .i64 nn, .int .i64 d, .int .i64 sc, .int .u8 cc, .int .i64 sv, .string lt] 34)).alloc (.cells #[.string nm, .int .i64 fr, .int .i64 tt, .int .i64 mo, .int .u8 kk, .int .i64 nn, .int .i64 d, .int .i64 sc, .int .u8 cc, .int .i64 sv, .string lt] 34)) hgd (.tmp 19) (.tmp 21) 22 ho W0.heap.size 34 i0 _ 11 104 Tryd.underlying22 HI.out.1 HI.out.2.1 HI.out.2.2.1 HI.out.2.2.2 rfl (by decide) _ q _ hs ((HO.out.alloc _).alloc _) ((wr.alloc (.cells #[.string nm, .int .i64 fr, .int .i64 tt, .int .i64 mo, .int .u8 kk, .int .i64 nn, .int .i64 d, .int .i64 sc, .int .u8 cc, .int .i64 sv, .string lt] 34)).alloc (.cells #[.string nm, .int .i64 fr, .int .i64 tt, .int .i64 mo, .int .u8 kk, .int .i64 nn, .int .i64 d, .int .i64 sc, .int .u8 cc, .int .i64 sv, .string lt] 34)).heap.size _ 1 1 [.string nm, .int .i64 fr, .int .i64 tt, .int .i64 mo, .int .u8 kk, .int .i64 nn, .int .i64 d, .int .i64 sc, .int .u8 cc, .int .i64 sv, .string lt] hx (reads_cells_at (wr.alloc (.cells #[.string nm, .int .i64 fr, .int .i64 tt, .int .i64 mo, .int .u8 kk, .int .i64 nn, .int .i64 d, .int .i64 sc, .int .u8 cc, .int .i64 sv, .string lt] 34)) (wr.heap.size + 1) #[.string nm, .int .i64 fr, .int .i64 tt, .int .i64 mo, .int .u8 kk, .int .i64 nn, .int .i64 d, .int .i64 sc, .int .u8 cc, .int .i64 sv, .string lt] 11 34 (by simp) (by rfl)) (by simp [Value.oneCell']) (by unfold maxLen; omega) (by omega) (by simp; omega) h
        clear hyes
        go_wp2_with (at_builtin; refine HAp rfl rfl rfl rfl ?_; intro v9' w9 hown9 hg9 hat9)
        have HO9 := Lib.hid (show w9.ownsRow W0.heap.size 34 11 v9' (Src.ofName nm (rules.take (k + 1))).length ((Src.ofName nm (rules.take (k + 1))).flatMap Ru.R.cells) by rw [HY.out, List.length_append, HQ.out, List.flatMap_append]; exact hown9)
        have HB9 := Lib.hid (show Below W0.heap.size W0 w9 from ((HB.out.alloc HB.out.size _).alloc (by simp; omega) _).grown hg9 (by simp; omega) (fun kk hkk => (HO.out.lt kk hkk).1))
        clear hown9 hg9 hat9 HAp x0 x1 x2 x3 x4 x5 x6 x7 x8 x9 x10 b0 b1
        go_wp2
        go_roundw
        case rel => exact ⟨k + 1, by omega, by go_num, HO9.out, HB9.out⟩
        case measure => simp [intOf]; omega
      · have HY := Lib.hid (Src.ofName_no Hx.out hnm)
        have b1 : (nm.toList == name.toList) = false := by
          rw [beq_eq_false_iff_ne]
          intro e
          exact hnm ((toList_eq_iff _ _).1 e)
        have b0 : (nm == name) = false := by rw [beq_toListBytes]; exact b1
        have HO9 := Lib.hid (show (wr.alloc (.cells #[.string nm, .int .i64 fr, .int .i64 tt, .int .i64 mo, .int .u8 kk, .int .i64 nn, .int .i64 d, .int .i64 sc, .int .u8 cc, .int .i64 sv, .string lt] 34)).ownsRow W0.heap.size 34 11 (.slice vA q vc) (Src.ofName name (rules.take (k + 1))).length ((Src.ofName name (rules.take (k + 1))).flatMap Ru.R.cells) by rw [HY.out, HQ.out]; exact HO.out.alloc _)
        have HB9 := Lib.hid (HB.out.alloc HB.out.size (.cells #[.string nm, .int .i64 fr, .int .i64 tt, .int .i64 mo, .int .u8 kk, .int .i64 nn, .int .i64 d, .int .i64 sc, .int .u8 cc, .int .i64 sv, .string lt] 34))
        clear hnm
        go_wp2
        go_roundw
        case rel => exact ⟨k + 1, by omega, by go_num, HO9.out, HB9.out⟩
        case measure => simp [intOf]; omega
    · have q2 : ¬ (k : Int) < (n1 : Int) := by omega
      have HF := Lib.hid (show wr.ownsRow W0.heap.size 34 11 (.slice vA q vc) (Src.ofName name rules).length ((Src.ofName name rules).flatMap Ru.R.cells) by
        have h1 := HO.out
        have h2 := HQ.out
        rw [List.take_of_length_le (by rw [HN.out]; omega)] at h1 h2
        rw [h2]
        exact h1)
      go_wp2
      go_ret
      exact ⟨_, rfl, below_then HB0.out HB.out, Sc.own_mono HF.out (by omega)⟩
end Go.Proofs.YtmobejhfajnbhaaDoor
/- The contract of the reference's Texts: whether two lists of texts are one. -/
namespace Go.Proofs.YtmobejhfajnbhaaDoor
open Go.RowKit

theorem list_next {α : Type} {l m : List α} {k : Nat} {a : α} (h : l.take k = m.take k) (h1 : l[k]? = some a) (h2 : m[k]? = some a) : l.take (k + 1) = m.take (k + 1) := by
  rw [List.take_add_one, List.take_add_one, h, h1, h2]
set_option maxHeartbeats 1000000 in
theorem refTexts_any (A A' : Option Addr) (n n' c c' : Nat) (ss ts : List ByteArray) (w : World) (hn : n ≤ maxLen) (hn' : n' ≤ maxLen) (hr : Reads w w.heap.size 1 A n (ss.map Value.string)) (hr' : Reads w w.heap.size 1 A' n' (ts.map Value.string)) :
    Calls Tryd.prog 50 #[.slice A n c, .slice A' n' c'] w fun e w' => e = .returned (.bool (decide (ss = ts))) ∧ Drew w w' := by
  unfold maxLen at hn hn'
  have h1 : ss.length = n := by have := hr.1; simpa using this
  have h2 : ts.length = n' := by have := hr'.1; simpa using this
  by_cases he : n = n'
  · subst he
    have q0 : ((n : Int) != (n : Int)) = false := by simp
    have H1 := Lib.hid h1
    have H2 := Lib.hid h2
    have HR := Lib.hid hr
    have HR' := Lib.hid hr'
    clear h1 h2 hr hr'
    go_enter Tryd.func50, Tryd.ntmps50
    go_wp2
    go_loopw [13] (fun i wr => ∃ k : Nat, k ≤ n ∧ i = .int .i64 k ∧ Hid (Drew w wr) ∧ Hid (ss.take k = ts.take k)) (fun i _ => n - (intOf i).toNat)
    case atStart => exact ⟨0, Nat.zero_le _, rfl, Drew.refl w, rfl⟩
    case round =>
      obtain ⟨k, hk, rfl, HD, HE⟩ := hrel
      by_cases hlt : k < n
      · obtain ⟨ad, x, rfl, hx, hcell⟩ : ∃ ad nm, A = some ad ∧ Hid (ss[k]? = some nm) ∧ wr.cell? (ad.add k) = some (.string nm) := reads_str (HR.out.of_drew HD.out) hlt
        obtain ⟨ad', y, rfl, hy, hcell'⟩ : ∃ ad nm, A' = some ad ∧ Hid (ts[k]? = some nm) ∧ wr.cell? (ad.add k) = some (.string nm) := reads_str (HR'.out.of_drew HD.out) hlt
        have q1 : (0 : Int) ≤ (k : Int) := by omega
        have q2 : (k : Int) < (n : Int) := by omega
        by_cases hxy : x = y
        · subst hxy
          have HN := Lib.hid (list_next HE.out hx.out hy.out)
          go_wp2
          go_quiet (fail)
          go_wp2
          go_roundw
          case rel => exact ⟨k + 1, by omega, by go_num, by first | exact HD.out | exact HD.out.drewN _, HN⟩
          case measure => simp [intOf]; omega
        · have qe : (x.toList == y.toList) = false := by
            rw [beq_eq_false_iff_ne]
            intro e
            apply hxy
            rw [ByteArray.toList_eq, ByteArray.toList_eq] at e
            apply ByteArray.ext
            exact Array.ext' e
          have qe' : ¬ x.toList = y.toList := by simpa using qe
          have HN : Hid (decide (ss = ts) = false) := by
            show decide (ss = ts) = false
            apply decide_eq_false
            intro e
            apply hxy
            have a := hx.out
            rw [e, hy.out] at a
            exact (Option.some.inj a).symm
          clear hxy
          go_wp2
          go_quiet (fail)
          go_wp2
          go_ret
          exact ⟨ret_bool (by rw [HN.out]), by first | exact HD.out | exact HD.out.drewN _⟩
      · obtain rfl : k = n := by omega
        have HN : Hid (decide (ss = ts) = true) := by
          show decide (ss = ts) = true
          apply decide_eq_true
          have e := HE.out
          rw [List.take_of_length_le (by have := H1.out; omega), List.take_of_length_le (by have := H2.out; omega)] at e
          exact e
        go_wp2
        go_ret
        exact ⟨ret_bool (by rw [HN.out]), HD.out⟩
  · have q0 : ((n : Int) != (n' : Int)) = true := by simp; omega
    have HN : Hid (decide (ss = ts) = false) := by
      show decide (ss = ts) = false
      apply decide_eq_false
      intro e
      apply he
      rw [← h1, ← h2, e]
    clear h1 h2 hr hr' he
    go_enter Tryd.func50, Tryd.ntmps50
    go_wp2
    go_ret
    exact ⟨ret_bool (by rw [HN.out]), Drew.refl w⟩
end Go.Proofs.YtmobejhfajnbhaaDoor
/- The statements' own 'lives' of package moment. -/
namespace Go.Proofs.YtmobejhfajnbhaaDoor
open Go.RowKit

instance : DecidableEq Mo.U := fun a b => decidable_of_iff (a.y = b.y ∧ a.m = b.m ∧ a.k = b.k ∧ a.n = b.n ∧ a.d = b.d ∧ a.s = b.s ∧ a.c = b.c) (by cases a; cases b; simp)
theorem momParse_is (s : ByteArray) (w : World) (hW : Wp w) (hs : s.size ≤ 1000000) (a b d : Int) (h : Mo.parse s = ((a, b), d)) :
    Calls Tryd.prog 112 #[.string s] w fun e w' => e = .returned (.tuple #[.agg #[.int .i64 a, .int .u8 b], .int .i64 d]) ∧ Below w.heap.size w w' := calls_val (momParse_any s w hW hs) (by rw [h])
theorem parseUntil_is (A : Option Addr) (n c : Nat) (ss : List ByteArray) (w : World) (hW : Wp w) (hn : n ≤ maxLen) (hr : Reads w w.heap.size 1 A n (ss.map Value.string)) (hs : ∀ t ∈ ss, t.size ≤ 1000000) (u : Mo.U) (a b : Int) (h : Mo.uParse ss = (u, a, b)) :
    Calls Tryd.prog 75 #[.slice A n c] w fun e w' => e = .returned (.tuple #[u.v, .int .i64 a, .int .i64 b]) ∧ Below w.heap.size w w' := calls_val (parseUntil_any A n c ss w hW hn hr hs) (by rw [h])
theorem itoa_1999 : Lib.itoa 1999 = [49, 57, 57, 57] := by
  unfold Lib.itoa
  rw [if_neg (by decide)]
  rw [Lib.decDigits, dif_neg (by decide), Lib.decDigits, dif_neg (by decide), Lib.decDigits, dif_neg (by decide), Lib.decDigits, dif_pos (by decide)]
  rfl
def Mo.uOct : Mo.U := ⟨1999, 10, 0, 1, 0, 0, 0⟩
theorem oct_ok : Mo.uOct.Ok := ⟨⟨by decide +kernel, by decide +kernel, by decide +kernel, by decide +kernel⟩, by decide +kernel, by decide +kernel⟩
theorem texts_oct : Mo.uOct.texts = [⟨#[49, 57, 57, 57]⟩, ⟨#[79, 99, 116]⟩] := by
  have e1 : (⟨(Mo.text 0 0).toArray⟩ : ByteArray) = Mo.u3 := by unfold Mo.text; rw [text_eq]; decide +kernel
  have e2 : (⟨(Dy.text 0 1 0).toArray⟩ : ByteArray) = Mo.u2 := by decide +kernel
  have e3 : ¬ textOf Months (10 - 1) = Mo.u1 := by decide +kernel
  have hc : Mo.uOct.count = 2 := by
    unfold Mo.U.count Mo.uOct
    rw [if_pos e1, if_pos e2, if_neg e3]
  unfold Mo.U.texts
  rw [hc]
  unfold Mo.U.full Mo.uOct
  simp only [itoa_1999]
  decide +kernel
theorem reads_at (w : World) (g : Nat) (l : List ByteArray) (t : TypeId) (hg : g = w.heap.size) : Reads (w.alloc (.cells (strCells l) t)) (w.alloc (.cells (strCells l) t)).heap.size 1 (some ⟨g, 0, none⟩) l.length (l.map Value.string) := by
  subst hg
  exact reads_new w l t
theorem texts_yes (A A' : Option Addr) (n n' c c' : Nat) (ss ts : List ByteArray) (w : World) (hn : n ≤ maxLen) (hn' : n' ≤ maxLen) (hr : Reads w w.heap.size 1 A n (ss.map Value.string)) (hr' : Reads w w.heap.size 1 A' n' (ts.map Value.string)) (h : ss = ts) :
    Calls Tryd.prog 50 #[.slice A n c, .slice A' n' c'] w fun e w' => e = .returned (.bool true) ∧ Below w.heap.size w w' :=
  (calls_bool (refTexts_any A A' n n' c c' ss ts w hn hn' hr hr') (by rw [h]; simp)).mono fun _ _ ⟨a, d⟩ => ⟨a, d.below _⟩

end Go.Proofs.YtmobejhfajnbhaaDoor
