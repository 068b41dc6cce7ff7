/- source.Check of any source, however long its names are, and however many there are. -/
import Derived.Test.YtjobhjemnmleaaaGreatDoorQ28
set_option maxRecDepth 100000
set_option maxHeartbeats 4000000
namespace Go.Proofs.YtjobhjemnmleaaaGreatDoor
open Go.RowKit
theorem checkLetter_noW (s : ByteArray) (w : World) (hs : s.size ≤ maxLen) (h : Ab.letter s = false) :
  Calls Tryz.prog 129 #[.string s] w fun e w' => e = .returned (.int .i64 2) ∧ Below w.heap.size w w' := by
 unfold Ab.letter at h
 by_cases h1 : s.size ≤ 32
 ·have q1 : ¬ (32 : Int) < (s.size : Int) := by omega
  rw [decide_eq_true h1, Bool.true_and] at h
  by_cases h2 : s = ⟨#[45]⟩
  ·have q2 : (s.toList == [45]) = true := by rw [h2, ByteArray.toList_eq]; rfl
   clear h h1 h2;go_enter Tryz.func129, Tryz.ntmps129
   go_wp2;go_ret
   exact ⟨rfl, Below.refl _ _⟩
  ·rw [decide_eq_false h2] at h;have h3 : Ab.signs (tl s) = false := by simpa using h
   have q2 : (s.toList == [45]) = false := ba_ne s [45] h2;have HS := Lib.hid fun W => calls_bool (signs_any _ 1 1 [s] (W.alloc (.cells #[.string s] 9)) (by decide) (reads_one W s _) (by intro t ht; simp at ht; subst ht; omega)) (show _ = false by unfold Ab.all; simp [h3])
   clear h h1 h2 h3;go_enter Tryz.func129, Tryz.ntmps129
   go_wp2_with fail
   refine (HS.out _).mono ?_;rintro e w1 ⟨rfl, rfl⟩;go_wp2;go_ret
   exact ⟨rfl, (Below.refl _ _).alloc (Nat.le_refl _) _⟩
 ·have q1 : (32 : Int) < (s.size : Int) := by omega
  clear h h1;go_enter Tryz.func129, Tryz.ntmps129
  go_wp2;go_ret
  exact ⟨rfl, Below.refl _ _⟩
theorem ruleCheck_0W (nm : ByteArray) (fr tt mo k n d s c sv : Int) (lt : ByteArray) (w : World) (hs1 : nm.size ≤ maxLen) (hN : Ru.name (tl nm) = false) :
  Calls Tryz.prog 88 #[.agg #[.string nm, .int .i64 fr, .int .i64 tt, .int .i64 mo, .int .u8 k, .int .i64 n, .int .i64 d, .int .i64 s, .int .u8 c, .int .i64 sv, .string lt]] w fun e w' => e = .returned (.int .i64 2) ∧ Below w.heap.size w w' := by
 have HB := Lib.hid (Below.refl w.heap.size w);have H0 := Lib.hid fun W => calls_bool (name_all nm W hs1) hN
 clear hN hs1;go_enter Tryz.func88, Tryz.ntmps88
 go_wp2_with fail
 refine (H0.out _).mono ?_;rintro e w1 ⟨rfl, hb⟩;have hbz := below_then (HB.out.alloc (by have := HB.out.size; first | exact this | (simp; omega)) _) hb;have Rr := Lib.hid ((At.new w #[.string nm, .int .i64 fr, .int .i64 tt, .int .i64 mo, .int .u8 k, .int .i64 n, .int .i64 d, .int .i64 s, .int .u8 c, .int .i64 sv, .string lt] 112).call hb);replace HB := Lib.hid hbz;clear hb hbz;obtain ⟨zRr, Rrc0, Rrc1, Rrc2, Rrc3, Rrc4, Rrc5, Rrc6, Rrc7, Rrc8, Rrc9, Rrc10⟩ := Rr.out.c11;go_wp2;go_ret
 exact ⟨rfl, HB.out⟩
theorem ruleCheck_6W (nm : ByteArray) (fr tt mo k n d s c sv : Int) (lt : ByteArray) (w : World) (hs1 : nm.size ≤ 1000000) (hs2 : lt.size ≤ maxLen) (hN : Ru.name (tl nm) = true) (h4 : (decide (1 ≤ fr) && decide (fr ≤ tt) && decide (tt ≤ 9999)) = true) (h3 : (decide (1 ≤ mo) && decide (mo ≤ 12)) = true) (hD : Dy.Ok k n d) (hM : Mo.Ok s c) (hV : IsTime sv) (hL : Ab.letter lt = false) :
  Calls Tryz.prog 88 #[.agg #[.string nm, .int .i64 fr, .int .i64 tt, .int .i64 mo, .int .u8 k, .int .i64 n, .int .i64 d, .int .i64 s, .int .u8 c, .int .i64 sv, .string lt]] w fun e w' => e = .returned (.int .i64 2) ∧ Below w.heap.size w w' := by
 have HB := Lib.hid (Below.refl w.heap.size w);have H0 := Lib.hid fun W => calls_bool (name_any nm W hs1) hN
 have H1 := Lib.hid fun W => calls_bool (rising4_any 1 fr tt 9999 W) h4
 have H2 := Lib.hid fun W => calls_bool (rising3_any 1 mo 12 W) h3
 have H3 := Lib.hid fun W => dayCheck_ok k n d W hD
 have H4 := Lib.hid fun W => momCheck_ok s c W hM
 obtain ⟨v1, v2⟩ := hV;have H6 := Lib.hid fun W => checkLetter_noW lt W hs2 hL
 clear hN h4 h3 hD hM hL hs1 hs2;go_enter Tryz.func88, Tryz.ntmps88
 go_wp2_with fail
 refine (H0.out _).mono ?_;rintro e w1 ⟨rfl, hb⟩;have hbz := below_then (HB.out.alloc (by have := HB.out.size; first | exact this | (simp; omega)) _) hb;have Rr := Lib.hid ((At.new w #[.string nm, .int .i64 fr, .int .i64 tt, .int .i64 mo, .int .u8 k, .int .i64 n, .int .i64 d, .int .i64 s, .int .u8 c, .int .i64 sv, .string lt] 112).call hb);replace HB := Lib.hid hbz;clear hb hbz;obtain ⟨zRr, Rrc0, Rrc1, Rrc2, Rrc3, Rrc4, Rrc5, Rrc6, Rrc7, Rrc8, Rrc9, Rrc10⟩ := Rr.out.c11;go_wp2_with fail
 refine (H1.out _).mono ?_;rintro e w2 ⟨rfl, hb⟩;have hbz := below_then HB.out hb;have Rr' := Rr.out.call hb;clear Rr;have Rr := Lib.hid Rr';clear Rr';replace HB := Lib.hid hbz;clear hb hbz;clear zRr Rrc0 Rrc1 Rrc2 Rrc3 Rrc4 Rrc5 Rrc6 Rrc7 Rrc8 Rrc9 Rrc10;obtain ⟨zRr, Rrc0, Rrc1, Rrc2, Rrc3, Rrc4, Rrc5, Rrc6, Rrc7, Rrc8, Rrc9, Rrc10⟩ := Rr.out.c11;go_wp2_with fail
 refine (H2.out _).mono ?_;rintro e w3 ⟨rfl, hb⟩;have hbz := below_then HB.out hb;have Rr' := Rr.out.call hb;clear Rr;have Rr := Lib.hid Rr';clear Rr';replace HB := Lib.hid hbz;clear hb hbz;clear zRr Rrc0 Rrc1 Rrc2 Rrc3 Rrc4 Rrc5 Rrc6 Rrc7 Rrc8 Rrc9 Rrc10;obtain ⟨zRr, Rrc0, Rrc1, Rrc2, Rrc3, Rrc4, Rrc5, Rrc6, Rrc7, Rrc8, Rrc9, Rrc10⟩ := Rr.out.c11;go_wp2_with fail
 refine (H3.out _).mono ?_;rintro e w4 ⟨rfl, hb⟩;have hbz := below_then HB.out hb;have Rr' := Rr.out.call hb;clear Rr;have Rr := Lib.hid Rr';clear Rr';replace HB := Lib.hid hbz;clear hb hbz;clear zRr Rrc0 Rrc1 Rrc2 Rrc3 Rrc4 Rrc5 Rrc6 Rrc7 Rrc8 Rrc9 Rrc10;obtain ⟨zRr, Rrc0, Rrc1, Rrc2, Rrc3, Rrc4, Rrc5, Rrc6, Rrc7, Rrc8, Rrc9, Rrc10⟩ := Rr.out.c11;go_wp2_with fail
 refine (H4.out _).mono ?_;rintro e w5 ⟨rfl, hb⟩;have hbz := below_then HB.out hb;have Rr' := Rr.out.call hb;clear Rr;have Rr := Lib.hid Rr';clear Rr';replace HB := Lib.hid hbz;clear hb hbz;clear zRr Rrc0 Rrc1 Rrc2 Rrc3 Rrc4 Rrc5 Rrc6 Rrc7 Rrc8 Rrc9 Rrc10;obtain ⟨zRr, Rrc0, Rrc1, Rrc2, Rrc3, Rrc4, Rrc5, Rrc6, Rrc7, Rrc8, Rrc9, Rrc10⟩ := Rr.out.c11;go_wp2_with fail
 refine (H6.out _).mono ?_;rintro e w6 ⟨rfl, hb⟩;have hbz := below_then HB.out hb;have Rr' := Rr.out.call hb;clear Rr;have Rr := Lib.hid Rr';clear Rr';replace HB := Lib.hid hbz;clear hb hbz;clear zRr Rrc0 Rrc1 Rrc2 Rrc3 Rrc4 Rrc5 Rrc6 Rrc7 Rrc8 Rrc9 Rrc10;obtain ⟨zRr, Rrc0, Rrc1, Rrc2, Rrc3, Rrc4, Rrc5, Rrc6, Rrc7, Rrc8, Rrc9, Rrc10⟩ := Rr.out.c11;go_wp2;go_ret
 exact ⟨rfl, HB.out⟩
theorem ruleCheck_badW (r : Ru.R) (w : World) (h : ¬ r.Ok) (hs1 : r.nm.size ≤ maxLen) (hs2 : r.lt.size ≤ maxLen) :
  Calls Tryz.prog 88 #[r.v] w fun e w' => e = .returned (.int .i64 2) ∧ Below w.heap.size w w' := by
 by_cases h1 : Ru.name (tl r.nm) = true
 ·have hs1' : r.nm.size ≤ 1000000 := by have := Src.name_len h1; rw [tl_length] at this; omega
  by_cases h2 : 1 ≤ r.fr ∧ r.fr ≤ r.tt ∧ r.tt ≤ 9999
  ·have e2 : (decide (1 ≤ r.fr) && decide (r.fr ≤ r.tt) && decide (r.tt ≤ 9999)) = true := by simp [h2.1, h2.2.1, h2.2.2]
   by_cases h3 : 1 ≤ r.mo ∧ r.mo ≤ 12
   ·have e3 : (decide (1 ≤ r.mo) && decide (r.mo ≤ 12)) = true := by simp [h3.1, h3.2]
    by_cases h4 : Dy.Ok r.k r.n r.d
    ·by_cases h5 : Mo.Ok r.s r.c
     ·by_cases h6 : IsTime r.sv
      ·have h7 : Ab.letter r.lt = false := by
        cases hx : Ab.letter r.lt
        ·rfl
        ·exact absurd ⟨h1, h2, h3, h4, h5, h6, hx⟩ h
       exact ruleCheck_6W r.nm r.fr r.tt r.mo r.k r.n r.d r.s r.c r.sv r.lt w hs1' hs2 h1 e2 e3 h4 h5 h6 h7
      ·exact ruleCheck_5 r.nm r.fr r.tt r.mo r.k r.n r.d r.s r.c r.sv r.lt w hs1' h1 e2 e3 h4 h5 h6
     ·exact ruleCheck_4 r.nm r.fr r.tt r.mo r.k r.n r.d r.s r.c r.sv r.lt w hs1' h1 e2 e3 h4 h5
    ·exact ruleCheck_3 r.nm r.fr r.tt r.mo r.k r.n r.d r.s r.c r.sv r.lt w hs1' h1 e2 e3 h4
   ·exact ruleCheck_2 r.nm r.fr r.tt r.mo r.k r.n r.d r.s r.c r.sv r.lt w hs1' h1 e2 (by rw [← Bool.not_eq_true]; intro x; simp at x; exact h3 x)
  ·exact ruleCheck_1 r.nm r.fr r.tt r.mo r.k r.n r.d r.s r.c r.sv r.lt w hs1' h1 (by rw [← Bool.not_eq_true]; intro x; simp at x; exact h2 ⟨x.1.1, x.1.2, x.2⟩)
 ·exact ruleCheck_0W r.nm r.fr r.tt r.mo r.k r.n r.d r.s r.c r.sv r.lt w hs1 (by simpa using h1)
theorem wrongRule_anyW (r : Ru.R) (w : World) (h1 : r.nm.size ≤ maxLen) (h2 : r.lt.size ≤ maxLen) : Calls Tryz.prog 87 #[r.v] w fun e w' => e = .returned (.bool (!r.good)) ∧ Below w.heap.size w w' := by
 cases hg : r.good
 ·have hn : ¬ r.Ok := fun h => by rw [(Ru.R.good_iff r).2 h] at hg; cases hg
  have HC := Lib.hid fun W => ruleCheck_badW r W hn h1 h2
  obtain ⟨nm, fr, tt, mo, k, n, d, s, c, sv, lt⟩ := r;unfold Ru.R.v at HC ⊢;clear hn hg h1 h2;have HB := Lib.hid ((Below.refl w.heap.size w).alloc (Nat.le_refl _) (.cells #[.string nm, .int .i64 fr, .int .i64 tt, .int .i64 mo, .int .u8 k, .int .i64 n, .int .i64 d, .int .i64 s, .int .u8 c, .int .i64 sv, .string lt] 112));go_enter Tryz.func87, Tryz.ntmps87
  go_wp2_with fail
  refine (HC.out _).mono ?_;rintro e w1 ⟨rfl, hb⟩;replace HB := Lib.hid (below_then HB.out hb);clear hb;go_wp2;go_ret
  exact ⟨rfl, HB.out⟩
 ·have hok := (Ru.R.good_iff r).1 hg;have hz1 : r.nm.size ≤ 1000000 := by have := Src.name_len hok.1; rw [tl_length] at this; omega
  have hz2 : r.lt.size ≤ 1000000 := by
   have hl := hok.2.2.2.2.2.2;unfold Ab.letter at hl;simp only [Bool.and_eq_true, decide_eq_true_eq] at hl;omega
  have HC := Lib.hid fun W => ruleCheck_ok r W hok hz1 hz2
  clear hok hz1 hz2;obtain ⟨nm, fr, tt, mo, k, n, d, s, c, sv, lt⟩ := r;unfold Ru.R.v at HC ⊢;clear hg h1 h2;have HB := Lib.hid ((Below.refl w.heap.size w).alloc (Nat.le_refl _) (.cells #[.string nm, .int .i64 fr, .int .i64 tt, .int .i64 mo, .int .u8 k, .int .i64 n, .int .i64 d, .int .i64 s, .int .u8 c, .int .i64 sv, .string lt] 112));go_enter Tryz.func87, Tryz.ntmps87
  go_wp2_with fail
  refine (HC.out _).mono ?_;rintro e w1 ⟨rfl, hb⟩;replace HB := Lib.hid (below_then HB.out hb);clear hb;go_wp2;go_ret
  exact ⟨rfl, HB.out⟩
theorem name_btsW (t : Src.Txt) (w : World) (h : t.length ≤ maxLen) (b : Bool) (hb : Ru.name t = b) : Calls Tryz.prog 92 #[.string (Src.bts t)] w fun e w' => e = .returned (.bool b) ∧ Below w.heap.size w w' := by
 have := name_all (Src.bts t) w h;rw [show tl (Src.bts t) = t from tl_mk t, hb] at this;exact this
theorem wrongLink_anyW (k : Src.Txt × Src.Txt) (w : World) (h1 : k.1.length ≤ maxLen) (h2 : k.2.length ≤ maxLen) : Calls Tryz.prog 91 #[Src.lv k] w fun e w' => e = .returned (.bool (!Src.linkB k)) ∧ Below w.heap.size w w' := by
 obtain ⟨a, b⟩ := k;unfold Src.lv Src.linkB;simp only at h1 h2 ⊢;obtain ⟨va, hva⟩ : ∃ v, Ru.name a = v := ⟨_, rfl⟩
 obtain ⟨vb, hvb⟩ : ∃ v, Ru.name b = v := ⟨_, rfl⟩
 have H1 := Lib.hid fun W => name_btsW a W h1 va hva
 have H2 := Lib.hid fun W => name_btsW b W h2 vb hvb
 rw [hva, hvb];obtain ⟨xa, hxa⟩ : ∃ x, Src.bts a = x := ⟨_, rfl⟩
 obtain ⟨xb, hxb⟩ : ∃ x, Src.bts b = x := ⟨_, rfl⟩
 rw [hxa, hxb];rw [hxa] at H1;rw [hxb] at H2;clear h1 h2 hva hvb hxa hxb;have HB := Lib.hid ((Below.refl w.heap.size w).alloc (Nat.le_refl _) (.cells #[.string xa, .string xb] 114));have HA := Lib.hid (At.new w #[.string xa, .string xb] 114);cases va
 ·go_enter Tryz.func91, Tryz.ntmps91
  go_wp2_with fail
  refine (H1.out _).mono ?_;rintro e w1 ⟨rfl, hb⟩;replace HB := Lib.hid (below_then HB.out hb);clear hb;go_wp2;go_ret
  exact ⟨rfl, HB.out⟩
 ·go_enter Tryz.func91, Tryz.ntmps91
  go_wp2_with fail
  refine (H1.out _).mono ?_;rintro e w1 ⟨rfl, hb⟩;have HA1 := Lib.hid (HA.out.call hb);replace HB := Lib.hid (below_then HB.out hb);clear hb;obtain ⟨a0, a1, _⟩ := HA1.out.two;go_wp2_with fail
  refine (H2.out _).mono ?_;rintro e w2 ⟨rfl, hb⟩;replace HB := Lib.hid (below_then HB.out hb);clear hb;go_wp2;go_ret
  exact ⟨rfl, HB.out⟩
theorem rightZone_anyW (z : (Src.Txt × List Er.E) × Value) (w : World) (hW : Wa w) (hr : Src.RowR w w.heap.size 13 z.1.2.length z.2 (z.1.2.flatMap Er.E.cells)) (h1 : z.1.1.length ≤ maxLen) (h2 : ∀ e ∈ z.1.2, e.fm.size ≤ maxLen ∧ e.ru.size ≤ maxLen) :
  Calls Tryz.prog 90 #[Src.zv z] w fun e w' => e = .returned (.bool (Src.zoneB z.1)) ∧ Below w.heap.size w w' := by
 obtain ⟨⟨nm, es⟩, ev⟩ := z;unfold Src.zv Src.zoneB;simp only at hr h1 h2 ⊢;obtain ⟨A, c, rfl, hnc, hcm, hrr⟩ := hr;obtain ⟨vn, hvn⟩ : ∃ v, Ru.name nm = v := ⟨_, rfl⟩
 have H1 := Lib.hid fun W => name_btsW nm W h1 vn hvn
 rw [hvn];obtain ⟨xn, hxn⟩ : ∃ x, Src.bts nm = x := ⟨_, rfl⟩
 rw [hxn] at H1 ⊢;obtain ⟨n, hn⟩ : ∃ n, es.length = n := ⟨_, rfl⟩
 obtain ⟨X, hX⟩ : ∃ X, Src.erasB es = X := ⟨_, rfl⟩
 rw [hX];rw [hn] at hrr hnc ⊢;have HN := Lib.hid hn;have HX := Lib.hid hX.symm;have HR := Lib.hid hrr;have HS := Lib.hid h2;have HW := Lib.hid hW;unfold maxLen at hcm;clear h1 hvn hxn hn hX hrr h2 hW;have HB0 := Lib.hid ((Below.refl w.heap.size w).alloc (Nat.le_refl _) (.cells #[.string xn, .slice A n c] 117));have HA0 := Lib.hid (At.new w #[.string xn, .slice A n c] 117);obtain ⟨h, hh⟩ : ∃ h, w.heap.size = h := ⟨_, rfl⟩
 have HH := Lib.hid hh;cases vn
 ·go_enter Tryz.func90, Tryz.ntmps90
  go_wp2_with fail
  refine (H1.out _).mono ?_;rintro e w1 ⟨rfl, hb⟩;replace HB0 := Lib.hid (below_then HB0.out hb);clear hb;go_wp2;go_ret
  exact ⟨rfl, HB0.out⟩
 by_cases hn1 : n < 1
 ·have q1 : (n : Int) < 1 := by omega
  go_enter Tryz.func90, Tryz.ntmps90
  go_wp2_with fail
  refine (H1.out _).mono ?_;rintro e w1 ⟨rfl, hb⟩;have HA1 := Lib.hid (HA0.out.call hb);replace HB0 := Lib.hid (below_then HB0.out hb);clear hb;rw [hh] at HA1;obtain ⟨a0, a1, _⟩ := HA1.out.two;go_wp2;go_ret
  rw [decide_eq_false (by omega)];exact ⟨rfl, HB0.out⟩
 have q1 : ¬ (n : Int) < 1 := by omega
 by_cases hn2 : 64 < n
 ·have q2 : (64 : Int) < (n : Int) := by omega
  go_enter Tryz.func90, Tryz.ntmps90
  go_wp2_with fail
  refine (H1.out _).mono ?_;rintro e w1 ⟨rfl, hb⟩;have HA1 := Lib.hid (HA0.out.call hb);replace HB0 := Lib.hid (below_then HB0.out hb);clear hb;rw [hh] at HA1;obtain ⟨a0, a1, _⟩ := HA1.out.two;go_wp2;go_ret
  rw [decide_eq_true (show 1 ≤ n by omega), decide_eq_false (show ¬ n ≤ 64 by omega)];exact ⟨rfl, HB0.out⟩
 have q2 : ¬ (64 : Int) < (n : Int) := by omega
 have HY : Hid ((true && (decide (1 ≤ n) && (decide (n ≤ 64) && X))) = X) := by
  show _ = _
  rw [decide_eq_true (show 1 ≤ n by omega), decide_eq_true (show n ≤ 64 by omega)];rfl
 rw [HY.out];go_enter Tryz.func90, Tryz.ntmps90
 go_wp2_with fail
 refine (H1.out _).mono ?_;rintro e w1 ⟨rfl, hb⟩;have HA1 := Lib.hid (HA0.out.call hb);have HB1 := Lib.hid (below_then HB0.out hb);clear hb;rw [hh] at HA1;obtain ⟨a0, a1, _⟩ := HA1.out.two;go_wp2_with fail
 clear a0 a1 hh;go_loopw [24] (fun i wr => ∃ k : Nat, k ≤ n ∧ i = .int .i64 k ∧ Hid (X = Src.erasB (es.drop k)) ∧ Hid (At wr h [.string xn, .slice A n c]) ∧ Hid (Below w.heap.size w wr)) (fun i _ => n - (intOf i).toNat)
 case atStart => exact ⟨0, Nat.zero_le _, rfl, HX.out, HA1.out, HB1.out⟩
 case round =>
  obtain ⟨i, hi, rfl, HK, HA, HB⟩ := hrel
  by_cases hlt : i < n
  ·have q3 : (0 : Int) ≤ (i : Int) := by omega
   have q4 : (i : Int) < (n : Int) := by omega
   obtain ⟨ad, x, rfl, hab, Hx, HL0⟩ := Ix.reads_cells (enc := Er.E.cells) (m := 13) (fun _ => rfl) HN.out (HR.out.below HB.out) hlt;have hsm := HS.out x (List.mem_of_getElem? Hx.out);have hnx := erasB_next HK.out Hx.out HN.out;have hC := fun W hw => eraCheck_any x W hw hsm.1 hsm.2
   obtain ⟨q, hq⟩ : ∃ q, Er.chk x = q := ⟨_, rfl⟩
   have hgood : x.good = decide (q = 0) := by unfold Er.E.good; rw [hq]
   simp only [hq] at hC;rw [hgood] at hnx;obtain ⟨std, k, sv, ru, fm, en, ⟨y, m, dk, dn, dd, sc, cc⟩⟩ := x;simp only at hnx;unfold Er.E.v at hC;simp only at hC;have x0 : wr.cell? (ad.add (i * 13)) = some (.int .i64 std) := HL0.out 0 _ rfl;have x1 : wr.cell? ⟨(ad.add (i * 13)).block, (ad.add (i * 13)).off + 1, none⟩ = some (.int .u8 k) := HL0.out 1 _ rfl;have x2 : wr.cell? ⟨(ad.add (i * 13)).block, (ad.add (i * 13)).off + 2, none⟩ = some (.int .i64 sv) := HL0.out 2 _ rfl;have x3 : wr.cell? ⟨(ad.add (i * 13)).block, (ad.add (i * 13)).off + 3, none⟩ = some (.string ru) := HL0.out 3 _ rfl;have x4 : wr.cell? ⟨(ad.add (i * 13)).block, (ad.add (i * 13)).off + 4, none⟩ = some (.string fm) := HL0.out 4 _ rfl;have x5 : wr.cell? ⟨(ad.add (i * 13)).block, (ad.add (i * 13)).off + 5, none⟩ = some (.bool en) := HL0.out 5 _ rfl;have x6 : wr.cell? ⟨(ad.add (i * 13)).block, (ad.add (i * 13)).off + 6, none⟩ = some (.int .i64 y) := HL0.out 6 _ rfl;have x7 : wr.cell? ⟨(ad.add (i * 13)).block, (ad.add (i * 13)).off + 7, none⟩ = some (.int .i64 m) := HL0.out 7 _ rfl;have x8 : wr.cell? ⟨(ad.add (i * 13)).block, (ad.add (i * 13)).off + 8, none⟩ = some (.int .u8 dk) := HL0.out 8 _ rfl;have x9 : wr.cell? ⟨(ad.add (i * 13)).block, (ad.add (i * 13)).off + 9, none⟩ = some (.int .i64 dn) := HL0.out 9 _ rfl;have x10 : wr.cell? ⟨(ad.add (i * 13)).block, (ad.add (i * 13)).off + 10, none⟩ = some (.int .i64 dd) := HL0.out 10 _ rfl;have x11 : wr.cell? ⟨(ad.add (i * 13)).block, (ad.add (i * 13)).off + 11, none⟩ = some (.int .i64 sc) := HL0.out 11 _ rfl
   have x12 : wr.cell? ⟨(ad.add (i * 13)).block, (ad.add (i * 13)).off + 12, none⟩ = some (.int .u8 cc) := HL0.out 12 _ rfl;have HC := Lib.hid hC;have HNX := Lib.hid hnx;clear hC hnx hq hgood hsm;have HA2 := Lib.hid (HA.out.allocO (.cells #[.int .i64 std, .int .u8 k, .int .i64 sv, .string ru, .string fm, .bool en, .int .i64 y, .int .i64 m, .int .u8 dk, .int .i64 dn, .int .i64 dd, .int .i64 sc, .int .u8 cc] 191));have HE2 := Lib.hid (At.new wr #[.int .i64 std, .int .u8 k, .int .i64 sv, .string ru, .string fm, .bool en, .int .i64 y, .int .i64 m, .int .u8 dk, .int .i64 dn, .int .i64 dd, .int .i64 sc, .int .u8 cc] 191);have HB2 := Lib.hid (HB.out.alloc HB.out.size (.cells #[.int .i64 std, .int .u8 k, .int .i64 sv, .string ru, .string fm, .bool en, .int .i64 y, .int .i64 m, .int .u8 dk, .int .i64 dn, .int .i64 dd, .int .i64 sc, .int .u8 cc] 191));obtain ⟨g, hg⟩ : ∃ g, wr.heap.size = g := ⟨_, rfl⟩
   have wn : IntKind.i64.wrap ((n : Int) - 1) = (n : Int) - 1 := IntWalk.i64_in _ (by omega);go_wp2_with fail
   refine (HC.out _ (HW.out.below HB2.out)).mono ?_;rintro e w2 ⟨rfl, hb⟩;have HA3 := Lib.hid (HA2.out.call hb);have HE3 := Lib.hid (HE2.out.call hb);have HB3 := Lib.hid (below_then HB2.out hb);clear hb HA2 HE2 HB2;rw [hg] at HE3;clear hg x0 x1 x2 x3 x4 x5 x6 x7 x8 x9 x10 x11 x12
   by_cases hq0 : q = 0
   ·subst hq0;have e5 := HE3.out.cell 5 _ rfl;obtain ⟨a0, a1, _⟩ := HA3.out.two
    by_cases hen : en = decide ((i : Int) < (n : Int) - 1)
    ·have HQ : Hid (X = Src.erasB (es.drop (i + 1))) := by
      show _ = _
      rw [HNX.out, hen];simp
     subst hen;go_wp2;go_roundw
     case rel => exact ⟨i + 1, by omega, by go_num, HQ.out, HA3.out, HB3.out⟩
     case measure => simp [intOf]; omega
    ·have hne : en = !decide ((i : Int) < (n : Int) - 1) := by
      revert hen
      cases en <;> cases decide ((i : Int) < (n : Int) - 1) <;> simp
     have HQ : Hid (X = false) := by
      show _ = _
      rw [HNX.out, hne];cases decide ((i : Int) < (n : Int) - 1) <;> rfl
     subst hne;clear hen;go_wp2;go_ret
     exact ⟨ret_bool HQ.out.symm, HB3.out⟩
   ·have e0 : (q == 0) = false := by rw [beq_eq_false_iff_ne]; exact hq0
    have HQ : Hid (X = false) := by
     show _ = _
     rw [HNX.out, decide_eq_false hq0];rfl
    have e1 : (q != 0) = true := by simpa using hq0
    clear hq0;go_wp2;go_ret
    exact ⟨ret_bool HQ.out.symm, HB3.out⟩
  ·have q4 : ¬ (i : Int) < (n : Int) := by omega
   have HE := Lib.hid (erasB_end HK.out (by rw [HN.out]; omega));go_wp2;go_ret
   exact ⟨ret_bool HE.out.symm, HB.out⟩
theorem wrongZone_anyW (z : (Src.Txt × List Er.E) × Value) (w : World) (hW : Wa w) (hr : Src.RowR w w.heap.size 13 z.1.2.length z.2 (z.1.2.flatMap Er.E.cells)) (h1 : z.1.1.length ≤ maxLen) (h2 : ∀ e ∈ z.1.2, e.fm.size ≤ maxLen ∧ e.ru.size ≤ maxLen) :
  Calls Tryz.prog 89 #[Src.zv z] w fun e w' => e = .returned (.bool (!Src.zoneB z.1)) ∧ Below w.heap.size w w' := by
 have hC := fun W (hb : Below w.heap.size w W) => rightZone_anyW z W (hW.below hb) ((hr.below hb).more hb.size) h1 h2
 obtain ⟨v, hv⟩ : ∃ v, Src.zoneB z.1 = v := ⟨_, rfl⟩
 rw [hv];simp only [hv] at hC;obtain ⟨A, c, e, _, _, _⟩ := hr;obtain ⟨⟨nm, es⟩, ev⟩ := z;simp only at e;subst e;unfold Src.zv at hC ⊢;simp only at hC ⊢;obtain ⟨xn, hxn⟩ : ∃ x, Src.bts nm = x := ⟨_, rfl⟩
 rw [hxn];simp only [hxn] at hC;have HC := Lib.hid hC;have HB := Lib.hid ((Below.refl w.heap.size w).alloc (Nat.le_refl _) (.cells #[.string xn, .slice A es.length c] 117));clear hC hW h1 h2 hxn hv;go_enter Tryz.func89, Tryz.ntmps89
 go_wp2_with fail
 refine (HC.out _ HB.out).mono ?_;rintro e w1 ⟨rfl, hb⟩;replace HB := Lib.hid (below_then HB.out hb);clear hb;go_wp2;go_ret
 exact ⟨rfl, HB.out⟩
structure Src.SmW (s : Src.S) : Prop where
 rules : ∀ r ∈ s.rules, r.nm.size ≤ maxLen ∧ r.lt.size ≤ maxLen
 zones : ∀ z ∈ s.zones, z.1.length ≤ maxLen ∧ ∀ e ∈ z.2, e.fm.size ≤ maxLen ∧ e.ru.size ≤ maxLen
 links : ∀ k ∈ s.links, k.1.length ≤ maxLen ∧ k.2.length ≤ maxLen
theorem Src.Wide.smw {s : Src.S} (h : Src.Wide s) : Src.SmW s := ⟨fun r hr => (h.rules r hr).2, fun z hz => ⟨(h.zones z hz).1, fun e he => ⟨((h.zones z hz).2 e he).2.2, ((h.zones z hz).2 e he).2.1⟩⟩, h.links⟩
theorem srcCheck_anyW (s : Src.S) (rv zv lv : Value) (evs : List Value) (w : World) (hW : Wa w) (hR : Src.SrcR w w.heap.size s rv zv lv evs) (hL : Src.Lims s) (hS : Src.SmW s) :
  Calls Tryz.prog 55 #[.agg #[rv, zv, lv]] w fun e w' => e = .returned (.int .i64 (if Src.srcB s = true then 0 else 2)) ∧ Below w.heap.size w w' := by
 obtain ⟨rules, zones, links, op⟩ := s;obtain ⟨⟨rA, rc, rfl, hr1, hr2, hr3⟩, ⟨zA, zc, rfl, hz1, hz2, hz3⟩, ⟨lA, lc, rfl, hl1, hl2, hl3⟩, hlen, hers⟩ := hR;obtain ⟨L1, L2, L3⟩ := hL;obtain ⟨S1, S2, S3⟩ := hS;unfold Src.srcB;simp only at hr1 hr3 hz1 hz3 hl1 hl3 hlen hers L1 L2 L3 S1 S2 S3 ⊢;have hC1 : ∀ W, Below w.heap.size w W → _ := fun W hb => has_rule (fun r => !r.good) 87 #[] (enters_of Tryz.func87 (by kernel_rfl) rfl) rA rules.length rc rules W (Nat.le_trans hr1 hr2) rfl ((hr3.below hb).more hb.size)
  (fun W' x hx hbW => by
   rw [show (#[x.v] ++ (#[] : Array Value)) = #[x.v] by simp];exact (wrongRule_anyW x W' (S1 x hx).1 (S1 x hx).2).mono fun e w' ⟨h, hb⟩ => ⟨h, hbW.trans (hb.mono hbW.size)⟩)
 have hC2 : ∀ W, Below w.heap.size w W → _ := fun W hb => has_zone (fun p => !Src.zoneB p.1) 89 #[] (enters_of Tryz.func89 (by kernel_rfl) rfl) zA zones.length zc (zones.zip evs) W (Nat.le_trans hz1 hz2) (by simp [hlen]) ((hz3.below hb).more hb.size)
  (fun W' x hx hbW => by
   have hb2 := hb.trans (hbW.mono hb.size);rw [show (#[Src.zv x] ++ (#[] : Array Value)) = #[Src.zv x] by simp];exact (wrongZone_anyW x W' (hW.below hb2) (((hers x hx).below hb2).more hb2.size) (S2 x.1 (mem_zip hx)).1 (S2 x.1 (mem_zip hx)).2).mono fun e w' ⟨h, hb⟩ => ⟨h, hbW.trans (hb.mono hbW.size)⟩)
 have hC3 : ∀ W, Below w.heap.size w W → _ := fun W hb => has_link (fun p => !Src.linkB p) 91 #[] (enters_of Tryz.func91 (by kernel_rfl) rfl) lA links.length lc links W (Nat.le_trans hl1 hl2) rfl ((hl3.below hb).more hb.size)
  (fun W' x hx hbW => by
   rw [show (#[Src.lv x] ++ (#[] : Array Value)) = #[Src.lv x] by simp];exact (wrongLink_anyW x W' (S3 x hx).1 (S3 x hx).2).mono fun e w' ⟨h, hb⟩ => ⟨h, hbW.trans (hb.mono hbW.size)⟩)
 rw [any_not] at hC1 hC3;rw [any_zip (fun z => !Src.zoneB z) zones evs hlen, any_not] at hC2;obtain ⟨b1, hb1⟩ : ∃ b, rules.all Ru.R.good = b := ⟨_, rfl⟩
 obtain ⟨b2, hb2⟩ : ∃ b, zones.all Src.zoneB = b := ⟨_, rfl⟩
 obtain ⟨b3, hb3⟩ : ∃ b, links.all Src.linkB = b := ⟨_, rfl⟩
 rw [hb1] at hC1;rw [hb2] at hC2;rw [hb3] at hC3;rw [hb1, hb2, hb3];obtain ⟨n1, hn1⟩ : ∃ n, rules.length = n := ⟨_, rfl⟩
 obtain ⟨n2, hn2⟩ : ∃ n, zones.length = n := ⟨_, rfl⟩
 obtain ⟨n3, hn3⟩ : ∃ n, links.length = n := ⟨_, rfl⟩
 rw [hn1] at hC1 L1 ⊢;rw [hn2] at hC2 L2 ⊢;rw [hn3] at hC3 L3 ⊢;have HC1 := Lib.hid hC1;have HC2 := Lib.hid hC2;have HC3 := Lib.hid hC3;clear hC1 hC2 hC3 hb1 hb2 hb3 hn1 hn2 hn3 hr1 hr2 hr3 hz1 hz2 hz3 hl1 hl2 hl3 hlen hers S1 S2 S3 hW;have q1 : ¬ (4096 : Int) < (n1 : Int) := by omega
 have q2 : ¬ (1024 : Int) < (n2 : Int) := by omega
 have q3 : ¬ (4096 : Int) < (n3 : Int) := by omega
 have HB := Lib.hid ((Below.refl w.heap.size w).alloc (Nat.le_refl _) (.cells #[.slice rA n1 rc, .slice zA n2 zc, .slice lA n3 lc] 26));have HA := Lib.hid (At.new w #[.slice rA n1 rc, .slice zA n2 zc, .slice lA n3 lc] 26);go_enter Tryz.func55, Tryz.ntmps55
 go_wp2_with fail
 refine (HC1.out _ HB.out).mono ?_;rintro e w1 ⟨rfl, hb⟩;have HA1 := Lib.hid (HA.out.call hb);replace HB := Lib.hid (below_then HB.out hb);clear hb;obtain ⟨a0, a1, a2, _⟩ := HA1.out.three;cases b1
 ·go_wp2;go_ret
  exact ⟨rfl, HB.out⟩
 go_wp2_with fail
 refine (HC2.out _ HB.out).mono ?_;rintro e w2 ⟨rfl, hb⟩;have HA2 := Lib.hid (HA1.out.call hb);replace HB := Lib.hid (below_then HB.out hb);clear hb a0 a1 a2;obtain ⟨a0, a1, a2, _⟩ := HA2.out.three;cases b2
 ·go_wp2;go_ret
  exact ⟨rfl, HB.out⟩
 go_wp2_with fail
 refine (HC3.out _ HB.out).mono ?_;rintro e w3 ⟨rfl, hb⟩;replace HB := Lib.hid (below_then HB.out hb);clear hb a0 a1 a2;cases b3
 ·go_wp2;go_ret
  exact ⟨rfl, HB.out⟩
 ·go_wp2;go_ret
  exact ⟨rfl, HB.out⟩
namespace Vd
structure Sz (s : Src.S) : Prop where
 lims : Src.Lims s
 eras : ∀ z ∈ s.zones, z.2.length ≤ 100
 smw : Src.SmW s
theorem Sz.nm {s : Src.S} (h : Sz s) : Lk.Nm s := ⟨by have := h.lims.zones; omega, by have := h.lims.links; omega, fun z hz => (h.smw.zones z hz).1, h.smw.links⟩
theorem Sz.names {s : Src.S} (h : Sz s) : ∀ x ∈ Src.names s, x.size ≤ maxLen := by
 intro x hx;unfold Src.names at hx;rcases List.mem_append.1 hx with hx | hx
 ·exact h.nm.zn x hx
 ·exact h.nm.ln x hx
theorem Sz.rn {s : Src.S} (h : Sz s) : ∀ x ∈ Vd.rn s, x.size ≤ maxLen := by
 intro x hx;unfold Vd.rn at hx;obtain ⟨r, hr, rfl⟩ := List.mem_map.1 hx;exact (h.smw.rules r hr).1
theorem Sz.er {s : Src.S} (h : Sz s) : ∀ z ∈ s.zones, ∀ e ∈ z.2, e.ru.size ≤ maxLen := fun z hz e he => ((h.smw.zones z hz).2 e he).2
noncomputable def fA (s : Src.S) : List Fl := tw (Src.names s)
noncomputable def fB (s : Src.S) : List Fl := fA s ++ s.zones.flatMap (mz s)
noncomputable def fC (s : Src.S) : List Fl := fB s ++ s.zones.flatMap dz
noncomputable def flaws (s : Src.S) : List Fl := fC s ++ (asl s s.links).2
theorem fA_len {s : Src.S} (h : Sz s) : (fA s).length ≤ 6000 := by
 have h1 := tw_le (Src.names s) (Src.names s).length;have h2 : (Src.names s).length = s.zones.length + s.links.length := by simp [Src.names, Src.zoneNames, Src.linkNames]
 have := h.lims.zones;have := h.lims.links;unfold fA tw;omega
theorem fB_len {s : Src.S} (h : Sz s) : (fB s).length ≤ 110000 := by
 have h1 := fA_len h;have h2 := flat_len (mz s) 100 s.zones (fun z hz => Nat.le_trans (flat_len (ms (Vd.rn s)) 1 z.2 (fun e _ => ms_le _ e)) (by have := h.eras z hz; omega));have := h.lims.zones;unfold fB;rw [List.length_append];omega
theorem fC_len {s : Src.S} (h : Sz s) : (fC s).length ≤ 220000 := by
 have h1 := fB_len h;have h2 := flat_len dz 100 s.zones (fun z hz => Nat.le_trans (ds_len _ z.2 _) (by have := h.eras z hz; simpa using this));have := h.lims.zones;unfold fC;rw [List.length_append];omega
end Vd
theorem vdFlaws_any (s : Src.S) (rv zv lv : Value) (evs : List Value) (w : World) (hR : Src.SrcR w w.heap.size s rv zv lv evs) (hS : Vd.Sz s) (hW : Wo w) :
  Calls Tryz.prog 56 #[.agg #[rv, zv, lv]] w fun e w' => ∃ v, e = .returned v ∧ Below w.heap.size w w' ∧ w'.ownsRow w.heap.size 289 2 v (Vd.flaws s).length (Vd.cells (Vd.flaws s)) := by
 obtain ⟨rA, rc, rfl, _⟩ := hR.rules;obtain ⟨zA, zc, rfl, _⟩ := hR.zones;obtain ⟨lA, lc, rfl, _⟩ := hR.links;obtain ⟨n1, hn1⟩ : ∃ n, s.rules.length = n := ⟨_, rfl⟩
 obtain ⟨n2, hn2⟩ : ∃ n, s.zones.length = n := ⟨_, rfl⟩
 obtain ⟨n3, hn3⟩ : ∃ n, s.links.length = n := ⟨_, rfl⟩
 rw [hn1, hn2, hn3] at hR ⊢;obtain ⟨B, hBb⟩ : ∃ B, w.heap.size = B := ⟨_, rfl⟩
 have hb0 := ((Below.refl w.heap.size w).alloc (Nat.le_refl _) (.cells #[.slice rA n1 rc, .slice zA n2 zc, .slice lA n3 lc] 26)).alloc (by simp) (.cells #[.slice rA n1 rc, .slice zA n2 zc, .slice lA n3 lc, .slice none 0 0] 203);have hA0 := At.new (w.alloc (.cells #[.slice rA n1 rc, .slice zA n2 zc, .slice lA n3 lc] 26)) #[.slice rA n1 rc, .slice zA n2 zc, .slice lA n3 lc, .slice none 0 0] 203;rw [World.size_alloc] at hA0;obtain ⟨b0, b1, b2, _⟩ := (At.new w #[.slice rA n1 rc, .slice zA n2 zc, .slice lA n3 lc] 26).three;rw [hBb] at hR hb0 hA0;obtain ⟨W0, hW0⟩ : ∃ W, ((w.alloc (.cells #[.slice rA n1 rc, .slice zA n2 zc, .slice lA n3 lc] 26)).alloc (.cells #[.slice rA n1 rc, .slice zA n2 zc, .slice lA n3 lc, .slice none 0 0] 203)) = W := ⟨_, rfl⟩
 rw [hW0] at hb0 hA0;have hF0 : Vd.Fd (.slice rA n1 rc) (.slice zA n2 zc) (.slice lA n3 lc) B (B + 1) [] (.slice none 0 0) W0 := ⟨hA0, World.ownsRow_nil _ _ _ _, fun e => by cases e⟩
 have hR0 := hR.below hb0;have hw0 : Vd.WoB B W0 := fun W hb => hW.below (by rw [hBb]; exact hb0.trans hb)
 have hvb0 := hF0.base;have hgl : B ≤ W0.heap.size := by have := hA0.lt; omega
 have HC1 := Lib.hid (vdTwice_any s _ _ _ _ evs B (B + 1) [] W0 hF0 hR0 (by omega) hS.lims hS.names (by simp));have HK : Hid (∀ v W, Vd.Kp (B + 1) (.slice none 0 0) v W0 W → Below B W0 W ∧ Src.SrcR W B s (.slice rA n1 rc) (.slice zA n2 zc) (.slice lA n3 lc) evs ∧ Vd.WoB B W) := fun v W h => by
  have hb := h.base (by omega) hvb0 hgl;exact ⟨hb, hR0.below hb, hw0.then_ hb⟩
 have HS := Lib.hid hS;have HB0 := Lib.hid hb0;have HA := Lib.hid hA0;have HW0 := Lib.hid hW0;have HBb := Lib.hid hBb;clear hR hb0 hA0 hF0 hR0 hw0 hvb0 hS hn1 hn2 hn3 hW hW0 hBb;go_enter Tryz.func56, Tryz.ntmps56
 go_wp2_with fail
 clear b0 b1 b2;rw [HW0.out, HBb.out];refine HC1.out.mono ?_;rintro e w1 ⟨⟨x1, rfl⟩, v1, hF1, hK1⟩;obtain ⟨hb1, hR1, hw1⟩ := HK.out _ _ hK1;have HC2 := Lib.hid (vdMissing_any s _ _ _ _ evs B (B + 1) _ w1 hF1 hR1 (by omega) HS.out.lims HS.out.eras HS.out.rn HS.out.er (by have := Vd.fA_len HS.out; unfold Vd.fA at this; simp only [List.nil_append]; omega));have HK1 := Lib.hid hK1;clear hb1 hR1 hw1 hF1 hK1;go_wp2_with fail
 refine HC2.out.mono ?_;rintro e w2 ⟨⟨x2, rfl⟩, v2, hF2, hK2⟩;replace hK2 := HK1.out.trans hK2;obtain ⟨hb2, hR2, hw2⟩ := HK.out _ _ hK2;have HC3 := Lib.hid (vdDisorder_any s _ _ _ _ evs B (B + 1) _ w2 hF2 hR2 (by omega) HS.out.lims HS.out.eras (by have := Vd.fB_len HS.out; unfold Vd.fB Vd.fA at this; simp only [List.nil_append]; omega) hw2);have HK2 := Lib.hid hK2;clear hb2 hR2 hw2 hF2 hK2;go_wp2_with fail
 refine HC3.out.mono ?_;rintro e w3 ⟨⟨x3, rfl⟩, v3, hF3, hK3⟩;replace hK3 := HK2.out.trans hK3;obtain ⟨hb3, hR3, hw3⟩ := HK.out _ _ hK3;have HC4 := Lib.hid (vdAstray_any s _ _ _ _ evs B (B + 1) _ w3 hF3 hR3 (by omega) HS.out.lims HS.out.nm (by have := Vd.fC_len HS.out; unfold Vd.fC Vd.fB Vd.fA at this; simp only [List.nil_append]; omega));have HK3 := Lib.hid hK3;clear hb3 hR3 hw3 hF3 hK3;go_wp2_with fail
 refine HC4.out.mono ?_;rintro e w4 ⟨⟨x4, rfl⟩, v4, hF4, hK4⟩;replace hK4 := HK3.out.trans hK4;obtain ⟨hb4, hR4, hw4⟩ := HK.out _ _ hK4;have a3 := hF4.at_.cell 3 _ rfl;have HE : Hid (Below w.heap.size w w4 ∧ w4.ownsRow w.heap.size 289 2 v4 (Vd.flaws s).length (Vd.cells (Vd.flaws s))) := by
  show _ ∧ _
  rw [HBb.out];exact ⟨HB0.out.trans hb4, hF4.row⟩
 obtain ⟨nn, hnn⟩ : ∃ n, (Vd.flaws s).length = n := ⟨_, rfl⟩
 have hrow : w4.ownsRow B 289 2 v4 nn (Vd.cells (Vd.flaws s)) := by rw [← hnn]; exact hF4.row
 obtain ⟨A4, c4, rfl, _⟩ := own_slice hrow;clear hnn hrow;clear hb4 hR4 hw4 hF4 hK4;go_wp2;go_ret
 refine ⟨_, ?_, HE.out⟩;rfl
noncomputable def Vd.well (s : Src.S) : Bool := Src.srcB s && ((Vd.flaws s).length == 0)
theorem vdWell_any (s : Src.S) (rv zv lv : Value) (evs : List Value) (w : World) (hR : Src.SrcR w w.heap.size s rv zv lv evs) (hS : Vd.Sz s) (hW : Wo w) (hA : Wa w) :
  Calls Tryz.prog 14 #[.agg #[rv, zv, lv]] w fun e w' => e = .returned (.bool (Vd.well s)) ∧ Below w.heap.size w w' := by
 obtain ⟨rA, rc, rfl, _⟩ := hR.rules;obtain ⟨zA, zc, rfl, _⟩ := hR.zones;obtain ⟨lA, lc, rfl, _⟩ := hR.links;obtain ⟨n1, hn1⟩ : ∃ n, s.rules.length = n := ⟨_, rfl⟩
 obtain ⟨n2, hn2⟩ : ∃ n, s.zones.length = n := ⟨_, rfl⟩
 obtain ⟨n3, hn3⟩ : ∃ n, s.links.length = n := ⟨_, rfl⟩
 rw [hn1, hn2, hn3] at hR ⊢;have hb0 := (Below.refl w.heap.size w).alloc (Nat.le_refl _) (.cells #[.slice rA n1 rc, .slice zA n2 zc, .slice lA n3 lc] 26);have hA0 := At.new w #[.slice rA n1 rc, .slice zA n2 zc, .slice lA n3 lc] 26;have HC := Lib.hid (srcCheck_anyW s _ _ _ evs _ (hA.below hb0) (hR.call hb0) hS.lims hS.smw);have HFl : Hid (∀ W, Below w.heap.size w W → _) := fun W hb => vdFlaws_any s _ _ _ evs W (hR.call hb) hS (hW.below hb)
 have HB0 := Lib.hid hb0;have HA0 := Lib.hid hA0;obtain ⟨b0, b1, b2, _⟩ := hA0.three;obtain ⟨X, hX⟩ : ∃ X, Vd.well s = X := ⟨_, rfl⟩
 have HX := Lib.hid hX;rw [hX];clear hR hb0 hA0 hn1 hn2 hn3 hS hW hA hX;go_enter Tryz.func14, Tryz.ntmps14
 go_wp2_with fail
 refine HC.out.mono ?_;rintro e w1 ⟨rfl, hb⟩;have HB1 := Lib.hid (below_then HB0.out hb);obtain ⟨c0, c1, c2, _⟩ := (HA0.out.call hb).three;have HF1 := Lib.hid (HFl.out w1 HB1.out);clear hb b0 b1 b2 HC HFl;cases hs : Src.srcB s with
 | false =>
  have hx : X = false := by rw [← HX.out]; unfold Vd.well; rw [hs]; rfl
  simp only [Bool.false_eq_true, if_false];subst hx;go_wp2;go_ret
  exact ⟨rfl, HB1.out⟩
 | true =>
  have hx : X = ((Vd.flaws s).length == 0) := by rw [← HX.out]; unfold Vd.well; rw [hs]; rfl
  simp only [if_true];go_wp2_with fail
  refine HF1.out.mono ?_;rintro e w2 ⟨v, rfl, hb, ho⟩;obtain ⟨A, c, rfl, _⟩ := own_slice ho;have HB2 := Lib.hid (below_then HB1.out hb);obtain ⟨n, hn⟩ : ∃ n, (Vd.flaws s).length = n := ⟨_, rfl⟩
  rw [hn] at hx ⊢;have HXn := Lib.hid hx;clear hb ho hn hx;have hd : ((n : Int) == 0) = (n == 0) := by
   cases n with
   | zero => rfl
   | succ n => rw [show ((n + 1 : Nat) == 0) = false from rfl, beq_eq_false_iff_ne]; omega
  go_wp2;go_ret
  exact ⟨ret_bool HXn.out.symm, HB2.out⟩
end Go.Proofs.YtjobhjemnmleaaaGreatDoor
