/- source.Check. -/
import Derived.Test.YtmobejhfajnbhaaDoorK38
import Derived.Test.YtmobejhfajnbhaaDoorK23
import Derived.Test.YtmobejhfajnbhaaDoorK39
namespace Go.Proofs.YtmobejhfajnbhaaDoor
open Go.RowKit

noncomputable def Ru.R.good (r : Ru.R) : Bool := @decide r.Ok (Classical.propDecidable _)
theorem Ru.R.good_iff (r : Ru.R) : r.good = true ↔ r.Ok := by
  unfold Ru.R.good
  exact @decide_eq_true_iff _ (Classical.propDecidable _)
noncomputable def Er.E.good (e : Er.E) : Bool := decide (Er.chk e = 0)
namespace Src
/-- The eras of a right zone: each is right, and all but the last one end. -/
noncomputable def erasB : List Er.E → Bool
  | [] => true
  | e :: l => e.good && ((e.en == !l.isEmpty) && erasB l)
noncomputable def zoneB (z : Txt × List Er.E) : Bool := Ru.name z.1 && (decide (1 ≤ z.2.length) && (decide (z.2.length ≤ 64) && erasB z.2))
def linkB (k : Txt × Txt) : Bool := Ru.name k.1 && Ru.name k.2
/-- A source is right. -/
noncomputable def srcB (s : S) : Bool := s.rules.all Ru.R.good && (s.zones.all zoneB && s.links.all linkB)
structure Lims (s : S) : Prop where
  rules : s.rules.length ≤ 4096
  zones : s.zones.length ≤ 1024
  links : s.links.length ≤ 4096
/-- No name is too long. -/
structure Sm (s : S) : Prop where
  rules : ∀ r ∈ s.rules, r.nm.size ≤ 1000000 ∧ r.lt.size ≤ 1000000
  zones : ∀ z ∈ s.zones, z.1.length ≤ 1000000 ∧ ∀ e ∈ z.2, e.fm.size ≤ maxLen ∧ e.ru.size ≤ maxLen
  links : ∀ k ∈ s.links, k.1.length ≤ 1000000 ∧ k.2.length ≤ 1000000
end Src
theorem any_not {α : Type} (f : α → Bool) : ∀ l : List α, l.any (fun x => !f x) = !l.all f
  | [] => rfl
  | x :: l => by
    rw [List.any_cons, List.all_cons, any_not f l]
    cases f x <;> rfl
theorem wrongRule_any (r : Ru.R) (w : World) (h1 : r.nm.size ≤ 1000000) (h2 : r.lt.size ≤ 1000000) : Calls Tryd.prog 58 #[r.v] w fun e w' => e = .returned (.bool (!r.good)) ∧ Below w.heap.size w w' := by
  cases hg : r.good
  · have hn : ¬ r.Ok := fun h => by rw [(Ru.R.good_iff r).2 h] at hg; cases hg
    have HC := Lib.hid fun W => ruleCheck_bad r W hn h1 h2
    obtain ⟨nm, fr, tt, mo, k, n, d, s, c, sv, lt⟩ := r
    unfold Ru.R.v at HC ⊢
    clear hn hg h1 h2
    have HB := Lib.hid ((Below.refl w.heap.size w).alloc (Nat.le_refl _) (.cells #[.string nm, .int .i64 fr, .int .i64 tt, .int .i64 mo, .int .u8 k, .int .i64 n, .int .i64 d, .int .i64 s, .int .u8 c, .int .i64 sv, .string lt] 34))
    go_enter Tryd.func58, Tryd.ntmps58
    go_wp2_with fail
    refine (HC.out _).mono ?_
    rintro e w1 ⟨rfl, hb⟩
    replace HB := Lib.hid (below_then HB.out hb)
    clear hb
    go_wp2
    go_ret
    exact ⟨rfl, HB.out⟩
  · have HC := Lib.hid fun W => ruleCheck_ok r W ((Ru.R.good_iff r).1 hg) h1 h2
    obtain ⟨nm, fr, tt, mo, k, n, d, s, c, sv, lt⟩ := r
    unfold Ru.R.v at HC ⊢
    clear hg h1 h2
    have HB := Lib.hid ((Below.refl w.heap.size w).alloc (Nat.le_refl _) (.cells #[.string nm, .int .i64 fr, .int .i64 tt, .int .i64 mo, .int .u8 k, .int .i64 n, .int .i64 d, .int .i64 s, .int .u8 c, .int .i64 sv, .string lt] 34))
    go_enter Tryd.func58, Tryd.ntmps58
    go_wp2_with fail
    refine (HC.out _).mono ?_
    rintro e w1 ⟨rfl, hb⟩
    replace HB := Lib.hid (below_then HB.out hb)
    clear hb
    go_wp2
    go_ret
    exact ⟨rfl, HB.out⟩
theorem name_bts (t : Src.Txt) (w : World) (h : t.length ≤ 1000000) (b : Bool) (hb : Ru.name t = b) : Calls Tryd.prog 36 #[.string (Src.bts t)] w fun e w' => e = .returned (.bool b) ∧ Below w.heap.size w w' := by
  have := name_any (Src.bts t) w h
  rw [show tl (Src.bts t) = t from tl_mk t, hb] at this
  exact this
theorem wrongLink_any (k : Src.Txt × Src.Txt) (w : World) (h1 : k.1.length ≤ 1000000) (h2 : k.2.length ≤ 1000000) : Calls Tryd.prog 61 #[Src.lv k] w fun e w' => e = .returned (.bool (!Src.linkB k)) ∧ Below w.heap.size w w' := by
  obtain ⟨a, b⟩ := k
  unfold Src.lv Src.linkB
  simp only at h1 h2 ⊢
  obtain ⟨va, hva⟩ : ∃ v, Ru.name a = v := ⟨_, rfl⟩
  obtain ⟨vb, hvb⟩ : ∃ v, Ru.name b = v := ⟨_, rfl⟩
  have H1 := Lib.hid fun W => name_bts a W h1 va hva
  have H2 := Lib.hid fun W => name_bts b W h2 vb hvb
  rw [hva, hvb]
  obtain ⟨xa, hxa⟩ : ∃ x, Src.bts a = x := ⟨_, rfl⟩
  obtain ⟨xb, hxb⟩ : ∃ x, Src.bts b = x := ⟨_, rfl⟩
  rw [hxa, hxb]
  rw [hxa] at H1
  rw [hxb] at H2
  clear h1 h2 hva hvb hxa hxb
  have HB := Lib.hid ((Below.refl w.heap.size w).alloc (Nat.le_refl _) (.cells #[.string xa, .string xb] 89))
  have HA := Lib.hid (At.new w #[.string xa, .string xb] 89)
  cases va
  · go_enter Tryd.func61, Tryd.ntmps61
    go_wp2_with fail
    refine (H1.out _).mono ?_
    rintro e w1 ⟨rfl, hb⟩
    replace HB := Lib.hid (below_then HB.out hb)
    clear hb
    go_wp2
    go_ret
    exact ⟨rfl, HB.out⟩
  · go_enter Tryd.func61, Tryd.ntmps61
    go_wp2_with fail
    refine (H1.out _).mono ?_
    rintro e w1 ⟨rfl, hb⟩
    have HA1 := Lib.hid (HA.out.call hb)
    replace HB := Lib.hid (below_then HB.out hb)
    clear hb
    obtain ⟨a0, a1, _⟩ := HA1.out.two
    go_wp2_with fail
    refine (H2.out _).mono ?_
    rintro e w2 ⟨rfl, hb⟩
    replace HB := Lib.hid (below_then HB.out hb)
    clear hb
    go_wp2
    go_ret
    exact ⟨rfl, HB.out⟩
theorem erasB_next {es : List Er.E} {i n : Nat} {e : Er.E} {X : Bool} (h : X = Src.erasB (es.drop i)) (hx : es[i]? = some e) (hn : es.length = n) : X = (e.good && ((e.en == decide (((i : Int)) < (n : Int) - 1)) && Src.erasB (es.drop (i + 1)))) := by
  have hi := (List.getElem?_eq_some_iff.1 hx).1
  rw [h, List.drop_eq_getElem_cons hi, (List.getElem?_eq_some_iff.1 hx).2, Src.erasB]
  have : (!(es.drop (i + 1)).isEmpty) = decide ((i : Int) < (n : Int) - 1) := by
    by_cases hl : i + 1 < es.length
    · have e1 : (es.drop (i + 1)).isEmpty = false := by
        rw [List.isEmpty_eq_false_iff]
        intro e
        have := congrArg List.length e
        simp at this
        omega
      rw [e1, decide_eq_true (by omega)]
      rfl
    · rw [List.drop_eq_nil_of_le (by omega), decide_eq_false (by omega)]
      rfl
  rw [this]
theorem erasB_end {es : List Er.E} {i : Nat} {X : Bool} (h : X = Src.erasB (es.drop i)) (hi : es.length ≤ i) : X = true := by
  rw [h, List.drop_eq_nil_of_le hi]
  rfl
set_option maxHeartbeats 2000000 in
set_option maxRecDepth 100000 in
theorem rightZone_any (z : (Src.Txt × List Er.E) × Value) (w : World) (hW : Wa w) (hr : Src.RowR w w.heap.size 13 z.1.2.length z.2 (z.1.2.flatMap Er.E.cells)) (h1 : z.1.1.length ≤ 1000000) (h2 : ∀ e ∈ z.1.2, e.fm.size ≤ maxLen ∧ e.ru.size ≤ maxLen) :
    Calls Tryd.prog 60 #[Src.zv z] w fun e w' => e = .returned (.bool (Src.zoneB z.1)) ∧ Below w.heap.size w w' := by
  obtain ⟨⟨nm, es⟩, ev⟩ := z
  unfold Src.zv Src.zoneB
  simp only at hr h1 h2 ⊢
  obtain ⟨A, c, rfl, hnc, hcm, hrr⟩ := hr
  obtain ⟨vn, hvn⟩ : ∃ v, Ru.name nm = v := ⟨_, rfl⟩
  have H1 := Lib.hid fun W => name_bts nm W h1 vn hvn
  rw [hvn]
  obtain ⟨xn, hxn⟩ : ∃ x, Src.bts nm = x := ⟨_, rfl⟩
  rw [hxn] at H1 ⊢
  obtain ⟨n, hn⟩ : ∃ n, es.length = n := ⟨_, rfl⟩
  obtain ⟨X, hX⟩ : ∃ X, Src.erasB es = X := ⟨_, rfl⟩
  rw [hX]
  rw [hn] at hrr hnc ⊢
  have HN := Lib.hid hn
  have HX := Lib.hid hX.symm
  have HR := Lib.hid hrr
  have HS := Lib.hid h2
  have HW := Lib.hid hW
  unfold maxLen at hcm
  clear h1 hvn hxn hn hX hrr h2 hW
  have HB0 := Lib.hid ((Below.refl w.heap.size w).alloc (Nat.le_refl _) (.cells #[.string xn, .slice A n c] 37))
  have HA0 := Lib.hid (At.new w #[.string xn, .slice A n c] 37)
  obtain ⟨h, hh⟩ : ∃ h, w.heap.size = h := ⟨_, rfl⟩
  have HH := Lib.hid hh
  cases vn
  · go_enter Tryd.func60, Tryd.ntmps60
    go_wp2_with fail
    refine (H1.out _).mono ?_
    rintro e w1 ⟨rfl, hb⟩
    replace HB0 := Lib.hid (below_then HB0.out hb)
    clear hb
    go_wp2
    go_ret
    exact ⟨rfl, HB0.out⟩
  by_cases hn1 : n < 1
  · have q1 : (n : Int) < 1 := by omega
    go_enter Tryd.func60, Tryd.ntmps60
    go_wp2_with fail
    refine (H1.out _).mono ?_
    rintro e w1 ⟨rfl, hb⟩
    have HA1 := Lib.hid (HA0.out.call hb)
    replace HB0 := Lib.hid (below_then HB0.out hb)
    clear hb
    rw [hh] at HA1
    obtain ⟨a0, a1, _⟩ := HA1.out.two
    go_wp2
    go_ret
    rw [decide_eq_false (by omega)]
    exact ⟨rfl, HB0.out⟩
  have q1 : ¬ (n : Int) < 1 := by omega
  by_cases hn2 : 64 < n
  · have q2 : (64 : Int) < (n : Int) := by omega
    go_enter Tryd.func60, Tryd.ntmps60
    go_wp2_with fail
    refine (H1.out _).mono ?_
    rintro e w1 ⟨rfl, hb⟩
    have HA1 := Lib.hid (HA0.out.call hb)
    replace HB0 := Lib.hid (below_then HB0.out hb)
    clear hb
    rw [hh] at HA1
    obtain ⟨a0, a1, _⟩ := HA1.out.two
    go_wp2
    go_ret
    rw [decide_eq_true (show 1 ≤ n by omega), decide_eq_false (show ¬ n ≤ 64 by omega)]
    exact ⟨rfl, HB0.out⟩
  have q2 : ¬ (64 : Int) < (n : Int) := by omega
  have HY : Hid ((true && (decide (1 ≤ n) && (decide (n ≤ 64) && X))) = X) := by
    show _ = _
    rw [decide_eq_true (show 1 ≤ n by omega), decide_eq_true (show n ≤ 64 by omega)]
    rfl
  rw [HY.out]
  go_enter Tryd.func60, Tryd.ntmps60
  go_wp2_with fail
  refine (H1.out _).mono ?_
  rintro e w1 ⟨rfl, hb⟩
  have HA1 := Lib.hid (HA0.out.call hb)
  have HB1 := Lib.hid (below_then HB0.out hb)
  clear hb
  rw [hh] at HA1
  obtain ⟨a0, a1, _⟩ := HA1.out.two
  go_wp2_with fail
  clear a0 a1 hh
  go_loopw [24] (fun i wr => ∃ k : Nat, k ≤ n ∧ i = .int .i64 k ∧ Hid (X = Src.erasB (es.drop k)) ∧ Hid (At wr h [.string xn, .slice A n c]) ∧ Hid (Below w.heap.size w wr)) (fun i _ => n - (intOf i).toNat)
  case atStart => exact ⟨0, Nat.zero_le _, rfl, HX.out, HA1.out, HB1.out⟩
  case round =>
    obtain ⟨i, hi, rfl, HK, HA, HB⟩ := hrel
    by_cases hlt : i < n
    · have q3 : (0 : Int) ≤ (i : Int) := by omega
      have q4 : (i : Int) < (n : Int) := by omega
      obtain ⟨ad, x, rfl, hab, Hx, HL0⟩ := Ix.reads_cells (enc := Er.E.cells) (m := 13) (fun _ => rfl) HN.out (HR.out.below HB.out) hlt
      have hsm := HS.out x (List.mem_of_getElem? Hx.out)
      have hnx := erasB_next HK.out Hx.out HN.out
      have hC := fun W hw => eraCheck_any x W hw hsm.1 hsm.2
      obtain ⟨q, hq⟩ : ∃ q, Er.chk x = q := ⟨_, rfl⟩
      have hgood : x.good = decide (q = 0) := by unfold Er.E.good; rw [hq]
      simp only [hq] at hC
      rw [hgood] at hnx
      obtain ⟨std, k, sv, ru, fm, en, ⟨y, m, dk, dn, dd, sc, cc⟩⟩ := x
      simp only at hnx
      unfold Er.E.v at hC
      simp only at hC
      have x0 : wr.cell? (ad.add (i * 13)) = some (.int .i64 std) := HL0.out 0 _ rfl
      have x1 : wr.cell? ⟨(ad.add (i * 13)).block, (ad.add (i * 13)).off + 1, none⟩ = some (.int .u8 k) := HL0.out 1 _ rfl
      have x2 : wr.cell? ⟨(ad.add (i * 13)).block, (ad.add (i * 13)).off + 2, none⟩ = some (.int .i64 sv) := HL0.out 2 _ rfl
      have x3 : wr.cell? ⟨(ad.add (i * 13)).block, (ad.add (i * 13)).off + 3, none⟩ = some (.string ru) := HL0.out 3 _ rfl
      have x4 : wr.cell? ⟨(ad.add (i * 13)).block, (ad.add (i * 13)).off + 4, none⟩ = some (.string fm) := HL0.out 4 _ rfl
      have x5 : wr.cell? ⟨(ad.add (i * 13)).block, (ad.add (i * 13)).off + 5, none⟩ = some (.bool en) := HL0.out 5 _ rfl
      have x6 : wr.cell? ⟨(ad.add (i * 13)).block, (ad.add (i * 13)).off + 6, none⟩ = some (.int .i64 y) := HL0.out 6 _ rfl
      have x7 : wr.cell? ⟨(ad.add (i * 13)).block, (ad.add (i * 13)).off + 7, none⟩ = some (.int .i64 m) := HL0.out 7 _ rfl
      have x8 : wr.cell? ⟨(ad.add (i * 13)).block, (ad.add (i * 13)).off + 8, none⟩ = some (.int .u8 dk) := HL0.out 8 _ rfl
      have x9 : wr.cell? ⟨(ad.add (i * 13)).block, (ad.add (i * 13)).off + 9, none⟩ = some (.int .i64 dn) := HL0.out 9 _ rfl
      have x10 : wr.cell? ⟨(ad.add (i * 13)).block, (ad.add (i * 13)).off + 10, none⟩ = some (.int .i64 dd) := HL0.out 10 _ rfl
      have x11 : wr.cell? ⟨(ad.add (i * 13)).block, (ad.add (i * 13)).off + 11, none⟩ = some (.int .i64 sc) := HL0.out 11 _ rfl
      have x12 : wr.cell? ⟨(ad.add (i * 13)).block, (ad.add (i * 13)).off + 12, none⟩ = some (.int .u8 cc) := HL0.out 12 _ rfl
      have HC := Lib.hid hC
      have HNX := Lib.hid hnx
      clear hC hnx hq hgood hsm
      have HA2 := Lib.hid (HA.out.allocO (.cells #[.int .i64 std, .int .u8 k, .int .i64 sv, .string ru, .string fm, .bool en, .int .i64 y, .int .i64 m, .int .u8 dk, .int .i64 dn, .int .i64 dd, .int .i64 sc, .int .u8 cc] 50))
      have HE2 := Lib.hid (At.new wr #[.int .i64 std, .int .u8 k, .int .i64 sv, .string ru, .string fm, .bool en, .int .i64 y, .int .i64 m, .int .u8 dk, .int .i64 dn, .int .i64 dd, .int .i64 sc, .int .u8 cc] 50)
      have HB2 := Lib.hid (HB.out.alloc HB.out.size (.cells #[.int .i64 std, .int .u8 k, .int .i64 sv, .string ru, .string fm, .bool en, .int .i64 y, .int .i64 m, .int .u8 dk, .int .i64 dn, .int .i64 dd, .int .i64 sc, .int .u8 cc] 50))
      obtain ⟨g, hg⟩ : ∃ g, wr.heap.size = g := ⟨_, rfl⟩
      have wn : IntKind.i64.wrap ((n : Int) - 1) = (n : Int) - 1 := IntWalk.i64_in _ (by omega)
      go_wp2_with fail
      refine (HC.out _ (HW.out.below HB2.out)).mono ?_
      rintro e w2 ⟨rfl, hb⟩
      have HA3 := Lib.hid (HA2.out.call hb)
      have HE3 := Lib.hid (HE2.out.call hb)
      have HB3 := Lib.hid (below_then HB2.out hb)
      clear hb HA2 HE2 HB2
      rw [hg] at HE3
      clear hg x0 x1 x2 x3 x4 x5 x6 x7 x8 x9 x10 x11 x12
      by_cases hq0 : q = 0
      · subst hq0
        have e5 := HE3.out.cell 5 _ rfl
        obtain ⟨a0, a1, _⟩ := HA3.out.two
        by_cases hen : en = decide ((i : Int) < (n : Int) - 1)
        · have HQ : Hid (X = Src.erasB (es.drop (i + 1))) := by
            show _ = _
            rw [HNX.out, hen]
            simp
          subst hen
          go_wp2
          go_roundw
          case rel => exact ⟨i + 1, by omega, by go_num, HQ.out, HA3.out, HB3.out⟩
          case measure => simp [intOf]; omega
        · have hne : en = !decide ((i : Int) < (n : Int) - 1) := by
            revert hen
            cases en <;> cases decide ((i : Int) < (n : Int) - 1) <;> simp
          have HQ : Hid (X = false) := by
            show _ = _
            rw [HNX.out, hne]
            cases decide ((i : Int) < (n : Int) - 1) <;> rfl
          subst hne
          clear hen
          go_wp2
          go_ret
          exact ⟨ret_bool HQ.out.symm, HB3.out⟩
      · have e0 : (q == 0) = false := by rw [beq_eq_false_iff_ne]; exact hq0
        have HQ : Hid (X = false) := by
          show _ = _
          rw [HNX.out, decide_eq_false hq0]
          rfl
        have e1 : (q != 0) = true := by simpa using hq0
        clear hq0
        go_wp2
        go_ret
        exact ⟨ret_bool HQ.out.symm, HB3.out⟩
    · have q4 : ¬ (i : Int) < (n : Int) := by omega
      have HE := Lib.hid (erasB_end HK.out (by rw [HN.out]; omega))
      go_wp2
      go_ret
      exact ⟨ret_bool HE.out.symm, HB.out⟩
end Go.Proofs.YtmobejhfajnbhaaDoor
/- source.Check, source.Same. -/
namespace Go.Proofs.YtmobejhfajnbhaaDoor
open Go.RowKit

theorem wrongZone_any (z : (Src.Txt × List Er.E) × Value) (w : World) (hW : Wa w) (hr : Src.RowR w w.heap.size 13 z.1.2.length z.2 (z.1.2.flatMap Er.E.cells)) (h1 : z.1.1.length ≤ 1000000) (h2 : ∀ e ∈ z.1.2, e.fm.size ≤ maxLen ∧ e.ru.size ≤ maxLen) :
    Calls Tryd.prog 59 #[Src.zv z] w fun e w' => e = .returned (.bool (!Src.zoneB z.1)) ∧ Below w.heap.size w w' := by
  have hC := fun W (hb : Below w.heap.size w W) => rightZone_any z W (hW.below hb) ((hr.below hb).more hb.size) h1 h2
  obtain ⟨v, hv⟩ : ∃ v, Src.zoneB z.1 = v := ⟨_, rfl⟩
  rw [hv]
  simp only [hv] at hC
  obtain ⟨A, c, e, _, _, _⟩ := hr
  obtain ⟨⟨nm, es⟩, ev⟩ := z
  simp only at e
  subst e
  unfold Src.zv at hC ⊢
  simp only at hC ⊢
  obtain ⟨xn, hxn⟩ : ∃ x, Src.bts nm = x := ⟨_, rfl⟩
  rw [hxn]
  simp only [hxn] at hC
  have HC := Lib.hid hC
  have HB := Lib.hid ((Below.refl w.heap.size w).alloc (Nat.le_refl _) (.cells #[.string xn, .slice A es.length c] 37))
  clear hC hW h1 h2 hxn hv
  go_enter Tryd.func59, Tryd.ntmps59
  go_wp2_with fail
  refine (HC.out _ HB.out).mono ?_
  rintro e w1 ⟨rfl, hb⟩
  replace HB := Lib.hid (below_then HB.out hb)
  clear hb
  go_wp2
  go_ret
  exact ⟨rfl, HB.out⟩
theorem any_zip {α β : Type} (f : α → Bool) : ∀ (a : List α) (b : List β), b.length = a.length → ((a.zip b).any fun p => f p.1) = a.any f
  | [], [], _ => rfl
  | x :: a, y :: b, h => by
    rw [List.zip_cons_cons, List.any_cons, List.any_cons, any_zip f a b (by simpa using h)]
theorem mem_zip {α β : Type} {a : List α} {b : List β} {p : α × β} (h : p ∈ a.zip b) : p.1 ∈ a := (List.of_mem_zip h).1
set_option maxHeartbeats 2000000 in
set_option maxRecDepth 100000 in
/-- source.Check. -/
theorem srcCheck_any (s : Src.S) (rv zv lv : Value) (evs : List Value) (w : World) (hW : Wa w) (hR : Src.SrcR w w.heap.size s rv zv lv evs) (hL : Src.Lims s) (hS : Src.Sm s) :
    Calls Tryd.prog 24 #[.agg #[rv, zv, lv]] w fun e w' => e = .returned (.int .i64 (if Src.srcB s = true then 0 else 2)) ∧ Below w.heap.size w w' := by
  obtain ⟨rules, zones, links, op⟩ := s
  obtain ⟨⟨rA, rc, rfl, hr1, hr2, hr3⟩, ⟨zA, zc, rfl, hz1, hz2, hz3⟩, ⟨lA, lc, rfl, hl1, hl2, hl3⟩, hlen, hers⟩ := hR
  obtain ⟨L1, L2, L3⟩ := hL
  obtain ⟨S1, S2, S3⟩ := hS
  unfold Src.srcB
  simp only at hr1 hr3 hz1 hz3 hl1 hl3 hlen hers L1 L2 L3 S1 S2 S3 ⊢
  have hC1 : ∀ W, Below w.heap.size w W → _ := fun W hb => has_rule (fun r => !r.good) 58 #[] (enters_of Tryd.func58 (by kernel_rfl) rfl) rA rules.length rc rules W (Nat.le_trans hr1 hr2) rfl ((hr3.below hb).more hb.size)
    (fun W' x hx hbW => by
      rw [show (#[x.v] ++ (#[] : Array Value)) = #[x.v] by simp]
      exact (wrongRule_any x W' (S1 x hx).1 (S1 x hx).2).mono fun e w' ⟨h, hb⟩ => ⟨h, hbW.trans (hb.mono hbW.size)⟩)
  have hC2 : ∀ W, Below w.heap.size w W → _ := fun W hb => has_zone (fun p => !Src.zoneB p.1) 59 #[] (enters_of Tryd.func59 (by kernel_rfl) rfl) zA zones.length zc (zones.zip evs) W (Nat.le_trans hz1 hz2) (by simp [hlen]) ((hz3.below hb).more hb.size)
    (fun W' x hx hbW => by
      have hb2 := hb.trans (hbW.mono hb.size)
      rw [show (#[Src.zv x] ++ (#[] : Array Value)) = #[Src.zv x] by simp]
      exact (wrongZone_any x W' (hW.below hb2) (((hers x hx).below hb2).more hb2.size) (S2 x.1 (mem_zip hx)).1 (S2 x.1 (mem_zip hx)).2).mono fun e w' ⟨h, hb⟩ => ⟨h, hbW.trans (hb.mono hbW.size)⟩)
  have hC3 : ∀ W, Below w.heap.size w W → _ := fun W hb => has_link (fun p => !Src.linkB p) 61 #[] (enters_of Tryd.func61 (by kernel_rfl) rfl) lA links.length lc links W (Nat.le_trans hl1 hl2) rfl ((hl3.below hb).more hb.size)
    (fun W' x hx hbW => by
      rw [show (#[Src.lv x] ++ (#[] : Array Value)) = #[Src.lv x] by simp]
      exact (wrongLink_any x W' (S3 x hx).1 (S3 x hx).2).mono fun e w' ⟨h, hb⟩ => ⟨h, hbW.trans (hb.mono hbW.size)⟩)
  rw [any_not] at hC1 hC3
  rw [any_zip (fun z => !Src.zoneB z) zones evs hlen, any_not] at hC2
  obtain ⟨b1, hb1⟩ : ∃ b, rules.all Ru.R.good = b := ⟨_, rfl⟩
  obtain ⟨b2, hb2⟩ : ∃ b, zones.all Src.zoneB = b := ⟨_, rfl⟩
  obtain ⟨b3, hb3⟩ : ∃ b, links.all Src.linkB = b := ⟨_, rfl⟩
  rw [hb1] at hC1
  rw [hb2] at hC2
  rw [hb3] at hC3
  rw [hb1, hb2, hb3]
  obtain ⟨n1, hn1⟩ : ∃ n, rules.length = n := ⟨_, rfl⟩
  obtain ⟨n2, hn2⟩ : ∃ n, zones.length = n := ⟨_, rfl⟩
  obtain ⟨n3, hn3⟩ : ∃ n, links.length = n := ⟨_, rfl⟩
  rw [hn1] at hC1 L1 ⊢
  rw [hn2] at hC2 L2 ⊢
  rw [hn3] at hC3 L3 ⊢
  have HC1 := Lib.hid hC1
  have HC2 := Lib.hid hC2
  have HC3 := Lib.hid hC3
  clear hC1 hC2 hC3 hb1 hb2 hb3 hn1 hn2 hn3 hr1 hr2 hr3 hz1 hz2 hz3 hl1 hl2 hl3 hlen hers S1 S2 S3 hW
  have q1 : ¬ (4096 : Int) < (n1 : Int) := by omega
  have q2 : ¬ (1024 : Int) < (n2 : Int) := by omega
  have q3 : ¬ (4096 : Int) < (n3 : Int) := by omega
  have HB := Lib.hid ((Below.refl w.heap.size w).alloc (Nat.le_refl _) (.cells #[.slice rA n1 rc, .slice zA n2 zc, .slice lA n3 lc] 26))
  have HA := Lib.hid (At.new w #[.slice rA n1 rc, .slice zA n2 zc, .slice lA n3 lc] 26)
  go_enter Tryd.func24, Tryd.ntmps24
  go_wp2_with fail
  refine (HC1.out _ HB.out).mono ?_
  rintro e w1 ⟨rfl, hb⟩
  have HA1 := Lib.hid (HA.out.call hb)
  replace HB := Lib.hid (below_then HB.out hb)
  clear hb
  obtain ⟨a0, a1, a2, _⟩ := HA1.out.three
  cases b1
  · go_wp2
    go_ret
    exact ⟨rfl, HB.out⟩
  go_wp2_with fail
  refine (HC2.out _ HB.out).mono ?_
  rintro e w2 ⟨rfl, hb⟩
  have HA2 := Lib.hid (HA1.out.call hb)
  replace HB := Lib.hid (below_then HB.out hb)
  clear hb a0 a1 a2
  obtain ⟨a0, a1, a2, _⟩ := HA2.out.three
  cases b2
  · go_wp2
    go_ret
    exact ⟨rfl, HB.out⟩
  go_wp2_with fail
  refine (HC3.out _ HB.out).mono ?_
  rintro e w3 ⟨rfl, hb⟩
  replace HB := Lib.hid (below_then HB.out hb)
  clear hb a0 a1 a2
  cases b3
  · go_wp2
    go_ret
    exact ⟨rfl, HB.out⟩
  · go_wp2
    go_ret
    exact ⟨rfl, HB.out⟩
namespace Src
def zsame (a b : Txt × List Er.E) : Bool := decide (a.1 = b.1) && Ix.same Er.E.same a.2 b.2
theorem zsame_iff (a b : Txt × List Er.E) : zsame a b = true ↔ a = b := by
  obtain ⟨a0, a1⟩ := a
  obtain ⟨b0, b1⟩ := b
  simp [zsame, Ix.same_iff Er.E.same_iff]
def sameB (a b : S) : Bool := Ix.same Ru.R.same a.rules b.rules && (Ix.same zsame a.zones b.zones && Ix.same lsame a.links b.links)
theorem sameB_iff (a b : S) : sameB a b = true ↔ a.rules = b.rules ∧ a.zones = b.zones ∧ a.links = b.links := by
  simp [sameB, Ix.same_iff Ru.R.same_iff, Ix.same_iff zsame_iff, Ix.same_iff lsame_iff]
theorem same_zip {α β γ : Type} (f : α → α → Bool) : ∀ (a a' : List α) (b : List β) (b' : List γ), b.length = a.length → b'.length = a'.length → Ix.same (fun (p q : α × Value) => f p.1 q.1) [] [] = true
  | _, _, _, _, _, _ => rfl
theorem same_fst (f : (Txt × List Er.E) → (Txt × List Er.E) → Bool) : ∀ (a a' : List (Txt × List Er.E)) (b b' : List Value), b.length = a.length → b'.length = a'.length → Ix.same (fun p q => f p.1 q.1) (a.zip b) (a'.zip b') = Ix.same f a a'
  | [], [], [], [], _, _ => rfl
  | [], x :: a', [], y :: b', _, _ => rfl
  | x :: a, [], y :: b, [], _, _ => rfl
  | x :: a, x' :: a', y :: b, y' :: b', h, h' => by
    rw [List.zip_cons_cons, List.zip_cons_cons, Ix.same, Ix.same, same_fst f a a' b b' (by simpa using h) (by simpa using h')]
end Src
set_option maxHeartbeats 1000000 in
theorem sameZone_any (p q : (Src.Txt × List Er.E) × Value) (w : World) (hp : Src.RowR w w.heap.size 13 p.1.2.length p.2 (p.1.2.flatMap Er.E.cells)) (hq : Src.RowR w w.heap.size 13 q.1.2.length q.2 (q.1.2.flatMap Er.E.cells)) :
    Calls Tryd.prog 53 #[Src.zv p, Src.zv q] w fun e w' => e = .returned (.bool (Src.zsame p.1 q.1)) ∧ Below w.heap.size w w' := by
  obtain ⟨⟨na, ea⟩, va⟩ := p
  obtain ⟨⟨nb, eb⟩, vb⟩ := q
  obtain ⟨A, c, e, h1, h2, h3⟩ := hp
  obtain ⟨A', c', e', h1', h2', h3'⟩ := hq
  simp only at e e' h1 h3 h1' h3'
  subst e e'
  have hC := fun W (hb : Below w.heap.size w W) => eqs_era A A' ea.length c eb.length c' ea eb W (Nat.le_trans h1 h2) (Nat.le_trans h1' h2') rfl rfl ((h3.below hb).more hb.size) ((h3'.below hb).more hb.size)
  unfold Src.zv Src.zsame
  simp only
  obtain ⟨X, hX⟩ : ∃ X, Ix.same Er.E.same ea eb = X := ⟨_, rfl⟩
  rw [hX]
  simp only [hX] at hC
  have hiff := Src.bts_iff na nb
  obtain ⟨xa, hxa⟩ : ∃ x, Src.bts na = x := ⟨_, rfl⟩
  obtain ⟨xb, hxb⟩ : ∃ x, Src.bts nb = x := ⟨_, rfl⟩
  rw [hxa, hxb] at hiff
  rw [hxa, hxb]
  obtain ⟨n1, hn1⟩ : ∃ n, ea.length = n := ⟨_, rfl⟩
  obtain ⟨n2, hn2⟩ : ∃ n, eb.length = n := ⟨_, rfl⟩
  simp only [hn1, hn2] at hC
  rw [hn1, hn2]
  have HC := Lib.hid hC
  clear hC h1 h2 h3 h1' h2' h3' hX hxa hxb hn1 hn2
  have HB := Lib.hid (((Below.refl w.heap.size w).alloc (Nat.le_refl _) (.cells #[.string xa, .slice A n1 c] 37)).alloc (by simp) (.cells #[.string xb, .slice A' n2 c'] 37))
  by_cases hne : na = nb
  · have hx := hiff.2 hne
    have b0 : (xa == xb) = true := by rw [hx, beq_toListBytes]; simp
    have b1 : (xa.toList == xb.toList) = true := by rw [hx]; simp
    have HX := Lib.hid hne
    clear hiff hne hx
    go_enter Tryd.func53, Tryd.ntmps53
    go_wp2_with fail
    refine (HC.out _ HB.out).mono ?_
    rintro e w1 ⟨rfl, hd⟩
    replace HB := Lib.hid (below_drew HB.out hd)
    clear hd
    go_wp2
    go_ret
    rw [decide_eq_true HX.out]
    exact ⟨by simp, HB.out⟩
  · have hx : ¬ xa = xb := fun e => hne (hiff.1 e)
    have b1 : (xa.toList == xb.toList) = false := by
      rw [beq_eq_false_iff_ne]
      intro e
      exact hx ((toList_eq_iff _ _).1 e)
    have b0 : (xa == xb) = false := by rw [beq_toListBytes]; exact b1
    have HX := Lib.hid hne
    clear hiff hne hx
    go_enter Tryd.func53, Tryd.ntmps53
    go_wp2
    go_ret
    rw [decide_eq_false HX.out]
    exact ⟨rfl, HB.out⟩
end Go.Proofs.YtmobejhfajnbhaaDoor
/- source.Parse. -/
namespace Go.Proofs.YtmobejhfajnbhaaDoor
open Go.RowKit

theorem below_six {B h : Nat} {a W : World} (hb : Below B a W) (hh : B ≤ h) (v0 v1 v2 v3 v4 v5 : Value) :
    Below B a ((((((W.setCell ⟨h, 0, none⟩ v0).setCell ⟨h, 1, none⟩ v1).setCell ⟨h, 2, none⟩ v2).setCell ⟨h + 1, 0, none⟩ v3).setCell ⟨h + 1, 1, none⟩ v4).setCell ⟨h + 1, 2, none⟩ v5) :=
  (((((hb.setCell (p := ⟨h, 0, none⟩) hh v0).setCell (p := ⟨h, 1, none⟩) hh v1).setCell (p := ⟨h, 2, none⟩) hh v2).setCell (p := ⟨h + 1, 0, none⟩) (Nat.le_succ_of_le hh) v3).setCell (p := ⟨h + 1, 1, none⟩) (Nat.le_succ_of_le hh) v4).setCell (p := ⟨h + 1, 2, none⟩) (Nat.le_succ_of_le hh) v5
theorem Src.parse_bad {t : Src.Txt} {l c y : Int} (h : Sc.lines t = .bad l c y) : Src.parse Src.own t = .bad l c y := by unfold Src.parse; rw [h]
set_option maxHeartbeats 1000000 in
set_option maxRecDepth 100000 in
theorem srcParse_bad (t : ByteArray) (w : World) (hW : Wq w) (hs : t.size ≤ maxLen) (l c y : Int) (hL : Sc.lines (tl t) = .bad l c y) :
    Calls Tryd.prog 22 #[.string t] w (Src.PRet w (.bad l c y)) := by
  have hl := fun W hw => lines_any t W hw hs
  rw [hL] at hl
  have HL := Lib.hid hl
  have HW := Lib.hid hW
  obtain ⟨w0, hw0⟩ : ∃ x, (w.alloc (.cells #[.slice none 0 0, .slice none 0 0, .slice none 0 0] 26)).alloc (.cells #[.int .i64 0, .int .i64 0, .int .i64 0] 59) = x := ⟨_, rfl⟩
  have HB0 := Lib.hid (show Below w.heap.size w w0 by rw [← hw0]; exact ((Below.refl _ _).alloc (Nat.le_refl _) _).alloc (by simp) _)
  have HA2 := Lib.hid (show At w0 w.heap.size [.slice none 0 0, .slice none 0 0, .slice none 0 0] by rw [← hw0]; exact (At.new w #[.slice none 0 0, .slice none 0 0, .slice none 0 0] 26).allocO _)
  have HA3 := Lib.hid (show At w0 (w.heap.size + 1) [.int .i64 0, .int .i64 0, .int .i64 0] by rw [← hw0]; have := At.new (w.alloc (.cells #[.slice none 0 0, .slice none 0 0, .slice none 0 0] 26)) #[.int .i64 0, .int .i64 0, .int .i64 0] 59; simpa using this)
  have hs0 : w0.heap.size = w.heap.size + 2 := by rw [← hw0]; simp
  obtain ⟨h2, hh2⟩ : ∃ h, w.heap.size = h := ⟨_, rfl⟩
  clear hl hW hL
  go_enter Tryd.func22, Tryd.ntmps22
  go_wp2_with fail
  clear hw0
  rw [hh2] at HA2 HA3 hs0
  refine (HL.out _ (HW.out.below HB0.out).p.l).mono ?_
  rintro e w1 ⟨hb, rfl, hy⟩
  have e1 : (y == 0) = false := by rw [beq_eq_false_iff_ne]; exact hy
  have HB1 := Lib.hid hb
  have HA2' := Lib.hid (HA2.out.call hb)
  have HA3' := Lib.hid (HA3.out.call hb)
  have hs1 := hb.size
  have HA5 := Lib.hid (At.new w1 #[.int .i64 l, .int .i64 c, .int .i64 y] 59)
  have HA2'' := Lib.hid (HA2'.out.alloc #[.int .i64 l, .int .i64 c, .int .i64 y] 59)
  have HA3'' := Lib.hid (HA3'.out.alloc #[.int .i64 l, .int .i64 c, .int .i64 y] 59)
  obtain ⟨h5, hh5⟩ : ∃ h, w1.heap.size = h := ⟨_, rfl⟩
  clear hb HA2 HA3 HA2' HA3'
  go_wp2_with fail
  rw [hh5] at HA5 hs1
  have HH2 := Lib.hid hh2
  clear hh2 hh5
  obtain ⟨W, hWW⟩ : ∃ W, w1.alloc (.cells #[.int .i64 l, .int .i64 c, .int .i64 y] 59) = W := ⟨_, rfl⟩
  have HBW := Lib.hid (show Below w.heap.size w W by rw [← hWW]; exact (below_then HB0.out HB1.out).alloc (below_then HB0.out HB1.out).size _)
  rw [hWW] at HA2'' HA3'' HA5 ⊢
  clear hWW
  obtain ⟨a0, a1, a2, b0, b1, b2⟩ := HA2''.out.three
  obtain ⟨c0, c1, c2, d0, d1, d2⟩ := HA3''.out.three
  obtain ⟨f0, f1, f2, _⟩ := HA5.out.three
  have n1 : h2 ≠ h5 := by omega
  have n2 : h5 ≠ h2 := by omega
  have n3 : h2 + 1 ≠ h5 := by omega
  have n4 : h5 ≠ h2 + 1 := by omega
  go_region
  go_wp2
  refine bodyPost_ret (v := .tuple #[.agg #[.slice none 0 0, .slice none 0 0, .slice none 0 0], .agg #[.int .i64 l, .int .i64 c, .int .i64 y]]) (by simp [results, Tryd.results22, go_sem, *]) rfl ⟨?_, rfl⟩
  exact below_drewN (below_six HBW.out (Nat.le_of_eq HH2.out) _ _ _ _ _ _) 1
end Go.Proofs.YtmobejhfajnbhaaDoor
