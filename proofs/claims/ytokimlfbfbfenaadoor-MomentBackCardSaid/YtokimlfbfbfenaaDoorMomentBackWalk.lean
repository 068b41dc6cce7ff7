/- The walk of the law MomentBack. -/
import Derived.Test.YtokimlfbfbfenaaDoorLives07
import Derived.Test.YtokimlfbfbfenaaDoorBackKit
import Derived.Deep.DeepCutAuto
namespace Go.Proofs.YtokimlfbfbfenaaDoor
open Go.RowKit

/-- What holds between the law's parts. -/
def MB (w : World) (s c y m k n d us uc : Int) (wx : World) : Prop := Hid (At wx w.heap.size [.int .i64 s, .int .u8 c]) ∧ Hid (At wx (w.heap.size + 1) [.int .i64 y, .int .i64 m, .int .u8 k, .int .i64 n, .int .i64 d, .int .i64 us, .int .u8 uc]) ∧ Hid (Below w.heap.size w wx)

set_option maxHeartbeats 4000000 in
set_option maxRecDepth 100000 in
theorem momentBack_any (s c : Int) (x : ByteArray) (u : Mo.U) (A : Option Addr) (ln lc : Nat) (ss : List ByteArray) (w : World) (hW : Wm w) (hc : 0 ≤ c) (huc : 0 ≤ u.c) (hx : x.size ≤ maxLen) (hln : ln ≤ lc) (hlc : lc ≤ maxLen) (hr : Reads w w.heap.size 1 A ln (ss.map Value.string)) (hs : ∀ t ∈ ss, t.size ≤ maxLen) :
    Calls Tryd.prog 5 #[.agg #[.int .i64 s, .int .u8 c], .string x, u.v, .slice A ln lc] w fun e w' => e = .returned (.bool true) ∧ Below w.heap.size w w' := by
  have hlen : ss.length = ln := by have := hr.1; simpa using this
  obtain ⟨X, eT, hT, hTc⟩ := momText_both s c hc
  have hU := fun W hw => textUntil_both u W hw huc
  have hUP : u.Ok → Mo.uParse u.texts = (u, 0, 0) := fun h => Mo.parse_texts u h huc
  have hUF : u.Ok → (Mo.uParse (u.texts.take (u.count - 1))).1 ≠ u := fun h => Mo.parse_fewer u h huc
  have hUL := Mo.texts_len u
  have hUB := Mo.count_bd u
  have hTs := fun h => texts_small u h
  have hcheck := fun W (h : u.Ok) => checkUntil_ok u W h
  have hok : u.Ok → Mo.Ok u.s u.c := fun h => h.2.2
  have hnom := fun W hw => nominal_any u.y u.m u.k u.n u.d u.s u.c W hw
  obtain ⟨ia, ib, hin⟩ : ∃ a b, Dy.inS u.k u.n u.d u.y u.m = (a, b) := ⟨_, _, rfl⟩
  have hinC := fun W hw => in_is u.k u.n u.d u.y u.m W hw ia ib hin
  have hnomX : u.Ok → Mo.nom u.k u.n u.d u.y u.m u.s u.c = if ib = 0 then (ia * 86400 + u.s, 0) else (0, ib) := fun h => by unfold Mo.nom; rw [if_pos h.2.2, hin]
  have hat : u.Ok → ib = 0 → ∀ W, Calls Tryd.prog 28 #[.int .i64 ia, .int .i64 u.s] W fun e w' => e = .returned (.tuple #[.int .i64 (ia * 86400 + u.s), .int .i64 0]) ∧ Below W.heap.size W w' := fun h hb W => by
    have := inS_range u.k u.n u.d u.y u.m ia (by rw [hin, hb])
    exact at_ok ia u.s W this.1 this.2 h.2.2.1
  obtain ⟨P1, P2, hP⟩ : ∃ a b, (Mo.uParse ss).1 = a ∧ (Mo.uParse ss).2 = b := ⟨_, _, rfl, rfl⟩
  have hpo := Mo.uParse_ok ss
  rw [hP.1, hP.2] at hpo
  have hPU := fun W hw (hr : Reads W W.heap.size 1 A ln (ss.map Value.string)) (h1 : ∀ t ∈ ss, t.size ≤ 1000000) => calls_val (parseUntil_any A ln lc ss W hw (Nat.le_trans hln hlc) hr h1) (show _ = Value.tuple #[P1.v, .int .i64 P2.1, .int .i64 P2.2] by rw [hP.1, hP.2])
  have hpx := fun W hw (h1 : x.size ≤ 1000000) => momParse_any x W hw h1
  obtain ⟨a1, a2, ae, hpa⟩ : ∃ a b e, Mo.parse x = ((a, b), e) := ⟨_, _, _, rfl⟩
  rw [hpa] at hpx
  have hxo : ae = 0 → Mo.Ok a1 a2 ∧ 0 ≤ a2 := fun h => Mo.parse_ok x a1 a2 (by rw [hpa, h])
  have hsm := fun W (hr : Reads W W.heap.size 1 A ln (ss.map Value.string)) => small07_any A ln lc ss W (Nat.le_trans hln hlc) hr hs
  obtain ⟨y, m, k, n, d, us, uc⟩ := u
  simp only at hU hUP hUF hnom hinC hat huc hnomX
  have HL := Lib.hid fun W hw => lives07 W hw
  have HT := Lib.hid hT
  have HTc := Lib.hid hTc
  have HU := Lib.hid hU
  have HUP := Lib.hid hUP
  have HUF := Lib.hid hUF
  have HUL := Lib.hid hUL
  have HUB := Lib.hid hUB
  have HTs := Lib.hid hTs
  have HCk := Lib.hid hcheck
  have HNom := Lib.hid hnom
  have HIn := Lib.hid hinC
  have HNX := Lib.hid hnomX
  have HAt := Lib.hid hat
  have HPU := Lib.hid hPU
  have HPo := Lib.hid hpo
  have HPx := Lib.hid hpx
  have HXo := Lib.hid hxo
  have HSm := Lib.hid hsm
  have HS := Lib.hid hs
  have HR := Lib.hid hr
  have HLen := Lib.hid hlen
  have HW := Lib.hid hW
  unfold maxLen at hx hlc
  have HB := Lib.hid (((Below.refl w.heap.size w).alloc (Nat.le_refl _) (.cells #[.int .i64 s, .int .u8 c] 32)).alloc (by simp) (.cells #[.int .i64 y, .int .i64 m, .int .u8 k, .int .i64 n, .int .i64 d, .int .i64 us, .int .u8 uc] 48))
  have hA : At ((w.alloc (.cells #[.int .i64 s, .int .u8 c] 32)).alloc (.cells #[.int .i64 y, .int .i64 m, .int .u8 k, .int .i64 n, .int .i64 d, .int .i64 us, .int .u8 uc] 48)) w.heap.size [.int .i64 s, .int .u8 c] := (At.new w _ _).alloc _ _
  have hM : At ((w.alloc (.cells #[.int .i64 s, .int .u8 c] 32)).alloc (.cells #[.int .i64 y, .int .i64 m, .int .u8 k, .int .i64 n, .int .i64 d, .int .i64 us, .int .u8 uc] 48)) (w.heap.size + 1) [.int .i64 y, .int .i64 m, .int .u8 k, .int .i64 n, .int .i64 d, .int .i64 us, .int .u8 uc] := by
    have := At.new (w.alloc (.cells #[.int .i64 s, .int .u8 c] 32)) #[.int .i64 y, .int .i64 m, .int .u8 k, .int .i64 n, .int .i64 d, .int .i64 us, .int .u8 uc] 48
    simpa using this
  have HA := Lib.hid hA
  have HM := Lib.hid hM
  unfold Mo.U.v
  simp only
  clear hT hTc hU hUP hUF hUL hUB hTs hcheck hok hnom hinC hnomX hat hPU hpo hpx hxo hsm hr hlen hW hA hM hin hP hpa
  by_cases h1000 : 1000 < x.size
  · have q1 : (1000 : Int) < (x.size : Int) := by omega
    go_enter Tryd.func5, Tryd.ntmps5
    go_wp2_with fail
    refine (HL.out _ (HW.out.below HB.out)).mono ?_
    rintro e w1 ⟨rfl, hb⟩
    go_wp2
    go_ret
    exact ⟨rfl, below_then HB.out hb⟩
  have q1 : ¬ (1000 : Int) < (x.size : Int) := by omega
  cases hsb : smallB 20 ss
  · have HSb := Lib.hid hsb
    clear hsb
    go_enter Tryd.func5, Tryd.ntmps5
    go_wp2_with fail
    refine (HL.out _ (HW.out.below HB.out)).mono ?_
    rintro e w1 ⟨rfl, hb⟩
    replace HB := Lib.hid (below_then HB.out hb)
    clear hb
    go_wp2_with fail
    refine (calls_bool (HSm.out _ ((HR.out.below HB.out).more HB.out.size)) HSb.out).mono ?_
    rintro e w2 ⟨rfl, rfl⟩
    go_wp2
    go_ret
    exact ⟨rfl, HB.out⟩
  have HSb := Lib.hid hsb
  have hsl := small_of hsb
  have HSl := Lib.hid hsl
  clear hsb hsl
  go_enter Tryd.func5, Tryd.ntmps5
  go_wp2_with fail
  refine (HL.out _ (HW.out.below HB.out)).mono ?_
  rintro e w1 ⟨rfl, hb⟩
  have HA1 := Lib.hid (HA.out.call hb)
  have HM1 := Lib.hid (HM.out.call hb)
  replace HB := Lib.hid (below_then HB.out hb)
  clear hb HA HM
  go_wp2_with fail
  refine (calls_bool (HSm.out _ ((HR.out.below HB.out).more HB.out.size)) HSb.out).mono ?_
  rintro e w2 ⟨rfl, rfl⟩
  have z1 := HM1.out.lt
  obtain ⟨m0, m1, _, _⟩ := HA1.out.two
  go_wp2_with fail
  refine (HT.out _ (HW.out.below HB.out).c).mono ?_
  rintro e w2 ⟨rfl, hb⟩
  have HA2 := Lib.hid (HA1.out.call hb)
  have HM2 := Lib.hid (HM1.out.call hb)
  replace HB := Lib.hid (below_then HB.out hb)
  clear hb HA1 HM1 m0 m1 z1
  go_upto_if 52 with fail
  go_cut [] (fun wx => MB w s c y m k n d us uc wx)
  case first =>
    rcases HTc.out with ⟨hok, e1, e2, e3⟩ | e1
    · have HPX := Lib.hid fun W hw => calls_val (momParse_any X W hw e3) (show _ = Value.tuple #[.agg #[.int .i64 s, .int .u8 c], .int .i64 0] by rw [e2])
      subst e1
      clear hok e2 e3
      have z2 := HM2.out.lt
      go_wp2_with fail
      refine (HPX.out _ (HW.out.below HB.out).c.p).mono ?_
      rintro e w3 ⟨rfl, hb⟩
      have HA3 := Lib.hid (HA2.out.call hb)
      have HM3 := Lib.hid (HM2.out.call hb)
      replace HB := Lib.hid (below_then HB.out hb)
      have z3 := HM3.out.lt
      have z3' := HA3.out.lt
      clear hb
      obtain ⟨m0, m1, _, _⟩ := HA3.out.two
      go_wp2
      go_meet
      exact ⟨HA3.out.alloc _ _, HM3.out.alloc _ _, HB.out.alloc HB.out.size _⟩
    · subst e1
      go_wp2
      go_meet
      exact ⟨HA2.out, HM2.out, HB.out⟩
  case rest =>
  as_aux_lemma =>
  obtain ⟨HA, HM, HB⟩ := hcut
  clear HA2 HM2
  go_wp2_with fail
  refine (HPx.out _ (HW.out.below HB.out).c.p (by omega)).mono ?_
  rintro e w3 ⟨rfl, hb⟩
  have HA3 := Lib.hid (HA.out.call hb)
  have HM3 := Lib.hid (HM.out.call hb)
  have R0 := Lib.hid ((HB.out.trans (hb.mono HB.out.size)))
  replace HB := R0
  clear hb HA HM R0
  go_upto_if 71 with fail
  have z3 := HM3.out.lt
  have z3' := HA3.out.lt
  go_cut [] (fun wx => MB w s c y m k n d us uc wx)
  case first =>
    have HA4 := Lib.hid (HA3.out.alloc #[.int .i64 a1, .int .u8 a2] 32)
    have HM4 := Lib.hid (HM3.out.alloc #[.int .i64 a1, .int .u8 a2] 32)
    have HB4 := Lib.hid (HB.out.alloc HB.out.size (.cells #[.int .i64 a1, .int .u8 a2] 32))
    have HX4 := Lib.hid (At.new w3 #[.int .i64 a1, .int .u8 a2] 32)
    by_cases hae : ae = 0
    · obtain ⟨ho, h0⟩ := HXo.out hae
      have hTx := Ck.text_size a1
      have HTx := Lib.hid fun W hw => momText_ok a1 a2 W hw ho h0
      have hsz : (⟨(Mo.text a1 a2).toArray⟩ : ByteArray).size ≤ 1000000 := by
        rw [size_mk] at hTx ⊢
        unfold Mo.text Mo.tail
        split <;> (try split) <;> simp <;> omega
      have HPx2 := Lib.hid fun W hw => calls_val (momParse_any ⟨(Mo.text a1 a2).toArray⟩ W hw hsz) (show _ = Value.tuple #[.agg #[.int .i64 a1, .int .u8 a2], .int .i64 0] by rw [Mo.parse_text a1 a2 ho h0])
      subst hae
      clear ho h0 hTx hsz
      go_wp2_with fail
      refine (HTx.out _ (HW.out.below HB4.out).c).mono ?_
      rintro e w4 ⟨rfl, hb⟩
      have HA5 := Lib.hid (HA4.out.call hb)
      have HM5 := Lib.hid (HM4.out.call hb)
      have HX5 := Lib.hid (HX4.out.call hb)
      have HB5 := Lib.hid (below_then HB4.out hb)
      clear hb
      go_wp2_with fail
      refine (HPx2.out _ (HW.out.below HB5.out).c.p).mono ?_
      rintro e w5 ⟨rfl, hb⟩
      have HA6 := Lib.hid (HA5.out.call hb)
      have HM6 := Lib.hid (HM5.out.call hb)
      have HX6 := Lib.hid (HX5.out.call hb)
      have HB6 := Lib.hid (below_then HB5.out hb)
      clear hb
      have z6 := HX6.out.lt
      obtain ⟨x0, x1, _, _⟩ := HX6.out.two
      go_wp2
      go_meet
      exact ⟨HA6.out.alloc _ _, HM6.out.alloc _ _, HB6.out.alloc HB6.out.size _⟩
    · have q2 : (ae == 0) = false := by rw [beq_eq_false_iff_ne]; exact hae
      clear hae
      go_wp2
      go_meet
      exact ⟨HA4.out, HM4.out, HB4.out⟩
  case rest =>
  as_aux_lemma =>
  obtain ⟨HA, HM, HB⟩ := hcut
  clear HA3 HM3 z3 z3'
  have z3 := HM.out.lt
  obtain ⟨⟨u0, u1, u2, u3, u4, u5, u6⟩, _⟩ := HM.out.seven
  go_wp2_with fail
  refine (HU.out _ (HW.out.below HB.out).c).mono ?_
  rintro e w3 ⟨AU, nU, cU, eU, rfl, hb, hcU1, hcU2, hcase⟩
  have HA3 := Lib.hid (HA.out.call hb)
  have HM3 := Lib.hid (HM.out.call hb)
  have R0 := Lib.hid ((HB.out.trans (hb.mono HB.out.size)))
  replace HB := R0
  clear hb HA HM R0 u0 u1 u2 u3 u4 u5 u6 z3
  have HCase := Lib.hid hcase
  clear hcase
  go_upto_if 99 with fail
  go_cut [] (fun wx => MB w s c y m k n d us uc wx)
  case first =>
    rcases HCase.out with ⟨hok, e1, e2, e3⟩ | ⟨_, e1⟩
    · have hcnt : nU = Mo.U.count ⟨y, m, k, n, d, us, uc⟩ := by rw [e2, HUL.out]
      have hb4 := HUB.out
      rw [← hcnt] at hb4
      obtain ⟨c1, c4⟩ := hb4
      have HPt := Lib.hid (calls_val (parseUntil_any AU nU cU _ _ (HW.out.below HB.out).c.p (by unfold maxLen; omega) e3 (HTs.out hok)) (show _ = Value.tuple #[.agg #[.int .i64 y, .int .i64 m, .int .u8 k, .int .i64 n, .int .i64 d, .int .i64 us, .int .u8 uc], .int .i64 0, .int .i64 0] by rw [HUP.out hok]; rfl))
      have hrl := fun W (hb : Below w3.heap.size w3 W) => (reads_less e3 (nU - 1) (by omega)).below hb
      have hf := HUF.out hok
      rw [← hcnt] at hf
      obtain ⟨V, p, q, hV⟩ : ∃ V p q, Mo.uParse ((Mo.U.texts ⟨y, m, k, n, d, us, uc⟩).take (nU - 1)) = (V, p, q) := ⟨_, _, _, rfl⟩
      rw [hV] at hf
      have hts2 : ∀ t ∈ (Mo.U.texts ⟨y, m, k, n, d, us, uc⟩).take (nU - 1), t.size ≤ 1000000 := fun t ht => HTs.out hok t (List.mem_of_mem_take ht)
      have hPf := fun W hw (hr : Reads W W.heap.size 1 AU (nU - 1) (((Mo.U.texts ⟨y, m, k, n, d, us, uc⟩).take (nU - 1)).map Value.string)) => calls_val (parseUntil_any AU (nU - 1) cU _ W hw (by unfold maxLen; omega) hr hts2) (show _ = Value.tuple #[V.v, .int .i64 p, .int .i64 q] by rw [hV])
      obtain ⟨v0, v1, v2, v3, v4, v5, v6⟩ := V
      have HPf := Lib.hid hPf
      have HRl := Lib.hid hrl
      have HF := Lib.hid hf
      have HOk := Lib.hid hok
      have qn : (nU : Int) - 1 = ((nU - 1 : Nat) : Int) := by omega
      have HQn := Lib.hid qn
      subst e1
      clear hcnt e2 e3 hrl hf hV hts2 hPf hok qn
      unfold maxLen at hcU2
      have q8 : ¬ (nU : Int) < 1 := by omega
      go_wp2_with fail
      refine HPt.out.mono ?_
      rintro e w4 ⟨rfl, hb⟩
      have HA4 := Lib.hid (HA3.out.call hb)
      have HM4 := Lib.hid (HM3.out.call hb)
      have HX4 := Lib.hid (At.new w4 #[.int .i64 y, .int .i64 m, .int .u8 k, .int .i64 n, .int .i64 d, .int .i64 us, .int .u8 uc] 48)
      have HB4 := Lib.hid (below_then HB.out hb)
      have HD4 := Lib.hid hb
      clear hb
      have HA5 := Lib.hid (HA4.out.alloc #[.int .i64 y, .int .i64 m, .int .u8 k, .int .i64 n, .int .i64 d, .int .i64 us, .int .u8 uc] 48)
      have HM5 := Lib.hid (HM4.out.alloc #[.int .i64 y, .int .i64 m, .int .u8 k, .int .i64 n, .int .i64 d, .int .i64 us, .int .u8 uc] 48)
      have HB5 := Lib.hid (HB4.out.alloc HB4.out.size (.cells #[.int .i64 y, .int .i64 m, .int .u8 k, .int .i64 n, .int .i64 d, .int .i64 us, .int .u8 uc] 48))
      have HD5 := Lib.hid (HD4.out.alloc HD4.out.size (.cells #[.int .i64 y, .int .i64 m, .int .u8 k, .int .i64 n, .int .i64 d, .int .i64 us, .int .u8 uc] 48))
      have z4 := HM4.out.lt
      obtain ⟨⟨u0, u1, u2, u3, u4, u5, u6⟩, _⟩ := HM5.out.seven
      obtain ⟨⟨t0, t1, t2, t3, t4, t5, t6⟩, _⟩ := HM4.out.seven
      go_wp2_with fail
      refine (HPf.out _ (HW.out.below HB5.out).c.p ((HRl.out _ HD5.out).more HD5.out.size)).mono ?_
      rintro e w5 ⟨rfl, hb⟩
      have HA6 := Lib.hid (HA5.out.call hb)
      have HM6 := Lib.hid (HM5.out.call hb)
      have HB6 := Lib.hid (below_then HB5.out hb)
      clear hb u0 u1 u2 u3 u4 u5 u6 t0 t1 t2 t3 t4 t5 t6 z4
      have HA7 := Lib.hid (HA6.out.alloc #[.int .i64 v0, .int .i64 v1, .int .u8 v2, .int .i64 v3, .int .i64 v4, .int .i64 v5, .int .u8 v6] 48)
      have HM7 := Lib.hid (HM6.out.alloc #[.int .i64 v0, .int .i64 v1, .int .u8 v2, .int .i64 v3, .int .i64 v4, .int .i64 v5, .int .u8 v6] 48)
      have HB7 := Lib.hid (HB6.out.alloc HB6.out.size (.cells #[.int .i64 v0, .int .i64 v1, .int .u8 v2, .int .i64 v3, .int .i64 v4, .int .i64 v5, .int .u8 v6] 48))
      have z6 := HM6.out.lt
      obtain ⟨⟨u0, u1, u2, u3, u4, u5, u6⟩, _⟩ := HM7.out.seven
      unfold Mo.U.v
      simp only
      go_upto_region 22 with fail
      go_cut [134] (fun b wx => b = .bool false ∧ w5.alloc (.cells #[.int .i64 v0, .int .i64 v1, .int .u8 v2, .int .i64 v3, .int .i64 v4, .int .i64 v5, .int .u8 v6] 48) = wx)
      case first =>
        have hF : ¬ (v0 = y ∧ v1 = m ∧ v2 = k ∧ v3 = n ∧ v4 = d ∧ v5 = us ∧ v6 = uc) := by
          rintro ⟨rfl, rfl, rfl, rfl, rfl, rfl, rfl⟩
          exact HF.out rfl
        clear HPt HPf HRl
        by_cases d0 : v0 = y
        · have b0 : (v0 == y) = true := by rw [beq_iff_eq]; exact d0
          subst d0
          by_cases d1 : v1 = m
          · have b1 : (v1 == m) = true := by rw [beq_iff_eq]; exact d1
            subst d1
            by_cases d2 : v2 = k
            · have b2 : (v2 == k) = true := by rw [beq_iff_eq]; exact d2
              subst d2
              by_cases d3 : v3 = n
              · have b3 : (v3 == n) = true := by rw [beq_iff_eq]; exact d3
                subst d3
                by_cases d4 : v4 = d
                · have b4 : (v4 == d) = true := by rw [beq_iff_eq]; exact d4
                  subst d4
                  by_cases d5 : v5 = us
                  · have b5 : (v5 == us) = true := by rw [beq_iff_eq]; exact d5
                    subst d5
                    by_cases d6 : v6 = uc
                    · have b6 : (v6 == uc) = true := by rw [beq_iff_eq]; exact d6
                      subst d6
                      exact (hF ⟨rfl, rfl, rfl, rfl, rfl, rfl, rfl⟩).elim
                    · have b6 : (v6 == uc) = false := by rw [beq_eq_false_iff_ne]; exact d6
                      clear hF
                      as_aux_lemma =>
                      go_wp2
                      go_meet
                      exact ⟨rfl, rfl⟩
                  · have b5 : (v5 == us) = false := by rw [beq_eq_false_iff_ne]; exact d5
                    clear hF
                    as_aux_lemma =>
                    go_wp2
                    go_meet
                    exact ⟨rfl, rfl⟩
                · have b4 : (v4 == d) = false := by rw [beq_eq_false_iff_ne]; exact d4
                  clear hF
                  as_aux_lemma =>
                  go_wp2
                  go_meet
                  exact ⟨rfl, rfl⟩
              · have b3 : (v3 == n) = false := by rw [beq_eq_false_iff_ne]; exact d3
                clear hF
                as_aux_lemma =>
                go_wp2
                go_meet
                exact ⟨rfl, rfl⟩
            · have b2 : (v2 == k) = false := by rw [beq_eq_false_iff_ne]; exact d2
              clear hF
              as_aux_lemma =>
              go_wp2
              go_meet
              exact ⟨rfl, rfl⟩
          · have b1 : (v1 == m) = false := by rw [beq_eq_false_iff_ne]; exact d1
            clear hF
            as_aux_lemma =>
            go_wp2
            go_meet
            exact ⟨rfl, rfl⟩
        · have b0 : (v0 == y) = false := by rw [beq_eq_false_iff_ne]; exact d0
          clear hF
          as_aux_lemma =>
          go_wp2
          go_meet
          exact ⟨rfl, rfl⟩
      case rest =>
      as_aux_lemma =>
      obtain ⟨rfl, rfl⟩ := hcut
      go_wp2_with fail
      refine (HIn.out _ (HW.out.below HB7.out).o).mono ?_
      rintro e w6 ⟨rfl, hb⟩
      have HA8 := Lib.hid (HA7.out.call hb)
      have HM8 := Lib.hid (HM7.out.call hb)
      have HB8 := Lib.hid (below_then HB7.out hb)
      clear hb u0 u1 u2 u3 u4 u5 u6 z6
      have z8 := HM8.out.lt
      obtain ⟨⟨u0, u1, u2, u3, u4, u5, u6⟩, _⟩ := HM8.out.seven
      by_cases hib : ib = 0
      · have hnv := HNX.out HOk.out
        rw [if_pos hib] at hnv
        have hn2 := HNom.out
        rw [hnv] at hn2
        have HN2 := Lib.hid hn2
        have HAt2 := Lib.hid (HAt.out HOk.out hib)
        subst hib
        clear hnv hn2
        go_wp2_with fail
        refine (HN2.out _ (HW.out.below HB8.out).o).mono ?_
        rintro e w7 ⟨rfl, hb⟩
        have HA9 := Lib.hid (HA8.out.call hb)
        have HM9 := Lib.hid (HM8.out.call hb)
        have HB9 := Lib.hid (below_then HB8.out hb)
        clear hb u0 u1 u2 u3 u4 u5 u6 z8
        have z9 := HM9.out.lt
        obtain ⟨⟨u0, u1, u2, u3, u4, u5, u6⟩, _⟩ := HM9.out.seven
        go_wp2_with fail
        refine (HAt2.out _).mono ?_
        rintro e w8 ⟨rfl, hb⟩
        have HA10 := Lib.hid (HA9.out.call hb)
        have HM10 := Lib.hid (HM9.out.call hb)
        have HB10 := Lib.hid (below_then HB9.out hb)
        clear hb u0 u1 u2 u3 u4 u5 u6 z9
        go_wp2
        go_meet
        exact ⟨HA10.out, HM10.out, HB10.out⟩
      · have hnv := HNX.out HOk.out
        rw [if_neg hib] at hnv
        have hn2 := HNom.out
        rw [hnv] at hn2
        have HN2 := Lib.hid hn2
        have hany : ∃ a b, ∀ W, Calls Tryd.prog 28 #[.int .i64 ia, .int .i64 us] W fun e w' => e = .returned (.tuple #[.int .i64 a, .int .i64 b]) ∧ Below W.heap.size W w' := by
          by_cases h : (-719162 ≤ ia ∧ ia < 2932897) ∧ IsTime us
          · exact ⟨_, _, fun W => at_ok ia us W h.1.1 h.1.2 h.2⟩
          · exact ⟨_, _, fun W => at_bad ia us W h⟩
        obtain ⟨ga, gb, hga⟩ := hany
        have HAt2 := Lib.hid hga
        have qb : (ib == 0) = false := by rw [beq_eq_false_iff_ne]; exact hib
        clear hnv hn2 hga hib
        go_wp2_with fail
        refine (HN2.out _ (HW.out.below HB8.out).o).mono ?_
        rintro e w7 ⟨rfl, hb⟩
        have HA9 := Lib.hid (HA8.out.call hb)
        have HM9 := Lib.hid (HM8.out.call hb)
        have HB9 := Lib.hid (below_then HB8.out hb)
        clear hb u0 u1 u2 u3 u4 u5 u6 z8
        have z9 := HM9.out.lt
        obtain ⟨⟨u0, u1, u2, u3, u4, u5, u6⟩, _⟩ := HM9.out.seven
        go_wp2_with fail
        refine (HAt2.out _).mono ?_
        rintro e w8 ⟨rfl, hb⟩
        have HA10 := Lib.hid (HA9.out.call hb)
        have HM10 := Lib.hid (HM9.out.call hb)
        have HB10 := Lib.hid (below_then HB9.out hb)
        clear hb u0 u1 u2 u3 u4 u5 u6 z9
        go_wp2
        go_meet
        exact ⟨HA10.out, HM10.out, HB10.out⟩
    · subst e1
      go_wp2
      go_meet
      exact ⟨HA3.out, HM3.out, HB.out⟩
  case rest =>
  as_aux_lemma =>
  obtain ⟨HA, HM, HB⟩ := hcut
  clear HA3 HM3
  go_wp2_with fail
  refine (HPU.out _ (HW.out.below HB.out).c.p ((HR.out.below HB.out).more HB.out.size) (fun t ht => Nat.le_trans (HSl.out.2 t ht) (by omega))).mono ?_
  rintro e w3 ⟨rfl, hb⟩
  have R0 := Lib.hid ((HB.out.trans (hb.mono HB.out.size)))
  replace HB := R0
  clear hb HA HM R0
  have hpo := HPo.out
  obtain ⟨p1, p2⟩ := P2
  simp only at hpo
  rcases hpo with ⟨e1, e2, e3, e4⟩ | ⟨e1, e2, e3, e4, e5⟩
  · have HCk2 := Lib.hid fun W => checkUntil_ok P1 W e3
    obtain ⟨v0, v1, v2, v3, v4, v5, v6⟩ := P1
    unfold Mo.U.v at HCk2 ⊢
    simp only at HCk2 ⊢
    subst e1 e2
    clear e3 e4
    have HX4 := Lib.hid (At.new w3 #[.int .i64 v0, .int .i64 v1, .int .u8 v2, .int .i64 v3, .int .i64 v4, .int .i64 v5, .int .u8 v6] 48)
    obtain ⟨⟨u0, u1, u2, u3, u4, u5, u6⟩, _⟩ := HX4.out.seven
    go_wp2_with fail
    refine (HCk2.out _).mono ?_
    rintro e w4 ⟨rfl, hb⟩
    go_wp2
    go_ret
    exact ⟨rfl, below_then (HB.out.alloc HB.out.size _) hb⟩
  · subst e2
    unfold Mo.U.v Mo.U.zero
    simp only
    have q2 : (p2 != 0) = true := by simpa using e1
    have q2' : (p2 == 0) = false := by simpa using e1
    have q3 : p1 ≤ (ln : Int) := by rw [HLen.out] at e5; exact e5
    clear e1 e5
    go_wp2
    go_ret
    exact ⟨rfl, HB.out.alloc HB.out.size _⟩
end Go.Proofs.YtokimlfbfbfenaaDoor
