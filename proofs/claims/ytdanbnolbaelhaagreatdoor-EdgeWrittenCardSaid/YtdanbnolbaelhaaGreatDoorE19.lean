/- edge.Saved, edge.Holds. -/
import Derived.Test.YtdanbnolbaelhaaGreatDoorE18
import Derived.Test.YtdanbnolbaelhaaGreatDoorE13
import Derived.Deep.DeepCutAuto

namespace Go.Proofs.YtdanbnolbaelhaaGreatDoor
open Go.RowKit

namespace Eg
/-- What is asked of rules: right ones, and not too many. -/
structure RulesOk (rules : List Ru.R) : Prop where
  len : rules.length ≤ 4096
  ok : ∀ r ∈ rules, r.Ok ∧ r.nm.size ≤ 1000000 ∧ r.lt.size ≤ 1000000
theorem RulesOk.of {rules : List Ru.R} (h : RulesOk rules) (name : ByteArray) : RulesOk (Src.ofName name rules) :=
  ⟨Nat.le_trans (List.length_filter_le _ _) h.len, fun r hr => h.ok r (Ln.ofName_mem hr)⟩
theorem RulesOk.time {rules : List Ru.R} (h : RulesOk rules) : ∀ r ∈ rules, IsTime r.sv := fun r hr => (h.ok r hr).1.2.2.2.2.2.1
end Eg
set_option maxHeartbeats 4000000 in
set_option maxRecDepth 100000 in
/-- edge.Saved. -/
theorem saved_any (s : Src.S) (rv zv lv : Value) (evs : List Value) (e : Er.E) (n : Int) (w : World) (hR : Src.SrcR w w.heap.size s rv zv lv evs) (hK : Eg.RulesOk s.rules) (hW : Wo w) (hn : -9223372036854775808 ≤ n ∧ n ≤ 9223372036854775807) :
    Calls Tryz.prog 16 #[.agg #[rv, zv, lv], e.v, .int .i64 n] w fun r w' => r = .returned (.int .i64 (Eg.saved s.rules e n)) ∧ Below w.heap.size w w' := by
  obtain ⟨std, k, sv, ru, fm, en, ⟨uy, um, uk, un, ud, us, uc⟩⟩ := e
  unfold Er.E.v Eg.saved
  simp only
  obtain ⟨rA, rc, rfl, _⟩ := hR.rules
  obtain ⟨zA, zc, rfl, _⟩ := hR.zones
  obtain ⟨lA, lc, rfl, _⟩ := hR.links
  obtain ⟨n1, hn1⟩ : ∃ m, s.rules.length = m := ⟨_, rfl⟩
  obtain ⟨n2, hn2⟩ : ∃ m, s.zones.length = m := ⟨_, rfl⟩
  obtain ⟨n3, hn3⟩ : ∃ m, s.links.length = m := ⟨_, rfl⟩
  obtain ⟨W2, hW2⟩ : ∃ W, (w.alloc (.cells #[.slice rA n1 rc, .slice zA n2 zc, .slice lA n3 lc] 26)).alloc (.cells #[.int .i64 std, .int .u8 k, .int .i64 sv, .string ru, .string fm, .bool en, .int .i64 uy, .int .i64 um, .int .u8 uk, .int .i64 un, .int .i64 ud, .int .i64 us, .int .u8 uc] 48) = W := ⟨_, rfl⟩
  have hb2 : Below w.heap.size w W2 := by rw [← hW2]; exact ((Below.refl _ _).alloc (Nat.le_refl _) _).alloc (by simp) _
  have hRu := srcRules_any s _ _ _ evs ru W2 (hR.call hb2) hK.len
  rw [hn1, hn2, hn3] at hRu ⊢
  have hLs := fun v W (hO : W.ownsRow W2.heap.size 80 11 v (Src.ofName ru s.rules).length ((Src.ofName ru s.rules).flatMap Ru.R.cells)) (hb : Below w.heap.size w W) => (show ∃ A c, v = .slice A (Src.ofName ru s.rules).length c ∧ Calls Tryz.prog 56 #[v, .int .i64 n] W fun e w' => e = .returned (.tuple #[(Oc.lastT (Src.ofName ru s.rules) n).occv, .bool (Oc.lastN (Src.ofName ru s.rules) n).isSome]) ∧ Below W.heap.size W w' by
    obtain ⟨A, c, rfl, _⟩ := own_slice hO
    exact ⟨A, c, rfl, ocLast_any _ A c n W (Reads.of_own hO) (hK.of ru).ok (hW.below hb) (hK.of ru).len hn⟩)
  have HRu := Lib.hid hRu
  have HLs := Lib.hid hLs
  have HB2 := Lib.hid hb2
  have HW2 := Lib.hid hW2
  clear hR hK hW hRu hLs hb2 hn1 hn2 hn3 hW2
  by_cases h1 : k = 1
  · subst h1
    rw [if_pos rfl]
    go_enter Tryz.func16, Tryz.ntmps16
    go_wp2
    rw [HW2.out]
    go_ret
    exact ⟨rfl, HB2.out⟩
  · rw [if_neg h1]
    have b1 : (k == 1) = false := by simpa using h1
    by_cases h2 : k = 2
    · subst h2
      rw [if_pos rfl]
      obtain ⟨X, hX⟩ : ∃ X, Oc.svO (Oc.lastN (Src.ofName ru s.rules) n) = X := ⟨_, rfl⟩
      have hsv := Eg.lastT_sv (Src.ofName ru s.rules) n
      rw [hX] at hsv ⊢
      obtain ⟨T, hT⟩ : ∃ T, Oc.lastT (Src.ofName ru s.rules) n = T := ⟨_, rfl⟩
      obtain ⟨bo, hbo⟩ : ∃ b, (Oc.lastN (Src.ofName ru s.rules) n).isSome = b := ⟨_, rfl⟩
      rw [hT] at hsv HLs
      rw [hbo] at HLs
      obtain ⟨tn, tc, tsv, tbf, tlt, tpl, ty⟩ := T
      obtain rfl : tsv = X := hsv
      unfold Oc.E.occv at HLs
      simp only at HLs
      clear hX hT hbo b1 h1
      go_enter Tryz.func16, Tryz.ntmps16
      go_wp2_with fail
      rw [HW2.out]
      refine HRu.out.mono ?_
      rintro r w3 ⟨v, rfl, hb3, hO⟩
      have hB3 := below_then HB2.out hb3
      obtain ⟨A, c, rfl, hC⟩ := HLs.out v w3 hO hB3
      have HC := Lib.hid hC
      have HB3 := Lib.hid hB3
      clear hb3 hO hB3 hC
      go_wp2_with fail
      refine HC.out.mono ?_
      rintro r w4 ⟨rfl, hb4⟩
      have HB4 := Lib.hid (below_then HB3.out hb4)
      clear hb4
      go_wp2
      go_ret
      exact ⟨rfl, HB4.out.alloc HB4.out.size _⟩
    · rw [if_neg h2]
      have b2 : (k == 2) = false := by simpa using h2
      go_enter Tryz.func16, Tryz.ntmps16
      go_wp2
      rw [HW2.out]
      go_ret
      exact ⟨rfl, HB2.out⟩
set_option maxHeartbeats 4000000 in
/-- The closure of edge.Holds. -/
theorem holdsC_any (x t : Int) (h : Nat) (w : World) (hc : w.cell? ⟨h, 0, none⟩ = some (.int .i64 t)) :
    Calls Tryz.prog 58 #[.int .i64 x, .pointer (some ⟨h, 0, none⟩)] w fun r w' => r = .returned (.bool (decide (t < x))) ∧ w = w' := by
  go_enter Tryz.func58, Tryz.ntmps58
  go_wp2
  go_ret
  exact ⟨rfl, rfl⟩
namespace Eg
def i64s (l : List Int) : List Value := l.map fun x => .int .i64 x
def found (ends : List Int) (t : Int) : Int := if Ln.hold ends t < ends.length then (Ln.hold ends t : Int) else -1
end Eg
set_option maxHeartbeats 4000000 in
set_option maxRecDepth 100000 in
theorem idx64_any (ends : List Int) (t : Int) (A : Option Addr) (n c B h : Nat) (w : World) (hl : ends.length = n) (hn : n ≤ 1000000000) (hR : Reads w B 1 A n (Eg.i64s ends)) (hc : w.cell? ⟨h, 0, none⟩ = some (.int .i64 t)) :
    Calls Tryz.prog 57 #[.slice A n c, .func (.func 58) #[] #[.pointer (some ⟨h, 0, none⟩)]] w fun r w' => r = .returned (.int .i64 (Eg.found ends t)) ∧ w = w' := by
  have eg := enters_of Tryz.func58 (by kernel_rfl) rfl
  have HR := Lib.hid hR
  have HL := Lib.hid hl
  have HC := Lib.hid fun x => holdsC_any x t h w hc
  clear hR hl hc
  go_enter Tryz.func57, Tryz.ntmps57
  go_wp2
  go_loopw [8] (fun i wr => wr = w ∧ ∃ k : Nat, k ≤ n ∧ i = .int .i64 (k : Int) ∧ Hid (∀ i x, i < k → ends[i]? = some x → x ≤ t)) (fun i _ => n - (intOf i).toNat)
  case atStart => exact ⟨rfl, 0, Nat.zero_le _, rfl, fun i x hi => by omega⟩
  case round =>
    obtain ⟨e9, k, hk, rfl, HP⟩ := hrel
    subst e9
    by_cases hlt : k < n
    · obtain ⟨ad, u, rfl, hab, hu, hcu⟩ := HR.out.at_ hlt
      obtain ⟨x, hx⟩ : ∃ x, ends[k]? = some x := ⟨_, List.getElem?_eq_getElem (by rw [HL.out]; exact hlt)⟩
      have hux : u = .int .i64 x := by
        unfold Eg.i64s at hu
        rw [List.getElem?_map, hx] at hu
        exact (Option.some.inj hu).symm
      subst hux
      have q1 : (0 : Int) ≤ (k : Int) := by omega
      have q2 : (k : Int) < (n : Int) := by omega
      have HX := Lib.hid hx
      have HCx := Lib.hid (HC.out x)
      clear hx hu
      by_cases hgt : t < x
      · rw [decide_eq_true hgt] at HCx
        have hf : Eg.found ends t = (k : Int) := by
          have h1 := Ln.hold_is ends t k (by rw [HL.out]; exact hk) (fun i y hi hy => HP.out i y hi hy) (fun y hy => by
            rw [HX.out] at hy
            cases hy
            exact hgt)
          unfold Eg.found
          rw [h1, if_pos (by rw [HL.out]; exact hlt)]
        have HF := Lib.hid hf
        clear hf
        go_wp2_with fail
        refine HCx.out.mono ?_
        rintro r w3 ⟨rfl, rfl⟩
        go_wp2
        go_ret
        exact ⟨ret_int HF.out.symm, rfl⟩
      · rw [decide_eq_false hgt] at HCx
        have HN : Hid (∀ i y, i < k + 1 → ends[i]? = some y → y ≤ t) := fun i y hi hy => by
          rcases Nat.lt_or_ge i k with q | q
          · exact HP.out i y q hy
          · obtain rfl : i = k := by omega
            rw [HX.out] at hy
            cases hy
            omega
        go_wp2_with fail
        refine HCx.out.mono ?_
        rintro r w3 ⟨rfl, rfl⟩
        go_wp2
        go_roundw
        case rel => exact ⟨trivial, k + 1, by omega, by go_num, HN.out⟩
        case measure => simp [intOf]; omega
    · have hkn : k = n := by omega
      subst hkn
      have q2 : ¬ (k : Int) < (k : Int) := by omega
      have hf : Eg.found ends t = -1 := by
        have h1 := Ln.hold_is ends t k (by rw [HL.out]; exact Nat.le_refl _) (fun i y hi hy => HP.out i y hi hy) (fun y hy => by
          rw [List.getElem?_eq_none (by rw [HL.out]; exact Nat.le_refl _)] at hy
          cases hy)
        unfold Eg.found
        rw [h1, if_neg (by rw [HL.out]; omega)]
      have HF := Lib.hid hf
      clear hf
      go_wp2
      go_ret
      exact ⟨ret_int HF.out.symm, rfl⟩
set_option maxHeartbeats 4000000 in
set_option maxRecDepth 100000 in
/-- edge.Holds. -/
theorem holds_any (ends : List Int) (t : Int) (A : Option Addr) (n c : Nat) (w : World) (hl : ends.length = n) (hn : n ≤ 1000000000) (hR : Reads w w.heap.size 1 A n (Eg.i64s ends)) :
    Calls Tryz.prog 17 #[.slice A n c, .int .i64 t] w fun r w' => r = .returned (.int .i64 (Ln.hold ends t : Int)) ∧ Below w.heap.size w w' := by
  have hb1 := (Below.refl w.heap.size w).alloc (Nat.le_refl _) (.cells #[.int .i64 t] 2)
  have hI := idx64_any ends t A n c w.heap.size w.heap.size (w.alloc (.cells #[.int .i64 t] 2)) hl hn (hR.below hb1) ((At.new w #[.int .i64 t] 2).cell 0 _ rfl)
  have hle := Ln.hold_le ends t
  obtain ⟨F, hF⟩ : ∃ F, Eg.found ends t = F := ⟨_, rfl⟩
  rw [hF] at hI
  unfold Eg.found at hF
  obtain ⟨H, hH⟩ : ∃ H, Ln.hold ends t = H := ⟨_, rfl⟩
  rw [hH, hl] at hF
  rw [hH, hl] at hle
  rw [hH]
  have HI := Lib.hid hI
  have HB1 := Lib.hid hb1
  clear hI hb1 hR hH hl
  by_cases hlt : H < n
  · rw [if_pos hlt] at hF
    subst hF
    have q1 : ¬ (H : Int) < 0 := by omega
    go_enter Tryz.func17, Tryz.ntmps17
    go_wp2_with fail
    refine HI.out.mono ?_
    rintro r w3 ⟨rfl, rfl⟩
    go_wp2
    go_ret
    exact ⟨rfl, HB1.out⟩
  · rw [if_neg hlt] at hF
    subst hF
    obtain rfl : H = n := by omega
    go_enter Tryz.func17, Tryz.ntmps17
    go_wp2_with fail
    refine HI.out.mono ?_
    rintro r w3 ⟨rfl, rfl⟩
    go_wp2
    go_ret
    exact ⟨rfl, HB1.out⟩
end Go.Proofs.YtdanbnolbaelhaaGreatDoor

/- The walk of finder.find. -/
namespace Go.Proofs.YtdanbnolbaelhaaGreatDoor
open Go.RowKit

theorem zero_found (W : World) : (zeroValue 125).run Tryz.prog W = .ok (.agg #[.int .i64 0, .int .i64 0]) W := by kernel_rfl
theorem zero_int (W : World) : (zeroValue 3).run Tryz.prog W = .ok (.int .i64 0) W := by kernel_rfl
theorem look_kf (w : World) {ops : Array Oper} {rest : List Oper} {o : Oper} {a : Act} {Q : Exit → Act → World → Prop} (hg : o.guard = none) (m x : Operand) (b n : Nat) (K : Lk.Kn) (s : ByteArray) (hs : s.size ≤ maxLen) (hop : o.op = Op.lookup 180 m x true)
    (hm : a.eval m = .map (some b)) (hx : a.eval x = .string s) (h : MapF Tryz.prog 9 w b n (Lk.kf K))
    (hK : wpList Tryz.prog ops Q rest (a.put o.dst (.tuple #[.agg #[.int .i64 ((K s).getD (0, 0)).1, .int .i64 ((K s).getD (0, 0)).2], .bool (K s).isSome])) w) : wpList Tryz.prog ops Q (o :: rest) a w := by
  refine wpList_look_ok w hg m x 180 9 125 hop Tryz.underlying9 Tryz.underlying180 zero_found b n (Lk.kf K) s hs hm hx h ?_
  have e1 : (Lk.kf K s).getD (.agg #[.int .i64 0, .int .i64 0]) = .agg #[.int .i64 ((K s).getD (0, 0)).1, .int .i64 ((K s).getD (0, 0)).2] := by
    unfold Lk.kf
    cases K s <;> rfl
  have e2 : (Lk.kf K s).isSome = (K s).isSome := by
    unfold Lk.kf
    cases K s <;> rfl
  rw [e1, e2]
  exact hK
theorem look_pl_yes (w : World) {ops : Array Oper} {rest : List Oper} {o : Oper} {a : Act} {Q : Exit → Act → World → Prop} (hg : o.guard = none) (m x : Operand) (b n : Nat) (ns : List ByteArray) (s : ByteArray) (hs : s.size ≤ maxLen) (i : Nat) (hi : Lk.first ns s = some i) (hop : o.op = Op.lookup 128 m x true)
    (hm : a.eval m = .map (some b)) (hx : a.eval x = .string s) (h : MapF Tryz.prog 9 w b n (Lk.places ns))
    (hK : wpList Tryz.prog ops Q rest (a.put o.dst (.tuple #[.int .i64 (i : Int), .bool true])) w) : wpList Tryz.prog ops Q (o :: rest) a w :=
  wpList_look_yes w hg m x 128 9 3 hop Tryz.underlying9 Tryz.underlying128 zero_int b n _ s hs hm hx h (.int .i64 (i : Int)) (by unfold Lk.places; rw [hi]; rfl) hK
theorem look_pl_no (w : World) {ops : Array Oper} {rest : List Oper} {o : Oper} {a : Act} {Q : Exit → Act → World → Prop} (hg : o.guard = none) (m x : Operand) (b n : Nat) (ns : List ByteArray) (s : ByteArray) (hs : s.size ≤ maxLen) (hi : Lk.first ns s = none) (hop : o.op = Op.lookup 128 m x true)
    (hm : a.eval m = .map (some b)) (hx : a.eval x = .string s) (h : MapF Tryz.prog 9 w b n (Lk.places ns))
    (hK : wpList Tryz.prog ops Q rest (a.put o.dst (.tuple #[.int .i64 0, .bool false])) w) : wpList Tryz.prog ops Q (o :: rest) a w :=
  wpList_look_no w hg m x 128 9 3 hop Tryz.underlying9 Tryz.underlying128 zero_int b n _ s hs hm hx h (by unfold Lk.places; rw [hi]; rfl) hK
theorem store_kf (w : World) {ops : Array Oper} {rest : List Oper} {o : Oper} {a : Act} {Q : Exit → Act → World → Prop} (hg : o.guard = none) (m x v : Operand) (b n : Nat) (K : Lk.Kn) (s : ByteArray) (hs : s.size ≤ maxLen) (hn : n < maxLen) (e : Lk.Fd) (hop : o.op = Op.mapUpdate 180 m x v)
    (hm : a.eval m = .map (some b)) (hx : a.eval x = .string s) (hv : a.eval v = .agg #[.int .i64 e.1, .int .i64 e.2]) (h : MapF Tryz.prog 9 w b n (Lk.kf K))
    (hK : ∀ w', MapF Tryz.prog 9 w' b (n + 1) (Lk.kf (Lk.mark K s e)) → w.grownBy w' (some b) → wpList Tryz.prog ops Q rest (a.put o.dst undef) w') : wpList Tryz.prog ops Q (o :: rest) a w := by
  refine wpList_store w hg m x v 180 9 125 hop Tryz.underlying9 Tryz.underlying180 b n (Lk.kf K) s hs hn _ hm hx hv h ?_
  intro w' hM hg'
  rw [Lk.kf_put] at hM
  exact hK w' hM hg'
set_option maxHeartbeats 16000000 in
set_option maxRecDepth 100000 in
theorem find_any (s : Src.S) (lv : Value) (g bz bl bk n : Nat) (K : Lk.Kn) (x : ByteArray) (w : World) (hF : Lk.Fr s lv w g bz bl bk n (Lk.kf K)) (hR : Src.RowR w w.heap.size 2 s.links.length lv (s.links.flatMap Src.lc))
    (hl : s.links.length ≤ 1000000) (hn : n ≤ 1000000) (hx : x.size ≤ maxLen) (hsz : ∀ k ∈ s.links, k.1.length ≤ maxLen) :
    Calls Tryz.prog 61 #[.pointer (some ⟨g, 0, none⟩), .string x] w (Lk.FdR s lv g bz bl bk n K (Lk.find (Lk.zn s) (Lk.ln s) (Lk.tg s) (s.links.length + 1) K x) w) := by
  obtain ⟨hg, hz, hlm, hk, ne1, ne2⟩ := hF
  obtain ⟨lA, lc, rfl, _, _, hrl⟩ := hR
  obtain ⟨h, hh⟩ : ∃ h, w.heap.size = h := ⟨_, rfl⟩
  have hgm := hg.ne_map hk
  have hgl := hg.lt
  have hkl := hk.lt
  have HGS : Hid (∀ W, w.grownBy W (some bk) → (W.cell? ⟨g, 0, none⟩ = some (.slice lA s.links.length lc) ∧ W.cell? ⟨g, 1, none⟩ = some (.map (some bz)) ∧ W.cell? ⟨g, 2, none⟩ = some (.map (some bl)) ∧ W.cell? ⟨g, 3, none⟩ = some (.map (some bk))) ∧
      MapF Tryz.prog 9 W bz s.zones.length (Lk.places (Lk.zn s)) ∧ MapF Tryz.prog 9 W bl s.links.length (Lk.places (Lk.ln s))) := fun W hgb =>
    ⟨⟨hk.keeps hgb (hg.cell 0 _ rfl), hk.keeps hgb (hg.cell 1 _ rfl), hk.keeps hgb (hg.cell 2 _ rfl), hk.keeps hgb (hg.cell 3 _ rfl)⟩, hz.kept hgb (fun e => by cases e; exact ne1 rfl), hlm.kept hgb (fun e => by cases e; exact ne2 rfl)⟩
  have HG := Lib.hid hg
  have HZ := Lib.hid hz
  have HLm := Lib.hid hlm
  have HRl := Lib.hid hrl
  have HK0 := Lib.hid hk
  have HSz := Lib.hid hsz
  obtain ⟨g0, g1, g2, g3⟩ := (HGS.out w (World.grownBy.refl w _)).1
  have g3' : (w.alloc (.cells #[.int .i64 0, .int .i64 0] 125)).cell? ⟨g, 3, none⟩ = some (.map (some bk)) := (World.cell?_alloc_lt w _ ⟨g, 3, none⟩ hgl).trans g3
  have hk1 := hk.alloc (.cells #[.int .i64 0, .int .i64 0] 125)
  obtain ⟨p0, hp0⟩ : ∃ p, (K x).getD (0, 0) = p := ⟨_, rfl⟩
  have HP0 := Lib.hid hp0
  obtain ⟨R, hR⟩ : ∃ R, Lk.find (Lk.zn s) (Lk.ln s) (Lk.tg s) (s.links.length + 1) K x = R := ⟨_, rfl⟩
  have HRR := Lib.hid hR
  rw [hR]
  have hA5 := (At.new w #[.int .i64 0, .int .i64 0] 125).allocO (.cells #[.int .i64 p0.1, .int .i64 p0.2] 125)
  have hA7 := At.new (w.alloc (.cells #[.int .i64 0, .int .i64 0] 125)) #[.int .i64 p0.1, .int .i64 p0.2] 125
  rw [World.size_alloc] at hA7
  rw [hh] at hA5 hA7
  have hM7 := hk1.alloc (.cells #[.int .i64 p0.1, .int .i64 p0.2] 125)
  have hG7 := gb_alloc (gb_alloc (World.grownBy.refl w (some bk)) (.cells #[.int .i64 0, .int .i64 0] 125)) (.cells #[.int .i64 p0.1, .int .i64 p0.2] 125)
  have HA5 := Lib.hid hA5
  have HA7 := Lib.hid hA7
  have HM7 := Lib.hid hM7
  have HG7 := Lib.hid hG7
  have HK1 := Lib.hid hk1
  clear hg hz hlm hrl hsz hR hA5 hA7 hM7 hG7 hk1 g0 g1 g2 g3 hk
  go_enter Tryz.func61, Tryz.ntmps61
  go_upto_block 0 with (first | (at_lookup; refine look_kf _ rfl _ _ bk n K x hx rfl rfl rfl HK1.out ?_))
  go_cut [6] (fun v wx => Lk.FEnd s w h bk n K R v wx)
  case first =>
    have hne : ∀ g', (Value.slice none 0 0 : Value).ownBlock = some g' → g' ≠ h ∧ g' ≠ h + 1 := fun g' e => by cases e
    go_wp2
    go_loopw [1, 6, 8] (fun y v b wr => Lk.FAt s w h bk n K x y v b wr) (fun _ v _ _ => s.links.length + 2 - nameLen v)
    case atStart =>
      refine ⟨⟨x, [], s.links.length + 1, rfl, hx, by simp, List.nodup_nil, (fun d hd => by cases hd), World.ownsRow_nil _ _ _ _, ?_, ?_, ?_, ?_⟩, HA5.out, hne, HG7.out⟩
      · rw [Lk.marks_nil]
        rfl
      · rw [Lk.marks_nil]
      · rw [Lk.marks_nil, HP0.out]
        exact HA7.out
      · rw [Lk.marks_nil]
        exact HM7.out
    case round =>
      obtain ⟨⟨name, done, f, rfl, hns, hf, hnd, hin, hO, hEq, rfl, hE, hM⟩, hRes, hOwn, hGb⟩ := hrel
      have hdl : done.length ≤ s.links.length := by
        have h1 := Lk.nodup_len done (Lk.ln s) hnd hin
        unfold Lk.ln at h1
        simpa using h1
      obtain ⟨f, rfl⟩ : ∃ f', f = f' + 1 := ⟨f - 1, by omega⟩
      rw [HRR.out] at hEq
      cases hKn : Lk.marks K done Lk.loop name with
      | some e0 =>
        have hfin : Lk.find (Lk.zn s) (Lk.ln s) (Lk.tg s) (f + 1) (Lk.marks K done Lk.loop) name = ([], e0) := by rw [Lk.find, hKn]
        rw [hfin, List.append_nil] at hEq
        rw [hKn] at hE
        have HEnd := Lib.hid (show Lk.FEnd s w h bk n K R u6 wr from by
          rw [hEq]
          exact ⟨hO, hE, hM, hRes, hOwn, hGb⟩)
        clear hfin hEq hE hO hM hRes hOwn hGb hKn hnd hin
        simp only [Option.isSome_some]
        go_wp2
        go_meet
        exact HEnd.out
      | none =>
        rw [hKn] at hE
        simp only [Option.isSome_none, Option.getD_none] at hE ⊢
        have hnot : name ∉ done := fun hm => by
          rw [Lk.marks_in hm] at hKn
          cases hKn
        have hgk := fun W hgb => HGS.out W hgb
        have hkw : bk < w.heap.size := hkl
        have hsz1 := hGb.size
        have hrow : ∀ j, u6.ownBlock = some j → w.heap.size ≤ j ∨ some bk = some j := fun j e => .inl (hO.lt j e).1
        have hbn : n + done.length < maxLen := by unfold maxLen; omega
        have hdl6 : done.length ≤ 2000000 := by omega
        have hmk := Lk.marks_snoc K done name Lk.loop
        cases hzi : Lk.first (Lk.zn s) name with
        | some i =>
          have hfin : Lk.find (Lk.zn s) (Lk.ln s) (Lk.tg s) (f + 1) (Lk.marks K done Lk.loop) name = ([name], ((i : Int), 0)) := by rw [Lk.find, hKn]; simp only [hzi]
          rw [hfin] at hEq
          have hne7 : some (h + 1) ≠ some bk := fun e => by injection e with e; omega
          have hne5 : some h ≠ some bk := fun e => by injection e with e; omega
          go_wp2_with (first | (at_builtin; refine name_append wr w.heap.size done.length _ u6 name 26 28 hO hdl6 hsz1 rfl rfl rfl rfl ?_; intro v9 w9 hown9 hb9 hat9 hg9; have gba := gb_then (gb_alloc hGb (.cells #[.string name] 9)) hg9 (fun j e => .inl (hO.lt j e).1); have gsa := HGS.out w9 gba; obtain ⟨⟨k0a, k1a, k2a, k3a⟩, kza, kla⟩ := gsa; have hMa := (hM.alloc (.cells #[.string name] 9)).kept hg9 (fun e => by have := (hO.lt bk e.symm).1; omega); obtain ⟨hEa, hva⟩ := hat9 (h + 1) _ hE (fun e => (hOwn _ e).2 rfl); obtain ⟨hRa, hvb⟩ := hat9 h _ hRes (fun e => (hOwn _ e).1 rfl)) | (at_mapUpdate; refine store_kf _ rfl _ _ _ bk _ _ name hns hbn Lk.loop rfl rfl rfl rfl hMa ?_; intro w10 hMb hg10; have gbb := gb_then gba hg10 (fun j e => .inr e); have gsb := HGS.out w10 gbb; obtain ⟨⟨k0b, k1b, k2b, k3b⟩, kzb, klb⟩ := gsb; have hEb := Lk.at_kept hEa hg10 hne7; have hRb := Lk.at_kept hRa hg10 hne5; have hOb := hown9.kept hg10 (.inr (fun e => by have := (hown9.lt bk e).1; omega)); obtain ⟨e0b, e1b, f0b, f1b⟩ := hEb.two) | (at_lookup; refine look_pl_yes _ rfl _ _ bz _ _ name hns i hzi rfl rfl rfl kzb ?_))
          go_meet
          exact Lk.fend (e := ((i : Int), 0)) hh hkl hEq.symm hOb hMb hEb hRb hva hvb gbb
        | none =>
          cases hlj : Lk.first (Lk.ln s) name with
          | none =>
            have hfin : Lk.find (Lk.zn s) (Lk.ln s) (Lk.tg s) (f + 1) (Lk.marks K done Lk.loop) name = ([name], Lk.gone) := by rw [Lk.find, hKn]; simp only [hzi, hlj]
            rw [hfin] at hEq
            have hne7 : some (h + 1) ≠ some bk := fun e => by injection e with e; omega
            have hne5 : some h ≠ some bk := fun e => by injection e with e; omega
            go_wp2_with (first | (at_builtin; refine name_append wr w.heap.size done.length _ u6 name 26 28 hO hdl6 hsz1 rfl rfl rfl rfl ?_; intro v9 w9 hown9 hb9 hat9 hg9; have gba := gb_then (gb_alloc hGb (.cells #[.string name] 9)) hg9 (fun j e => .inl (hO.lt j e).1); have gsa := HGS.out w9 gba; obtain ⟨⟨k0a, k1a, k2a, k3a⟩, kza, kla⟩ := gsa; have hMa := (hM.alloc (.cells #[.string name] 9)).kept hg9 (fun e => by have := (hO.lt bk e.symm).1; omega); obtain ⟨hEa, hva⟩ := hat9 (h + 1) _ hE (fun e => (hOwn _ e).2 rfl); obtain ⟨hRa, hvb⟩ := hat9 h _ hRes (fun e => (hOwn _ e).1 rfl)) | (at_mapUpdate; refine store_kf _ rfl _ _ _ bk _ _ name hns hbn Lk.loop rfl rfl rfl rfl hMa ?_; intro w10 hMb hg10; have gbb := gb_then gba hg10 (fun j e => .inr e); have gsb := HGS.out w10 gbb; obtain ⟨⟨k0b, k1b, k2b, k3b⟩, kzb, klb⟩ := gsb; have hEb := Lk.at_kept hEa hg10 hne7; have hRb := Lk.at_kept hRa hg10 hne5; have hOb := hown9.kept hg10 (.inr (fun e => by have := (hown9.lt bk e).1; omega)); obtain ⟨e0b, e1b, f0b, f1b⟩ := hEb.two) | (at_lookup; refine look_pl_no _ rfl _ _ bz _ _ name hns hzi rfl rfl rfl kzb ?_) | (at_lookup; refine look_pl_no _ rfl _ _ bl _ _ name hns hlj rfl rfl rfl klb ?_))
            go_meet
            exact Lk.fend (e := Lk.gone) hh hkl hEq.symm hOb hMb hEb hRb hva hvb gbb
          | some j =>
            have hjl : j < s.links.length := by
              have h1 := Lk.first_lt hlj
              unfold Lk.ln at h1
              simpa using h1
            obtain ⟨adl, xl, rfl, hab, Hx, HL⟩ := Ix.reads_cells (enc := Src.lc) (m := 2) (fun _ => rfl) rfl HRl.out hjl
            have htg : (Lk.tg s).getD j ⟨#[]⟩ = Src.bts xl.1 := by
              unfold Lk.tg
              rw [List.getD, List.getElem?_map, Hx.out]
              rfl
            have hts : (Src.bts xl.1).size ≤ maxLen := HSz.out xl (List.mem_of_getElem? Hx.out)
            have hfin : Lk.find (Lk.zn s) (Lk.ln s) (Lk.tg s) (f + 1) (Lk.marks K done Lk.loop) name = (name :: (Lk.find (Lk.zn s) (Lk.ln s) (Lk.tg s) f (Lk.marks K (done ++ [name]) Lk.loop) (Src.bts xl.1)).1, (Lk.find (Lk.zn s) (Lk.ln s) (Lk.tg s) f (Lk.marks K (done ++ [name]) Lk.loop) (Src.bts xl.1)).2) := by
              rw [Lk.find, hKn]
              simp only [hzi, hlj]
              rw [htg, hmk]
            rw [hfin] at hEq
            have hcw : w.cell? (adl.add (j * 2)) = some (.string (Src.bts xl.1)) := HL.out 0 _ rfl
            obtain ⟨tt, htt⟩ : ∃ t, Src.bts xl.1 = t := ⟨_, rfl⟩
            rw [htt] at hcw hts hEq
            obtain ⟨p1, hp1⟩ : ∃ p, (Lk.mark (Lk.marks K done Lk.loop) name Lk.loop tt).getD (0, 0) = p := ⟨_, rfl⟩
            obtain ⟨b1, hb1⟩ : ∃ b, (Lk.mark (Lk.marks K done Lk.loop) name Lk.loop tt).isSome = b := ⟨_, rfl⟩
            have hln : name ∈ Lk.ln s := List.mem_of_getElem? (Lk.first_some hlj)
            have qj1 : (0 : Int) ≤ (j : Int) := by omega
            have qj2 : (j : Int) < (s.links.length : Int) := by omega
            have HEq := Lib.hid hEq
            have HNd := Lib.hid (And.intro hnd (And.intro hin (And.intro hnot hln)))
            have HMk := Lib.hid hmk
            have HF := Lib.hid hf
            have HKw := Lib.hid hkw
            have hne7 : some (h + 1) ≠ some bk := fun e => by injection e with e; omega
            have hne5 : some h ≠ some bk := fun e => by injection e with e; omega
            clear hfin hEq hKn hnd hin hnot hln htg htt Hx HL hmk hf
            go_wp2_with (first | (at_builtin; refine name_append wr w.heap.size done.length _ u6 name 26 28 hO hdl6 hsz1 rfl rfl rfl rfl ?_; intro v9 w9 hown9 hb9 hat9 hg9; have gba := gb_then (gb_alloc hGb (.cells #[.string name] 9)) hg9 (fun j e => .inl (hO.lt j e).1); have gsa := HGS.out w9 gba; obtain ⟨⟨k0a, k1a, k2a, k3a⟩, kza, kla⟩ := gsa; have hMa := (hM.alloc (.cells #[.string name] 9)).kept hg9 (fun e => by have := (hO.lt bk e.symm).1; omega); obtain ⟨hEa, hva⟩ := hat9 (h + 1) _ hE (fun e => (hOwn _ e).2 rfl); obtain ⟨hRa, hvb⟩ := hat9 h _ hRes (fun e => (hOwn _ e).1 rfl)) | (at_mapUpdate; refine store_kf _ rfl _ _ _ bk _ _ name hns hbn Lk.loop rfl rfl rfl rfl hMa ?_; intro w10 hMb hg10; have gbb := gb_then gba hg10 (fun j e => .inr e); have gsb := HGS.out w10 gbb; obtain ⟨⟨k0b, k1b, k2b, k3b⟩, kzb, klb⟩ := gsb; have hEb := Lk.at_kept hEa hg10 hne7; have hRb := Lk.at_kept hRa hg10 hne5; have hOb := hown9.kept hg10 (.inr (fun e => by have := (hown9.lt bk e).1; omega)); obtain ⟨e0b, e1b, f0b, f1b⟩ := hEb.two) | (at_lookup; refine look_pl_no _ rfl _ _ bz _ _ name hns hzi rfl rfl rfl kzb ?_) | (at_lookup; refine look_pl_yes _ rfl _ _ bl _ _ name hns j hlj rfl rfl rfl klb ?_; have hcb := HK0.out.keeps gbb hcw) | (at_lookup; refine look_kf _ rfl _ _ bk _ _ tt hts rfl rfl rfl hMb ?_))
            go_roundw
            case rel =>
              have F := Lk.fend (s := s) (e := p1) (R := (done ++ [name], p1)) hh hkl rfl hOb hMb hEb hRb hva hvb gbb
              obtain ⟨hnd, hin, hnot, hln⟩ := HNd.out
              refine ⟨⟨tt, done ++ [name], f, rfl, hts, by have := HF.out; rw [List.length_append, List.length_singleton]; omega, ?_, ?_, F.row, ?_, ?_, ?_, F.map⟩, F.res, F.own, F.gb⟩
              · rw [List.nodup_append]
                exact ⟨hnd, by simp, fun a ha b hb e => hnot (by have : b = name := by simpa using hb
                                                                 rw [← this, ← e]; exact ha)⟩
              · intro d hd
                rcases List.mem_append.1 hd with hd | hd
                · exact hin d hd
                · have : d = name := by simpa using hd
                  rw [this]
                  exact hln
              · rw [HRR.out, HEq.out, List.append_assoc]
                rfl
              · rw [← HMk.out, hb1]
              · rw [← HMk.out, hp1]
                exact F.end_
            case measure =>
              rw [nameLen_own hOb, nameLen_own hO]
              omega
  case rest =>
  as_aux_lemma =>
    obtain ⟨hRow, hE, hM, hRs, hOw, hGb⟩ := hcut
    obtain ⟨A, c, rfl, hcm⟩ := own_slice hRow
    obtain ⟨L, hL⟩ : ∃ L, R.1.length = L := ⟨_, rfl⟩
    rw [hL] at hRow hM ⊢
    have hL2 : L ≤ s.links.length + 1 := by
      have h1 := Lk.find_len (Lk.zn s) (Lk.ln s) (Lk.tg s) (s.links.length + 1) K x
      rw [HRR.out, hL] at h1
      exact h1
    have hRz : ∀ y ∈ R.1, y.size ≤ maxLen := by
      have h1 := Lk.find_size (Lk.zn s) (Lk.ln s) (Lk.tg s) (s.links.length + 1) K x hx (fun y hy => by
        unfold Lk.tg at hy
        obtain ⟨k, hk, rfl⟩ := List.mem_map.1 hy
        exact HSz.out k hk)
      rwa [HRR.out] at h1
    have HL := Lib.hid hL
    have HRow := Lib.hid hRow
    have HE := Lib.hid hE
    have HRs := Lib.hid hRs
    have HOw := Lib.hid hOw
    have HRz := Lib.hid hRz
    have HM0 := Lib.hid hM
    have HGb := Lib.hid hGb
    clear hRow hE hM hRs hOw hGb hRz hL
    go_wp2
    go_loopw [79] (fun i wr => Lk.SAt s w h bk n K R A L c i wr) (fun i _ => L - (intOf i).toNat)
    case atStart => exact ⟨⟨0, Nat.zero_le _, rfl, by rw [List.take_zero, Lk.marks_nil]; exact HM0.out⟩, HRow.out, HE.out, HRs.out, HGb.out⟩
    case round =>
      obtain ⟨⟨k, hk, rfl, hM⟩, hRow, hE, hRs, hGb⟩ := hrel
      by_cases hlt : k < L
      · obtain ⟨nm, hnm⟩ : ∃ y, R.1[k]? = some y := ⟨_, List.getElem?_eq_getElem (by rw [HL.out]; exact hlt)⟩
        have hns := HRz.out nm (List.mem_of_getElem? hnm)
        obtain ⟨ad, u, rfl, hab, hu, hcu⟩ := (Reads.of_own hRow).at_ hlt
        have hu2 : u = .string nm := by
          rw [List.getElem?_map, hnm] at hu
          exact (Option.some.inj hu).symm
        rw [hu2] at hcu
        have q1 : (0 : Int) ≤ (k : Int) := by omega
        have q2 : (k : Int) < (L : Int) := by omega
        have htk : R.1.take (k + 1) = R.1.take k ++ [nm] := by rw [List.take_add_one, hnm]; rfl
        have hbn : n + L + k < maxLen := by unfold maxLen; omega
        obtain ⟨w2, hrun, hM2, hg2⟩ := store_run (show MapF Tryz.prog 9 wr.drew bk (n + L + k) _ from hM) hns hbn R.2
        rw [Lk.marks_snoc, ← htk] at hM2
        have hne7 : some (h + 1) ≠ some bk := fun e => by injection e with e; omega
        have hne5 : some h ≠ some bk := fun e => by injection e with e; omega
        have gs := (HGS.out wr hGb).1
        obtain ⟨k0, k1, k2, k3⟩ := gs
        obtain ⟨e0, e1, _⟩ := hE.two
        have HN : Hid (Lk.SAt s w h bk n K R (some ad) L c (.int .i64 ((k : Int) + 1)) w2) := by
          have hg3 : wr.grownBy w2 (some bk) := ⟨hg2.os, hg2.tape, hg2.output, hg2.size, hg2.block⟩
          exact ⟨⟨k + 1, by omega, by simp, hM2⟩, hRow.kept hg3 (.inr (fun e => by have := (hRow.lt bk e).1; omega)), Lk.at_kept hE hg3 hne7, Lk.at_kept hRs hg3 hne5, gb_then hGb hg3 (fun j e => .inr e)⟩
        clear hM hRow hE hRs hGb hu hu2 hnm htk hM2 hg2
        go_wp2
        go_region
        all_goals
          go_wp2
          go_roundw
          case rel => exact HN.out
          case measure => simp [intOf]; omega
      · have hkL : k = L := by omega
        subst hkL
        have q2 : ¬ (k : Int) < (k : Int) := by omega
        obtain ⟨e0, e1, _⟩ := hE.two
        obtain ⟨r0, r1, f0, f1⟩ := hRs.two
        have hMf := hM
        rw [List.take_of_length_le (by rw [HL.out]; exact Nat.le_refl _), Lk.marks_twice] at hMf
        have HFin : Hid (∀ W, W = ((wr.setCell ⟨h, 0, none⟩ (.int .i64 R.2.1)).setCell ⟨h, 1, none⟩ (.int .i64 R.2.2)).drew → Lk.FdR s (.slice lA s.links.length lc) g bz bl bk n K R w (.returned (.tuple #[.slice A R.1.length c, .agg #[.int .i64 R.2.1, .int .i64 R.2.2]])) W) := by
          rintro W rfl
          have hgb := gb_drew (gb_set (gb_set hGb (p := ⟨h, 0, none⟩) (by show w.heap.size ≤ h; omega) (.int .i64 R.2.1)) (p := ⟨h, 1, none⟩) (by show w.heap.size ≤ h; omega) (.int .i64 R.2.2))
          have gs := HGS.out _ hgb
          have hMe := (hMf.setCell (a := ⟨h, 0, none⟩) (by show bk ≠ h; omega) (.int .i64 R.2.1)).setCell (a := ⟨h, 1, none⟩) (by show bk ≠ h; omega) (.int .i64 R.2.2)
          have hAg := Lk.at_kept2 HG.out HK0.out hgb
          have hRd := Reads.of_own (ownsRow_setCell_other (ownsRow_setCell_other hRow (a := ⟨h, 0, none⟩) (fun e => (HOw.out h (by rw [HL.out]; exact e)).1 rfl) (.int .i64 R.2.1)) (a := ⟨h, 1, none⟩) (fun e => (HOw.out h (by rw [HL.out]; exact e)).1 rfl) (.int .i64 R.2.2))
          refine ⟨⟨A, c, rfl, ?_⟩, ⟨hAg, gs.2.1, gs.2.2, ?_, ne1, ne2⟩, hgb⟩
          · rw [HL.out]
            exact hRd
          · rw [HL.out]
            exact hMe
        have hLe := HL.out
        clear hM hMf hRow hE hRs hGb
        go_wp2
        go_region
        all_goals
          go_wp2
          refine bodyPost_ret (v := .tuple #[.slice A k c, .agg #[.int .i64 R.2.1, .int .i64 R.2.2]]) (by simp [results, Tryz.results61, go_sem, *]) rfl ?_
          rw [← hLe]
          exact HFin.out _ rfl
end Go.Proofs.YtdanbnolbaelhaaGreatDoor
