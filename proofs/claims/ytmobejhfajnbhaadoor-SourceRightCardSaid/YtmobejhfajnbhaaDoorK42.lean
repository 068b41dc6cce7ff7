/- slices.EqualFunc at zones, source.Same, source.Names. -/
import Derived.Test.YtmobejhfajnbhaaDoorK40
import Derived.Test.YtmobejhfajnbhaaDoorK41
namespace Go.Proofs.YtmobejhfajnbhaaDoor
open Go.RowKit

/-- What is asked of a comparison. -/
def Ix.Tells2 {α : Type} (g : FuncId) (lb : Array Value) (enc : α → Value) (f : α → α → Bool) (xs ys : List α) (w : World) : Prop :=
  ∀ W x y, x ∈ xs → y ∈ ys → Below w.heap.size w W → Calls Tryd.prog g (#[enc x, enc y] ++ lb) W fun e w' => e = .returned (.bool (f x y)) ∧ Below w.heap.size w w'
set_option maxHeartbeats 2000000 in
set_option maxRecDepth 100000 in
theorem eqf_zone (f : ((Src.Txt × List Er.E) × Value) → ((Src.Txt × List Er.E) × Value) → Bool) (g : FuncId) (lb : Array Value) (eg : ∀ args w, (callFunc g args).run Tryd.prog w = .ok (.enter g args) w) (A A' : Option Addr) (n c n' c' : Nat) (xs ys : List ((Src.Txt × List Er.E) × Value)) (w : World) (hn : n ≤ maxLen) (hn' : n' ≤ maxLen) (hl : xs.length = n) (hl' : ys.length = n')
    (hr : Reads w w.heap.size 2 A n (xs.flatMap Src.zc)) (hr' : Reads w w.heap.size 2 A' n' (ys.flatMap Src.zc)) (hp : Ix.Tells2 g lb Src.zv f xs ys w) (hxs : ∀ p ∈ xs, ∃ A n c, p.2 = Value.slice A n c) (hys : ∀ p ∈ ys, ∃ A n c, p.2 = Value.slice A n c) :
    Calls Tryd.prog 56 #[.slice A n c, .slice A' n' c', .func (.func g) #[] lb] w fun e w' => e = .returned (.bool (Ix.same f xs ys)) ∧ Below w.heap.size w w' := by
  unfold maxLen at hn hn'
  obtain ⟨X, hX⟩ : ∃ X, Ix.same f xs ys = X := ⟨_, rfl⟩
  rw [hX]
  by_cases hne : n = n'
  · subst hne
    have HX := Lib.hid hX
    have HR := Lib.hid hr
    have HR' := Lib.hid hr'
    have HL := Lib.hid hl
    have HL' := Lib.hid hl'
    have HP := Lib.hid hp
    have HXS := Lib.hid hxs
    have HYS := Lib.hid hys
    clear hX hr hr' hl hl' hp hxs hys
    go_enter Tryd.func56, Tryd.ntmps56
    go_wp2
    go_loopw [17] (fun i wr => ∃ k : Nat, k ≤ n ∧ i = .int .i64 k ∧ Hid (X = Ix.same f (xs.drop k) (ys.drop k)) ∧ Hid (Below w.heap.size w wr)) (fun i _ => n - (intOf i).toNat)
    case atStart => exact ⟨0, Nat.zero_le _, rfl, HX.out.symm, Below.refl _ _⟩
    case round =>
      obtain ⟨k, hk, rfl, HK, HB⟩ := hrel
      by_cases hlt : k < n
      · have q2 : (k : Int) < (n : Int) := by omega
        have q1 : (0 : Int) ≤ (k : Int) := by omega
        obtain ⟨ad, x, rfl, hab, Hx, HL0⟩ := Ix.reads_cells (enc := Src.zc) (m := 2) (fun _ => rfl) HL.out (HR.out.below HB.out) hlt
        obtain ⟨xA, xn, xc, hx2⟩ := HXS.out x (List.mem_of_getElem? Hx.out)
        obtain ⟨xb, hxb⟩ : ∃ t, Src.bts x.1.1 = t := ⟨_, rfl⟩
        have HB2 := Lib.hid (HB.out.alloc HB.out.size (.cells #[.string xb, .slice xA xn xc] 37))
        obtain ⟨ad', y, rfl, hab', Hy, HL0'⟩ := Ix.reads_cells (enc := Src.zc) (m := 2) (fun _ => rfl) HL'.out (HR'.out.below HB2.out) hlt
        obtain ⟨yA, yn, yc, hy2⟩ := HYS.out y (List.mem_of_getElem? Hy.out)
        obtain ⟨yb, hyb⟩ : ∃ t, Src.bts y.1.1 = t := ⟨_, rfl⟩
        have hx0 : wr.cell? (ad.add (k * 2)) = some (.string xb) := by rw [← hxb]; exact HL0.out 0 _ rfl
        have hx1 : wr.cell? ⟨(ad.add (k * 2)).block, (ad.add (k * 2)).off + 1, none⟩ = some (.slice xA xn xc) := by rw [← hx2]; exact HL0.out 1 _ rfl
        have hy0 : (wr.alloc (.cells #[.string xb, .slice xA xn xc] 37)).cell? (ad'.add (k * 2)) = some (.string yb) := by rw [← hyb]; exact HL0'.out 0 _ rfl
        have hy1 : (wr.alloc (.cells #[.string xb, .slice xA xn xc] 37)).cell? ⟨(ad'.add (k * 2)).block, (ad'.add (k * 2)).off + 1, none⟩ = some (.slice yA yn yc) := by rw [← hy2]; exact HL0'.out 1 _ rfl
        have hwr := HB.out.size
        have HN := Ix.same_next HK.out Hx.out Hy.out
        have HC := fun W hb => HP.out W x y (List.mem_of_getElem? Hx.out) (List.mem_of_getElem? Hy.out) hb
        simp only [Src.zv, hxb, hyb, hx2, hy2] at HC
        have HB3 := Lib.hid (HB2.out.alloc HB2.out.size (.cells #[.string yb, .slice yA yn yc] 37))
        clear hxb hyb hx2 hy2
        cases hq : f x y with
        | true =>
          rw [hq] at HN
          simp only [hq] at HC
          replace HN := Lib.hid HN
          replace HC := Lib.hid HC
          clear hq
          go_wp2_with (go_at_fn g; refine (HC.out _ HB3.out).mono ?_; rintro e w' ⟨rfl, hb⟩)
          go_roundw
          case rel => exact ⟨k + 1, by omega, by go_num, HN.out, hb⟩
          case measure => simp [intOf]; omega
        | false =>
          rw [hq] at HN
          simp only [hq] at HC
          replace HN := Lib.hid HN
          replace HC := Lib.hid HC
          clear hq
          go_wp2_with (go_at_fn g; refine (HC.out _ HB3.out).mono ?_; rintro e w' ⟨rfl, hb⟩)
          go_ret
          exact ⟨ret_bool HN.out.symm, hb⟩
      · have q2 : ¬ (k : Int) < (n : Int) := by omega
        have HE := Lib.hid (Ix.same_end HK.out (by rw [HL.out]; omega) (by rw [HL'.out]; omega))
        go_wp2
        go_ret
        exact ⟨ret_bool HE.out.symm, HB.out⟩
  · have q1 : ((n : Int) == (n' : Int)) = false := by rw [beq_eq_false_iff_ne]; omega
    have HE := Lib.hid (Ix.same_len (f := f) (xs := xs) (ys := ys) (by omega))
    rw [← hX]
    clear hX hr hr' hl hl' hp hxs hys
    go_enter Tryd.func56, Tryd.ntmps56
    go_wp2
    go_ret
    exact ⟨ret_bool HE.out.symm, Below.refl _ _⟩
set_option maxHeartbeats 2000000 in
set_option maxRecDepth 100000 in
/-- source.Same. -/
theorem srcSame_any (s s' : Src.S) (rv zv lv rv' zv' lv' : Value) (evs evs' : List Value) (w : World) (hR : Src.SrcR w w.heap.size s rv zv lv evs) (hR' : Src.SrcR w w.heap.size s' rv' zv' lv' evs') :
    Calls Tryd.prog 23 #[.agg #[rv, zv, lv], .agg #[rv', zv', lv']] w fun e w' => e = .returned (.bool (Src.sameB s s')) ∧ Below w.heap.size w w' := by
  obtain ⟨rules, zones, links, op⟩ := s
  obtain ⟨rules', zones', links', op'⟩ := s'
  obtain ⟨⟨rA, rc, rfl, hr1, hr2, hr3⟩, ⟨zA, zc, rfl, hz1, hz2, hz3⟩, ⟨lA, lc, rfl, hl1, hl2, hl3⟩, hlen, hers⟩ := hR
  obtain ⟨⟨rA', rc', rfl, hr1', hr2', hr3'⟩, ⟨zA', zc', rfl, hz1', hz2', hz3'⟩, ⟨lA', lc', rfl, hl1', hl2', hl3'⟩, hlen', hers'⟩ := hR'
  unfold Src.sameB
  simp only at hr1 hr3 hz1 hz3 hl1 hl3 hlen hers hr1' hr3' hz1' hz3' hl1' hl3' hlen' hers' ⊢
  have hC1 : ∀ W, Below w.heap.size w W → _ := fun W hb => eqs_rule rA rA' rules.length rc rules'.length rc' rules rules' W (Nat.le_trans hr1 hr2) (Nat.le_trans hr1' hr2') rfl rfl ((hr3.below hb).more hb.size) ((hr3'.below hb).more hb.size)
  have hC2 : ∀ W, Below w.heap.size w W → _ := fun W hb => eqf_zone (fun p q => Src.zsame p.1 q.1) 53 #[] (enters_of Tryd.func53 (by kernel_rfl) rfl) zA zA' zones.length zc zones'.length zc' (zones.zip evs) (zones'.zip evs') W (Nat.le_trans hz1 hz2) (Nat.le_trans hz1' hz2') (by simp [hlen]) (by simp [hlen']) ((hz3.below hb).more hb.size) ((hz3'.below hb).more hb.size)
    (fun W' x y hx hy hbW => by
      have hb2 := hb.trans (hbW.mono hb.size)
      rw [show (#[Src.zv x, Src.zv y] ++ (#[] : Array Value)) = #[Src.zv x, Src.zv y] by simp]
      exact (sameZone_any x y W' (((hers x hx).below hb2).more hb2.size) (((hers' y hy).below hb2).more hb2.size)).mono fun e w' ⟨h, hb⟩ => ⟨h, hbW.trans (hb.mono hbW.size)⟩)
    (fun p hp => by obtain ⟨A, c, e, _⟩ := hers p hp; exact ⟨A, _, c, e⟩) (fun p hp => by obtain ⟨A, c, e, _⟩ := hers' p hp; exact ⟨A, _, c, e⟩)
  have hC3 : ∀ W, Below w.heap.size w W → _ := fun W hb => eqs_link lA lA' links.length lc links'.length lc' links links' W (Nat.le_trans hl1 hl2) (Nat.le_trans hl1' hl2') rfl rfl ((hl3.below hb).more hb.size) ((hl3'.below hb).more hb.size)
  rw [Src.same_fst Src.zsame zones zones' evs evs' hlen hlen'] at hC2
  obtain ⟨b1, hb1⟩ : ∃ b, Ix.same Ru.R.same rules rules' = b := ⟨_, rfl⟩
  obtain ⟨b2, hb2⟩ : ∃ b, Ix.same Src.zsame zones zones' = b := ⟨_, rfl⟩
  obtain ⟨b3, hb3⟩ : ∃ b, Ix.same Src.lsame links links' = b := ⟨_, rfl⟩
  rw [hb1] at hC1
  rw [hb2] at hC2
  rw [hb3] at hC3
  rw [hb1, hb2, hb3]
  obtain ⟨n1, hn1⟩ : ∃ n, rules.length = n := ⟨_, rfl⟩
  obtain ⟨n2, hn2⟩ : ∃ n, zones.length = n := ⟨_, rfl⟩
  obtain ⟨n3, hn3⟩ : ∃ n, links.length = n := ⟨_, rfl⟩
  obtain ⟨m1, hm1⟩ : ∃ n, rules'.length = n := ⟨_, rfl⟩
  obtain ⟨m2, hm2⟩ : ∃ n, zones'.length = n := ⟨_, rfl⟩
  obtain ⟨m3, hm3⟩ : ∃ n, links'.length = n := ⟨_, rfl⟩
  rw [hn1, hm1] at hC1
  rw [hn2, hm2] at hC2
  rw [hn3, hm3] at hC3
  rw [hn1, hn2, hn3, hm1, hm2, hm3]
  have HC1 := Lib.hid hC1
  have HC2 := Lib.hid hC2
  have HC3 := Lib.hid hC3
  clear hC1 hC2 hC3 hb1 hb2 hb3 hn1 hn2 hn3 hm1 hm2 hm3 hr1 hr2 hr3 hz1 hz2 hz3 hl1 hl2 hl3 hlen hers hr1' hr2' hr3' hz1' hz2' hz3' hl1' hl2' hl3' hlen' hers'
  obtain ⟨w0, hw0⟩ : ∃ x, (w.alloc (.cells #[.slice rA n1 rc, .slice zA n2 zc, .slice lA n3 lc] 26)).alloc (.cells #[.slice rA' m1 rc', .slice zA' m2 zc', .slice lA' m3 lc'] 26) = x := ⟨_, rfl⟩
  have HB := Lib.hid (show Below w.heap.size w w0 by rw [← hw0]; exact ((Below.refl _ _).alloc (Nat.le_refl _) _).alloc (by simp) _)
  have HA := Lib.hid (show At w0 w.heap.size [.slice rA n1 rc, .slice zA n2 zc, .slice lA n3 lc] by rw [← hw0]; exact (At.new w #[.slice rA n1 rc, .slice zA n2 zc, .slice lA n3 lc] 26).allocO _)
  have HA' := Lib.hid (show At w0 (w.heap.size + 1) [.slice rA' m1 rc', .slice zA' m2 zc', .slice lA' m3 lc'] by rw [← hw0]; have := At.new (w.alloc (.cells #[.slice rA n1 rc, .slice zA n2 zc, .slice lA n3 lc] 26)) #[.slice rA' m1 rc', .slice zA' m2 zc', .slice lA' m3 lc'] 26; simpa using this)
  have HW0 := Lib.hid hw0
  clear hw0
  go_enter Tryd.func23, Tryd.ntmps23
  go_wp2_with fail
  rw [HW0.out]
  refine (HC1.out _ HB.out).mono ?_
  rintro e w1 ⟨rfl, hd⟩
  have HA1 := Lib.hid (HA.out.drew hd)
  have HA1' := Lib.hid (HA'.out.drew hd)
  replace HB := Lib.hid (below_drew HB.out hd)
  clear hd
  obtain ⟨a0, a1, a2, _⟩ := HA1.out.three
  obtain ⟨c0, c1, c2, _⟩ := HA1'.out.three
  cases b1
  · go_wp2
    go_ret
    exact ⟨rfl, HB.out⟩
  go_wp2_with fail
  refine (HC2.out _ HB.out).mono ?_
  rintro e w2 ⟨rfl, hb⟩
  have HA2 := Lib.hid (HA1.out.call hb)
  have HA2' := Lib.hid (HA1'.out.call hb)
  replace HB := Lib.hid (below_then HB.out hb)
  clear hb a0 a1 a2 c0 c1 c2
  obtain ⟨a0, a1, a2, _⟩ := HA2.out.three
  obtain ⟨c0, c1, c2, _⟩ := HA2'.out.three
  cases b2
  · go_wp2
    go_ret
    exact ⟨rfl, HB.out⟩
  go_wp2_with fail
  refine (HC3.out _ HB.out).mono ?_
  rintro e w3 ⟨rfl, hd⟩
  replace HB := Lib.hid (below_drew HB.out hd)
  clear hd a0 a1 a2 c0 c1 c2
  cases b3
  · go_wp2
    go_ret
    exact ⟨rfl, HB.out⟩
  · go_wp2
    go_ret
    exact ⟨rfl, HB.out⟩
end Go.Proofs.YtmobejhfajnbhaaDoor
/- source.Names. -/
namespace Go.Proofs.YtmobejhfajnbhaaDoor
open Go.RowKit

namespace Src
def zoneNames (s : S) : List ByteArray := s.zones.map fun z => bts z.1
def linkNames (s : S) : List ByteArray := s.links.map fun k => bts k.2
def names (s : S) : List ByteArray := zoneNames s ++ linkNames s
theorem more_one {l : List ByteArray} {k : Nat} {x : ByteArray} (h : l[k]? = some x) : (l.take (k + 1)).map Value.string = (l.take k).map Value.string ++ [Value.string x] := by
  rw [List.take_add_one, h]
  simp
def NRel (W0 : World) (h : Nat) (cs : List Value) (pre l : List ByteArray) (n : Nat) (v i : Value) (wr : World) : Prop :=
  ∃ k : Nat, k ≤ n ∧ i = .int .i64 k ∧ Hid (wr.ownsRow W0.heap.size 9 1 v (pre.length + k) (pre.map Value.string ++ (l.take k).map Value.string)) ∧ Hid (At wr h cs) ∧ Hid (Below W0.heap.size W0 wr)
end Src
set_option maxHeartbeats 2000000 in
set_option maxRecDepth 100000 in
/-- source.Names. -/
theorem srcNames_any (s : Src.S) (rv zv lv : Value) (evs : List Value) (w : World) (hR : Src.SrcR w w.heap.size s rv zv lv evs) (hL : Src.Lims s) :
    Calls Tryd.prog 10 #[.agg #[rv, zv, lv]] w fun e w' => ∃ A c, e = .returned (.slice A (s.zones.length + s.links.length) c) ∧ Below w.heap.size w w' ∧ s.zones.length + s.links.length ≤ c ∧ c ≤ maxLen ∧ Reads w' w'.heap.size 1 A (s.zones.length + s.links.length) ((Src.names s).map Value.string) := by
  obtain ⟨rules, zones, links, op⟩ := s
  obtain ⟨⟨rA, rc, rfl, hr1, hr2, hr3⟩, ⟨zA, zc, rfl, hz1, hz2, hz3⟩, ⟨lA, lc, rfl, hl1, hl2, hl3⟩, hlen, hers⟩ := hR
  obtain ⟨L1, L2, L3⟩ := hL
  unfold Src.names Src.zoneNames Src.linkNames
  simp only at hr1 hr3 hz1 hz3 hl1 hl3 hlen hers L1 L2 L3 ⊢
  obtain ⟨n1, hn1⟩ : ∃ n, rules.length = n := ⟨_, rfl⟩
  obtain ⟨n2, hn2⟩ : ∃ n, zones.length = n := ⟨_, rfl⟩
  obtain ⟨n3, hn3⟩ : ∃ n, links.length = n := ⟨_, rfl⟩
  rw [hn1] at L1 ⊢
  rw [hn2] at hz3 L2 hz1 ⊢
  rw [hn3] at hl3 L3 hl1 ⊢
  obtain ⟨ZN, hZN⟩ : ∃ l, (zones.map fun z => Src.bts z.1) = l := ⟨_, rfl⟩
  obtain ⟨LN, hLN⟩ : ∃ l, (links.map fun k => Src.bts k.2) = l := ⟨_, rfl⟩
  have hzl : ZN.length = n2 := by rw [← hZN]; simp [hn2]
  have hll : LN.length = n3 := by rw [← hLN]; simp [hn3]
  rw [hZN, hLN]
  have HZN := Lib.hid hZN
  have HLN := Lib.hid hLN
  have HZL := Lib.hid hzl
  have HLL := Lib.hid hll
  have HRZ := Lib.hid hz3
  have HRL := Lib.hid hl3
  have HLen := Lib.hid (show (zones.zip evs).length = n2 by simp [hlen, hn2])
  have HLe2 := Lib.hid hn3
  have HSl := Lib.hid (show ∀ p ∈ zones.zip evs, ∃ A n c, p.2 = Value.slice A n c from fun p hp => by obtain ⟨A, c, e, _⟩ := hers p hp; exact ⟨A, _, c, e⟩)
  clear hZN hLN hn1 hn2 hn3 hz3 hl3 hr3 hers hlen hzl hll hr1 hr2
  unfold maxLen at hz2 hl2
  obtain ⟨i0, i1, i2, i3, i4⟩ := info_parts str_info
  have HI := Lib.hid (And.intro i1 (And.intro i2 (And.intro i3 i4)))
  clear i1 i2 i3 i4
  obtain ⟨m, hm⟩ : ∃ m : Nat, n2 + n3 = m := ⟨_, rfl⟩
  have hmk := fun W : World => run_make (P := Tryd.prog) W 41 9 i0 _ Tryd.underlying41 HI.out.1 HI.out.2.1 .i64 .i64 0 (m : Int) (by omega) (by omega) (by rw [HI.out.2.2.2]; omega) (by omega)
  rw [HI.out.2.2.1] at hmk
  obtain ⟨MC, hMC⟩ : ∃ x, madeCells (Value.string ⟨#[]⟩).cells ((m : Int).toNat * 1) = x := ⟨_, rfl⟩
  rw [hMC] at hmk
  have hMs : MC.size = m := by rw [← hMC, size_madeCells]; simp
  have hwm : IntKind.i64.wrap ((n2 : Int) + (n3 : Int)) = (m : Int) := by
    rw [show (n2 : Int) + (n3 : Int) = (m : Int) by omega]
    exact IntWalk.i64_in _ (by omega)
  clear hMC
  obtain ⟨W0, hW0⟩ : ∃ x, w.alloc (.cells #[.slice rA n1 rc, .slice zA n2 zc, .slice lA n3 lc] 26) = x := ⟨_, rfl⟩
  have HB0 := Lib.hid (show Below w.heap.size w W0 by rw [← hW0]; exact (Below.refl _ _).alloc (Nat.le_refl _) _)
  have HA0 := Lib.hid (show At W0 w.heap.size [.slice rA n1 rc, .slice zA n2 zc, .slice lA n3 lc] by rw [← hW0]; exact At.new w #[.slice rA n1 rc, .slice zA n2 zc, .slice lA n3 lc] 26)
  have hs0 : W0.heap.size = w.heap.size + 1 := by rw [← hW0]; simp
  obtain ⟨h, hh⟩ : ∃ h, w.heap.size = h := ⟨_, rfl⟩
  rw [hh] at HA0 hs0
  have HS0 := Lib.hid hs0
  have HH := Lib.hid hh
  obtain ⟨a0, a1, a2, _⟩ := HA0.out.three
  have HO0 := Lib.hid (show (W0.alloc (.cells MC 9)).ownsRow W0.heap.size 9 1 (.slice (some ⟨W0.heap.size, 0, none⟩) 0 m) 0 [] from World.ownsRow_made W0 MC m (Nat.le_refl _) (by unfold maxLen; omega) (by omega))
  have b1 : (W0.alloc (.cells MC 9)).cell? ⟨h, 1, none⟩ = some (.slice zA n2 zc) := (HA0.out.allocO _).cell 1 _ rfl
  clear hs0
  go_enter Tryd.func10, Tryd.ntmps10
  go_wp2_with fail
  clear hW0 hh a0 a1 a2 b1
  go_loopw [3, 19] (fun v i wr => Src.NRel W0 h [.slice rA n1 rc, .slice zA n2 zc, .slice lA n3 lc] [] ZN n2 v i wr) (fun _ i _ => n2 - (intOf i).toNat)
  case atStart => exact ⟨0, Nat.zero_le _, rfl, HO0.out, HA0.out.allocO _, (Below.refl _ _).alloc (Nat.le_refl _) _⟩
  case round =>
    obtain ⟨k, hk, rfl, HO, HA, HB⟩ := hrel
    replace HO := Lib.hid (show wr.ownsRow W0.heap.size 9 1 _ k ((ZN.take k).map Value.string) by simpa using HO.out)
    obtain ⟨vA, vc, hv, hv1, hv2⟩ := own_slice_cap HO.out
    subst hv
    have hwr := HB.out.size
    have hs0 : h < W0.heap.size := by have := HS0.out; omega
    by_cases hlt : k < n2
    · have q1 : (0 : Int) ≤ (k : Int) := by omega
      have q2 : (k : Int) < (n2 : Int) := by omega
      have HBw := Lib.hid (below_then HB0.out HB.out)
      obtain ⟨ad, x, rfl, hab, Hx, HLc⟩ := Ix.reads_cells (enc := Src.zc) (m := 2) (fun _ => rfl) HLen.out (HRZ.out.below HBw.out) hlt
      obtain ⟨xA, xn, xc, hx2⟩ := HSl.out x (List.mem_of_getElem? Hx.out)
      obtain ⟨xb, hxb⟩ : ∃ t, Src.bts x.1.1 = t := ⟨_, rfl⟩
      have c0 : wr.cell? (ad.add (k * 2)) = some (.string xb) := by rw [← hxb]; exact HLc.out 0 _ rfl
      have c1 : wr.cell? ⟨(ad.add (k * 2)).block, (ad.add (k * 2)).off + 1, none⟩ = some (.slice xA xn xc) := by rw [← hx2]; exact HLc.out 1 _ rfl
      have hzk : ZN[k]? = some xb := by
        rw [← HZN.out, List.getElem?_map, (List.getElem?_zip_eq_some.1 Hx.out).1, ← hxb]
        rfl
      have HTK := Lib.hid (Src.more_one hzk)
      have HAp := fun {ops : Array Oper} {rest : List Oper} {o : Oper} {a : Act} {Q : Exit → Act → World → Prop} (hgd : o.guard = none) (ho : o.op = .call { callee := .builtin .append, args := #[.tmp 23, .tmp 26], argTypes := #[41, 41] }) (hs : a.eval (.tmp 23) = .slice vA k vc) (hx : a.eval (.tmp 26) = .slice (some ⟨wr.heap.size + 1, 0, none⟩) 1 1) h => wpList_append_any (P := Tryd.prog) (ops := ops) (rest := rest) (o := o) (a := a) (Q := Q) ((wr.alloc (.cells #[.string xb, .slice xA xn xc] 37)).alloc (.cells #[.string xb] 9)) hgd (.tmp 23) (.tmp 26) 41 ho W0.heap.size 9 i0 _ 1 16 Tryd.underlying41 HI.out.1 HI.out.2.1 HI.out.2.2.1 HI.out.2.2.2 rfl (by decide) _ k _ hs ((HO.out.alloc _).alloc _) ((wr.alloc (.cells #[.string xb, .slice xA xn xc] 37)).alloc (.cells #[.string xb] 9)).heap.size _ 1 1 _ hx (er_reads (wr.alloc (.cells #[.string xb, .slice xA xn xc] 37)) (wr.heap.size + 1) [xb] 9 (by simp)) (by simp [Value.oneCell']) (by unfold maxLen; omega) (by omega) (by simp; omega) h
      clear hx2 hxb hzk
      go_wp2_with (at_builtin; refine HAp rfl rfl rfl rfl ?_; intro v9' w9 hown9 hg9 hat9)
      have HA9 := Lib.hid (Sc.At.grownO ((HA.out.allocO (.cells #[.string xb, .slice xA xn xc] 37)).allocO (.cells #[.string xb] 9)) hg9 (fun kk hkk => by have := (HO.out.lt kk hkk).1; omega))
      have HO9 := Lib.hid (show w9.ownsRow W0.heap.size 9 1 v9' (([] : List ByteArray).length + (k + 1)) (([] : List ByteArray).map Value.string ++ (ZN.take (k + 1)).map Value.string) by rw [HTK.out]; simpa using hown9)
      have HB9 := Lib.hid (show Below W0.heap.size W0 w9 from ((HB.out.alloc HB.out.size _).alloc (by simp; omega) _).grown hg9 (by simp; omega) (fun kk hkk => (HO.out.lt kk hkk).1))
      clear hown9 hg9 hat9 HAp c0 c1 hs0
      go_wp2
      go_roundw
      case rel => exact ⟨k + 1, by omega, by go_num, HO9.out, HA9.out, HB9.out⟩
      case measure => simp [intOf]; omega
    · have q2 : ¬ (k : Int) < (n2 : Int) := by omega
      have hkn : k = n2 := by omega
      subst hkn
      obtain ⟨a0, a1, a2, _⟩ := HA.out.three
      have HO2 := Lib.hid (show wr.ownsRow W0.heap.size 9 1 (.slice vA k vc) (ZN.length + 0) (ZN.map Value.string ++ (LN.take 0).map Value.string) by
        have := HO.out
        rw [List.take_of_length_le (by rw [HZL.out]; exact Nat.le_refl _)] at this
        simpa [HZL.out] using this)
      clear hs0
      go_wp2_with fail
      clear a0 a1 a2
      go_loopw [3, 32] (fun v i wr => Src.NRel W0 h [.slice rA n1 rc, .slice zA k zc, .slice lA n3 lc] ZN LN n3 v i wr) (fun _ i _ => n3 - (intOf i).toNat)
      case atStart => exact ⟨0, Nat.zero_le _, rfl, HO2.out, HA.out, HB.out⟩
      case round =>
        clear HO HA HB HO2 hwr hv1 hv2
        obtain ⟨j, hj, rfl, HO, HA, HB⟩ := hrel
        obtain ⟨vA, vc, hv, hv1, hv2⟩ := own_slice_cap HO.out
        subst hv
        have hwr := HB.out.size
        have hs0 : h < W0.heap.size := by have := HS0.out; omega
        have hzl2 := HZL.out
        by_cases hlt2 : j < n3
        · have q1 : (0 : Int) ≤ (j : Int) := by omega
          have q3 : (j : Int) < (n3 : Int) := by omega
          have HBw := Lib.hid (below_then HB0.out HB.out)
          obtain ⟨ad, x, rfl, hab, Hx, HLc⟩ := Ix.reads_cells (enc := Src.lc) (m := 2) (fun _ => rfl) HLe2.out (HRL.out.below HBw.out) hlt2
          obtain ⟨xa, hxa⟩ : ∃ t, Src.bts x.1 = t := ⟨_, rfl⟩
          obtain ⟨xb, hxb⟩ : ∃ t, Src.bts x.2 = t := ⟨_, rfl⟩
          have c0 : wr.cell? (ad.add (j * 2)) = some (.string xa) := by rw [← hxa]; exact HLc.out 0 _ rfl
          have c1 : wr.cell? ⟨(ad.add (j * 2)).block, (ad.add (j * 2)).off + 1, none⟩ = some (.string xb) := by rw [← hxb]; exact HLc.out 1 _ rfl
          have hzk : LN[j]? = some xb := by
            rw [← HLN.out, List.getElem?_map, Hx.out, ← hxb]
            rfl
          have HTK := Lib.hid (Src.more_one hzk)
          obtain ⟨kj, hkj⟩ : ∃ q, ZN.length + j = q := ⟨_, rfl⟩
          have HKJ := Lib.hid hkj
          rw [hkj] at HO ⊢
          have HAp := fun {ops : Array Oper} {rest : List Oper} {o : Oper} {a : Act} {Q : Exit → Act → World → Prop} (hgd : o.guard = none) (ho : o.op = .call { callee := .builtin .append, args := #[.tmp 36, .tmp 39], argTypes := #[41, 41] }) (hs : a.eval (.tmp 36) = .slice vA kj vc) (hx : a.eval (.tmp 39) = .slice (some ⟨wr.heap.size + 1, 0, none⟩) 1 1) h => wpList_append_any (P := Tryd.prog) (ops := ops) (rest := rest) (o := o) (a := a) (Q := Q) ((wr.alloc (.cells #[.string xa, .string xb] 89)).alloc (.cells #[.string xb] 9)) hgd (.tmp 36) (.tmp 39) 41 ho W0.heap.size 9 i0 _ 1 16 Tryd.underlying41 HI.out.1 HI.out.2.1 HI.out.2.2.1 HI.out.2.2.2 rfl (by decide) _ kj _ hs ((HO.out.alloc _).alloc _) ((wr.alloc (.cells #[.string xa, .string xb] 89)).alloc (.cells #[.string xb] 9)).heap.size _ 1 1 _ hx (er_reads (wr.alloc (.cells #[.string xa, .string xb] 89)) (wr.heap.size + 1) [xb] 9 (by simp)) (by simp [Value.oneCell']) (by unfold maxLen; omega) (by omega) (by simp; omega) h
          clear hxa hxb hzk
          go_wp2_with (at_builtin; refine HAp rfl rfl rfl rfl ?_; intro v9' w9 hown9 hg9 hat9)
          have HA9 := Lib.hid (Sc.At.grownO ((HA.out.allocO (.cells #[.string xa, .string xb] 89)).allocO (.cells #[.string xb] 9)) hg9 (fun kk hkk => by have := (HO.out.lt kk hkk).1; omega))
          have HO9 := Lib.hid (show w9.ownsRow W0.heap.size 9 1 v9' (ZN.length + (j + 1)) (ZN.map Value.string ++ (LN.take (j + 1)).map Value.string) by rw [HTK.out, ← List.append_assoc, ← Nat.add_assoc, HKJ.out]; exact hown9)
          have HB9 := Lib.hid (show Below W0.heap.size W0 w9 from ((HB.out.alloc HB.out.size _).alloc (by simp; omega) _).grown hg9 (by simp; omega) (fun kk hkk => (HO.out.lt kk hkk).1))
          clear hown9 hg9 hat9 HAp c0 c1 hs0 hzl2 hkj
          go_wp2
          go_roundw
          case rel => exact ⟨j + 1, by omega, by go_num, HO9.out, HA9.out, HB9.out⟩
          case measure => simp [intOf]; omega
        · have q3 : ¬ (j : Int) < (n3 : Int) := by omega
          have hjn : j = n3 := by omega
          subst hjn
          have he : ZN.length + j = m := by omega
          clear hs0
          go_wp2
          go_ret
          refine ⟨vA, vc, rfl, below_then HB0.out HB.out, by omega, hv2, ?_⟩
          have := Reads.of_own HO.out
          rw [List.take_of_length_le (by rw [HLL.out]; exact Nat.le_refl _), he] at this
          exact this
end Go.Proofs.YtmobejhfajnbhaaDoor
