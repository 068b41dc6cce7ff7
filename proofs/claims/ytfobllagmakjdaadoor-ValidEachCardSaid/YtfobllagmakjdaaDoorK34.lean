/- The walk of ValidEach. -/
import Derived.Test.YtfobllagmakjdaaDoorK33
import Derived.Deep.DeepCutAuto
namespace Go.Proofs.YtfobllagmakjdaaDoor
open Go.RowKit

theorem first_nodup_at {l : List ByteArray} {k : Nat} {x : ByteArray} (hd : l.Nodup) (h : l[k]? = some x) : Lk.first l x = some k := Vd.first_nodup hd h
/-- Where the names are gone through. -/
def Vd.NmAt (W0 : World) (B : Nat) (A : Option Addr) (n c : Nat) (l : List ByteArray) (zb : ByteArray) (i : Value) (wr : World) : Prop :=
  ∃ k, k ≤ n ∧ i = .int .i64 (k : Int) ∧ Below W0.heap.size W0 wr ∧ wr.ownsRow B 9 1 (.slice A n c) n (l.map Value.string) ∧ zb ∉ l.take k
set_option maxHeartbeats 8000000 in
set_option maxRecDepth 100000 in
theorem validEach_any (s : Src.S) (rv zv lv : Value) (evs : List Value) (r : Ru.R) (z : Src.Txt × List Er.E) (ev : Value) (w : World) (hR : Src.SrcR w w.heap.size s rv zv lv evs) (hw : Src.Wide s)
    (hz : Src.RowR w w.heap.size 13 z.2.length ev (z.2.flatMap Er.E.cells)) (kw : Src.Wide ⟨[r], [z], [], false⟩) (hW : Wo w) (hA : Wa w) :
    Calls Tryd.prog 3 #[.agg #[rv, zv, lv], r.v, .agg #[.string (Src.bts z.1), ev]] w fun e w' => e = .returned (.bool true) ∧ Below w.heap.size w w' := by
  obtain ⟨P, hP⟩ : ∃ P : Ending → World → Prop, (fun e w' => e = .returned (.bool true) ∧ Below w.heap.size w w') = P := ⟨_, rfl⟩
  rw [hP]
  have HP := Lib.hid hP
  clear hP
  obtain ⟨rA, rc, rfl, hrc⟩ := hR.rules
  obtain ⟨zA, zc, rfl, hzc⟩ := hR.zones
  obtain ⟨lA, lc, rfl, _⟩ := hR.links
  have hzr := hz
  obtain ⟨eA, ec, rfl, _⟩ := hz
  obtain ⟨nr, hnr⟩ : ∃ n, s.rules.length = n := ⟨_, rfl⟩
  obtain ⟨nz, hnz⟩ : ∃ n, s.zones.length = n := ⟨_, rfl⟩
  obtain ⟨nl, hnl⟩ : ∃ n, s.links.length = n := ⟨_, rfl⟩
  obtain ⟨me, hme⟩ : ∃ n, z.2.length = n := ⟨_, rfl⟩
  obtain ⟨zb, hzb⟩ : ∃ t, Src.bts z.1 = t := ⟨_, rfl⟩
  obtain ⟨nm, fr, tt, mo, kk, nn, d, sc, cc, sv, lt⟩ := r
  unfold Ru.R.v
  simp only
  rw [hnr, hnz, hnl] at hR ⊢
  rw [hme] at hzr ⊢
  rw [hzb]
  obtain ⟨W0, hW0⟩ : ∃ W, ((w.alloc (.cells #[.slice rA nr rc, .slice zA nz zc, .slice lA nl lc] 26)).alloc (.cells #[.string nm, .int .i64 fr, .int .i64 tt, .int .i64 mo, .int .u8 kk, .int .i64 nn, .int .i64 d, .int .i64 sc, .int .u8 cc, .int .i64 sv, .string lt] 34)).alloc (.cells #[.string zb, .slice eA me ec] 37) = W := ⟨_, rfl⟩
  have hb0 : Below w.heap.size w W0 := by
    rw [← hW0]
    exact (((Below.refl w.heap.size w).alloc (Nat.le_refl _) _).alloc (by simp) _).alloc (by simp; omega) _
  have hs0 : At W0 w.heap.size [.slice rA nr rc, .slice zA nz zc, .slice lA nl lc] := by
    rw [← hW0]
    exact ((At.new w #[.slice rA nr rc, .slice zA nz zc, .slice lA nl lc] 26).allocO _).allocO _
  have hr0 : At W0 (w.heap.size + 1) [.string nm, .int .i64 fr, .int .i64 tt, .int .i64 mo, .int .u8 kk, .int .i64 nn, .int .i64 d, .int .i64 sc, .int .u8 cc, .int .i64 sv, .string lt] := by
    rw [← hW0]
    exact (At.newAt (w.alloc (.cells #[.slice rA nr rc, .slice zA nz zc, .slice lA nl lc] 26)) #[.string nm, .int .i64 fr, .int .i64 tt, .int .i64 mo, .int .u8 kk, .int .i64 nn, .int .i64 d, .int .i64 sc, .int .u8 cc, .int .i64 sv, .string lt] 34 (w.heap.size + 1) (by rw [World.size_alloc])).allocO _
  have hz0 : At W0 (w.heap.size + 1 + 1) [.string zb, .slice eA me ec] := by
    rw [← hW0]
    exact At.newAt ((w.alloc (.cells #[.slice rA nr rc, .slice zA nz zc, .slice lA nl lc] 26)).alloc (.cells #[.string nm, .int .i64 fr, .int .i64 tt, .int .i64 mo, .int .u8 kk, .int .i64 nn, .int .i64 d, .int .i64 sc, .int .u8 cc, .int .i64 sv, .string lt] 34)) #[.string zb, .slice eA me ec] 37 (w.heap.size + 1 + 1) (by rw [World.size_alloc, World.size_alloc])
  have HIn : Hid (∀ W, Below W0.heap.size W0 W → Below w.heap.size w W ∧ At W w.heap.size [.slice rA nr rc, .slice zA nz zc, .slice lA nl lc] ∧ At W (w.heap.size + 1) [.string nm, .int .i64 fr, .int .i64 tt, .int .i64 mo, .int .u8 kk, .int .i64 nn, .int .i64 d, .int .i64 sc, .int .u8 cc, .int .i64 sv, .string lt] ∧ At W (w.heap.size + 1 + 1) [.string zb, .slice eA me ec] ∧ Src.SrcR W W.heap.size s (.slice rA nr rc) (.slice zA nz zc) (.slice lA nl lc) evs ∧ Wo W ∧ Wa W ∧ Src.RowR W W.heap.size 13 me (.slice eA me ec) (z.2.flatMap Er.E.cells)) := by
    intro W hb
    have hb1 := below_then hb0 hb
    exact ⟨hb1, hs0.call hb, hr0.call hb, hz0.call hb, hR.call hb1, hW.below hb1, hA.below hb1, (hzr.below hb1).more hb1.size⟩
  have HW0 := Lib.hid hW0
  have HLv := Lib.hid (lives14 W0 (hW.below hb0) (hA.below hb0))
  have HWd := Lib.hid hw
  have HKw := Lib.hid kw
  have HMe := Lib.hid hme
  have HNz := Lib.hid hnz
  have HZb := Lib.hid hzb
  clear hR hW hA hw kw hrc hzc hW0 hb0 hs0 hr0 hz0 hzr hme hzb
  go_enter Tryd.func3, Tryd.ntmps3
  go_wp2_with fail
  rw [HW0.out]
  refine HLv.out.mono ?_
  rintro e w1 ⟨rfl, hb1⟩
  have HB1 := Lib.hid hb1
  obtain ⟨hb, hs, hr, hz, hR, hWo, hWa, hzr⟩ := HIn.out w1 hb1
  obtain ⟨s0, s1, s2, _⟩ := hs.three
  have HF1 := Lib.hid (few_any s _ _ _ evs w1 hR HWd.out)
  clear hb hs hr hz hR hWo hWa hzr hb1
  go_wp2_with fail
  refine HF1.out.mono ?_
  rintro e w2 ⟨he, hb2⟩
  have HB2 := Lib.hid (below_then HB1.out hb2)
  clear hb2 s0 s1 s2
  rcases he with rfl | ⟨rfl, hfew⟩
  · have HE := Lib.hid (HIn.out w2 HB2.out).1
    go_wp2
    rw [← HP.out]
    exact ⟨ret_bool rfl, HE.out⟩
  · obtain ⟨hb, hs, hr, hz, hR, hWo, hWa, hzr⟩ := HIn.out w2 HB2.out
    obtain ⟨s0, s1, s2, _⟩ := hs.three
    obtain ⟨z0, z1, _⟩ := (hz.allocO (.cells #[.string nm, .int .i64 fr, .int .i64 tt, .int .i64 mo, .int .u8 kk, .int .i64 nn, .int .i64 d, .int .i64 sc, .int .u8 cc, .int .i64 sv, .string lt] 34)).two
    have r0 := hr.cell 0 _ rfl
    have r1 := hr.cell 1 _ rfl
    have r2 := hr.cell 2 _ rfl
    have r3 := hr.cell 3 _ rfl
    have r4 := hr.cell 4 _ rfl
    have r5 := hr.cell 5 _ rfl
    have r6 := hr.cell 6 _ rfl
    have r7 := hr.cell 7 _ rfl
    have r8 := hr.cell 8 _ rfl
    have r9 := hr.cell 9 _ rfl
    have r10 := hr.cell 10 _ rfl
    have HPr := Lib.hid (Vd.pair_reads w2 ⟨nm, fr, tt, mo, kk, nn, d, sc, cc, sv, lt⟩ z (.slice eA me ec) (by rw [HMe.out]; exact hzr))
    have hbb := ((Below.refl w2.heap.size w2).alloc (Nat.le_refl _) (.cells #[.string nm, .int .i64 fr, .int .i64 tt, .int .i64 mo, .int .u8 kk, .int .i64 nn, .int .i64 d, .int .i64 sc, .int .u8 cc, .int .i64 sv, .string lt] 34)).alloc (by simp) (.cells #[.string zb, .slice eA me ec] 37)
    have hF2 := few_any ⟨[⟨nm, fr, tt, mo, kk, nn, d, sc, cc, sv, lt⟩], [z], [], false⟩ (.slice (some ⟨w2.heap.size, 0, none⟩) 1 1) (.slice (some ⟨w2.heap.size + 1, 0, none⟩) 1 1) (.slice none 0 0) [.slice eA me ec] ((w2.alloc (.cells #[.string nm, .int .i64 fr, .int .i64 tt, .int .i64 mo, .int .u8 kk, .int .i64 nn, .int .i64 d, .int .i64 sc, .int .u8 cc, .int .i64 sv, .string lt] 34)).alloc (.cells #[.string zb, .slice eA me ec] 37)) (by
      have h := HPr.out
      rw [HZb.out] at h
      exact h.more (by simp)) HKw.out
    have HF2 := Lib.hid hF2
    have HFew := Lib.hid hfew
    have HB3 := Lib.hid (below_then HB2.out hbb)
    clear hb hs hr hz hR hWo hWa hzr hbb hF2 hfew HPr HF1 HLv
    go_wp2_with fail
    refine HF2.out.mono ?_
    rintro e w3 ⟨he, hb3⟩
    have HB4 := Lib.hid (below_then HB3.out hb3)
    clear hb3 s0 s1 s2 z0 z1 r0 r1 r2 r3 r4 r5 r6 r7 r8 r9 r10
    rcases he with rfl | ⟨rfl, hfew2⟩
    · have HE := Lib.hid (HIn.out w3 HB4.out).1
      go_wp2
      rw [← HP.out]
      exact ⟨ret_bool rfl, HE.out⟩
    · obtain ⟨hb, hs, hr, hz, hR, hWo, hWa, hzr⟩ := HIn.out w3 HB4.out
      obtain ⟨s0, s1, s2, _⟩ := hs.three
      have hszs := Vd.sz_of_few HFew.out HWd.out
      obtain ⟨hz1, hz2, hz3⟩ := Vd.sz_more HFew.out HWd.out hfew2 HKw.out
      have HSz := Lib.hid hszs
      have HSm := Lib.hid (And.intro hz1 (And.intro hz2 hz3))
      have HFew2 := Lib.hid hfew2
      have hWl := vdWell_any s _ _ _ evs w3 hR hszs hWo hWa
      obtain ⟨X, hX⟩ : ∃ X, Vd.well s = X := ⟨_, rfl⟩
      rw [hX] at hWl
      have HWl := Lib.hid hWl
      have HX := Lib.hid hX
      clear hb hs hr hz hR hWo hWa hzr hszs hz1 hz2 hz3 hfew2 hWl hX HF2
      go_wp2_with fail
      refine HWl.out.mono ?_
      rintro e w4 ⟨rfl, hb4⟩
      have HB5 := Lib.hid (below_then HB4.out hb4)
      clear hb4 s0 s1 s2 HWl
      cases X with
      | false =>
        have HE := Lib.hid (HIn.out w4 HB5.out).1
        go_wp2
        rw [← HP.out]
        exact ⟨ret_bool rfl, HE.out⟩
      | true =>
        obtain ⟨hb, hs, hr, hz, hR, hWo, hWa, hzr⟩ := HIn.out w4 HB5.out
        obtain ⟨s0, s1, s2, _⟩ := hs.three
        have HNms := Lib.hid (srcNames_own s _ _ _ evs w4 hR HSz.out.lims)
        have hlen : s.zones.length + s.links.length = (Src.names s).length := by simp [Src.names, Src.zoneNames, Src.linkNames]
        obtain ⟨n, hn⟩ : ∃ n, (Src.names s).length = n := ⟨_, rfl⟩
        rw [hlen, hn] at HNms
        have HN := Lib.hid hn
        have hnl : n ≤ 32 := by have := HFew.out.nz; have := HFew.out.nl; omega
        clear hb hs hr hz hR hWo hWa hzr hlen hn
        go_wp2_with fail
        refine HNms.out.mono ?_
        rintro e w5 ⟨A, c, rfl, hb5, hc1, hc2, ho⟩
        have HB6 := Lib.hid (below_then HB5.out hb5)
        have HO := Lib.hid ho
        clear hb5 ho s0 s1 s2 HNms
        go_wp2_with fail
        go_loopw [43] (fun i wr => Vd.NmAt W0 w4.heap.size A n c (Src.names s) zb i wr) (fun i _ => n - (intOf i).toNat)
        case atStart => exact ⟨0, Nat.zero_le _, rfl, HB6.out, HO.out, by simp⟩
        case round =>
          obtain ⟨k, hk, rfl, hBr, hOr, hNo⟩ := hrel
          by_cases hlt : k < n
          · obtain ⟨x, hx⟩ : ∃ y, (Src.names s)[k]? = some y := ⟨_, List.getElem?_eq_getElem (by rw [HN.out]; exact hlt)⟩
            have hxs := HSz.out.names x (List.mem_of_getElem? hx)
            obtain ⟨ad, u1, rfl, hab, hu, hcu⟩ := (Reads.of_own hOr).at_ hlt
            have hu2 : u1 = .string x := by
              rw [List.getElem?_map, hx] at hu
              exact (Option.some.inj hu).symm
            rw [hu2] at hcu
            have q1 : (0 : Int) ≤ (k : Int) := by omega
            have q2 : (k : Int) < (n : Int) := by omega
            obtain ⟨hb, hs, hr, hz, hR, hWo, hWa, hzr⟩ := HIn.out wr hBr
            obtain ⟨s0, s1, s2, _⟩ := hs.three
            have HZn := Lib.hid (linkZone_any s _ _ _ evs x wr hR HSz.out.nm hxs)
            rw [Vd.leads_walk (Vd.well_leads HX.out x (List.mem_of_getElem? hx))] at HZn
            have HBr := Lib.hid hBr
            have HOr := Lib.hid hOr
            have HNo := Lib.hid hNo
            have Hx := Lib.hid hx
            clear hb hs hr hz hR hWo hWa hzr hBr hOr hNo hu hu2 hx
            go_wp2_with fail
            refine HZn.out.mono ?_
            rintro e w6 ⟨rfl, hb6⟩
            have HBs := Lib.hid (below_then HBr.out hb6)
            have HOs := Lib.hid (HOr.out.kept (row := none) ⟨hb6.os, hb6.tape, hb6.output, hb6.size, fun j hj _ => hb6.block j hj⟩ (by cases (Value.slice (some ad) n c).ownBlock <;> simp))
            obtain ⟨hb, hs, hr, hz, hR, hWo, hWa, hzr⟩ := HIn.out w6 HBs.out
            obtain ⟨z0, z1, _⟩ := hz.two
            have HE := Lib.hid hb
            clear hb hs hr hz hR hWo hWa hzr hb6 hcu s0 s1 s2 HZn HBr HOr
            by_cases hxz : x = zb
            · subst hxz
              have qe : (x == x) = true := by rw [beq_toListBytes]; simp
              go_wp2
              rw [← HP.out]
              exact ⟨ret_bool rfl, HE.out⟩
            · have qe : (x.toList == zb.toList) = false := by
                rw [beq_eq_false_iff_ne]
                intro e
                rw [ByteArray.toList_eq, ByteArray.toList_eq] at e
                exact hxz (ByteArray.ext (Array.ext' e))
              have qe' : ¬ x.toList = zb.toList := by simpa using qe
              have q3 : (k : Int) ≤ (c : Int) := by omega
              have HN2 : Hid (zb ∉ (Src.names s).take (k + 1)) := by
                show zb ∉ _
                rw [List.take_add_one, Hx.out]
                intro hm
                rcases List.mem_append.1 hm with hm | hm
                · exact HNo.out hm
                · exact hxz (by simpa using hm : zb = x).symm
              clear hxz
              go_wp2_with fail
              go_loopw [68] (fun i wi => ∃ j : Nat, j ≤ k ∧ i = .int .i64 (j : Int) ∧ wi = w6) (fun i _ => k - (intOf i).toNat)
              case atStart => exact ⟨0, Nat.zero_le _, rfl, rfl⟩
              case round =>
                obtain ⟨j, hj, rfl, rfl⟩ := hrel
                by_cases hlt2 : j < k
                · obtain ⟨y, hy⟩ : ∃ y, (Src.names s)[j]? = some y := ⟨_, List.getElem?_eq_getElem (by rw [HN.out]; omega)⟩
                  obtain ⟨ad2, u2, he2, hab2, hu3, hcu2⟩ := (Reads.of_own HOs.out).at_ (show j < n by omega)
                  have hu4 : u2 = .string y := by
                    rw [List.getElem?_map, hy] at hu3
                    exact (Option.some.inj hu3).symm
                  injection he2 with he2
                  rw [hu4, ← he2] at hcu2
                  have hyx : y ≠ x := fun e => by
                    have hnd := (Vd.well_parts HX.out).2.1
                    have h1 := first_nodup_at hnd hy
                    rw [e, first_nodup_at hnd Hx.out] at h1
                    injection h1 with h1
                    omega
                  have qf : (y.toList == x.toList) = false := by
                    rw [beq_eq_false_iff_ne]
                    intro e
                    rw [ByteArray.toList_eq, ByteArray.toList_eq] at e
                    exact hyx (ByteArray.ext (Array.ext' e))
                  have qf' : ¬ y.toList = x.toList := by simpa using qf
                  have q5 : (0 : Int) ≤ (j : Int) := by omega
                  have q6 : (j : Int) < (k : Int) := by omega
                  clear hy hu3 hu4 hyx he2
                  go_wp2
                  go_roundw
                  case rel => exact ⟨j + 1, by omega, by go_num, by simp⟩
                  case measure => simp [intOf]; omega
                · have hjk : j = k := by omega
                  subst hjk
                  have q6 : ¬ (j : Int) < (j : Int) := by omega
                  go_wp2
                  go_roundw
                  case rel => exact ⟨j + 1, by omega, by go_num, HBs.out, HOs.out, HN2.out⟩
                  case measure => simp [intOf]; omega
          · have hkn : k = n := by omega
            subst hkn
            have q2 : ¬ (k : Int) < (k : Int) := by omega
            rw [List.take_of_length_le (by rw [HN.out]; exact Nat.le_refl _)] at hNo
            have HNot := Lib.hid hNo
            obtain ⟨hb, hs, hr, hz, hR, hWo, hWa, hzr⟩ := HIn.out wr hBr
            obtain ⟨s0, s1, s2, _⟩ := hs.three
            have HBr := Lib.hid hBr
            clear hb hs hr hz hR hWo hWa hzr hBr hOr hNo HO HB6
            go_wp2_with fail
            go_loopw [80] (fun i wr => ∃ q : Nat, q ≤ nz ∧ i = .int .i64 (q : Int) ∧ Hid (Below W0.heap.size W0 wr)) (fun i _ => nz - (intOf i).toNat)
            case atStart => exact ⟨0, Nat.zero_le _, rfl, HBr.out⟩
            case round =>
              clear HBr s0 s1 s2
              obtain ⟨q, hq, rfl, HBr⟩ := hrel
              have hnz12 : nz ≤ 12 := by have := HFew.out.nz; have := HNz.out; omega
              by_cases hlt3 : q < nz
              · obtain ⟨hb, hs, hr, hz, hR, hWo, hWa, hzr⟩ := HIn.out wr HBr.out
                obtain ⟨zA', zc', e9, _, _, hrz⟩ := hR.zones
                have hlz : (s.zones.zip evs).length = nz := by rw [List.length_zip, hR.len, HNz.out]; omega
                rw [HNz.out] at e9 hrz
                injection e9 with e91 e92 e93
                rw [← e91] at hrz
                obtain ⟨adz, p, he9, hab, Hx, HL⟩ := Ix.reads_cells (enc := Src.zc) (m := 2) (fun _ => rfl) hlz hrz hlt3
                have hzm : p ∈ s.zones.zip evs := List.mem_of_getElem? Hx.out
                have hzk : p.1 ∈ s.zones := List.mem_of_getElem? (List.getElem?_zip_eq_some.1 Hx.out).1
                obtain ⟨fA, fc, hf2, _, hfc, hre⟩ := (HIn.out W0 (Below.refl _ _)).2.2.2.2.1.eras p hzm
                obtain ⟨nb, hnb⟩ : ∃ t, Src.bts p.1.1 = t := ⟨_, rfl⟩
                have hrl := fun e he hk => Vd.well_rules HX.out hzk (e := e) he hk
                obtain ⟨es, hes⟩ : ∃ l, p.1.2 = l := ⟨_, rfl⟩
                obtain ⟨mm, hmm⟩ : ∃ l, es.length = l := ⟨_, rfl⟩
                rw [hes, hmm] at hf2 hre
                rw [hes] at hrl
                have hm12 : mm ≤ 12 := by rw [← hmm, ← hes]; exact (HFew.out.zones _ hzk).1
                have z0 : wr.cell? (adz.add (q * 2)) = some (.string nb) := by rw [← hnb]; exact HL.out 0 _ rfl
                have z1 : wr.cell? ⟨(adz.add (q * 2)).block, (adz.add (q * 2)).off + 1, none⟩ = some (.slice fA mm fc) := by rw [← hf2]; exact HL.out 1 _ rfl
                have HRe := Lib.hid hre
                have HRl := Lib.hid hrl
                have HMm := Lib.hid hmm
                have HBz := Lib.hid (HBr.out.alloc HBr.out.size (.cells #[.string nb, .slice fA mm fc] 37))
                have q1 : (0 : Int) ≤ (q : Int) := by omega
                have q2 : (q : Int) < (nz : Int) := by omega
                have hqlt : q + 1 ≤ nz := hlt3
                subst he9
                clear hb hs hr hz hR hWo hWa hzr hrz hlz e91 e92 e93 Hx HL hzm hzk hf2 hre hnb hes hmm hrl
                go_wp2
                go_loopw [87] (fun i wr => ∃ j : Nat, j ≤ mm ∧ i = .int .i64 (j : Int) ∧ Hid (Below W0.heap.size W0 wr)) (fun i _ => mm - (intOf i).toNat)
                case atStart => exact ⟨0, Nat.zero_le _, rfl, HBz.out⟩
                case round =>
                  clear z0 z1 HBz HBr
                  obtain ⟨j, hj, rfl, HBr⟩ := hrel
                  by_cases hlt4 : j < mm
                  · obtain ⟨ade, x, rfl, hab, Hx, HLe⟩ := Ix.reads_cells (enc := Er.E.cells) (m := 13) (fun _ => rfl) HMm.out (HRe.out.below HBr.out) hlt4
                    have hxm := List.mem_of_getElem? Hx.out
                    have hrx := HRl.out x hxm
                    obtain ⟨std, ek, esv, ru, fm, en, ⟨y, m, dk, dn, dd, ssc, scc⟩⟩ := x
                    simp only at hrx
                    have q3 : (0 : Int) ≤ (j : Int) := by omega
                    have q4 : (j : Int) < (mm : Int) := by omega
                    have y0 : wr.cell? (ade.add (j * 13)) = some (.int .i64 std) := HLe.out 0 _ rfl
                    have y1 : wr.cell? ⟨(ade.add (j * 13)).block, (ade.add (j * 13)).off + 1, none⟩ = some (.int .u8 ek) := HLe.out 1 _ rfl
                    have y2 : wr.cell? ⟨(ade.add (j * 13)).block, (ade.add (j * 13)).off + 2, none⟩ = some (.int .i64 esv) := HLe.out 2 _ rfl
                    have y3 : wr.cell? ⟨(ade.add (j * 13)).block, (ade.add (j * 13)).off + 3, none⟩ = some (.string ru) := HLe.out 3 _ rfl
                    have y4 : wr.cell? ⟨(ade.add (j * 13)).block, (ade.add (j * 13)).off + 4, none⟩ = some (.string fm) := HLe.out 4 _ rfl
                    have y5 : wr.cell? ⟨(ade.add (j * 13)).block, (ade.add (j * 13)).off + 5, none⟩ = some (.bool en) := HLe.out 5 _ rfl
                    have y6 : wr.cell? ⟨(ade.add (j * 13)).block, (ade.add (j * 13)).off + 6, none⟩ = some (.int .i64 y) := HLe.out 6 _ rfl
                    have y7 : wr.cell? ⟨(ade.add (j * 13)).block, (ade.add (j * 13)).off + 7, none⟩ = some (.int .i64 m) := HLe.out 7 _ rfl
                    have y8 : wr.cell? ⟨(ade.add (j * 13)).block, (ade.add (j * 13)).off + 8, none⟩ = some (.int .u8 dk) := HLe.out 8 _ rfl
                    have y9 : wr.cell? ⟨(ade.add (j * 13)).block, (ade.add (j * 13)).off + 9, none⟩ = some (.int .i64 dn) := HLe.out 9 _ rfl
                    have y10 : wr.cell? ⟨(ade.add (j * 13)).block, (ade.add (j * 13)).off + 10, none⟩ = some (.int .i64 dd) := HLe.out 10 _ rfl
                    have y11 : wr.cell? ⟨(ade.add (j * 13)).block, (ade.add (j * 13)).off + 11, none⟩ = some (.int .i64 ssc) := HLe.out 11 _ rfl
                    have y12 : wr.cell? ⟨(ade.add (j * 13)).block, (ade.add (j * 13)).off + 12, none⟩ = some (.int .u8 scc) := HLe.out 12 _ rfl
                    by_cases hkd : ek = 2
                    · subst hkd
                      have hB9 := HBr.out.alloc HBr.out.size (.cells #[.int .i64 std, .int .u8 2, .int .i64 esv, .string ru, .string fm, .bool en, .int .i64 y, .int .i64 m, .int .u8 dk, .int .i64 dn, .int .i64 dd, .int .i64 ssc, .int .u8 scc] 50)
                      obtain ⟨hb, hs, hr, hz, hR, hWo, hWa, hzr⟩ := HIn.out _ hB9
                      obtain ⟨s0, s1, s2, _⟩ := hs.three
                      have HRu := Lib.hid (srcRules_any s _ _ _ evs ru _ hR HSz.out.lims.rules)
                      have hnz0 := hrx rfl
                      obtain ⟨rl, hrl2⟩ : ∃ l, (Src.ofName ru s.rules).length = l := ⟨_, rfl⟩
                      rw [hrl2] at HRu hnz0
                      have HB9 := Lib.hid hB9
                      clear hb hs hr hz hR hWo hWa hzr hB9 Hx HLe hxm hrx hrl2
                      go_wp2_with fail
                      refine HRu.out.mono ?_
                      rintro e w9 ⟨v9, rfl, hb9, ho9⟩
                      obtain ⟨A9, c9, rfl, _⟩ := own_slice ho9
                      have HB10 := Lib.hid (below_then HB9.out hb9)
                      have q7 : ((rl : Int) == 0) = false := by rw [beq_eq_false_iff_ne]; omega
                      have q8 : ¬ (rl : Int) = 0 := by omega
                      clear ho9 hb9 s0 s1 s2 HRu
                      go_wp2
                      go_roundw
                      case rel => exact ⟨j + 1, by omega, by go_num, HB10.out⟩
                      case measure => simp [intOf]; omega
                    · have hk0 : (ek == 2) = false := by rw [beq_eq_false_iff_ne]; exact hkd
                      have HB10 := Lib.hid (HBr.out.alloc HBr.out.size (.cells #[.int .i64 std, .int .u8 ek, .int .i64 esv, .string ru, .string fm, .bool en, .int .i64 y, .int .i64 m, .int .u8 dk, .int .i64 dn, .int .i64 dd, .int .i64 ssc, .int .u8 scc] 50))
                      clear Hx HLe hxm hrx
                      go_wp2
                      go_roundw
                      case rel => exact ⟨j + 1, by omega, by go_num, HB10.out⟩
                      case measure => simp [intOf]; omega
                  · have hjm : j = mm := by omega
                    subst hjm
                    have q4 : ¬ (j : Int) < (j : Int) := by omega
                    go_wp2
                    go_roundw
                    case rel => exact ⟨q + 1, hqlt, by go_num, HBr.out⟩
                    case measure => have := hqlt; simp [intOf]; omega
              · have hqz : q = nz := by omega
                subst hqz
                have q2 : ¬ (q : Int) < (q : Int) := by omega
                obtain ⟨hb, hs, hr, hz, hR, hWo, hWa, hzr⟩ := HIn.out wr HBr.out
                obtain ⟨s0, s1, s2, _⟩ := hs.three
                clear hb hs hr hz hR hWo hWa hzr
                go_wp2_with fail
                --R30
                have hnr40 : nr ≤ 40 := by have := HFew.out.nr; omega
                have hnz12b : q ≤ 12 := by have := HFew.out.nz; omega
                obtain ⟨G, hG⟩ : ∃ G, wr.heap.size = G := ⟨_, rfl⟩
                have HBJG : Hid (∀ W, Below G wr W → Below W0.heap.size W0 W) := fun W h => below_then HBr.out (by rw [hG]; exact h)
                have hcp : At (wr.alloc (.cells #[.slice rA nr rc, .slice zA q zc, .slice lA nl lc] 26)) G [.slice rA nr rc, .slice zA q zc, .slice lA nl lc] := by
                  rw [← hG]
                  exact At.new wr #[.slice rA nr rc, .slice zA q zc, .slice lA nl lc] 26
                have hbV : Below G wr (wr.alloc (.cells #[.slice rA nr rc, .slice zA q zc, .slice lA nl lc] 26)) := by
                  rw [← hG]
                  exact (Below.refl _ _).alloc (Nat.le_refl _) _
                obtain ⟨V, hV⟩ : ∃ V, wr.alloc (.cells #[.slice rA nr rc, .slice zA q zc, .slice lA nl lc] 26) = V := ⟨_, rfl⟩
                rw [hV] at hcp hbV ⊢
                rw [hG]
                obtain ⟨i0, i01, i02, i03, i04⟩ := info_parts rule_info
                have HIG := Lib.hid (And.intro i01 (And.intro i02 (And.intro i03 i04)))
                have HOG := Lib.hid (Vo.rule_one s.rules)
                have HO1G : Hid (∀ v ∈ ([.string nm, .int .i64 fr, .int .i64 tt, .int .i64 mo, .int .u8 kk, .int .i64 nn, .int .i64 d, .int .i64 sc, .int .u8 cc, .int .i64 sv, .string lt] : List Value), v.oneCell' = true) := by
                  intro v hv
                  simp only [List.mem_cons, List.not_mem_nil, or_false] at hv
                  rcases hv with rfl | rfl | rfl | rfl | rfl | rfl | rfl | rfl | rfl | rfl | rfl <;> rfl
                clear hV i01 i02 i03 i04
                refine Od.wp_region_inv 137 (by kernel_rfl) (by rfl) (by rfl) (Od.ord_of (by kernel_rfl)) (Od.dst_of (by kernel_rfl)) (Vo.J wr (Od.slots _) 105 0 w.heap.size G ⟨34, 11, .slice rA nr rc, nr, s.rules.flatMap Ru.R.cells, [.string nm, .int .i64 fr, .int .i64 tt, .int .i64 mo, .int .u8 kk, .int .i64 nn, .int .i64 d, .int .i64 sc, .int .u8 cc, .int .i64 sv, .string lt]⟩ [.slice rA nr rc, .slice zA q zc, .slice lA nl lc]) (Vo.J.start _ _ _ _ _ _ _ _ _ hbV.drew hcp) ?step105 ?fin105
                case step105 =>
                  intro i o hi b a' wz hJ hb hdep hdf K hK
                  obtain ⟨tm, df⟩ := a'
                  simp only at hdf
                  subst hdf
                  have hi9 : i < 9 := (Array.getElem?_eq_some_iff.1 hi).1
                  obtain ⟨hbz, hs, hr, hz, hR, hWo, hWa, hzr⟩ := HIn.out wz (HBJG.out wz hJ.below)
                  have h3 : tm.getD 3 undef = .pointer (some ⟨w.heap.size, 0, none⟩) := hJ.old 3 (by omega)
                  have hx4 : tm.getD 4 undef = .pointer (some ⟨w.heap.size + 1, 0, none⟩) := hJ.old 4 (by omega)
                  have hcs : tm.getD 18 undef = .pointer (some ⟨G, 0, none⟩) := hJ.old 18 (by omega)
                  obtain ⟨s0, s1, s2, _⟩ := hs.three
                  have hsplit : i = 0 ∨ i = 1 ∨ i = 2 ∨ i = 3 ∨ i = 4 ∨ i = 5 ∨ i = 6 ∨ i = 7 ∨ i = 8 := by omega
                  rcases hsplit with rfl | rfl | rfl | rfl | rfl | rfl | rfl | rfl | rfl
                  · have e := Option.some.inj (show some _ = some o from hi)
                    subst e
                    rw [if_pos (show Region.wanted _ _ = true from rfl)]
                    go_simp
                    exact hK _ _ (hJ.bs hb)
                  · have e := Option.some.inj (show some _ = some o from hi)
                    subst e
                    rw [if_pos (show Region.wanted _ _ = true from rfl)]
                    go_simp
                    exact hK _ _ hJ.p_
                  · have e := Option.some.inj (show some _ = some o from hi)
                    subst e
                    rw [if_pos (show Region.wanted _ _ = true from rfl)]
                    have hp : tm.getD 106 undef = .pointer (some ⟨w.heap.size, 0, none⟩) := hJ.p (hdep ⟨1, .data⟩ (by simp) rfl)
                    have hp' : tm[106]?.getD undef = .pointer (some ⟨w.heap.size, 0, none⟩) := by rw [← Array.getD_eq_getD_getElem?]; exact hp
                    go_simp
                    exact hK _ _ hJ.x_
                  · have e := Option.some.inj (show some _ = some o from hi)
                    subst e
                    rw [if_pos (show Region.wanted _ _ = true from rfl)]
                    have hd : b 0 = true := hdep ⟨0, .data⟩ (by simp) rfl
                    have hx : tm.getD 107 undef = .slice rA nr rc := hJ.x (hdep ⟨2, .data⟩ (by simp) rfl)
                    have hrr := (show Src.RowR wz wz.heap.size 11 nr (.slice rA nr rc) _ by have h := hR.rules; rw [hnr] at h; exact h)
                    refine wp_append_any wz (.tmp 105) (.tmp 107) 22 rfl (G + 1) 34 i0 _ 11 104 Tryd.underlying22 HIG.out.1 HIG.out.2.1 HIG.out.2.2.1 HIG.out.2.2.2 rfl (by decide) _ 0 [] rfl (hJ.own_ap hb hd) _ rA nr rc _ hx (Vo.row_reads hrr) HOG.out (by unfold maxLen; omega) (by omega) hJ.lt ?_
                    intro v' w' hown hg hat
                    rw [Nat.zero_add, List.nil_append] at hown
                    exact hK _ _ (hJ.ap hb hd hown hg hat)
                  · have e := Option.some.inj (show some _ = some o from hi)
                    subst e
                    rw [if_pos (show Region.wanted _ _ = true from rfl)]
                    have hxp : tm.getD 4 undef = .pointer (some ⟨w.heap.size + 1, 0, none⟩) := hx4
                    have hxp' : tm[4]?.getD undef = .pointer (some ⟨w.heap.size + 1, 0, none⟩) := by rw [← Array.getD_eq_getD_getElem?]; exact hxp
                    have y0 := hr.cell 0 _ rfl
                    have y1 := hr.cell 1 _ rfl
                    have y2 := hr.cell 2 _ rfl
                    have y3 := hr.cell 3 _ rfl
                    have y4 := hr.cell 4 _ rfl
                    have y5 := hr.cell 5 _ rfl
                    have y6 := hr.cell 6 _ rfl
                    have y7 := hr.cell 7 _ rfl
                    have y8 := hr.cell 8 _ rfl
                    have y9 := hr.cell 9 _ rfl
                    have y10 := hr.cell 10 _ rfl
                    go_simp
                    exact hK _ _ hJ.y_
                  · have e := Option.some.inj (show some _ = some o from hi)
                    subst e
                    rw [if_pos (show Region.wanted _ _ = true from rfl)]
                    have hp : tm.getD 109 undef = .agg #[.string nm, .int .i64 fr, .int .i64 tt, .int .i64 mo, .int .u8 kk, .int .i64 nn, .int .i64 d, .int .i64 sc, .int .u8 cc, .int .i64 sv, .string lt] := hJ.y (hdep ⟨4, .data⟩ (by simp) rfl)
                    have hp' : tm[109]?.getD undef = .agg #[.string nm, .int .i64 fr, .int .i64 tt, .int .i64 mo, .int .u8 kk, .int .i64 nn, .int .i64 d, .int .i64 sc, .int .u8 cc, .int .i64 sv, .string lt] := by rw [← Array.getD_eq_getD_getElem?]; exact hp
                    go_simp
                    exact hK _ _ (hJ.one_ hb rfl)
                  · have e := Option.some.inj (show some _ = some o from hi)
                    subst e
                    rw [if_pos (show Region.wanted _ _ = true from rfl)]
                    have hd : b 3 = true := hdep ⟨3, .data⟩ (by simp) rfl
                    have hz5 : b 5 = true := hdep ⟨5, .data⟩ (by simp) rfl
                    obtain ⟨k5, hk5⟩ := hJ.z hz5
                    have hsg := hJ.single hz5
                    rw [hk5] at hsg
                    have hx : tm.getD 110 undef = .slice (some ⟨k5, 0, none⟩) 1 1 := hk5
                    refine wp_append_any wz (.tmp 108) (.tmp 110) 22 rfl (G + 1) 34 i0 _ 11 104 Tryd.underlying22 HIG.out.1 HIG.out.2.1 HIG.out.2.2.1 HIG.out.2.2.2 rfl (by decide) _ nr _ rfl (hJ.own_aq hb hd) _ _ 1 1 _ hx (Reads.of_own hsg) HO1G.out (by unfold maxLen; omega) (by omega) hJ.lt ?_
                    intro v' w' hown hg hat
                    exact hK _ _ (hJ.aq hb hd hz5 hown hg hat)
                  · have e := Option.some.inj (show some _ = some o from hi)
                    subst e
                    rw [if_pos (show Region.wanted _ _ = true from rfl)]
                    go_simp
                    exact hK _ _ hJ.q_
                  · have e := Option.some.inj (show some _ = some o from hi)
                    subst e
                    rw [if_pos (show Region.wanted _ _ = true from rfl)]
                    have h6 := hdep ⟨6, .data⟩ (by simp) rfl
                    have h8 : b 8 = false := hb
                    obtain ⟨P1, c1, g1, _, _⟩ := own_slice_cap (hJ.full h6)
                    have hst := hJ.store_ h6 h8
                    rw [g1] at hst
                    have hac := hJ.at_
                    rw [h8, if_neg (by decide)] at hac
                    obtain ⟨t0, t1, t2, t3, t4, t5⟩ := hac.three
                    have g2 : tm.getD 111 undef = .slice P1 (nr + 1) c1 := g1
                    have g2' : tm[111]?.getD undef = .slice P1 (nr + 1) c1 := by rw [← Array.getD_eq_getD_getElem?]; exact g2
                    have hq : tm.getD 112 undef = .pointer (some ⟨G, 0, none⟩) := hJ.q (hdep ⟨7, .data⟩ (by simp) rfl)
                    have hq' : tm[112]?.getD undef = .pointer (some ⟨G, 0, none⟩) := by rw [← Array.getD_eq_getD_getElem?]; exact hq
                    go_simp
                    exact hK undef _ hst
                case fin105 =>
                  intro a' wz hJ hN hdf
                  have ha := hJ.at_
                  rw [if_pos (show decide (8 < Array.size _) = true by rfl)] at ha
                  have hfu := hJ.full (by rfl)
                  obtain ⟨P105, c105, g1, hc11, hc12⟩ := own_slice_cap hfu
                  rw [g1] at ha hfu
                  have HBz := Lib.hid (HBJG.out wz hJ.below)
                  have HAg := Lib.hid (show At wz G [.slice P105 (nr + 1) c105, .slice zA q zc, .slice lA nl lc] from ha)
                  have HFu := Lib.hid hfu
                  have h3 : a'.tmps.getD 3 undef = .pointer (some ⟨w.heap.size, 0, none⟩) := hJ.old 3 (by omega)
                  have h4 : a'.tmps.getD 4 undef = .pointer (some ⟨w.heap.size + 1, 0, none⟩) := hJ.old 4 (by omega)
                  have h5 : a'.tmps.getD 5 undef = .pointer (some ⟨w.heap.size + 1 + 1, 0, none⟩) := hJ.old 5 (by omega)
                  have h18 : a'.tmps.getD 18 undef = .pointer (some ⟨G, 0, none⟩) := hJ.old 18 (by omega)
                  have ef : a' = { tmps := ((List.range 137).map fun i => a'.tmps.getD i undef).toArray, defers := [] } := Sc.frame_of 137 a' hN hdf
                  obtain ⟨u, hu⟩ : ∃ u : Nat → Value, (fun i => a'.tmps.getD i undef) = u := ⟨_, rfl⟩
                  rw [hu] at ef
                  have e3 : u 3 = .pointer (some ⟨w.heap.size, 0, none⟩) := by rw [← hu]; exact h3
                  have e4 : u 4 = .pointer (some ⟨w.heap.size + 1, 0, none⟩) := by rw [← hu]; exact h4
                  have e5 : u 5 = .pointer (some ⟨w.heap.size + 1 + 1, 0, none⟩) := by rw [← hu]; exact h5
                  have e18 : u 18 = .pointer (some ⟨G, 0, none⟩) := by rw [← hu]; exact h18
                  have ef2 : a' = { tmps := #[u 0, u 1, u 2, u 3, u 4, u 5, u 6, u 7, u 8, u 9, u 10, u 11, u 12, u 13, u 14, u 15, u 16, u 17, u 18, u 19, u 20, u 21, u 22, u 23, u 24, u 25, u 26, u 27, u 28, u 29, u 30, u 31, u 32, u 33, u 34, u 35, u 36, u 37, u 38, u 39, u 40, u 41, u 42, u 43, u 44, u 45, u 46, u 47, u 48, u 49, u 50, u 51, u 52, u 53, u 54, u 55, u 56, u 57, u 58, u 59, u 60, u 61, u 62, u 63, u 64, u 65, u 66, u 67, u 68, u 69, u 70, u 71, u 72, u 73, u 74, u 75, u 76, u 77, u 78, u 79, u 80, u 81, u 82, u 83, u 84, u 85, u 86, u 87, u 88, u 89, u 90, u 91, u 92, u 93, u 94, u 95, u 96, u 97, u 98, u 99, u 100, u 101, u 102, u 103, u 104, u 105, u 106, u 107, u 108, u 109, u 110, u 111, u 112, u 113, u 114, u 115, u 116, u 117, u 118, u 119, u 120, u 121, u 122, u 123, u 124, u 125, u 126, u 127, u 128, u 129, u 130, u 131, u 132, u 133, u 134, u 135, u 136], defers := [] } := ef
                  rw [e3, e4, e5, e18] at ef2
                  rw [ef2]
                  clear hJ ha hfu g1 h3 h4 h5 h18 hN hdf ef ef2 hu e3 e4 e5 e18 HIG HOG HO1G hcp hbV
                  have hsm := HSm.out.1
                  have HP1 : Hid (∀ W, Below wz.heap.size wz W → W.cell? ⟨G, 0, none⟩ = some (.slice P105 (nr + 1) c105) ∧ W.cell? ⟨G, 1, none⟩ = some (.slice zA q zc) ∧ W.cell? ⟨G, 2, none⟩ = some (.slice lA nl lc) ∧ W.cell? ⟨w.heap.size + 1, 0, none⟩ = some (.string nm) ∧ W.cell? ⟨w.heap.size + 1, 1, none⟩ = some (.int .i64 fr) ∧ W.cell? ⟨w.heap.size + 1, 2, none⟩ = some (.int .i64 tt) ∧ W.cell? ⟨w.heap.size + 1, 3, none⟩ = some (.int .i64 mo) ∧ W.cell? ⟨w.heap.size + 1, 4, none⟩ = some (.int .u8 kk) ∧ W.cell? ⟨w.heap.size + 1, 5, none⟩ = some (.int .i64 nn) ∧ W.cell? ⟨w.heap.size + 1, 6, none⟩ = some (.int .i64 d) ∧ W.cell? ⟨w.heap.size + 1, 7, none⟩ = some (.int .i64 sc) ∧ W.cell? ⟨w.heap.size + 1, 8, none⟩ = some (.int .u8 cc) ∧ W.cell? ⟨w.heap.size + 1, 9, none⟩ = some (.int .i64 sv) ∧ W.cell? ⟨w.heap.size + 1, 10, none⟩ = some (.string lt) ∧ Hid (Below wz.heap.size wz W)) := by
                    intro W hb
                    obtain ⟨hbz, hs, hr, hz, hR, hWo, hWa, hzr⟩ := HIn.out W (below_then HBz.out hb)
                    have hg := HAg.out.call hb
                    exact ⟨hg.cell 0 _ rfl, hg.cell 1 _ rfl, hg.cell 2 _ rfl, hr.cell 0 _ rfl, hr.cell 1 _ rfl, hr.cell 2 _ rfl, hr.cell 3 _ rfl, hr.cell 4 _ rfl, hr.cell 5 _ rfl, hr.cell 6 _ rfl, hr.cell 7 _ rfl, hr.cell 8 _ rfl, hr.cell 9 _ rfl, hr.cell 10 _ rfl, hb⟩
                  obtain ⟨gd, hgd⟩ : ∃ y, Ru.R.good ⟨nm, fr, tt, mo, kk, nn, d, sc, cc, sv, lt⟩ = y := ⟨_, rfl⟩
                  have HT1 : Hid (∀ W, W.cell? ⟨G, 0, none⟩ = some (.slice P105 (nr + 1) c105) ∧ W.cell? ⟨G, 1, none⟩ = some (.slice zA q zc) ∧ W.cell? ⟨G, 2, none⟩ = some (.slice lA nl lc) ∧ W.cell? ⟨w.heap.size + 1, 0, none⟩ = some (.string nm) ∧ W.cell? ⟨w.heap.size + 1, 1, none⟩ = some (.int .i64 fr) ∧ W.cell? ⟨w.heap.size + 1, 2, none⟩ = some (.int .i64 tt) ∧ W.cell? ⟨w.heap.size + 1, 3, none⟩ = some (.int .i64 mo) ∧ W.cell? ⟨w.heap.size + 1, 4, none⟩ = some (.int .u8 kk) ∧ W.cell? ⟨w.heap.size + 1, 5, none⟩ = some (.int .i64 nn) ∧ W.cell? ⟨w.heap.size + 1, 6, none⟩ = some (.int .i64 d) ∧ W.cell? ⟨w.heap.size + 1, 7, none⟩ = some (.int .i64 sc) ∧ W.cell? ⟨w.heap.size + 1, 8, none⟩ = some (.int .u8 cc) ∧ W.cell? ⟨w.heap.size + 1, 9, none⟩ = some (.int .i64 sv) ∧ W.cell? ⟨w.heap.size + 1, 10, none⟩ = some (.string lt) ∧ Hid (Below wz.heap.size wz W) → Calls Tryd.prog 6 #[.agg #[.slice P105 (nr + 1) c105, .slice zA q zc, .slice lA nl lc]] W fun e w' => e = .returned (.bool gd) ∧ Below W.heap.size W w') := by
                    intro W hW
                    have hb : Below wz.heap.size wz W := hW.2.2.2.2.2.2.2.2.2.2.2.2.2.2
                    obtain ⟨hbz, hs, hr, hz, hR, hWo, hWa, hzr⟩ := HIn.out W (below_then HBz.out hb)
                    have h := vdWell_any ⟨s.rules ++ [⟨nm, fr, tt, mo, kk, nn, d, sc, cc, sv, lt⟩], s.zones, s.links, s.op⟩ _ _ _ evs W (Vo.src_rule (r := ⟨nm, fr, tt, mo, kk, nn, d, sc, cc, sv, lt⟩) hR hnr (((Src.RowR.of_own HFu.out).below hb).more hb.size)) hsm hWo hWa
                    rw [Vd.well_rule HX.out, hgd] at h
                    exact h
                  obtain ⟨X, hX1, hX2⟩ := Vo.check_all ⟨nm, fr, tt, mo, kk, nn, d, sc, cc, sv, lt⟩ (hsm.smw.rules _ (by simp)).1 (hsm.smw.rules _ (by simp)).2
                  rw [hgd] at hX1
                  have HC1 : Hid (∀ W : World, Calls Tryd.prog 10 #[.agg #[.string nm, .int .i64 fr, .int .i64 tt, .int .i64 mo, .int .u8 kk, .int .i64 nn, .int .i64 d, .int .i64 sc, .int .u8 cc, .int .i64 sv, .string lt]] W fun e w' => e = .returned (.int .i64 X) ∧ Below W.heap.size W w') := hX2
                  have qgd : (gd != gd) = false := by simp
                  clear hsm hgd hX2
                  have S1 : wz.drew.cell? ⟨G, 0, none⟩ = some (.slice P105 (nr + 1) c105) ∧ wz.drew.cell? ⟨G, 1, none⟩ = some (.slice zA q zc) ∧ wz.drew.cell? ⟨G, 2, none⟩ = some (.slice lA nl lc) ∧ wz.drew.cell? ⟨w.heap.size + 1, 0, none⟩ = some (.string nm) ∧ wz.drew.cell? ⟨w.heap.size + 1, 1, none⟩ = some (.int .i64 fr) ∧ wz.drew.cell? ⟨w.heap.size + 1, 2, none⟩ = some (.int .i64 tt) ∧ wz.drew.cell? ⟨w.heap.size + 1, 3, none⟩ = some (.int .i64 mo) ∧ wz.drew.cell? ⟨w.heap.size + 1, 4, none⟩ = some (.int .u8 kk) ∧ wz.drew.cell? ⟨w.heap.size + 1, 5, none⟩ = some (.int .i64 nn) ∧ wz.drew.cell? ⟨w.heap.size + 1, 6, none⟩ = some (.int .i64 d) ∧ wz.drew.cell? ⟨w.heap.size + 1, 7, none⟩ = some (.int .i64 sc) ∧ wz.drew.cell? ⟨w.heap.size + 1, 8, none⟩ = some (.int .u8 cc) ∧ wz.drew.cell? ⟨w.heap.size + 1, 9, none⟩ = some (.int .i64 sv) ∧ wz.drew.cell? ⟨w.heap.size + 1, 10, none⟩ = some (.string lt) ∧ Hid (Below wz.heap.size wz wz.drew) := HP1.out _ (Below.refl _ _).drew
                  have S0 := HP1.out wz (Below.refl _ _)
                  go_wp2_with fail
                  have HQ1 : Hid (∀ W W', W.cell? ⟨G, 0, none⟩ = some (.slice P105 (nr + 1) c105) ∧ W.cell? ⟨G, 1, none⟩ = some (.slice zA q zc) ∧ W.cell? ⟨G, 2, none⟩ = some (.slice lA nl lc) ∧ W.cell? ⟨w.heap.size + 1, 0, none⟩ = some (.string nm) ∧ W.cell? ⟨w.heap.size + 1, 1, none⟩ = some (.int .i64 fr) ∧ W.cell? ⟨w.heap.size + 1, 2, none⟩ = some (.int .i64 tt) ∧ W.cell? ⟨w.heap.size + 1, 3, none⟩ = some (.int .i64 mo) ∧ W.cell? ⟨w.heap.size + 1, 4, none⟩ = some (.int .u8 kk) ∧ W.cell? ⟨w.heap.size + 1, 5, none⟩ = some (.int .i64 nn) ∧ W.cell? ⟨w.heap.size + 1, 6, none⟩ = some (.int .i64 d) ∧ W.cell? ⟨w.heap.size + 1, 7, none⟩ = some (.int .i64 sc) ∧ W.cell? ⟨w.heap.size + 1, 8, none⟩ = some (.int .u8 cc) ∧ W.cell? ⟨w.heap.size + 1, 9, none⟩ = some (.int .i64 sv) ∧ W.cell? ⟨w.heap.size + 1, 10, none⟩ = some (.string lt) ∧ Hid (Below wz.heap.size wz W) → Below W.heap.size W W' → W'.cell? ⟨G, 0, none⟩ = some (.slice P105 (nr + 1) c105) ∧ W'.cell? ⟨G, 1, none⟩ = some (.slice zA q zc) ∧ W'.cell? ⟨G, 2, none⟩ = some (.slice lA nl lc) ∧ W'.cell? ⟨w.heap.size + 1, 0, none⟩ = some (.string nm) ∧ W'.cell? ⟨w.heap.size + 1, 1, none⟩ = some (.int .i64 fr) ∧ W'.cell? ⟨w.heap.size + 1, 2, none⟩ = some (.int .i64 tt) ∧ W'.cell? ⟨w.heap.size + 1, 3, none⟩ = some (.int .i64 mo) ∧ W'.cell? ⟨w.heap.size + 1, 4, none⟩ = some (.int .u8 kk) ∧ W'.cell? ⟨w.heap.size + 1, 5, none⟩ = some (.int .i64 nn) ∧ W'.cell? ⟨w.heap.size + 1, 6, none⟩ = some (.int .i64 d) ∧ W'.cell? ⟨w.heap.size + 1, 7, none⟩ = some (.int .i64 sc) ∧ W'.cell? ⟨w.heap.size + 1, 8, none⟩ = some (.int .u8 cc) ∧ W'.cell? ⟨w.heap.size + 1, 9, none⟩ = some (.int .i64 sv) ∧ W'.cell? ⟨w.heap.size + 1, 10, none⟩ = some (.string lt) ∧ Hid (Below wz.heap.size wz W')) := fun W W' hW hb => HP1.out W' (below_then hW.2.2.2.2.2.2.2.2.2.2.2.2.2.2 hb)
                  go_region_held3 (fun w' => w'.cell? ⟨G, 0, none⟩ = some (.slice P105 (nr + 1) c105) ∧ w'.cell? ⟨G, 1, none⟩ = some (.slice zA q zc) ∧ w'.cell? ⟨G, 2, none⟩ = some (.slice lA nl lc) ∧ w'.cell? ⟨w.heap.size + 1, 0, none⟩ = some (.string nm) ∧ w'.cell? ⟨w.heap.size + 1, 1, none⟩ = some (.int .i64 fr) ∧ w'.cell? ⟨w.heap.size + 1, 2, none⟩ = some (.int .i64 tt) ∧ w'.cell? ⟨w.heap.size + 1, 3, none⟩ = some (.int .i64 mo) ∧ w'.cell? ⟨w.heap.size + 1, 4, none⟩ = some (.int .u8 kk) ∧ w'.cell? ⟨w.heap.size + 1, 5, none⟩ = some (.int .i64 nn) ∧ w'.cell? ⟨w.heap.size + 1, 6, none⟩ = some (.int .i64 d) ∧ w'.cell? ⟨w.heap.size + 1, 7, none⟩ = some (.int .i64 sc) ∧ w'.cell? ⟨w.heap.size + 1, 8, none⟩ = some (.int .u8 cc) ∧ w'.cell? ⟨w.heap.size + 1, 9, none⟩ = some (.int .i64 sv) ∧ w'.cell? ⟨w.heap.size + 1, 10, none⟩ = some (.string lt) ∧ Hid (Below wz.heap.size wz w')) (first | assumption | exact S1 | exact HQ1.out _ _ (by assumption) hbq)
                    (first | (go_at_call 6; refine (HT1.out _ (by assumption)).mono ?_; rintro e v1 ⟨rfl, hbq⟩) | (go_at_call 10; refine (HC1.out _).mono ?_; rintro e v2 ⟨rfl, hbq⟩))
                  have hS2 : v2.cell? ⟨G, 0, none⟩ = some (.slice P105 (nr + 1) c105) ∧ v2.cell? ⟨G, 1, none⟩ = some (.slice zA q zc) ∧ v2.cell? ⟨G, 2, none⟩ = some (.slice lA nl lc) ∧ v2.cell? ⟨w.heap.size + 1, 0, none⟩ = some (.string nm) ∧ v2.cell? ⟨w.heap.size + 1, 1, none⟩ = some (.int .i64 fr) ∧ v2.cell? ⟨w.heap.size + 1, 2, none⟩ = some (.int .i64 tt) ∧ v2.cell? ⟨w.heap.size + 1, 3, none⟩ = some (.int .i64 mo) ∧ v2.cell? ⟨w.heap.size + 1, 4, none⟩ = some (.int .u8 kk) ∧ v2.cell? ⟨w.heap.size + 1, 5, none⟩ = some (.int .i64 nn) ∧ v2.cell? ⟨w.heap.size + 1, 6, none⟩ = some (.int .i64 d) ∧ v2.cell? ⟨w.heap.size + 1, 7, none⟩ = some (.int .i64 sc) ∧ v2.cell? ⟨w.heap.size + 1, 8, none⟩ = some (.int .u8 cc) ∧ v2.cell? ⟨w.heap.size + 1, 9, none⟩ = some (.int .i64 sv) ∧ v2.cell? ⟨w.heap.size + 1, 10, none⟩ = some (.string lt) ∧ Hid (Below wz.heap.size wz v2) := by assumption
                  have HB2 := Lib.hid (below_then HBz.out hS2.2.2.2.2.2.2.2.2.2.2.2.2.2.2)
                  obtain ⟨hbz, hs, hr, hz, hR, hWo, hWa, hzr⟩ := HIn.out v2 HB2.out
                  obtain ⟨s0, s1, s2, _⟩ := hs.three
                  clear hbz hs hr hz hR hWo hWa hzr hS2 HQ1 HT1 HC1 HP1 S1 S0 hbq HAg HFu
                  go_wp2_with fail
                  obtain ⟨G2, hG2⟩ : ∃ G, v2.heap.size = G := ⟨_, rfl⟩
                  have HBJG2 : Hid (∀ W, Below G2 v2 W → Below W0.heap.size W0 W) := fun W h => below_then HB2.out (by rw [hG2]; exact h)
                  have hcp : At (v2.alloc (.cells #[.slice rA nr rc, .slice zA q zc, .slice lA nl lc] 26)) G2 [.slice rA nr rc, .slice zA q zc, .slice lA nl lc] := by
                    rw [← hG2]
                    exact At.new v2 #[.slice rA nr rc, .slice zA q zc, .slice lA nl lc] 26
                  have hbV : Below G2 v2 (v2.alloc (.cells #[.slice rA nr rc, .slice zA q zc, .slice lA nl lc] 26)) := by
                    rw [← hG2]
                    exact (Below.refl _ _).alloc (Nat.le_refl _) _
                  obtain ⟨V2, hV⟩ : ∃ V, v2.alloc (.cells #[.slice rA nr rc, .slice zA q zc, .slice lA nl lc] 26) = V := ⟨_, rfl⟩
                  rw [hV] at hcp hbV ⊢
                  rw [hG2]
                  obtain ⟨i0, i01, i02, i03, i04⟩ := info_parts zone_info
                  have HIG2 := Lib.hid (And.intro i01 (And.intro i02 (And.intro i03 i04)))
                  have HOG2 := Lib.hid (Vo.zone_one (HIn.out v2 HB2.out).2.2.2.2.1)
                  have HO1G2 : Hid (∀ v ∈ ([.string zb, .slice eA me ec] : List Value), v.oneCell' = true) := by
                    intro v hv
                    simp only [List.mem_cons, List.not_mem_nil, or_false] at hv
                    rcases hv with rfl | rfl <;> rfl
                  clear hV i01 i02 i03 i04
                  refine Od.wp_region_inv 137 (by kernel_rfl) (by rfl) (by rfl) (Od.ord_of (by kernel_rfl)) (Od.dst_of (by kernel_rfl)) (Vo.J v2 (Od.slots _) 120 1 w.heap.size G2 ⟨37, 2, .slice zA q zc, q, (s.zones.zip evs).flatMap Src.zc, [.string zb, .slice eA me ec]⟩ [.slice rA nr rc, .slice zA q zc, .slice lA nl lc]) (Vo.J.start _ _ _ _ _ _ _ _ _ hbV.drew hcp) ?step120 ?fin120
                  case step120 =>
                    intro i o hi b a' wz hJ hb hdep hdf K hK
                    obtain ⟨tm, df⟩ := a'
                    simp only at hdf
                    subst hdf
                    have hi9 : i < 9 := (Array.getElem?_eq_some_iff.1 hi).1
                    obtain ⟨hbz, hs, hr, hz, hR, hWo, hWa, hzr⟩ := HIn.out wz (HBJG2.out wz hJ.below)
                    have h3 : tm.getD 3 undef = .pointer (some ⟨w.heap.size, 0, none⟩) := hJ.old 3 (by omega)
                    have hx5 : tm.getD 5 undef = .pointer (some ⟨w.heap.size + 1 + 1, 0, none⟩) := hJ.old 5 (by omega)
                    have hcs : tm.getD 19 undef = .pointer (some ⟨G2, 0, none⟩) := hJ.old 19 (by omega)
                    obtain ⟨s0, s1, s2, _⟩ := hs.three
                    have hsplit : i = 0 ∨ i = 1 ∨ i = 2 ∨ i = 3 ∨ i = 4 ∨ i = 5 ∨ i = 6 ∨ i = 7 ∨ i = 8 := by omega
                    rcases hsplit with rfl | rfl | rfl | rfl | rfl | rfl | rfl | rfl | rfl
                    · have e := Option.some.inj (show some _ = some o from hi)
                      subst e
                      rw [if_pos (show Region.wanted _ _ = true from rfl)]
                      go_simp
                      exact hK _ _ (hJ.bs hb)
                    · have e := Option.some.inj (show some _ = some o from hi)
                      subst e
                      rw [if_pos (show Region.wanted _ _ = true from rfl)]
                      go_simp
                      exact hK _ _ hJ.p_
                    · have e := Option.some.inj (show some _ = some o from hi)
                      subst e
                      rw [if_pos (show Region.wanted _ _ = true from rfl)]
                      have hp : tm.getD 121 undef = .pointer (some ⟨w.heap.size, 1, none⟩) := hJ.p (hdep ⟨1, .data⟩ (by simp) rfl)
                      have hp' : tm[121]?.getD undef = .pointer (some ⟨w.heap.size, 1, none⟩) := by rw [← Array.getD_eq_getD_getElem?]; exact hp
                      go_simp
                      exact hK _ _ hJ.x_
                    · have e := Option.some.inj (show some _ = some o from hi)
                      subst e
                      rw [if_pos (show Region.wanted _ _ = true from rfl)]
                      have hd : b 0 = true := hdep ⟨0, .data⟩ (by simp) rfl
                      have hx : tm.getD 122 undef = .slice zA q zc := hJ.x (hdep ⟨2, .data⟩ (by simp) rfl)
                      have hrr := (show Src.RowR wz wz.heap.size 2 q (.slice zA q zc) _ by have h := hR.zones; rw [hnz] at h; exact h)
                      refine wp_append_any wz (.tmp 120) (.tmp 122) 23 rfl (G2 + 1) 37 i0 _ 2 40 Tryd.underlying23 HIG2.out.1 HIG2.out.2.1 HIG2.out.2.2.1 HIG2.out.2.2.2 rfl (by decide) _ 0 [] rfl (hJ.own_ap hb hd) _ zA q zc _ hx (Vo.row_reads hrr) HOG2.out (by unfold maxLen; omega) (by omega) hJ.lt ?_
                      intro v' w' hown hg hat
                      rw [Nat.zero_add, List.nil_append] at hown
                      exact hK _ _ (hJ.ap hb hd hown hg hat)
                    · have e := Option.some.inj (show some _ = some o from hi)
                      subst e
                      rw [if_pos (show Region.wanted _ _ = true from rfl)]
                      have hxp : tm.getD 5 undef = .pointer (some ⟨w.heap.size + 1 + 1, 0, none⟩) := hx5
                      have hxp' : tm[5]?.getD undef = .pointer (some ⟨w.heap.size + 1 + 1, 0, none⟩) := by rw [← Array.getD_eq_getD_getElem?]; exact hxp
                      obtain ⟨z0, z1, _⟩ := hz.two
                      go_simp
                      exact hK _ _ hJ.y_
                    · have e := Option.some.inj (show some _ = some o from hi)
                      subst e
                      rw [if_pos (show Region.wanted _ _ = true from rfl)]
                      have hp : tm.getD 124 undef = .agg #[.string zb, .slice eA me ec] := hJ.y (hdep ⟨4, .data⟩ (by simp) rfl)
                      have hp' : tm[124]?.getD undef = .agg #[.string zb, .slice eA me ec] := by rw [← Array.getD_eq_getD_getElem?]; exact hp
                      go_simp
                      exact hK _ _ (hJ.one_ hb rfl)
                    · have e := Option.some.inj (show some _ = some o from hi)
                      subst e
                      rw [if_pos (show Region.wanted _ _ = true from rfl)]
                      have hd : b 3 = true := hdep ⟨3, .data⟩ (by simp) rfl
                      have hz5 : b 5 = true := hdep ⟨5, .data⟩ (by simp) rfl
                      obtain ⟨k5, hk5⟩ := hJ.z hz5
                      have hsg := hJ.single hz5
                      rw [hk5] at hsg
                      have hx : tm.getD 125 undef = .slice (some ⟨k5, 0, none⟩) 1 1 := hk5
                      refine wp_append_any wz (.tmp 123) (.tmp 125) 23 rfl (G2 + 1) 37 i0 _ 2 40 Tryd.underlying23 HIG2.out.1 HIG2.out.2.1 HIG2.out.2.2.1 HIG2.out.2.2.2 rfl (by decide) _ q _ rfl (hJ.own_aq hb hd) _ _ 1 1 _ hx (Reads.of_own hsg) HO1G2.out (by unfold maxLen; omega) (by omega) hJ.lt ?_
                      intro v' w' hown hg hat
                      exact hK _ _ (hJ.aq hb hd hz5 hown hg hat)
                    · have e := Option.some.inj (show some _ = some o from hi)
                      subst e
                      rw [if_pos (show Region.wanted _ _ = true from rfl)]
                      go_simp
                      exact hK _ _ hJ.q_
                    · have e := Option.some.inj (show some _ = some o from hi)
                      subst e
                      rw [if_pos (show Region.wanted _ _ = true from rfl)]
                      have h6 := hdep ⟨6, .data⟩ (by simp) rfl
                      have h8 : b 8 = false := hb
                      obtain ⟨P1, c1, g1, _, _⟩ := own_slice_cap (hJ.full h6)
                      have hst := hJ.store_ h6 h8
                      rw [g1] at hst
                      have hac := hJ.at_
                      rw [h8, if_neg (by decide)] at hac
                      obtain ⟨t0, t1, t2, t3, t4, t5⟩ := hac.three
                      have g2 : tm.getD 126 undef = .slice P1 (q + 1) c1 := g1
                      have g2' : tm[126]?.getD undef = .slice P1 (q + 1) c1 := by rw [← Array.getD_eq_getD_getElem?]; exact g2
                      have hq : tm.getD 127 undef = .pointer (some ⟨G2, 1, none⟩) := hJ.q (hdep ⟨7, .data⟩ (by simp) rfl)
                      have hq' : tm[127]?.getD undef = .pointer (some ⟨G2, 1, none⟩) := by rw [← Array.getD_eq_getD_getElem?]; exact hq
                      go_simp
                      exact hK undef _ hst
                  case fin120 =>
                    intro a' wz hJ hN hdf
                    have ha := hJ.at_
                    rw [if_pos (show decide (8 < Array.size _) = true by rfl)] at ha
                    have hfu := hJ.full (by rfl)
                    obtain ⟨P120, c120, g1, hc11, hc12⟩ := own_slice_cap hfu
                    rw [g1] at ha hfu
                    have HBy := Lib.hid (HBJG2.out wz hJ.below)
                    have HAy := Lib.hid (show At wz G2 [.slice rA nr rc, .slice P120 (q + 1) c120, .slice lA nl lc] from ha)
                    have HFy := Lib.hid hfu
                    have h3 : a'.tmps.getD 3 undef = .pointer (some ⟨w.heap.size, 0, none⟩) := hJ.old 3 (by omega)
                    have h5 : a'.tmps.getD 5 undef = .pointer (some ⟨w.heap.size + 1 + 1, 0, none⟩) := hJ.old 5 (by omega)
                    have h19 : a'.tmps.getD 19 undef = .pointer (some ⟨G2, 0, none⟩) := hJ.old 19 (by omega)
                    have ef : a' = { tmps := ((List.range 137).map fun i => a'.tmps.getD i undef).toArray, defers := [] } := Sc.frame_of 137 a' hN hdf
                    obtain ⟨u, hu⟩ : ∃ u : Nat → Value, (fun i => a'.tmps.getD i undef) = u := ⟨_, rfl⟩
                    rw [hu] at ef
                    have e3 : u 3 = .pointer (some ⟨w.heap.size, 0, none⟩) := by rw [← hu]; exact h3
                    have e5 : u 5 = .pointer (some ⟨w.heap.size + 1 + 1, 0, none⟩) := by rw [← hu]; exact h5
                    have e19 : u 19 = .pointer (some ⟨G2, 0, none⟩) := by rw [← hu]; exact h19
                    have ef2 : a' = { tmps := #[u 0, u 1, u 2, u 3, u 4, u 5, u 6, u 7, u 8, u 9, u 10, u 11, u 12, u 13, u 14, u 15, u 16, u 17, u 18, u 19, u 20, u 21, u 22, u 23, u 24, u 25, u 26, u 27, u 28, u 29, u 30, u 31, u 32, u 33, u 34, u 35, u 36, u 37, u 38, u 39, u 40, u 41, u 42, u 43, u 44, u 45, u 46, u 47, u 48, u 49, u 50, u 51, u 52, u 53, u 54, u 55, u 56, u 57, u 58, u 59, u 60, u 61, u 62, u 63, u 64, u 65, u 66, u 67, u 68, u 69, u 70, u 71, u 72, u 73, u 74, u 75, u 76, u 77, u 78, u 79, u 80, u 81, u 82, u 83, u 84, u 85, u 86, u 87, u 88, u 89, u 90, u 91, u 92, u 93, u 94, u 95, u 96, u 97, u 98, u 99, u 100, u 101, u 102, u 103, u 104, u 105, u 106, u 107, u 108, u 109, u 110, u 111, u 112, u 113, u 114, u 115, u 116, u 117, u 118, u 119, u 120, u 121, u 122, u 123, u 124, u 125, u 126, u 127, u 128, u 129, u 130, u 131, u 132, u 133, u 134, u 135, u 136], defers := [] } := ef
                    rw [e3, e5, e19] at ef2
                    rw [ef2]
                    clear hJ ha hfu g1 h3 h5 h19 hN hdf ef ef2 hu e3 e5 e19 HIG2 HOG2 HO1G2 hcp hbV
                    obtain ⟨wy, hwy⟩ : ∃ W, wz = W := ⟨_, rfl⟩
                    rw [hwy] at HBy HAy HFy ⊢
                    clear hwy
                    have HP2 : Hid (∀ W, Below wy.heap.size wy W → W.cell? ⟨G2, 0, none⟩ = some (.slice rA nr rc) ∧ W.cell? ⟨G2, 1, none⟩ = some (.slice P120 (q + 1) c120) ∧ W.cell? ⟨G2, 2, none⟩ = some (.slice lA nl lc) ∧ W.cell? ⟨w.heap.size, 0, none⟩ = some (.slice rA nr rc) ∧ W.cell? ⟨w.heap.size + 1 + 1, 0, none⟩ = some (.string zb) ∧ W.cell? ⟨w.heap.size + 1 + 1, 1, none⟩ = some (.slice eA me ec) ∧ Hid (Below wy.heap.size wy W)) := by
                      intro W hb
                      obtain ⟨hbz, hs, hr, hz, hR, hWo, hWa, hzr⟩ := HIn.out W (below_then HBy.out hb)
                      have hg := HAy.out.call hb
                      exact ⟨hg.cell 0 _ rfl, hg.cell 1 _ rfl, hg.cell 2 _ rfl, hs.cell 0 _ rfl, hz.cell 0 _ rfl, hz.cell 1 _ rfl, hb⟩
                    have HQ2 : Hid (∀ W W', W.cell? ⟨G2, 0, none⟩ = some (.slice rA nr rc) ∧ W.cell? ⟨G2, 1, none⟩ = some (.slice P120 (q + 1) c120) ∧ W.cell? ⟨G2, 2, none⟩ = some (.slice lA nl lc) ∧ W.cell? ⟨w.heap.size, 0, none⟩ = some (.slice rA nr rc) ∧ W.cell? ⟨w.heap.size + 1 + 1, 0, none⟩ = some (.string zb) ∧ W.cell? ⟨w.heap.size + 1 + 1, 1, none⟩ = some (.slice eA me ec) ∧ Hid (Below wy.heap.size wy W) → Below W.heap.size W W' → W'.cell? ⟨G2, 0, none⟩ = some (.slice rA nr rc) ∧ W'.cell? ⟨G2, 1, none⟩ = some (.slice P120 (q + 1) c120) ∧ W'.cell? ⟨G2, 2, none⟩ = some (.slice lA nl lc) ∧ W'.cell? ⟨w.heap.size, 0, none⟩ = some (.slice rA nr rc) ∧ W'.cell? ⟨w.heap.size + 1 + 1, 0, none⟩ = some (.string zb) ∧ W'.cell? ⟨w.heap.size + 1 + 1, 1, none⟩ = some (.slice eA me ec) ∧ Hid (Below wy.heap.size wy W')) := fun W W' hW hb => HP2.out W' (below_then hW.2.2.2.2.2.2 hb)
                    have hwz := Vd.well_zone HX.out z (by rw [HZb.out]; exact HNot.out) false
                    obtain ⟨gz, hgz⟩ : ∃ y, Vd.well ⟨s.rules, [z], [], false⟩ = y := ⟨_, rfl⟩
                    rw [hgz] at hwz
                    have HT2 : Hid (∀ W, W.cell? ⟨G2, 0, none⟩ = some (.slice rA nr rc) ∧ W.cell? ⟨G2, 1, none⟩ = some (.slice P120 (q + 1) c120) ∧ W.cell? ⟨G2, 2, none⟩ = some (.slice lA nl lc) ∧ W.cell? ⟨w.heap.size, 0, none⟩ = some (.slice rA nr rc) ∧ W.cell? ⟨w.heap.size + 1 + 1, 0, none⟩ = some (.string zb) ∧ W.cell? ⟨w.heap.size + 1 + 1, 1, none⟩ = some (.slice eA me ec) ∧ Hid (Below wy.heap.size wy W) → Calls Tryd.prog 6 #[.agg #[.slice rA nr rc, .slice P120 (q + 1) c120, .slice lA nl lc]] W fun e w' => e = .returned (.bool gz) ∧ Below W.heap.size W w') := by
                      intro W hW
                      have hb : Below wy.heap.size wy W := hW.2.2.2.2.2.2
                      obtain ⟨hbz, hs, hr, hz, hR, hWo, hWa, hzr⟩ := HIn.out W (below_then HBy.out hb)
                      have h := vdWell_any ⟨s.rules, s.zones ++ [z], s.links, s.op⟩ _ _ _ _ W (Vo.src_zone (ev := .slice eA me ec) hR hnz (by rw [HMe.out]; exact hzr) (by rw [HZb.out]; exact ((Src.RowR.of_own HFy.out).below hb).more hb.size)) HSm.out.2.1 hWo hWa
                      rw [hwz] at h
                      exact h
                    have HT3 : Hid (∀ W k, W.cell? ⟨G2, 0, none⟩ = some (.slice rA nr rc) ∧ W.cell? ⟨G2, 1, none⟩ = some (.slice P120 (q + 1) c120) ∧ W.cell? ⟨G2, 2, none⟩ = some (.slice lA nl lc) ∧ W.cell? ⟨w.heap.size, 0, none⟩ = some (.slice rA nr rc) ∧ W.cell? ⟨w.heap.size + 1 + 1, 0, none⟩ = some (.string zb) ∧ W.cell? ⟨w.heap.size + 1 + 1, 1, none⟩ = some (.slice eA me ec) ∧ Hid (Below wy.heap.size wy W) → At W k [.string zb, .slice eA me ec] → Calls Tryd.prog 6 #[.agg #[.slice rA nr rc, .slice (some ⟨k, 0, none⟩) 1 1, .slice none 0 0]] W fun e w' => e = .returned (.bool gz) ∧ Below W.heap.size W w') := by
                      intro W k hW ha
                      have hb : Below wy.heap.size wy W := hW.2.2.2.2.2.2
                      obtain ⟨hbz, hs, hr, hz, hR, hWo, hWa, hzr⟩ := HIn.out W (below_then HBy.out hb)
                      have h := vdWell_any ⟨s.rules, [z], [], false⟩ _ _ _ _ W (Vo.src_alone (z := z) (ev := .slice eA me ec) hR (by rw [HMe.out]; exact hzr) (by rw [HZb.out]; exact ha)) HSm.out.2.2 hWo hWa
                      rw [hgz] at h
                      exact h
                    have qgz : (gz == gz) = true := by simp
                    clear hwz hgz
                    have S1 : wy.drew.cell? ⟨G2, 0, none⟩ = some (.slice rA nr rc) ∧ wy.drew.cell? ⟨G2, 1, none⟩ = some (.slice P120 (q + 1) c120) ∧ wy.drew.cell? ⟨G2, 2, none⟩ = some (.slice lA nl lc) ∧ wy.drew.cell? ⟨w.heap.size, 0, none⟩ = some (.slice rA nr rc) ∧ wy.drew.cell? ⟨w.heap.size + 1 + 1, 0, none⟩ = some (.string zb) ∧ wy.drew.cell? ⟨w.heap.size + 1 + 1, 1, none⟩ = some (.slice eA me ec) ∧ Hid (Below wy.heap.size wy wy.drew) := HP2.out _ (Below.refl _ _).drew
                    have S0 := HP2.out wy (Below.refl _ _)
                    go_wp2_with fail
                    go_region_held3 (fun w' => w'.cell? ⟨G2, 0, none⟩ = some (.slice rA nr rc) ∧ w'.cell? ⟨G2, 1, none⟩ = some (.slice P120 (q + 1) c120) ∧ w'.cell? ⟨G2, 2, none⟩ = some (.slice lA nl lc) ∧ w'.cell? ⟨w.heap.size, 0, none⟩ = some (.slice rA nr rc) ∧ w'.cell? ⟨w.heap.size + 1 + 1, 0, none⟩ = some (.string zb) ∧ w'.cell? ⟨w.heap.size + 1 + 1, 1, none⟩ = some (.slice eA me ec) ∧ Hid (Below wy.heap.size wy w')) (first | exact S1 | with_reducible assumption | exact Vo.pq_alloc HQ2 (by with_reducible assumption) _ | exact HQ2.out _ _ (by with_reducible assumption) hbq)
                      (first | (go_at_call_of 6 P120; refine (HT2.out _ (by with_reducible assumption)).mono ?_; rintro e v3 ⟨rfl, hbq⟩) | (go_at_call 6; refine (HT3.out _ _ (by with_reducible assumption) (by first | exact At.new _ _ _ | exact ((At.new wy #[.string zb, .slice eA me ec] 37).drew ⟨1, rfl⟩).call hbq | exact (At.new wy #[.string zb, .slice eA me ec] 37).drew ⟨1, rfl⟩)).mono ?_; rintro e v4 ⟨rfl, hbq⟩))
                    all_goals
                      have hS4 : v4.cell? ⟨G2, 0, none⟩ = some (.slice rA nr rc) ∧ v4.cell? ⟨G2, 1, none⟩ = some (.slice P120 (q + 1) c120) ∧ v4.cell? ⟨G2, 2, none⟩ = some (.slice lA nl lc) ∧ v4.cell? ⟨w.heap.size, 0, none⟩ = some (.slice rA nr rc) ∧ v4.cell? ⟨w.heap.size + 1 + 1, 0, none⟩ = some (.string zb) ∧ v4.cell? ⟨w.heap.size + 1 + 1, 1, none⟩ = some (.slice eA me ec) ∧ Hid (Below wy.heap.size wy v4) := by assumption
                      have HE := Lib.hid (HIn.out v4 (below_then HBy.out hS4.2.2.2.2.2.2)).1
                      clear hS4
                      go_wp2
                      rw [← HP.out]
                      exact ⟨ret_bool (by simp), HE.out⟩
end Go.Proofs.YtfobllagmakjdaaDoor
