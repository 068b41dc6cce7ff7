/- The walk of AtlasKey. -/
import Derived.Test.YtajcgoinhpengaaDoorP02
import Derived.Test.YtajcgoinhpengaaDoorK32
import Derived.Deep.DeepCutAuto

namespace Go.Proofs.YtajcgoinhpengaaDoor
open Go.RowKit

namespace Ca
theorem has_next {l : List ByteArray} {q : Nat} {m : ByteArray} (h : l[q]? = some m) (y : ByteArray) : has (l.take (q + 1)) y = (has (l.take q) y || decide (m = y)) := by
  rw [take_next h]
  unfold has
  rw [List.any_append]
  simp
theorem zall_next {l : List E} {k : Nat} {x : E} (h : l[k]? = some x) (key : ByteArray) : zall (l.take (k + 1)) key = zall (l.take k) key ++ (if x.key = key then x.zones else []) := by
  rw [take_next h]
  unfold zall
  rw [List.flatMap_append]
  simp
theorem zall_len {l : List E} (h : ∀ e ∈ l, e.zones.length ≤ 40) (key : ByteArray) : (zall l key).length ≤ l.length * 40 := by
  induction l with
  | nil => simp [zall]
  | cons e r ih =>
    have h1 := h e List.mem_cons_self
    have h2 := ih (fun x hx => h x (List.mem_cons_of_mem _ hx))
    unfold zall at h2 ⊢
    rw [List.flatMap_cons, List.length_append, List.length_cons]
    split
    · omega
    · rw [List.length_nil]; omega
theorem few_take {l : List E} (h : Few l) (k : Nat) (key : ByteArray) : (zall (l.take k) key).length ≤ 1600 := by
  have h1 := zall_len (l := l.take k) (fun e he => (h.all e (List.mem_of_mem_take he)).n) key
  have h2 := h.n
  rw [List.length_take] at h1
  omega
theorem zall_mem {l : List E} {key y : ByteArray} (h : y ∈ zall l key) : ∃ e ∈ l, e.key = key ∧ y ∈ e.zones := by
  obtain ⟨e, he, hy⟩ := List.mem_flatMap.1 h
  split at hy
  · rename_i hk
    exact ⟨e, he, hk, hy⟩
  · cases hy
theorem ne_toList {x y : ByteArray} (h : ¬ x = y) : (x.toList == y.toList) = false := by
  rw [beq_eq_false_iff_ne]
  intro e
  rw [ByteArray.toList_eq, ByteArray.toList_eq] at e
  exact h (ByteArray.ext (Array.ext' e))
end Ca
theorem Src.lims_of {s : Src.S} (h : Src.Few s) : Src.Lims s := ⟨by have := h.nr; omega, by have := h.nz; omega, by have := h.nl; omega⟩
theorem Src.nm_of {s : Src.S} (h : Src.Few s) (hw : Src.Wide s) : Lk.Nm s := ⟨by have := h.nz; omega, by have := h.nl; omega, fun z hz => (hw.zones z hz).1, fun k hk => hw.links k hk⟩
theorem Src.names_of {s : Src.S} (hN : Lk.Nm s) : ∀ x ∈ Src.names s, x.size ≤ maxLen := by
  intro x hx
  rcases List.mem_append.1 hx with hx | hx
  · exact hN.zn x hx
  · exact hN.ln x hx
set_option maxHeartbeats 8000000 in
set_option maxRecDepth 100000 in
theorem atlasKey_any (l : List Ca.E) (A : Option Addr) (n c : Nat) (evl : List Value) (s : Src.S) (rv zv lv : Value) (evs : List Value) (terr name : ByteArray) (w : World) (hE : Ca.EntR w w.heap.size l (.slice A n c) evl) (hl : l.length = n) (hC : Ca.Wide l)
    (hR : Src.SrcR w w.heap.size s rv zv lv evs) (hw : Src.Wide s) (ht : terr.size ≤ maxLen) (hnm : name.size ≤ maxLen) (hWa : Wa w) :
    Calls Tryd.prog 3 #[.slice A n c, .agg #[rv, zv, lv], .string terr, .string name] w fun e w' => e = .returned (.bool true) ∧ Below w.heap.size w w' := by
  obtain ⟨P, hP⟩ : ∃ P : Ending → World → Prop, (fun e w' => e = .returned (.bool true) ∧ Below w.heap.size w w') = P := ⟨_, rfl⟩
  rw [hP]
  have HP := Lib.hid hP
  clear hP
  obtain ⟨rA, rc, rfl, hrc⟩ := hR.rules
  obtain ⟨zA, zc, rfl, hzc⟩ := hR.zones
  obtain ⟨lA, lc, rfl, hlc⟩ := hR.links
  obtain ⟨nr, hnr⟩ : ∃ n, s.rules.length = n := ⟨_, rfl⟩
  obtain ⟨nz, hnz⟩ : ∃ n, s.zones.length = n := ⟨_, rfl⟩
  obtain ⟨nl, hnl⟩ : ∃ n, s.links.length = n := ⟨_, rfl⟩
  rw [hnr, hnz, hnl] at hR ⊢
  obtain ⟨W0, hW0⟩ : ∃ W, w.alloc (.cells #[.slice rA nr rc, .slice zA nz zc, .slice lA nl lc] 27) = W := ⟨_, rfl⟩
  have hb0 : Below w.heap.size w W0 := by rw [← hW0]; exact bal1 _ _
  have hs0 : At W0 w.heap.size [.slice rA nr rc, .slice zA nz zc, .slice lA nl lc] := by rw [← hW0]; exact At.new _ _ _
  have HIn : Hid (∀ W, Below W0.heap.size W0 W → Below w.heap.size w W ∧ At W w.heap.size [.slice rA nr rc, .slice zA nz zc, .slice lA nl lc] ∧ Ca.EntR W W.heap.size l (.slice A n c) evl ∧ Src.SrcR W W.heap.size s (.slice rA nr rc) (.slice zA nz zc) (.slice lA nl lc) evs ∧ Wa W) := by
    intro W hb
    have hb1 := below_then hb0 hb
    exact ⟨hb1, hs0.call hb, hE.call hb1, hR.call hb1, hWa.below hb1⟩
  have HW0 := Lib.hid hW0
  have HLv := Lib.hid (lives33 W0 (hWa.below hb0))
  have HC := Lib.hid hC
  have HL := Lib.hid hl
  have HSw := Lib.hid hw
  unfold maxLen at ht
  have hnm' := hnm
  unfold maxLen at hnm'
  obtain ⟨i0, hi0, hz0, hz1, hz2⟩ := info_parts str_info
  have HI := Lib.hid (And.intro hi0 (And.intro hz0 (And.intro hz1 hz2)))
  clear hE hR hWa hC hw hl hW0 hb0 hs0 hrc hzc hlc hi0 hz0 hz1 hz2
  go_enter Tryd.func3, Tryd.ntmps3
  go_wp2_with fail
  rw [HW0.out]
  go_wp2_with fail
  refine HLv.out.mono ?_
  rintro e w1 ⟨rfl, hb1⟩
  have HB1 := Lib.hid hb1
  have HF1 := Lib.hid (small32_any l A n c evl w1 (HIn.out w1 hb1).2.2.1 HL.out HC.out)
  clear hb1
  go_wp2_with fail
  refine HF1.out.mono ?_
  rintro e w2 ⟨he, hb2⟩
  have HB2 := Lib.hid (below_then HB1.out hb2)
  clear hb2
  rcases he with rfl | ⟨rfl, hfl⟩
  · have HE := Lib.hid (HIn.out w2 HB2.out).1
    go_wp2
    rw [← HP.out]
    exact ⟨ret_bool rfl, HE.out⟩
  · obtain ⟨_, hs, _, hR, _⟩ := HIn.out w2 HB2.out
    obtain ⟨s0, s1, s2, _⟩ := hs.three
    have HF2 := Lib.hid (few_any s _ _ _ evs w2 hR HSw.out)
    have HFl := Lib.hid hfl
    clear hs hR hfl
    go_wp2_with fail
    refine HF2.out.mono ?_
    rintro e w3 ⟨he, hb3⟩
    have HB3 := Lib.hid (below_then HB2.out hb3)
    clear hb3 s0 s1 s2
    rcases he with rfl | ⟨rfl, hfs⟩
    · have HE := Lib.hid (HIn.out w3 HB3.out).1
      go_wp2
      rw [← HP.out]
      exact ⟨ret_bool rfl, HE.out⟩
    · have HFs := Lib.hid hfs
      have HE3 := Lib.hid (HIn.out w3 HB3.out).1
      clear hfs
      by_cases ht1 : terr.size ≤ 1000
      · have p1 : ¬ (1000 : Int) < (terr.size : Int) := by omega
        by_cases hn1 : name.size ≤ 1000
        · have p2 : ¬ (1000 : Int) < (name.size : Int) := by omega
          have HCk := Lib.hid (caCheck_any l A n c evl w3 (HIn.out w3 HB3.out).2.2.1 HL.out HFl.out.wd)
          obtain ⟨X, hX⟩ : ∃ X, Ca.chk l = X := ⟨_, rfl⟩
          rw [hX] at HCk
          have HX := Lib.hid hX
          clear hX
          go_wp2_with fail
          refine HCk.out.mono ?_
          rintro e w4 ⟨rfl, hb4⟩
          have HB4 := Lib.hid (below_then HB3.out hb4)
          clear hb4
          by_cases hX0 : X = 0
          · subst hX0
            obtain ⟨_, hs, _, hR, hWa⟩ := HIn.out w4 HB4.out
            obtain ⟨s0, s1, s2, _⟩ := hs.three
            have hcs := srcCheck_anyW s _ _ _ evs w4 hWa hR (Src.lims_of HFs.out) HSw.out.smw
            obtain ⟨G, hG⟩ : ∃ G, Src.srcB s = G := ⟨_, rfl⟩
            rw [hG] at hcs
            have HCs := Lib.hid hcs
            have HG := Lib.hid hG
            clear hs hR hWa hcs hG
            go_wp2_with fail
            refine HCs.out.mono ?_
            rintro e w5 ⟨rfl, hb5⟩
            have HB5 := Lib.hid (below_then HB4.out hb5)
            clear hb5 s0 s1 s2
            cases G with
            | false =>
              have HE := Lib.hid (HIn.out w5 HB5.out).1
              go_wp2
              rw [← HP.out]
              exact ⟨ret_bool rfl, HE.out⟩
            | true =>
              obtain ⟨_, hs, hE, hR, _⟩ := HIn.out w5 HB5.out
              obtain ⟨s0, s1, s2, _⟩ := hs.three
              have HNm := Lib.hid (Src.nm_of HFs.out HSw.out)
              have HMs := Lib.hid (caMissing_any l A n c evl s _ _ _ evs w5 hE HL.out HFl.out.wd HFl.out.flat hR (Src.lims_of HFs.out) HNm.out (Src.names_of HNm.out))
              clear hs hE hR
              go_wp2_with fail
              refine HMs.out.mono ?_
              rintro e w6 ⟨⟨v6, rfl, ho6⟩, hb6⟩
              have HB6 := Lib.hid (below_then HB5.out hb6)
              obtain ⟨mA, mc, rfl, hml⟩ := own_slice ho6
              obtain ⟨ms, hms⟩ : ∃ m, Ca.missing l s = m := ⟨_, rfl⟩
              obtain ⟨nms, hnms⟩ : ∃ n, ms.length = n := ⟨_, rfl⟩
              rw [hms, hnms] at ho6 hml
              unfold maxLen at hml
              rw [hms, hnms]
              have HO6 := Lib.hid ho6
              have HMm := Lib.hid hms
              have HMn := Lib.hid hnms
              have HKs := Lib.hid (caKeys_any l A n c evl w6 (HIn.out w6 HB6.out).2.2.1 HL.out HFl.out.wd)
              clear ho6 hb6 hms hnms s0 s1 s2
              go_wp2_with fail
              refine HKs.out.mono ?_
              rintro e w7 ⟨⟨v7, rfl, ho7⟩, hb7⟩
              have HB7 := Lib.hid (below_then HB6.out hb7)
              have HO6' := Lib.hid (Reads.of_own (own_below HO6.out hb7))
              obtain ⟨kA, kc, rfl, hkc⟩ := own_slice ho7
              obtain ⟨ks, hks⟩ : ∃ m, Ca.keys l = m := ⟨_, rfl⟩
              obtain ⟨nk, hnk⟩ : ∃ n, ks.length = n := ⟨_, rfl⟩
              rw [hks, hnk] at ho7
              rw [hks, hnk]
              have HO7 := Lib.hid (Reads.of_own ho7)
              have HKm := Lib.hid hks
              have HKn := Lib.hid hnk
              have hnk40 : nk ≤ 40 := by
                rw [← hnk, ← hks]
                have h1 := Ca.keys_len l
                have h2 := HFl.out.n
                omega
              clear ho7 hb7 hks hnk hkc
              go_wp2_with fail
              go_loopw [72] (fun i wr => ∃ k : Nat, k ≤ nk ∧ i = .int .i64 (k : Int) ∧ Hid (Below w7.heap.size w7 wr)) (fun i _ => nk - (intOf i).toNat)
              case atStart => exact ⟨0, Nat.zero_le _, rfl, Below.refl _ _⟩
              case round =>
                obtain ⟨k, hk, rfl, HBk⟩ := hrel
                have HBr := Lib.hid (below_then HB7.out HBk.out)
                by_cases hlt : k < nk
                · have q1 : (0 : Int) ≤ (k : Int) := by omega
                  have q2 : (k : Int) < (nk : Int) := by omega
                  obtain ⟨ad, x, rfl, Hx, hcell⟩ : ∃ ad2 nm, kA = some ad2 ∧ Hid (ks[k]? = some nm) ∧ wr.cell? (ad2.add k) = some (.string nm) := reads_str (HO7.out.below HBk.out) hlt
                  have hxk : x ∈ Ca.keys l := by rw [HKm.out]; exact List.mem_of_getElem? Hx.out
                  obtain ⟨e, hel, hek, hez, hzo⟩ := Ca.zones_of HX.out hxk terr
                  obtain ⟨e', hel', d, hdz, hek', hdo⟩ := Ca.def_of HX.out hxk
                  have hz := caZones_any l A n c evl x terr wr (HIn.out wr HBr.out).2.2.1 HL.out HFl.out.wd
                  rw [hzo] at hz
                  have HZ := Lib.hid hz
                  have HDe := Lib.hid hdo
                  obtain ⟨m, hm⟩ : ∃ m, e.zones.length = m := ⟨_, rfl⟩
                  have hm40 : m ≤ 40 := by rw [← hm]; exact (HFl.out.all e hel).n
                  have hall : ∀ y ∈ e.zones ++ [d], Ca.keyA l s y = (x, 0) ∧ (y ∈ ms ↔ (Lk.walk s y).2.2 ≠ 0) ∧ y.size ≤ 1000 := by
                    intro y hy
                    rcases List.mem_append.1 hy with hy | hy
                    · exact ⟨by rw [← hek]; exact Ca.key_of_zone HX.out HG.out hel hy, by rw [← HMm.out]; exact Ca.missing_mem hel hy, (HFl.out.all e hel).z y hy⟩
                    · rw [List.mem_singleton.1 hy]
                      exact ⟨by rw [← hek']; exact Ca.key_of_zone HX.out HG.out hel' hdz, by rw [← HMm.out]; exact Ca.missing_mem hel' hdz, (HFl.out.all e' hel').z d hdz⟩
                  have HAll := Lib.hid hall
                  have HM := Lib.hid hm
                  have hm1 : 1 ≤ m := by rw [← hm]; exact hez
                  have r1 : ¬ (m : Int) < 1 := by omega
                  have HEz := Lib.hid hek
                  clear hz hzo hdo hel hel' hek hek' hdz hall hm hez hxk
                  go_wp2_with fail
                  refine HZ.out.mono ?_
                  rintro e8 w8 ⟨A8, c8, rfl, h81, h82, hr8, hb8⟩
                  have HB8 := Lib.hid (below_then HBr.out hb8)
                  have HBk8 := Lib.hid (below_then HBk.out hb8)
                  rw [HM.out] at h81 hr8
                  simp only [HM.out]
                  have HR8 := Lib.hid hr8
                  have hd := caDef_any l A n c evl x w8 (HIn.out w8 HB8.out).2.2.1 HL.out HFl.out.wd
                  rw [HDe.out] at hd
                  have HDf := Lib.hid hd
                  clear hb8 hr8 hd HZ h81 h82 hcell
                  go_wp2_with fail
                  refine HDf.out.mono ?_
                  rintro e9 w9 ⟨rfl, hb9⟩
                  have HB9 := Lib.hid (below_then HB8.out hb9)
                  have HBk9 := Lib.hid (below_then HBk8.out hb9)
                  have HR9 := Lib.hid ((HR8.out.below hb9).more hb9.size)
                  clear hb9 HDf
                  obtain ⟨nn, hnn⟩ : ∃ n, m + 1 = n := ⟨_, rfl⟩
                  have hnn41 : nn ≤ 41 := by omega
                  have HNn := Lib.hid hnn
                  clear hnn
                  have HO9 := Lib.hid (World.ownsRow_made w9 #[] (e := 9) (size := 1) 0 (Nat.le_refl _) (Nat.zero_le _) (by simp))
                  have HB9a := Lib.hid (bal HB9.out (.cells #[] 9))
                  have HBk9a := Lib.hid (bal HBk9.out (.cells #[] 9))
                  have HAp1 := Lib.hid fun (_ : True) {ops : Array Oper} {rest : List Oper} {o : Oper} {a : Act} {Q : Exit → Act → World → Prop} (hgd : o.guard = none) (ho : o.op = .call { callee := .builtin .append, args := #[.tmp 100, .tmp 101], argTypes := #[34, 34] }) (hs : a.eval (.tmp 100) = .slice (some ⟨w9.heap.size, 0, none⟩) 0 0) (hx : a.eval (.tmp 101) = .slice A8 m c8) hk => wpList_append_any (P := Tryd.prog) (ops := ops) (rest := rest) (o := o) (a := a) (Q := Q) (w9.alloc (.cells #[] 9)) hgd (.tmp 100) (.tmp 101) 34 ho w9.heap.size 9 i0 _ 1 16 Tryd.underlying34 HI.out.1 HI.out.2.1 HI.out.2.2.1 HI.out.2.2.2 rfl (by decide) _ 0 [] hs HO9.out _ A8 m c8 _ hx (HR9.out.below (bal1 w9 _)) (by intro u hu; rw [List.mem_map] at hu; obtain ⟨t, _, rfl⟩ := hu; rfl) (by unfold maxLen; omega) (by omega) (by rw [World.size_alloc]; omega) hk
                  have HAp2 := Lib.hid fun (W : World) (A1 : Option Addr) (c1 : Nat) (xs : List Value) (hO : W.ownsRow w9.heap.size 9 1 (.slice A1 m c1) m xs) (hW : w9.heap.size ≤ W.heap.size) {ops : Array Oper} {rest : List Oper} {o : Oper} {a : Act} {Q : Exit → Act → World → Prop} (hgd : o.guard = none) (ho : o.op = .call { callee := .builtin .append, args := #[.tmp 102, .tmp 104], argTypes := #[34, 34] }) (hs : a.eval (.tmp 102) = .slice A1 m c1) (hx : a.eval (.tmp 104) = .slice (some ⟨W.heap.size, 0, none⟩) 1 1) hk => wpList_append_any (P := Tryd.prog) (ops := ops) (rest := rest) (o := o) (a := a) (Q := Q) (W.alloc (.cells #[.string d] 9)) hgd (.tmp 102) (.tmp 104) 34 ho w9.heap.size 9 i0 _ 1 16 Tryd.underlying34 HI.out.1 HI.out.2.1 HI.out.2.2.1 HI.out.2.2.2 rfl (by decide) _ m _ hs (hO.alloc _) _ _ 1 1 _ hx (reads_one W d 9) (by intro u hu; simp only [List.map_cons, List.map_nil, List.mem_singleton] at hu; subst hu; rfl) (by unfold maxLen; omega) (by omega) (by rw [World.size_alloc]; omega) hk
                  go_wp2_with (first
                    | (at_builtin; refine HAp1.out trivial rfl rfl rfl rfl ?_; intro v10 w10 hown10 hg10 _; rw [Nat.zero_add, List.nil_append] at hown10; have HB10 := Lib.hid (HB9a.out.grown hg10 HB9a.out.size (fun j e => by have := (HO9.out.lt j e).1; have := HB9.out.size; omega)); have HBk10 := Lib.hid (HBk9a.out.grown hg10 HBk9a.out.size (fun j e => by have := (HO9.out.lt j e).1; have := HBk9.out.size; omega)); obtain ⟨A1, c1, rfl, _⟩ := own_slice hown10; have HO10 := Lib.hid hown10; have HS10 := Lib.hid (show w9.heap.size ≤ w10.heap.size by have := hg10.size; rw [World.size_alloc] at this; omega); clear hown10 hg10)
                    | (at_builtin; refine HAp2.out w10 A1 c1 _ HO10.out HS10.out rfl rfl rfl rfl ?_; intro v11 w11 hown11 hg11 _; have HB11 := Lib.hid ((bal HB10.out (.cells #[.string d] 9)).grown hg11 (bal HB10.out (.cells #[.string d] 9)).size (fun j e => by have := (HO10.out.lt j e).1; have := HB9.out.size; omega)); have HBk11 := Lib.hid ((bal HBk10.out (.cells #[.string d] 9)).grown hg11 (bal HBk10.out (.cells #[.string d] 9)).size (fun j e => by have := (HO10.out.lt j e).1; have := HBk9.out.size; omega)); rw [HNn.out, ← List.map_append] at hown11; obtain ⟨A2, c2, rfl, hc2⟩ := own_slice hown11; have HR11 := Lib.hid (Reads.of_own hown11); clear hown11 hg11 hc2))
                  obtain ⟨zs, hzs⟩ : ∃ z, e.zones ++ [d] = z := ⟨_, rfl⟩
                  rw [hzs] at HR11 HAll
                  clear HAp1 HAp2 hzs HEz HDe HM HNn HO9 HO10 HB10 HBk10 HB9a HBk9a
                  go_loopw [107] (fun i wq => ∃ q : Nat, q ≤ nn ∧ i = .int .i64 (q : Int) ∧ Hid (Below w11.heap.size w11 wq)) (fun i _ => nn - (intOf i).toNat)
                  case atStart => exact ⟨0, Nat.zero_le _, rfl, Below.refl _ _⟩
                  case round =>
                    obtain ⟨q, hq, rfl, HBq⟩ := hrel
                    have HB12 := Lib.hid (below_then HB11.out HBq.out)
                    have HBk12 := Lib.hid (below_then HBk11.out HBq.out)
                    by_cases hlq : q < nn
                    · have t1 : (0 : Int) ≤ (q : Int) := by omega
                      have t2 : (q : Int) < (nn : Int) := by omega
                      obtain ⟨ad2, y, rfl, Hy, hcy⟩ : ∃ ad2 nm, A2 = some ad2 ∧ Hid (zs[q]? = some nm) ∧ wr.cell? (ad2.add q) = some (.string nm) := reads_str (HR11.out.below HBq.out) hlq
                      obtain ⟨hy1, hy2, hy3⟩ := HAll.out y (List.mem_of_getElem? Hy.out)
                      have hy4 : y.size ≤ maxLen := by unfold maxLen; omega
                      obtain ⟨_, hs, hE, hR, hWa⟩ := HIn.out wr HB12.out
                      obtain ⟨s0, s1, s2, _⟩ := hs.three
                      have hky := caKey_any l A n c evl s _ _ _ evs y wr hE HL.out HFl.out.wd hR (Src.lims_of HFs.out) HSw.out.smw HNm.out (Src.names_of HNm.out) hy4 hWa
                      rw [hy1] at hky
                      have HKy := Lib.hid hky
                      have HY2 := Lib.hid hy2
                      clear hs hE hR hWa hky hy1 hy2 hy3
                      go_wp2_with fail
                      refine HKy.out.mono ?_
                      rintro e13 w13 ⟨rfl, hb13⟩
                      have HB13 := Lib.hid (below_then HB12.out hb13)
                      have HBk13 := Lib.hid (below_then HBk12.out hb13)
                      have HBq13 := Lib.hid (below_then HBq.out hb13)
                      clear hb13 s0 s1 s2 hcy
                      go_wp2_with fail
                      go_loopw [21, 127] (fun g i wv => ∃ r : Nat, r ≤ nms ∧ i = .int .i64 (r : Int) ∧ g = .bool (Ca.has (ms.take r) y) ∧ w13 = wv) (fun _ i _ => nms - (intOf i).toNat)
                      case atStart => exact ⟨0, Nat.zero_le _, rfl, rfl, rfl⟩
                      case round =>
                        obtain ⟨r, hr, rfl, rfl, rfl⟩ := hrel
                        by_cases hlr : r < nms
                        · have v1 : (0 : Int) ≤ (r : Int) := by omega
                          have v2 : (r : Int) < (nms : Int) := by omega
                          obtain ⟨ad3, mm, rfl, Hm, hcm⟩ : ∃ ad2 nm, mA = some ad2 ∧ Hid (ms[r]? = some nm) ∧ w13.cell? (ad2.add r) = some (.string nm) := reads_str (HO6'.out.below HBk13.out) hlr
                          have hnx := Ca.has_next Hm.out y
                          obtain ⟨b, hb⟩ : ∃ b, Ca.has (ms.take r) y = b := ⟨_, rfl⟩
                          rw [hb] at hnx ⊢
                          clear hb
                          cases b with
                          | true =>
                            have HNx : Hid (Ca.has (ms.take (r + 1)) y = true) := hnx.trans (Bool.true_or _)
                            clear hnx
                            go_wp2
                            go_roundw
                            case rel => exact ⟨r + 1, by omega, by go_num, by show Value.bool true = _; rw [HNx.out], by first | rfl | trivial⟩
                            case measure => simp [intOf]; omega
                          | false =>
                            by_cases hmy : mm = y
                            · have HNx : Hid (Ca.has (ms.take (r + 1)) y = true) := hnx.trans (by rw [decide_eq_true hmy]; rfl)
                              have qe : (mm.toList == y.toList) = true := by simp [hmy]
                              have qe' : mm.toList = y.toList := by rw [hmy]
                              clear hnx hmy
                              go_wp2
                              go_roundw
                              case rel => exact ⟨r + 1, by omega, by go_num, by show Value.bool true = _; rw [HNx.out], by first | rfl | trivial⟩
                              case measure => simp [intOf]; omega
                            · have HNx : Hid (Ca.has (ms.take (r + 1)) y = false) := hnx.trans (by rw [decide_eq_false hmy]; rfl)
                              have qe := Ca.ne_toList hmy
                              have qe' : ¬ mm.toList = y.toList := by simpa using qe
                              clear hnx hmy
                              go_wp2
                              go_roundw
                              case rel => exact ⟨r + 1, by omega, by go_num, by show Value.bool false = _; rw [HNx.out], by first | rfl | trivial⟩
                              case measure => simp [intOf]; omega
                        · have hrn : r = nms := by omega
                          subst hrn
                          have v2 : ¬ (r : Int) < (r : Int) := by omega
                          obtain ⟨gn, hgn⟩ : ∃ b, Ca.has (ms.take r) y = b := ⟨_, rfl⟩
                          rw [hgn]
                          rw [List.take_of_length_le (Nat.le_of_eq HMn.out)] at hgn
                          obtain ⟨_, hs, _, hR, _⟩ := HIn.out w13 HB13.out
                          obtain ⟨s0, s1, s2, _⟩ := hs.three
                          have hlz := linkZone_any s _ _ _ evs y w13 hR HNm.out hy4
                          obtain ⟨Y, hY⟩ : ∃ Y, Lk.walk s y = Y := ⟨_, rfl⟩
                          rw [hY] at hlz HY2
                          obtain ⟨yn, y1, y2⟩ := Y
                          have hg2 : gn = decide (y2 ≠ 0) := by
                            rw [← hgn, Bool.eq_iff_iff, Ca.has_iff, decide_eq_true_iff]
                            exact HY2.out
                          have HLz : Hid (Calls Tryd.prog 15 #[.agg #[.slice rA nr rc, .slice zA nz zc, .slice lA nl lc], .string y] w13 fun e w' => e = .returned (.tuple #[.int .i64 y1, .int .i64 y2]) ∧ Below w13.heap.size w13 w') := hlz
                          clear hs hR hlz hgn hY
                          go_wp2_with fail
                          refine HLz.out.mono ?_
                          rintro e14 w14 ⟨rfl, hb14⟩
                          have HBq14 := Lib.hid (below_then HBq13.out hb14)
                          clear hb14 s0 s1 s2
                          by_cases hz : y2 = 0
                          · subst hz
                            have hg3 : gn = false := by rw [hg2]; rfl
                            subst hg3
                            clear hg2
                            go_wp2
                            go_roundw
                            case rel => exact ⟨q + 1, by omega, by go_num, HBq14.out⟩
                            case measure => simp [intOf]; omega
                          · have hg3 : gn = true := by rw [hg2]; exact decide_eq_true hz
                            subst hg3
                            have qz : (y2 != 0) = true := by simpa using hz
                            clear hg2
                            go_wp2
                            go_roundw
                            case rel => exact ⟨q + 1, by omega, by go_num, HBq14.out⟩
                            case measure => simp [intOf]; omega
                    · have hqn : q = nn := by omega
                      subst hqn
                      have t2 : ¬ (q : Int) < (q : Int) := by omega
                      go_wp2
                      go_roundw
                      case rel => exact ⟨k + 1, by omega, by go_num, HBk12.out⟩
                      case measure => simp [intOf]; omega
                · have hkn : k = nk := by omega
                  subst hkn
                  have q2 : ¬ (k : Int) < (k : Int) := by omega
                  obtain ⟨_, hs, hE, hR, hWa⟩ := HIn.out wr HBr.out
                  obtain ⟨s0, s1, s2, _⟩ := hs.three
                  obtain ⟨K, hK⟩ : ∃ K, Ca.keyA l s name = K := ⟨_, rfl⟩
                  have hky := caKey_any l A n c evl s _ _ _ evs name wr hE HL.out HFl.out.wd hR (Src.lims_of HFs.out) HSw.out.smw HNm.out (Src.names_of HNm.out) hnm hWa
                  rw [hK] at hky
                  have HKy := Lib.hid hky
                  have HK := Lib.hid hK
                  clear hs hE hR hWa hky hK
                  go_wp2_with fail
                  refine HKy.out.mono ?_
                  rintro e10 w10 ⟨rfl, hb10⟩
                  have HB10 := Lib.hid (below_then HBr.out hb10)
                  clear hb10 s0 s1 s2
                  obtain ⟨k1, k2⟩ := K
                  by_cases hk2 : k2 = 0
                  · subst hk2
                    obtain ⟨_, hs, _, hR, _⟩ := HIn.out w10 HB10.out
                    obtain ⟨s0, s1, s2, _⟩ := hs.three
                    have hlz := linkZone_any s _ _ _ evs name w10 hR HNm.out hnm
                    have hw0 := Ca.key_why HK.out
                    obtain ⟨Y, hY⟩ : ∃ Y, Lk.walk s name = Y := ⟨_, rfl⟩
                    rw [hY] at hlz hw0
                    obtain ⟨yn, at0, no0⟩ := Y
                    have HWh : Hid (∃ n ∈ Ca.zall l k1, n = name ∨ (no0 = 0 ∧ (Lk.walk s n).2.2 = 0 ∧ (Lk.walk s n).2.1 = at0)) := hw0
                    have HLz : Hid (Calls Tryd.prog 15 #[.agg #[.slice rA nr rc, .slice zA nz zc, .slice lA nl lc], .string name] w10 fun e w' => e = .returned (.tuple #[.int .i64 at0, .int .i64 no0]) ∧ Below w10.heap.size w10 w') := hlz
                    clear hs hR hlz hw0 hY
                    go_wp2_with fail
                    refine HLz.out.mono ?_
                    rintro e11 w11 ⟨rfl, hb11⟩
                    have HB11 := Lib.hid (below_then HB10.out hb11)
                    clear hb11 s0 s1 s2
                    go_wp2_with fail
                    go_loopw [10, 169] (fun v i wv => ∃ j : Nat, j ≤ n ∧ i = .int .i64 (j : Int) ∧ Hid (Below w11.heap.size w11 wv) ∧ Hid (wv.ownsRow w11.heap.size 9 1 v (Ca.zall (l.take j) k1).length ((Ca.zall (l.take j) k1).map Value.string))) (fun _ i _ => n - (intOf i).toNat)
                    case atStart => exact ⟨0, Nat.zero_le _, rfl, Below.refl _ _, World.ownsRow_nil _ _ _ _⟩
                    case round =>
                      obtain ⟨j, hj, rfl, HBj, HOj⟩ := hrel
                      have HB12 := Lib.hid (below_then HB11.out HBj.out)
                      have hn40 : n ≤ 40 := by rw [← HL.out]; exact HFl.out.n
                      by_cases hlj : j < n
                      · have t1 : (0 : Int) ≤ (j : Int) := by omega
                        have t2 : (j : Int) < (n : Int) := by omega
                        obtain ⟨ad, x, zA2, m, zc2, rfl, hab, Hx, d0, d1, d2, HZl, hz1, hz2, HZr, HEv⟩ := (HIn.out wr HB12.out).2.2.1.at_ HL.out hlj
                        have hzn := Ca.zall_next Hx.out k1
                        have hfw := Ca.few_take HFl.out j k1
                        have hxm := (HFl.out.all x (List.mem_of_getElem? Hx.out)).n
                        obtain ⟨Q, hQ⟩ : ∃ Q, Ca.zall (l.take j) k1 = Q := ⟨_, rfl⟩
                        rw [hQ] at HOj hzn hfw
                        rw [HZl.out] at hxm
                        obtain ⟨vA, vc, rfl, _⟩ := own_slice HOj.out
                        obtain ⟨W1, hW1⟩ : ∃ W, wr.alloc (.cells #[.string x.key, .string x.terr, .slice zA2 m zc2] 45) = W := ⟨_, rfl⟩
                        have HBe : Hid (Below w11.heap.size w11 W1) := by show Below _ _ _; rw [← hW1]; exact bal HBj.out _
                        have HOe : Hid (W1.ownsRow w11.heap.size 9 1 (.slice vA Q.length vc) Q.length (Q.map Value.string)) := by show World.ownsRow _ _ _ _ _ _ _; rw [← hW1]; exact HOj.out.alloc _
                        have HZe : Hid (Reads W1 W1.heap.size 1 zA2 m (x.zones.map Value.string)) := by show Reads _ _ _ _ _ _; rw [← hW1]; exact (HZr.out.below (bal1 wr _)).more (bal1 wr _).size
                        have HW1 := Lib.hid hW1
                        have HSz := Lib.hid HBe.out.size
                        have HAp := Lib.hid fun (_ : True) {ops : Array Oper} {rest : List Oper} {o : Oper} {a : Act} {Q' : Exit → Act → World → Prop} (hgd : o.guard = none) (ho : o.op = .call { callee := .builtin .append, args := #[.tmp 177, .tmp 179], argTypes := #[34, 34] }) (hs : a.eval (.tmp 177) = .slice vA Q.length vc) (hx : a.eval (.tmp 179) = .slice zA2 m zc2) hk => wpList_append_any (P := Tryd.prog) (ops := ops) (rest := rest) (o := o) (a := a) (Q := Q') W1 hgd (.tmp 177) (.tmp 179) 34 ho w11.heap.size 9 i0 _ 1 16 Tryd.underlying34 HI.out.1 HI.out.2.1 HI.out.2.2.1 HI.out.2.2.2 rfl (by decide) _ Q.length _ hs HOe.out _ zA2 m zc2 _ hx HZe.out (by intro u hu; rw [List.mem_map] at hu; obtain ⟨t, _, rfl⟩ := hu; rfl) (by unfold maxLen; omega) (by omega) HSz.out hk
                        by_cases hxk : x.key = k1
                        · rw [if_pos hxk] at hzn
                          have HZn := Lib.hid hzn
                          have qe : (x.key.toList == k1.toList) = true := by simp [hxk]
                          have qe' : x.key.toList = k1.toList := by rw [hxk]
                          clear hzn hxk hW1 hQ HEv
                          go_wp2_with (first | (at_builtin; rw [HW1.out]; refine HAp.out trivial rfl rfl rfl rfl ?_; intro v12 w12 hown12 hg12 _; have HB13 := Lib.hid (HBe.out.grown hg12 HBe.out.size (fun j e => (HOe.out.lt j e).1)); have HO12 := Lib.hid hown12; clear hown12 hg12))
                          go_roundw
                          case rel => exact ⟨j + 1, by omega, by go_num, HB13.out, by show World.ownsRow _ _ _ _ _ _ _; rw [HZn.out, List.length_append, List.map_append, HZl.out]; exact HO12.out⟩
                          case measure => simp [intOf]; omega
                        · rw [if_neg hxk, List.append_nil] at hzn
                          have HZn := Lib.hid hzn
                          have qe := Ca.ne_toList hxk
                          have qe' : ¬ x.key.toList = k1.toList := by simpa using qe
                          clear hzn hxk hW1 hQ HEv
                          go_wp2
                          rw [HW1.out]
                          go_roundw
                          case rel => exact ⟨j + 1, by omega, by go_num, HBe.out, by show World.ownsRow _ _ _ _ _ _ _; rw [HZn.out]; exact HOe.out⟩
                          case measure => simp [intOf]; omega
                      · have hjn : j = n := by omega
                        subst hjn
                        have t2 : ¬ (j : Int) < (j : Int) := by omega
                        rw [List.take_of_length_le (Nat.le_of_eq HL.out)] at HOj
                        have hfw : (Ca.zall l k1).length ≤ 1600 := by have := Ca.few_take HFl.out j k1; rw [List.take_of_length_le (Nat.le_of_eq HL.out)] at this; exact this
                        have hzs : ∀ y ∈ Ca.zall l k1, y.size ≤ maxLen := by
                          intro y hy
                          obtain ⟨e, he, _, hye⟩ := Ca.zall_mem hy
                          have := (HFl.out.all e he).z y hye
                          unfold maxLen
                          omega
                        obtain ⟨Q, hQ⟩ : ∃ Q, Ca.zall l k1 = Q := ⟨_, rfl⟩
                        rw [hQ] at HOj hfw hzs HWh
                        have HZs := Lib.hid hzs
                        obtain ⟨nq, hnq⟩ : ∃ q, Q.length = q := ⟨_, rfl⟩
                        rw [hnq] at HOj hfw
                        obtain ⟨vA, vc, rfl, _⟩ := own_slice HOj.out
                        have HRq := Lib.hid (Reads.of_own HOj.out)
                        have HNq := Lib.hid hnq
                        clear hzs hQ hnq
                        go_wp2_with fail
                        go_loopw [184] (fun i wv => ∃ j : Nat, j ≤ nq ∧ i = .int .i64 (j : Int) ∧ Hid (Below wr.heap.size wr wv) ∧ Hid (∀ z ∈ Q.take j, ¬ (z = name ∨ (no0 = 0 ∧ (Lk.walk s z).2.2 = 0 ∧ (Lk.walk s z).2.1 = at0)))) (fun i _ => nq - (intOf i).toNat)
                        case atStart => exact ⟨0, Nat.zero_le _, rfl, Below.refl _ _, fun z hz => by cases hz⟩
                        case round =>
                          obtain ⟨t, ht, rfl, HBt, HNt⟩ := hrel
                          have HB13 := Lib.hid (below_then HB12.out HBt.out)
                          by_cases hlt : t < nq
                          · have v1 : (0 : Int) ≤ (t : Int) := by omega
                            have v2 : (t : Int) < (nq : Int) := by omega
                            obtain ⟨ad, y, rfl, Hy, hcy⟩ : ∃ ad2 nm, vA = some ad2 ∧ Hid (Q[t]? = some nm) ∧ wr.cell? (ad2.add t) = some (.string nm) := reads_str (HRq.out.below HBt.out) hlt
                            have hy4 := HZs.out y (List.mem_of_getElem? Hy.out)
                            have HTk : Hid (Q.take (t + 1) = Q.take t ++ [y]) := Ca.take_next Hy.out
                            obtain ⟨_, hs, _, hR, _⟩ := HIn.out wr HB13.out
                            obtain ⟨s0, s1, s2, _⟩ := hs.three
                            have hlz := linkZone_any s _ _ _ evs y wr hR HNm.out hy4
                            obtain ⟨Y, hY⟩ : ∃ Y, Lk.walk s y = Y := ⟨_, rfl⟩
                            rw [hY] at hlz
                            obtain ⟨yn, y1, y2⟩ := Y
                            have HY := Lib.hid hY
                            have HLz2 : Hid (Calls Tryd.prog 15 #[.agg #[.slice rA nr rc, .slice zA nz zc, .slice lA nl lc], .string y] wr fun e w' => e = .returned (.tuple #[.int .i64 y1, .int .i64 y2]) ∧ Below wr.heap.size wr w') := hlz
                            clear hs hR hlz hY
                            go_wp2_with fail
                            refine HLz2.out.mono ?_
                            rintro e14 w14 ⟨rfl, hb14⟩
                            have HBt14 := Lib.hid (below_then HBt.out hb14)
                            have HB14 := Lib.hid (HIn.out _ (below_then HB13.out hb14)).1
                            clear hb14 s0 s1 s2 hcy
                            by_cases hyn : y = name
                            · have qe : (y.toList == name.toList) = true := by simp [hyn]
                              have qe' : y.toList = name.toList := by rw [hyn]
                              clear hyn
                              go_wp2
                              rw [← HP.out]
                              exact ⟨ret_bool rfl, HB14.out⟩
                            · have qe := Ca.ne_toList hyn
                              have qe' : ¬ y.toList = name.toList := by simpa using qe
                              by_cases hn0 : no0 = 0
                              · by_cases hy20 : y2 = 0
                                · by_cases hya : y1 = at0
                                  · subst hn0 hy20 hya
                                    clear hyn
                                    go_wp2
                                    rw [← HP.out]
                                    exact ⟨ret_bool rfl, HB14.out⟩
                                  · have HNt2 : Hid (∀ z ∈ Q.take (t + 1), ¬ (z = name ∨ (no0 = 0 ∧ (Lk.walk s z).2.2 = 0 ∧ (Lk.walk s z).2.1 = at0))) := by
                                      show ∀ z ∈ _, _
                                      intro z hz
                                      rw [HTk.out] at hz
                                      rcases List.mem_append.1 hz with hz | hz
                                      · exact HNt.out z hz
                                      · rw [List.mem_singleton.1 hz, HY.out]
                                        exact fun h => h.elim hyn fun h => hya h.2.2
                                    have q1 : (y1 == at0) = false := by simpa using hya
                                    subst hn0 hy20
                                    clear hyn
                                    go_wp2
                                    go_roundw
                                    case rel => exact ⟨t + 1, by omega, by go_num, HBt14.out, HNt2.out⟩
                                    case measure => simp [intOf]; omega
                                · have HNt2 : Hid (∀ z ∈ Q.take (t + 1), ¬ (z = name ∨ (no0 = 0 ∧ (Lk.walk s z).2.2 = 0 ∧ (Lk.walk s z).2.1 = at0))) := by
                                    show ∀ z ∈ _, _
                                    intro z hz
                                    rw [HTk.out] at hz
                                    rcases List.mem_append.1 hz with hz | hz
                                    · exact HNt.out z hz
                                    · rw [List.mem_singleton.1 hz, HY.out]
                                      exact fun h => h.elim hyn fun h => hy20 h.2.1
                                  have q1 : (y2 == 0) = false := by simpa using hy20
                                  have q1' : (y2 != 0) = true := by simpa using hy20
                                  subst hn0
                                  clear hyn
                                  go_wp2
                                  go_roundw
                                  case rel => exact ⟨t + 1, by omega, by go_num, HBt14.out, HNt2.out⟩
                                  case measure => simp [intOf]; omega
                              · have HNt2 : Hid (∀ z ∈ Q.take (t + 1), ¬ (z = name ∨ (no0 = 0 ∧ (Lk.walk s z).2.2 = 0 ∧ (Lk.walk s z).2.1 = at0))) := by
                                  show ∀ z ∈ _, _
                                  intro z hz
                                  rw [HTk.out] at hz
                                  rcases List.mem_append.1 hz with hz | hz
                                  · exact HNt.out z hz
                                  · rw [List.mem_singleton.1 hz, HY.out]
                                    exact fun h => h.elim hyn fun h => hn0 h.1
                                have q1 : (no0 == 0) = false := by simpa using hn0
                                have q1' : (no0 != 0) = true := by simpa using hn0
                                clear hyn
                                go_wp2
                                go_roundw
                                case rel => exact ⟨t + 1, by omega, by go_num, HBt14.out, HNt2.out⟩
                                case measure => simp [intOf]; omega
                          · exfalso
                            obtain ⟨z, hz, hz2⟩ := HWh.out
                            have h1 := HNt.out
                            rw [List.take_of_length_le (by rw [HNq.out]; omega)] at h1
                            exact h1 z hz hz2
                  · have hk1 : k1 = ⟨#[]⟩ := by
                      have h1 := Ca.key_bad (l := l) (s := s) (name := name)
                      rw [HK.out] at h1
                      exact h1 hk2
                    subst hk1
                    have qk : (k2 != 0) = true := by simpa using hk2
                    have HE := Lib.hid (HIn.out w10 HB10.out).1
                    go_wp2
                    rw [← HP.out]
                    exact ⟨ret_bool rfl, HE.out⟩
          · have qx : (X != 0) = true := by simpa using hX0
            have HE := Lib.hid (HIn.out w4 HB4.out).1
            go_wp2
            rw [← HP.out]
            exact ⟨ret_bool rfl, HE.out⟩
        · have p2 : (1000 : Int) < (name.size : Int) := by omega
          go_wp2
          rw [← HP.out]
          exact ⟨ret_bool rfl, HE3.out⟩
      · have p1 : (1000 : Int) < (terr.size : Int) := by omega
        go_wp2
        rw [← HP.out]
        exact ⟨ret_bool rfl, HE3.out⟩
theorem atlasKey_row (l : List Ca.E) (A : Option Addr) (n c : Nat) (evl : List Value) (s : Src.S) (rv zv lv : Value) (evs : List Value) (terr name : ByteArray) (w : World) (hWa : Wa w) (hE : Ca.EntR w w.heap.size l (.slice A n c) evl) (hl : l.length = n) (hC : Ca.Wide l)
    (hR : Src.SrcR w w.heap.size s rv zv lv evs) (hw : Src.Wide s) (ht : terr.size ≤ maxLen) (hnm : name.size ≤ maxLen) :
    Calls Tryd.prog 3 #[.slice A n c, .agg #[rv, zv, lv], .string terr, .string name] w fun e w' => e = .returned (.bool true) ∧ Below w.heap.size w w' := atlasKey_any l A n c evl s rv zv lv evs terr name w hE hl hC hR hw ht hnm hWa
end Go.Proofs.YtajcgoinhpengaaDoor
