/- The walk of TopRenamed. -/
import Derived.Test.YtajcgoinhpengaaDoorP29
import Derived.Test.YtajcgoinhpengaaDoorP30
import Derived.Test.YtajcgoinhpengaaDoorP24
import Derived.Test.YtajcgoinhpengaaDoorP17
import Derived.Test.YtajcgoinhpengaaDoorP31
import Derived.Test.YtajcgoinhpengaaDoorP33
import Derived.Deep.DeepCutAuto

namespace Go.Proofs.YtajcgoinhpengaaDoor
open Go.RowKit

namespace Ca
theorem ne_list {x y : ByteArray} (h : ¬ x = y) : (x.toList == y.toList) = false := by
  rw [beq_eq_false_iff_ne]
  intro e
  rw [ByteArray.toList_eq, ByteArray.toList_eq] at e
  exact h (ByteArray.ext (Array.ext' e))
theorem eq_list {x y : ByteArray} (h : x = y) : (x.toList == y.toList) = true := by simp [h]
/-- Does an entry have a zone that leads there? -/
def leadB (s : Src.S) (at0 : Int) (z : ByteArray) : Bool := decide ((Lk.walk s z).2.2 = 0) && decide ((Lk.walk s z).2.1 = at0)
def listB (s : Src.S) (at0 : Int) (l : List E) : Bool := l.any fun e => e.zones.any (leadB s at0)
theorem listB_iff {l : List E} {s : Src.S} {i : Int} : listB s i l = true ↔ listed l s i := by
  unfold listB listed leadB
  simp only [List.any_eq_true, Bool.and_eq_true, decide_eq_true_eq]
theorem listB_next {l : List E} {s : Src.S} {i : Int} {k : Nat} {x : E} (h : l[k]? = some x) : listB s i (l.take (k + 1)) = (listB s i (l.take k) || x.zones.any (leadB s i)) := by
  unfold listB
  rw [take_next h, List.any_append]
  simp
theorem any_next {α : Type} {f : α → Bool} {l : List α} {k : Nat} {x : α} (h : l[k]? = some x) : (l.take (k + 1)).any f = ((l.take k).any f || f x) := by
  rw [take_next h, List.any_append]
  simp
end Ca
namespace Tr
/-- A slice that reads as these texts. -/
def Rd (ms : List ByteArray) (v : Value) (w : World) : Prop := ∃ A c, v = .slice A ms.length c ∧ ms.length ≤ maxLen ∧ Reads w w.heap.size 1 A ms.length (ms.map Value.string)
/-- What each operation of the last region lays. -/
def Q (lv sv tv : Value) (b0 : Bool) (kw : Int) (ms : List ByteArray) : Nat → Value → World → Prop
  | 0, v, _ => v = .bool b0
  | 1, v, _ => v = .int .i64 kw
  | 2, v, _ => v = .bool (kw == 0)
  | 3, v, _ => v = .bool true
  | 4, v, _ => v = .bool true
  | 5, v, _ => v = lv
  | 6, v, _ => v = sv
  | 7, v, w => Rd ms v w
  | 8, v, _ => v = lv
  | 9, v, _ => v = tv
  | 10, v, w => Rd ms v w
  | 11, v, _ => v = .bool true
  | 12, v, _ => v = .bool true
  | 13, v, _ => v = .bool true
  | _, _, _ => True
theorem Rd_mono {ms : List ByteArray} {v : Value} {W W' : World} (h : Rd ms v W) (hb : Below W.heap.size W W') : Rd ms v W' := by
  obtain ⟨A, c, e, h1, h2⟩ := h
  exact ⟨A, c, e, h1, (h2.below hb).more hb.size⟩
theorem Q_mono {lv sv tv : Value} {b0 : Bool} {kw : Int} {ms : List ByteArray} (k : Nat) (v : Value) (W W' : World) (h : Q lv sv tv b0 kw ms k v W) (hb : Below W.heap.size W W') : Q lv sv tv b0 kw ms k v W' := by
  unfold Q at h ⊢
  split at h <;> first | exact h | exact Rd_mono h hb
def sl (k : Nat) : Nat := if k = 13 then 8 else 171 + k
end Tr
theorem Src.lims_few {s : Src.S} (h : Src.Few s) (name fresh : ByteArray) : Src.Lims s ∧ Src.Lims (Ca.more s name fresh) :=
  ⟨⟨by have := h.nr; omega, by have := h.nz; omega, by have := h.nl; omega⟩, ⟨by have := h.nr; exact Nat.le_trans this (by omega), by have := h.nz; exact Nat.le_trans this (by omega), by have := h.nl; unfold Ca.more; simp only [List.length_append, List.length_singleton]; omega⟩⟩
theorem Src.nm_few {s : Src.S} (h : Src.Few s) (hw : Src.Wide s) {name fresh : ByteArray} (h1 : name.size ≤ maxLen) (h2 : fresh.size ≤ maxLen) : Lk.Nm s ∧ Lk.Nm (Ca.more s name fresh) := by
  refine ⟨⟨by have := h.nz; omega, by have := h.nl; omega, fun z hz => (hw.zones z hz).1, fun k hk => hw.links k hk⟩, ⟨by have := h.nz; exact Nat.le_trans this (by omega), by have := h.nl; unfold Ca.more; simp only [List.length_append, List.length_singleton]; omega, fun z hz => (hw.zones z hz).1, fun k hk => ?_⟩⟩
  rcases List.mem_append.1 hk with hk | hk
  · exact hw.links k hk
  · rw [List.mem_singleton.1 hk]
    exact ⟨by rw [tl_length]; exact h1, by rw [tl_length]; exact h2⟩
theorem Src.names_nm {s : Src.S} (hN : Lk.Nm s) : ∀ x ∈ Src.names s, x.size ≤ maxLen := by
  intro x hx
  rcases List.mem_append.1 hx with hx | hx
  · exact hN.zn x hx
  · exact hN.ln x hx
theorem Src.smw_more {s : Src.S} (h : Src.SmW s) (name fresh : ByteArray) (h1 : name.size ≤ maxLen) (h2 : fresh.size ≤ maxLen) : Src.SmW (Ca.more s name fresh) := by
  obtain ⟨a, b, c⟩ := h
  refine ⟨a, b, fun k hk => ?_⟩
  rcases List.mem_append.1 hk with hk | hk
  · exact c k hk
  · rw [List.mem_singleton.1 hk]
    exact ⟨by rw [tl_length]; exact h1, by rw [tl_length]; exact h2⟩
set_option maxHeartbeats 8000000 in
set_option maxRecDepth 100000 in
theorem topRenamed_any (l : List Ca.E) (A : Option Addr) (n c : Nat) (evl : List Value) (s : Src.S) (rv zv lv : Value) (evs : List Value) (name fresh : ByteArray) (w : World) (hE : Ca.EntR w w.heap.size l (.slice A n c) evl) (hl : l.length = n) (hC : Ca.Wide l)
    (hR : Src.SrcR w w.heap.size s rv zv lv evs) (hw : Src.Wide s) (hnm : name.size ≤ maxLen) (hfr : fresh.size ≤ maxLen) (hWa : Wa w) :
    Calls Tryd.prog 4 #[.slice A n c, .agg #[rv, zv, lv], .string name, .string fresh] w fun e w' => e = .returned (.bool true) ∧ Below w.heap.size w w' := by
  obtain ⟨P, hP⟩ : ∃ P : Ending → World → Prop, (fun e w' => e = .returned (.bool true) ∧ Below w.heap.size w w') = P := ⟨_, rfl⟩
  rw [hP]
  have HP := Lib.hid hP
  clear hP
  obtain ⟨rA, rc, rfl, hrc⟩ := hR.rules
  obtain ⟨zA, zc, rfl, hzc⟩ := hR.zones
  obtain ⟨lA, lc, rfl, hlc⟩ := hR.links
  obtain ⟨nr, hnr⟩ : ∃ n, s.rules.length = n := ⟨_, rfl⟩
  obtain ⟨nz, hnz⟩ : ∃ n, s.zones.length = n := ⟨_, rfl⟩
  obtain ⟨nl, hnl⟩ : ∃ n, s.links.length = n := ⟨_, rfl⟩
  rw [hnr, hnz, hnl] at hR ⊢
  obtain ⟨W0, hW0⟩ : ∃ W, w.alloc (.cells #[.slice rA nr rc, .slice zA nz zc, .slice lA nl lc] 27) = W := ⟨_, rfl⟩
  have hb0 : Below w.heap.size w W0 := by rw [← hW0]; exact bal1 _ _
  have hs0 : At W0 w.heap.size [.slice rA nr rc, .slice zA nz zc, .slice lA nl lc] := by rw [← hW0]; exact At.new _ _ _
  have HIn : Hid (∀ W, Below W0.heap.size W0 W → Below w.heap.size w W ∧ At W w.heap.size [.slice rA nr rc, .slice zA nz zc, .slice lA nl lc] ∧ Ca.EntR W W.heap.size l (.slice A n c) evl ∧ Src.SrcR W W.heap.size s (.slice rA nr rc) (.slice zA nz zc) (.slice lA nl lc) evs ∧ Wa W) := by
    intro W hb
    have hb1 := below_then hb0 hb
    exact ⟨hb1, hs0.call hb, hE.call hb1, hR.call hb1, hWa.below hb1⟩
  have HW0 := Lib.hid hW0
  have HLv := Lib.hid (begins17_any W0 (hWa.below hb0))
  have HC := Lib.hid hC
  have HL := Lib.hid hl
  have HSw := Lib.hid hw
  have HNm := Lib.hid hnm
  have HFr := Lib.hid hfr
  have HNl := Lib.hid hnl
  unfold maxLen at hnm hfr
  clear hE hR hWa hC hw hl hW0 hb0 hs0 hrc hzc hlc
  go_enter Tryd.func4, Tryd.ntmps4
  go_wp2_with fail
  rw [HW0.out]
  go_wp2_with fail
  refine HLv.out.mono ?_
  rintro e w1 ⟨rfl, hb1⟩
  have HB1 := Lib.hid hb1
  have HF1 := Lib.hid (small32_any l A n c evl w1 (HIn.out w1 hb1).2.2.1 HL.out HC.out)
  clear hb1
  go_wp2_with fail
  refine HF1.out.mono ?_
  rintro e w2 ⟨he, hb2⟩
  have HB2 := Lib.hid (below_then HB1.out hb2)
  clear hb2
  rcases he with rfl | ⟨rfl, hfl⟩
  · have HE := Lib.hid (HIn.out w2 HB2.out).1
    go_wp2
    rw [← HP.out]
    exact ⟨ret_bool rfl, HE.out⟩
  obtain ⟨_, hs, _, hR, _⟩ := HIn.out w2 HB2.out
  obtain ⟨s0, s1, s2, _⟩ := hs.three
  have HF2 := Lib.hid (few_any s _ _ _ evs w2 hR HSw.out)
  have HFl := Lib.hid hfl
  clear hs hR hfl
  go_wp2_with fail
  refine HF2.out.mono ?_
  rintro e w3 ⟨he, hb3⟩
  have HB3 := Lib.hid (below_then HB2.out hb3)
  clear hb3 s0 s1 s2
  rcases he with rfl | ⟨rfl, hfs⟩
  · have HE := Lib.hid (HIn.out w3 HB3.out).1
    go_wp2
    rw [← HP.out]
    exact ⟨ret_bool rfl, HE.out⟩
  have HFs := Lib.hid hfs
  have HE3 := Lib.hid (HIn.out w3 HB3.out).1
  have hnl20 : nl ≤ 20 := by rw [← hnl]; exact hfs.nl
  have hn40 : n ≤ 40 := by rw [← HL.out]; exact HFl.out.n
  clear hfs hnl
  by_cases hz1 : name.size ≤ 60
  case neg =>
    have p1 : (60 : Int) < (name.size : Int) := by omega
    go_wp2
    rw [← HP.out]
    exact ⟨ret_bool rfl, HE3.out⟩
  have p1 : ¬ (60 : Int) < (name.size : Int) := by omega
  by_cases hz2 : fresh.size ≤ 60
  case neg =>
    have p2 : (60 : Int) < (fresh.size : Int) := by omega
    go_wp2
    rw [← HP.out]
    exact ⟨ret_bool rfl, HE3.out⟩
  have p2 : ¬ (60 : Int) < (fresh.size : Int) := by omega
  have HCk := Lib.hid (caCheck_any l A n c evl w3 (HIn.out w3 HB3.out).2.2.1 HL.out HFl.out.wd)
  obtain ⟨X, hX⟩ : ∃ X, Ca.chk l = X := ⟨_, rfl⟩
  rw [hX] at HCk
  have HX := Lib.hid hX
  clear hX
  go_wp2_with fail
  refine HCk.out.mono ?_
  rintro e w4 ⟨rfl, hb4⟩
  have HB4 := Lib.hid (below_then HB3.out hb4)
  clear hb4
  by_cases hX0 : X = 0
  case neg =>
    have qx : (X != 0) = true := by simpa using hX0
    have HE := Lib.hid (HIn.out w4 HB4.out).1
    go_wp2
    rw [← HP.out]
    exact ⟨ret_bool rfl, HE.out⟩
  subst hX0
  have HLm := Lib.hid (Src.lims_few HFs.out name fresh)
  have HNN := Lib.hid (Src.nm_few HFs.out HSw.out HNm.out HFr.out)
  obtain ⟨_, hs, _, hR, hWa⟩ := HIn.out w4 HB4.out
  obtain ⟨s0, s1, s2, _⟩ := hs.three
  have hcs := srcCheck_anyW s _ _ _ evs w4 hWa hR HLm.out.1 HSw.out.smw
  obtain ⟨G, hG⟩ : ∃ G, Src.srcB s = G := ⟨_, rfl⟩
  rw [hG] at hcs
  have HCs := Lib.hid hcs
  have HG := Lib.hid hG
  clear hs hR hWa hcs hG
  go_wp2_with fail
  refine HCs.out.mono ?_
  rintro e wr ⟨rfl, hb5⟩
  have HBr := Lib.hid (below_then HB4.out hb5)
  clear hb5 s0 s1 s2
  cases G with
  | false =>
    have HE := Lib.hid (HIn.out wr HBr.out).1
    go_wp2
    rw [← HP.out]
    exact ⟨ret_bool rfl, HE.out⟩
  | true =>
    obtain ⟨_, hs, _, hR, _⟩ := HIn.out wr HBr.out
    obtain ⟨s0, s1, s2, _⟩ := hs.three
    have hltr := hs.lt
    clear hs hR HF1 HF2 HLv HCk HCs
    obtain ⟨G, hG⟩ : ∃ G, wr.heap.size = G := ⟨_, rfl⟩
    obtain ⟨V1, hV1⟩ : ∃ V, wr.alloc (.cells #[.slice rA nr rc, .slice zA nz zc, .slice lA nl lc] 27) = V := ⟨_, rfl⟩
    have hA1 : At V1 G [.slice rA nr rc, .slice zA nz zc, .slice lA nl lc] := by
      rw [← hV1, ← hG]
      exact At.new wr #[.slice rA nr rc, .slice zA nz zc, .slice lA nl lc] 27
    have hB1 : Below W0.heap.size W0 V1 := by rw [← hV1]; exact bal HBr.out _
    have hZ1 : V1.heap.size = G + 1 := by rw [← hV1, ← hG]; simp
    obtain ⟨i0, i01, i02, i03, i04⟩ := info_parts link_info
    have HI := Lib.hid (And.intro i01 (And.intro i02 (And.intro i03 i04)))
    have HO := Lib.hid (Tr.link_one s.links)
    obtain ⟨_, hs, hE, hR, hWa⟩ := HIn.out V1 hB1
    have hrl := hR.links
    rw [HNl.out] at hrl
    have hrl := Tr.row_reads hrl
    have HA1 := Lib.hid hA1
    have HB1v := Lib.hid hB1
    have HZ1 := Lib.hid hZ1
    have HRl := Lib.hid hrl
    have hO1 : (V1.alloc (.cells #[] 48)).ownsRow (G + 1) 48 2 (.slice (some ⟨G + 1, 0, none⟩) 0 0) 0 [] := by
      have h := World.ownsRow_made (e := 48) (size := 2) V1 #[] 0 (Nat.le_of_eq hZ1.symm) (Nat.zero_le _) (by simp)
      rw [hZ1] at h
      exact h
    have HO1 := Lib.hid hO1
    have HAp1 := Lib.hid fun (_ : True) {ops : Array Oper} {rest : List Oper} {o : Oper} {a : Act} {Q : Exit → Act → World → Prop} (hgd : o.guard = none) (ho : o.op = .call { callee := .builtin .append, args := #[.tmp 60, .tmp 62], argTypes := #[25, 25] }) (hs : a.eval (.tmp 60) = .slice (some ⟨G + 1, 0, none⟩) 0 0) (hx : a.eval (.tmp 62) = .slice lA nl lc) hk => wpList_append_any (P := Tryd.prog) (ops := ops) (rest := rest) (o := o) (a := a) (Q := Q) (V1.alloc (.cells #[] 48)) hgd (.tmp 60) (.tmp 62) 25 ho (G + 1) 48 i0 _ 2 32 Tryd.underlying25 HI.out.1 HI.out.2.1 HI.out.2.2.1 HI.out.2.2.2 rfl (by decide) _ 0 [] hs HO1.out _ lA nl lc _ hx (HRl.out.alloc (Nat.le_refl _) _) HO.out (by unfold maxLen; omega) (by omega) (by rw [World.size_alloc]; have := HZ1.out; omega) hk
    have HAp2 := Lib.hid fun (W : World) (A1 : Option Addr) (c1 : Nat) (xs : List Value) (hO : W.ownsRow (G + 1) 48 2 (.slice A1 nl c1) nl xs) (hW : G + 1 ≤ W.heap.size) {ops : Array Oper} {rest : List Oper} {o : Oper} {a : Act} {Q : Exit → Act → World → Prop} (hgd : o.guard = none) (ho : o.op = .call { callee := .builtin .append, args := #[.tmp 63, .tmp 67], argTypes := #[25, 25] }) (hs : a.eval (.tmp 63) = .slice A1 nl c1) (hx : a.eval (.tmp 67) = .slice (some ⟨W.heap.size, 0, none⟩) 1 1) hk => wpList_append_any (P := Tryd.prog) (ops := ops) (rest := rest) (o := o) (a := a) (Q := Q) (W.alloc (.cells #[.string name, .string fresh] 48)) hgd (.tmp 63) (.tmp 67) 25 ho (G + 1) 48 i0 _ 2 32 Tryd.underlying25 HI.out.1 HI.out.2.1 HI.out.2.2.1 HI.out.2.2.2 rfl (by decide) _ nl _ hs (hO.alloc _) _ _ 1 1 _ hx ((At.new W #[.string name, .string fresh] 48).reads rfl) (by intro u hu; simp only [List.mem_cons, List.not_mem_nil, or_false] at hu; rcases hu with rfl | rfl <;> rfl) (by unfold maxLen; omega) (by omega) (by rw [World.size_alloc]; omega) hk
    have hcl := HIn.out V1 hB1 |>.2.1.cell 2 _ rfl
    have hltw := (HIn.out V1 hB1).2.1.lt
    have HV1 := Lib.hid hV1
    have HGg := Lib.hid hG
    clear hs hE hR hWa hrl hV1 hG hA1 hB1 hZ1 hO1 i01 i02 i03 i04 hcl hltw
    go_wp2_with (first
      | (at_builtin; rw [HV1.out, HGg.out]; refine HAp1.out trivial rfl rfl rfl rfl ?_; intro v12 w12 hown12 hg12 _; rw [Nat.zero_add, List.nil_append] at hown12; obtain ⟨A12, c12, rfl, _⟩ := own_slice hown12; have HB12 := Lib.hid ((bal HB1v.out (.cells #[] 48)).grown hg12 (bal HB1v.out (.cells #[] 48)).size (fun j e => by have h1 := (HO1.out.lt j e).1; have h2 := HZ1.out; have h3 := HB1v.out.size; omega)); have HA12 := Lib.hid (Sc.At.grownO (HA1.out.allocO (.cells #[] 48)) hg12 (fun j e => by have h1 := (HO1.out.lt j e).1; omega)); have HO12 := Lib.hid hown12; have hl12 := HA12.out.lt; clear hown12 hg12)
      | (at_builtin; refine HAp2.out _ _ _ _ HO12.out HA12.out.lt rfl rfl rfl rfl ?_; intro v13 w13 hown13 hg13 _; obtain ⟨P60, c60, rfl, _⟩ := own_slice hown13; have HB13 := Lib.hid ((bal HB12.out (.cells #[.string name, .string fresh] 48)).grown hg13 (bal HB12.out (.cells #[.string name, .string fresh] 48)).size (fun j e => by have h1 := (HO12.out.lt j e).1; have h2 := HZ1.out; have h3 := HB1v.out.size; omega)); have HA13 := Lib.hid (Sc.At.grownO (HA12.out.allocO (.cells #[.string name, .string fresh] 48)) hg13 (fun j e => by have h1 := (HO12.out.lt j e).1; omega)); have HO13 := Lib.hid hown13; obtain ⟨g0, g1, g2, t0, t1, t2⟩ := HA13.out.three; clear hown13 hg13))
    obtain ⟨wz, hwz⟩ : ∃ W, w13.setCell ⟨G, 2, none⟩ (.slice P60 (nl + 1) c60) = W := ⟨_, rfl⟩
    have HBz : Hid (Below W0.heap.size W0 wz) := by
      show Below _ _ _
      rw [← hwz]
      exact HB13.out.setCell (by show W0.heap.size ≤ G; rw [← HGg.out]; exact HBr.out.size) _
    have HAg : Hid (At wz G [.slice rA nr rc, .slice zA nz zc, .slice P60 (nl + 1) c60]) := by
      show At _ _ _
      rw [← hwz]
      exact HA13.out.set 2 _
    have HFu : Hid (wz.ownsRow (G + 1) 48 2 (.slice P60 (nl + 1) c60) (nl + 1) (s.links.flatMap Src.lc ++ [.string name, .string fresh])) := by
      show World.ownsRow _ _ _ _ _ _ _
      rw [← hwz]
      exact ownsRow_setCell_other HO13.out (a := ⟨G, 2, none⟩) (fun e => by have h1 := (HO13.out.lt G e).1; omega) _
    rw [hwz]
    clear hwz s0 s1 s2 g0 g1 g2 t0 t1 t2 hl12 hltr HO12 HA12 HB12 HO13 HA13 HB13 HAp1 HAp2 HO1 HRl HZ1 HB1v HA1 HO HI HGg HV1
    obtain ⟨T, hT⟩ : ∃ T, Ca.more s name fresh = T := ⟨_, rfl⟩
    have HT := Lib.hid hT
    have HIT : Hid (∀ W, Below wz.heap.size wz W → At W w.heap.size [.slice rA nr rc, .slice zA nz zc, .slice lA nl lc] ∧ At W G [.slice rA nr rc, .slice zA nz zc, .slice P60 (nl + 1) c60] ∧ Ca.EntR W W.heap.size l (.slice A n c) evl ∧ Src.SrcR W W.heap.size s (.slice rA nr rc) (.slice zA nz zc) (.slice lA nl lc) evs ∧ Src.SrcR W W.heap.size T (.slice rA nr rc) (.slice zA nz zc) (.slice P60 (nl + 1) c60) evs ∧ Wa W ∧ Below w.heap.size w W) := by
      intro W hb
      obtain ⟨hbw, hs, hE, hR, hWa⟩ := HIn.out W (below_then HBz.out hb)
      refine ⟨hs, HAg.out.call hb, hE, hR, ?_, hWa, hbw⟩
      rw [← HT.out]
      have h1 := HIn.out wz HBz.out
      exact Tr.src_link (k := (tl name, tl fresh)) hR HNl.out (((Src.RowR.of_own HFu.out).below hb).more hb.size)
    have HSW := Lib.hid (Src.smw_more HSw.out.smw name fresh HNm.out HFr.out)
    have hLT := HLm.out.2
    have hNT := HNN.out.2
    have hST := HSW.out
    rw [hT] at hLT hNT hST
    have HLT := Lib.hid hLT
    have HNT := Lib.hid hNT
    have HST := Lib.hid hST
    obtain ⟨_, _, _, _, hRT, hWa, _⟩ := HIT.out wz (Below.refl _ _)
    have hcs := srcCheck_anyW T _ _ _ evs wz hWa hRT HLT.out hST
    obtain ⟨Y, hY⟩ : ∃ Y, Src.srcB T = Y := ⟨_, rfl⟩
    rw [hY] at hcs
    have HCs := Lib.hid hcs
    have HY := Lib.hid hY
    clear hRT hWa hcs hY hT hLT hNT hST HSW HFu HAg HIn
    refine HCs.out.mono ?_
    rintro e w6 ⟨rfl, hb6⟩
    have HB6 := Lib.hid hb6
    clear hb6
    cases Y with
    | false =>
      have HE := Lib.hid (HIT.out w6 HB6.out).2.2.2.2.2.2
      go_wp2
      rw [← HP.out]
      exact ⟨ret_bool rfl, HE.out⟩
    | true =>
      obtain ⟨hs, hg, _, hR, _⟩ := HIT.out w6 HB6.out
      obtain ⟨s0, s1, s2, _⟩ := hs.three
      have HNs := Lib.hid (srcNames_any s _ _ _ evs w6 hR HLm.out.1)
      clear hs hg hR
      go_wp2_with fail
      refine HNs.out.mono ?_
      rintro e w7 ⟨A7, c7, rfl, hb7, hc71, hc72, hr7⟩
      have HB7 := Lib.hid (below_then HB6.out hb7)
      obtain ⟨nm, hnm9⟩ : ∃ m, s.zones.length + s.links.length = m := ⟨_, rfl⟩
      rw [hnm9] at hr7 hc71
      rw [hnm9]
      have HR7 := Lib.hid hr7
      have hnm40 : nm ≤ 40 := by
        have h1 := HFs.out.nz
        have h2 := HFs.out.nl
        omega
      have HNn := Lib.hid (show (Src.names s).length = nm by unfold Src.names Src.zoneNames Src.linkNames; rw [List.length_append, List.length_map, List.length_map]; exact hnm9)
      clear hb7 hnm9 hr7 s0 s1 s2 hc71 hc72 HNs HCs
      go_wp2_with fail
      go_loopw [76] (fun i wv => ∃ k : Nat, k ≤ nm ∧ i = .int .i64 (k : Int) ∧ Hid (Below w7.heap.size w7 wv) ∧ Hid (∀ y ∈ (Src.names s).take k, y ≠ fresh)) (fun i _ => nm - (intOf i).toNat)
      case atStart => exact ⟨0, Nat.zero_le _, rfl, Below.refl _ _, fun y hy => by cases hy⟩
      case round =>
        obtain ⟨k, hk, rfl, HBk, HNk⟩ := hrel
        have HBv := Lib.hid (below_then HB7.out HBk.out)
        by_cases hlt : k < nm
        case pos =>
          have q1 : (0 : Int) ≤ (k : Int) := by omega
          have q2 : (k : Int) < (nm : Int) := by omega
          obtain ⟨ad, x, rfl, Hx, hcell⟩ : ∃ ad2 nm, A7 = some ad2 ∧ Hid ((Src.names s)[k]? = some nm) ∧ wr.cell? (ad2.add k) = some (.string nm) := reads_str (HR7.out.below HBk.out) hlt
          by_cases hxf : x = fresh
          · have qe := Ca.eq_list hxf
            have qe' : x.toList = fresh.toList := by rw [hxf]
            have HE := Lib.hid (HIT.out wr HBv.out).2.2.2.2.2.2
            clear hxf
            go_wp2
            rw [← HP.out]
            exact ⟨ret_bool rfl, HE.out⟩
          · have qe := Ca.ne_list hxf
            have qe' : ¬ x.toList = fresh.toList := by simpa using qe
            have HN2 : Hid (∀ y ∈ (Src.names s).take (k + 1), y ≠ fresh) := by
              show ∀ y ∈ _, _
              rw [Ca.take_next Hx.out]
              intro y hy
              rcases List.mem_append.1 hy with hy | hy
              · exact HNk.out y hy
              · rw [List.mem_singleton.1 hy]; exact hxf
            clear hxf
            go_wp2
            go_roundw
            case rel => exact ⟨k + 1, by omega, by go_num, HBk.out, HN2.out⟩
            case measure => simp [intOf]; omega
        have q2 : ¬ (k : Int) < (nm : Int) := by omega
        have HFn : Hid (fresh ∉ Lk.zn s ∧ fresh ∉ Lk.ln s) := by
          have h := HNk.out
          rw [List.take_of_length_le (by rw [HNn.out]; omega)] at h
          exact ⟨fun hm => h fresh (List.mem_append.2 (.inl hm)) rfl, fun hm => h fresh (List.mem_append.2 (.inr hm)) rfl⟩
        obtain ⟨w8, hw8⟩ : ∃ W, wr = W := ⟨_, rfl⟩
        rw [hw8] at HBv ⊢
        clear hw8 HR7 HNn HNk HBk hk hlt HB7 HB6
        go_wp2_with fail
        go_loopw [86] (fun i wv => ∃ k : Nat, k ≤ n ∧ i = .int .i64 (k : Int) ∧ Hid (Below wz.heap.size wz wv) ∧ Hid (∀ e ∈ l.take k, fresh ∉ e.zones)) (fun i _ => n - (intOf i).toNat)
        case atStart => exact ⟨0, Nat.zero_le _, rfl, HBv.out, fun y hy => by cases hy⟩
        case round =>
          obtain ⟨k, hk, rfl, HBk, HNk⟩ := hrel
          by_cases hlt : k < n
          case pos =>
            have q1 : (0 : Int) ≤ (k : Int) := by omega
            have q2 : (k : Int) < (n : Int) := by omega
            obtain ⟨ad, x, zA2, m, zc2, rfl, hab, Hx, d0, d1, d2, HZl, hz1, hz2, HZr, HEv⟩ := (HIT.out wr HBk.out).2.2.1.at_ HL.out hlt
            have hm40 : m ≤ 40 := by rw [← HZl.out]; exact (HFl.out.all x (List.mem_of_getElem? Hx.out)).n
            obtain ⟨W1, hW1⟩ : ∃ W, wr.alloc (.cells #[.string x.key, .string x.terr, .slice zA2 m zc2] 45) = W := ⟨_, rfl⟩
            have HBe : Hid (Below wz.heap.size wz W1) := by show Below _ _ _; rw [← hW1]; exact bal HBk.out _
            have HZe : Hid (Reads W1 W1.heap.size 1 zA2 m (x.zones.map Value.string)) := by show Reads _ _ _ _ _ _; rw [← hW1]; exact (HZr.out.below (bal1 wr _)).more (bal1 wr _).size
            have HW1 := Lib.hid hW1
            clear hW1 HZr HEv hz1 hz2
            go_wp2_with fail
            rw [HW1.out]
            go_wp2_with fail
            clear d0 d1 d2
            go_loopw [93] (fun i wv => ∃ j : Nat, j ≤ m ∧ i = .int .i64 (j : Int) ∧ Hid (Below W1.heap.size W1 wv) ∧ Hid (fresh ∉ x.zones.take j)) (fun i _ => m - (intOf i).toNat)
            case atStart => exact ⟨0, Nat.zero_le _, rfl, Below.refl _ _, fun hy => by cases hy⟩
            case round =>
              obtain ⟨j, hj, rfl, HBj, HNj⟩ := hrel
              by_cases hlj : j < m
              · have t1 : (0 : Int) ≤ (j : Int) := by omega
                have t2 : (j : Int) < (m : Int) := by omega
                obtain ⟨ad, y, rfl, Hy, hcell⟩ : ∃ ad2 nm, zA2 = some ad2 ∧ Hid (x.zones[j]? = some nm) ∧ wr.cell? (ad2.add j) = some (.string nm) := reads_str (HZe.out.below HBj.out) hlj
                by_cases hyf : y = fresh
                · have qe := Ca.eq_list hyf
                  have qe' : y.toList = fresh.toList := by rw [hyf]
                  have HE := Lib.hid (HIT.out wr (below_then HBe.out HBj.out)).2.2.2.2.2.2
                  clear hyf
                  go_wp2
                  rw [← HP.out]
                  exact ⟨ret_bool rfl, HE.out⟩
                · have qe := Ca.ne_list hyf
                  have qe' : ¬ y.toList = fresh.toList := by simpa using qe
                  have HN2 : Hid (fresh ∉ x.zones.take (j + 1)) := by
                    show fresh ∉ _
                    rw [Ca.take_next Hy.out]
                    intro hm
                    rcases List.mem_append.1 hm with hm | hm
                    · exact HNj.out hm
                    · exact hyf (List.mem_singleton.1 hm).symm
                  clear hyf
                  go_wp2
                  go_roundw
                  case rel => exact ⟨j + 1, by omega, by go_num, HBj.out, HN2.out⟩
                  case measure => simp [intOf]; omega
              · have t2 : ¬ (j : Int) < (m : Int) := by omega
                have HN2 : Hid (∀ e ∈ l.take (k + 1), fresh ∉ e.zones) := by
                  show ∀ e ∈ _, _
                  rw [Ca.take_next Hx.out]
                  intro e he
                  rcases List.mem_append.1 he with he | he
                  · exact HNk.out e he
                  · rw [List.mem_singleton.1 he]
                    have h := HNj.out
                    rwa [List.take_of_length_le (by rw [HZl.out]; omega)] at h
                have HB2 := Lib.hid (below_then HBe.out HBj.out)
                go_wp2
                go_roundw
                case rel => exact ⟨k + 1, by omega, by go_num, HB2.out, HN2.out⟩
                case measure => simp [intOf]; omega
          have q2 : ¬ (k : Int) < (n : Int) := by omega
          have HFe : Hid (∀ e ∈ l, fresh ∉ e.zones) := by
            have h := HNk.out
            rwa [List.take_of_length_le (by rw [HL.out]; omega)] at h
          obtain ⟨_, _, _, hR, _⟩ := HIT.out wr HBk.out
          obtain ⟨s0, s1, s2, _⟩ := (HIT.out wr HBk.out).1.three
          obtain ⟨w9, hw9⟩ : ∃ W, wr = W := ⟨_, rfl⟩
          rw [hw9] at HBk s0 s1 s2 ⊢
          clear hw9 hR HNk hk hlt HBv
          go_wp2_with fail
          clear s0 s1 s2
          go_loopw [105] (fun i wv => ∃ k : Nat, k ≤ nl ∧ i = .int .i64 (k : Int) ∧ Hid (Below wz.heap.size wz wv) ∧ Hid (∀ x ∈ s.links.take k, Src.bts x.1 ≠ fresh)) (fun i _ => nl - (intOf i).toNat)
          case atStart => exact ⟨0, Nat.zero_le _, rfl, HBk.out, fun y hy => by cases hy⟩
          case round =>
            obtain ⟨k2, hk2, rfl, HBl, HNl2⟩ := hrel
            by_cases hlt : k2 < nl
            case pos =>
              have q1 : (0 : Int) ≤ (k2 : Int) := by omega
              have q3 : (k2 : Int) < (nl : Int) := by omega
              have hrl := (HIT.out wr HBl.out).2.2.2.1.links
              rw [HNl.out] at hrl
              obtain ⟨ad, x, rfl, hab, Hx, HLc⟩ := Ix.reads_cells (enc := Src.lc) (m := 2) (fun _ => rfl) HNl.out (Tr.row_reads hrl) hlt
              have c0 := HLc.out 0 _ rfl
              have c1 := HLc.out 1 _ rfl
              obtain ⟨xa, hxa⟩ : ∃ b, Src.bts x.1 = b := ⟨_, rfl⟩
              obtain ⟨xb, hxb⟩ : ∃ b, Src.bts x.2 = b := ⟨_, rfl⟩
              have c0 : wr.cell? (ad.add (k2 * 2)) = some (.string xa) := by rw [← hxa]; exact HLc.out 0 _ rfl
              have c1 : wr.cell? ⟨(ad.add (k2 * 2)).block, (ad.add (k2 * 2)).off + 1, none⟩ = some (.string xb) := by rw [← hxb]; exact HLc.out 1 _ rfl
              have HXa := Lib.hid hxa
              have HB2 := Lib.hid (bal HBl.out (.cells #[.string xa, .string xb] 48))
              clear hxa hxb HLc hrl
              by_cases hxf : xa = fresh
              · have qe := Ca.eq_list hxf
                have qe' : xa.toList = fresh.toList := by rw [hxf]
                have HE := Lib.hid (HIT.out _ HB2.out).2.2.2.2.2.2
                clear hxf
                go_wp2
                rw [← HP.out]
                exact ⟨ret_bool rfl, HE.out⟩
              · have qe := Ca.ne_list hxf
                have qe' : ¬ xa.toList = fresh.toList := by simpa using qe
                have HN2 : Hid (∀ x ∈ s.links.take (k2 + 1), Src.bts x.1 ≠ fresh) := by
                  show ∀ y ∈ _, _
                  rw [Ca.take_next Hx.out]
                  intro y hy
                  rcases List.mem_append.1 hy with hy | hy
                  · exact HNl2.out y hy
                  · rw [List.mem_singleton.1 hy, HXa.out]; exact hxf
                clear hxf
                go_wp2
                go_roundw
                case rel => exact ⟨k2 + 1, by omega, by go_num, HB2.out, HN2.out⟩
                case measure => simp [intOf]; omega
            have q3 : ¬ (k2 : Int) < (nl : Int) := by omega
            have HFt : Hid (fresh ∉ Lk.tg s) := by
              have h := HNl2.out
              rw [List.take_of_length_le (by rw [HNl.out]; omega)] at h
              intro hm
              obtain ⟨x, hx, e⟩ := List.mem_map.1 hm
              exact h x hx e
            obtain ⟨w10, hw10⟩ : ∃ W, wr = W := ⟨_, rfl⟩
            rw [hw10] at HBl ⊢
            clear hw10 HNl2 hk2 hlt HBk
            obtain ⟨hs, hg, hE, hR, hRT, hWa, _⟩ := HIT.out w10 HBl.out
            obtain ⟨g0, g1, g2, _⟩ := hg.three
            have hky := caKey_any l A n c evl T _ _ _ evs fresh w10 hE HL.out HFl.out.wd hRT HLT.out HST.out HNT.out (Src.names_nm HNT.out) HFr.out hWa
            have hkn := Ca.key_new (l := l) (s := s) (name := name) (fresh := fresh) HX.out (by rw [HT.out]; exact HY.out) HFn.out.1 HFn.out.2 HFt.out HFe.out
            rw [HT.out] at hkn
            obtain ⟨K, hK⟩ : ∃ K, Ca.keyA l T fresh = K := ⟨_, rfl⟩
            rw [hK] at hky hkn
            obtain ⟨k1, kw⟩ := K
            have HKn := Lib.hid hkn
            have HKy : Hid (Calls Tryd.prog 14 #[.slice A n c, .agg #[.slice rA nr rc, .slice zA nz zc, .slice P60 (nl + 1) c60], .string fresh] w10 fun e w' => e = .returned (.tuple #[.string k1, .int .i64 kw]) ∧ Below w10.heap.size w10 w') := hky
            clear hs hg hE hR hRT hWa hky hkn hK
            go_wp2_with fail
            refine HKy.out.mono ?_
            rintro e w11 ⟨rfl, hb11⟩
            have HB11 := Lib.hid (below_then HBl.out hb11)
            clear hb11 g0 g1 g2 HKy
            obtain ⟨hs, _, _, hR, _⟩ := HIT.out w11 HB11.out
            obtain ⟨s0, s1, s2, _⟩ := hs.three
            have hlz := linkZone_any s _ _ _ evs name w11 hR HNN.out.1 HNm.out
            obtain ⟨Z, hZ⟩ : ∃ Z, Lk.walk s name = Z := ⟨_, rfl⟩
            rw [hZ] at hlz
            have hkn := HKn.out
            rw [hZ] at hkn
            obtain ⟨yn, at0, no0⟩ := Z
            have HKn : Hid ((name = fresh ∨ no0 ≠ 0 → k1 = ⟨#[]⟩ ∧ kw ≠ 0) ∧ (name ≠ fresh → no0 = 0 → (kw = 0 ↔ Ca.listed l s at0))) := hkn
            have HLz : Hid (Calls Tryd.prog 15 #[.agg #[.slice rA nr rc, .slice zA nz zc, .slice lA nl lc], .string name] w11 fun e w' => e = .returned (.tuple #[.int .i64 at0, .int .i64 no0]) ∧ Below w11.heap.size w11 w') := hlz
            clear hs hR hlz hZ hkn
            go_wp2_with fail
            refine HLz.out.mono ?_
            rintro e w12 ⟨rfl, hb12⟩
            have HB12 := Lib.hid (below_then HB11.out hb12)
            clear hb12 s0 s1 s2 HLz
            by_cases hnf : name = fresh
            · have qe := Ca.eq_list hnf
              have qe' : name.toList = fresh.toList := by rw [hnf]
              obtain ⟨rfl, hkw⟩ := HKn.out.1 (.inl hnf)
              have qk : (kw != 0) = true := by simpa using hkw
              have HE := Lib.hid (HIT.out w12 HB12.out).2.2.2.2.2.2
              clear hnf
              go_wp2
              rw [← HP.out]
              exact ⟨ret_bool rfl, HE.out⟩
            have qe := Ca.ne_list hnf
            have qe' : ¬ name.toList = fresh.toList := by simpa using qe
            by_cases hn0 : no0 = 0
            case neg =>
              obtain ⟨rfl, hkw⟩ := HKn.out.1 (.inr hn0)
              have qk : (kw != 0) = true := by simpa using hkw
              have qn : (no0 != 0) = true := by simpa using hn0
              have HE := Lib.hid (HIT.out w12 HB12.out).2.2.2.2.2.2
              clear hnf
              go_wp2
              rw [← HP.out]
              exact ⟨ret_bool rfl, HE.out⟩
            have HKi := Lib.hid (HKn.out.2 hnf hn0)
            subst hn0
            clear hnf HKn
            go_wp2_with fail
            go_loopw [22, 142] (fun v i wv => ∃ k : Nat, k ≤ n ∧ i = .int .i64 (k : Int) ∧ Hid (v = .bool (Ca.listB s at0 (l.take k))) ∧ Hid (Below wz.heap.size wz wv)) (fun _ i _ => n - (intOf i).toNat)
            case atStart => exact ⟨0, Nat.zero_le _, rfl, rfl, HB12.out⟩
            case round =>
              obtain ⟨k, hk, rfl, HVk, HBk⟩ := hrel
              obtain ⟨b0, hb0⟩ : ∃ b, Ca.listB s at0 (l.take k) = b := ⟨_, rfl⟩
              have hv := HVk.out
              rw [hb0] at hv
              subst hv
              have HB0 := Lib.hid hb0
              clear hb0 HVk
              by_cases hlt : k < n
              case pos =>
                have q1 : (0 : Int) ≤ (k : Int) := by omega
                have q2 : (k : Int) < (n : Int) := by omega
                obtain ⟨ad, x, zA2, m, zc2, rfl, hab, Hx, d0, d1, d2, HZl, hz1, hz2, HZr, HEv⟩ := (HIT.out wr HBk.out).2.2.1.at_ HL.out hlt
                have hm40 : m ≤ 40 := by rw [← HZl.out]; exact (HFl.out.all x (List.mem_of_getElem? Hx.out)).n
                have HZs := Lib.hid (HFl.out.all x (List.mem_of_getElem? Hx.out)).z
                obtain ⟨W1, hW1⟩ : ∃ W, wr.alloc (.cells #[.string x.key, .string x.terr, .slice zA2 m zc2] 45) = W := ⟨_, rfl⟩
                have HBe : Hid (Below wz.heap.size wz W1) := by show Below _ _ _; rw [← hW1]; exact bal HBk.out _
                have HZe : Hid (Reads W1 W1.heap.size 1 zA2 m (x.zones.map Value.string)) := by show Reads _ _ _ _ _ _; rw [← hW1]; exact (HZr.out.below (bal1 wr _)).more (bal1 wr _).size
                have HW1 := Lib.hid hW1
                clear hW1 HZr HEv hz1 hz2
                go_wp2_with fail
                rw [HW1.out]
                go_wp2_with fail
                clear d0 d1 d2
                go_loopw [22, 149] (fun v i wv => ∃ j : Nat, j ≤ m ∧ i = .int .i64 (j : Int) ∧ Hid (v = .bool (b0 || (x.zones.take j).any (Ca.leadB s at0))) ∧ Hid (Below W1.heap.size W1 wv)) (fun _ i _ => m - (intOf i).toNat)
                case atStart => exact ⟨0, Nat.zero_le _, rfl, (by show _ = Value.bool (b0 || false); rw [Bool.or_false]), Below.refl _ _⟩
                case round =>
                  obtain ⟨j, hj, rfl, HVj, HBj⟩ := hrel
                  obtain ⟨b1, hb1⟩ : ∃ b, (b0 || (x.zones.take j).any (Ca.leadB s at0)) = b := ⟨_, rfl⟩
                  have hv := HVj.out
                  rw [hb1] at hv
                  subst hv
                  have HB1' := Lib.hid hb1
                  have HBx := Lib.hid (below_then HBe.out HBj.out)
                  clear hb1 HVj
                  by_cases hlj : j < m
                  · have t1 : (0 : Int) ≤ (j : Int) := by omega
                    have t2 : (j : Int) < (m : Int) := by omega
                    obtain ⟨ad, y, rfl, Hy, hcell⟩ : ∃ ad2 nm, zA2 = some ad2 ∧ Hid (x.zones[j]? = some nm) ∧ wr.cell? (ad2.add j) = some (.string nm) := reads_str (HZe.out.below HBj.out) hlj
                    have hys : y.size ≤ maxLen := Nat.le_trans (HZs.out y (List.mem_of_getElem? Hy.out)) (by unfold maxLen; omega)
                    obtain ⟨hs, _, _, hR, _⟩ := HIT.out wr HBx.out
                    obtain ⟨s0, s1, s2, _⟩ := hs.three
                    have hlz := linkZone_any s _ _ _ evs y wr hR HNN.out.1 hys
                    obtain ⟨Z, hZ⟩ : ∃ Z, Lk.walk s y = Z := ⟨_, rfl⟩
                    rw [hZ] at hlz
                    have hnx : (b0 || (x.zones.take (j + 1)).any (Ca.leadB s at0)) = (b1 || (decide (Z.2.2 = 0) && decide (Z.2.1 = at0))) := by
                      rw [Ca.any_next Hy.out, ← Bool.or_assoc, HB1'.out]
                      unfold Ca.leadB
                      rw [hZ]
                    obtain ⟨yn, y1, y2⟩ := Z
                    have HNx : Hid ((b0 || (x.zones.take (j + 1)).any (Ca.leadB s at0)) = (b1 || (decide (y2 = 0) && decide (y1 = at0)))) := hnx
                    have HLz2 : Hid (Calls Tryd.prog 15 #[.agg #[.slice rA nr rc, .slice zA nz zc, .slice lA nl lc], .string y] wr fun e w' => e = .returned (.tuple #[.int .i64 y1, .int .i64 y2]) ∧ Below wr.heap.size wr w') := hlz
                    clear hs hR hlz hZ hnx hys
                    go_wp2_with fail
                    refine HLz2.out.mono ?_
                    rintro e w14 ⟨rfl, hb14⟩
                    have HB14 := Lib.hid (below_then HBj.out hb14)
                    clear hb14 s0 s1 s2 hcell HLz2
                    cases b1 with
                    | true =>
                      have HV2 : Hid (Value.bool true = .bool (b0 || (x.zones.take (j + 1)).any (Ca.leadB s at0))) := by show _ = Value.bool _; rw [HNx.out, Bool.true_or]
                      go_wp2
                      go_roundw
                      case rel => exact ⟨j + 1, by omega, by go_num, HV2.out, HB14.out⟩
                      case measure => simp [intOf]; omega
                    | false =>
                      by_cases hy2 : y2 = 0
                      · subst hy2
                        have qy : ((0 : Int) == 0) = true := rfl
                        have HV2 : Hid (Value.bool (y1 == at0) = .bool (b0 || (x.zones.take (j + 1)).any (Ca.leadB s at0))) := by show _ = Value.bool _; rw [HNx.out, Bool.false_or, decide_eq_true rfl, Bool.true_and]; congr 1
                        go_wp2
                        go_roundw
                        case rel => exact ⟨j + 1, by omega, by go_num, HV2.out, HB14.out⟩
                        case measure => simp [intOf]; omega
                      · have qy : (y2 == 0) = false := by simpa using hy2
                        have HV2 : Hid (Value.bool false = .bool (b0 || (x.zones.take (j + 1)).any (Ca.leadB s at0))) := by show _ = Value.bool _; rw [HNx.out, decide_eq_false hy2]; rfl
                        clear hy2
                        go_wp2
                        go_roundw
                        case rel => exact ⟨j + 1, by omega, by go_num, HV2.out, HB14.out⟩
                        case measure => simp [intOf]; omega
                  · have t2 : ¬ (j : Int) < (m : Int) := by omega
                    have HV2 : Hid (Value.bool b1 = .bool (Ca.listB s at0 (l.take (k + 1)))) := by
                      show _ = Value.bool _
                      have h := HB1'.out
                      rw [List.take_of_length_le (by rw [HZl.out]; omega)] at h
                      rw [Ca.listB_next Hx.out, HB0.out, h]
                    go_wp2
                    go_roundw
                    case rel => exact ⟨k + 1, by omega, by go_num, HV2.out, HBx.out⟩
                    case measure => simp [intOf]; omega
              have q2 : ¬ (k : Int) < (n : Int) := by omega
              have HLB : Hid (b0 = decide (kw = 0)) := by
                show b0 = _
                have h := HB0.out
                rw [List.take_of_length_le (by rw [HL.out]; omega)] at h
                rw [← h, Bool.eq_iff_iff, Ca.listB_iff, decide_eq_true_iff]
                exact HKi.out.symm
              obtain ⟨w15, hw15⟩ : ∃ W, wr = W := ⟨_, rfl⟩
              rw [hw15] at HBk ⊢
              clear hw15 HB0 hk hlt HB12
              go_wp2_with fail
              obtain ⟨ms, hms⟩ : ∃ m, Ca.missing l s = m := ⟨_, rfl⟩
              have hmt : Ca.missing l T = ms := by rw [← HT.out, Ca.missing_more HFt.out HFe.out, hms]
              have HMs : Hid (∀ W, Below wz.heap.size wz W → Calls Tryd.prog 10 #[.slice A n c, .agg #[.slice rA nr rc, .slice zA nz zc, .slice lA nl lc]] W fun e w' => (∃ v, e = .returned v ∧ w'.ownsRow W.heap.size 9 1 v ms.length (ms.map Value.string)) ∧ Below W.heap.size W w') := by
                intro W hb
                obtain ⟨_, _, hE, hR, _⟩ := HIT.out W hb
                have h := caMissing_any l A n c evl s _ _ _ evs W hE HL.out HFl.out.wd HFl.out.flat hR HLm.out.1 HNN.out.1 (Src.names_nm HNN.out.1)
                rw [hms] at h
                exact h
              have HMt : Hid (∀ W, Below wz.heap.size wz W → Calls Tryd.prog 10 #[.slice A n c, .agg #[.slice rA nr rc, .slice zA nz zc, .slice P60 (nl + 1) c60]] W fun e w' => (∃ v, e = .returned v ∧ w'.ownsRow W.heap.size 9 1 v ms.length (ms.map Value.string)) ∧ Below W.heap.size W w') := by
                intro W hb
                obtain ⟨_, _, hE, _, hR, _⟩ := HIT.out W hb
                have h := caMissing_any l A n c evl T _ _ _ evs W hE HL.out HFl.out.wd HFl.out.flat hR HLT.out HNT.out (Src.names_nm HNT.out)
                rw [hmt] at h
                exact h
              have qB : (b0 == (kw == 0)) = true := by
                rw [HLB.out]
                by_cases hk0 : kw = 0
                · rw [hk0]; rfl
                · rw [decide_eq_false hk0, show (kw == 0) = false by simpa using hk0]; rfl
              have hinj : ∀ j, j < 14 → ∀ k, k < 14 → Tr.sl j = Tr.sl k → j = k := by
                intro j hj k hk
                unfold Tr.sl
                split <;> split <;> omega
              clear hms hmt HLB HKi HB11
              refine Od.wp_region_inv 184 (by kernel_rfl) (by rfl) (by rfl) (Od.ord_of (by kernel_rfl)) (Od.dst_of (by kernel_rfl)) (Rg.J 14 Tr.sl (Tr.Q (.slice A n c) (.agg #[.slice rA nr rc, .slice zA nz zc, .slice lA nl lc]) (.agg #[.slice rA nr rc, .slice zA nz zc, .slice P60 (nl + 1) c60]) b0 kw ms) w15 (Od.slots _)) (Rg.J.start _ _ _ (Below.refl _ _).drew) ?stepR ?finR
              case stepR =>
                intro i o hi b a' wv hJ hb hdep hdf K hK
                obtain ⟨tm, df⟩ := a'
                simp only at hdf
                subst hdf
                have hi14 : i < 14 := (Array.getElem?_eq_some_iff.1 hi).1
                have HBv := below_then HBk.out hJ.below
                obtain ⟨hs, hg, _⟩ := HIT.out wv HBv
                obtain ⟨s0, s1, s2, _⟩ := hs.three
                obtain ⟨g0, g1, g2, _⟩ := hg.three
                have h0 : tm.getD 0 undef = .slice A n c := hJ.old 0 (by intro k hk; unfold Tr.sl; split <;> omega)
                have h0' : tm[0]?.getD undef = .slice A n c := by rw [← Array.getD_eq_getD_getElem?]; exact h0
                have h5 : tm.getD 5 undef = .pointer (some ⟨w.heap.size, 0, none⟩) := hJ.old 5 (by intro k hk; unfold Tr.sl; split <;> omega)
                have h5' : tm[5]?.getD undef = .pointer (some ⟨w.heap.size, 0, none⟩) := by rw [← Array.getD_eq_getD_getElem?]; exact h5
                have h9 : tm.getD 9 undef = .pointer (some ⟨G, 0, none⟩) := hJ.old 9 (by intro k hk; unfold Tr.sl; split <;> omega)
                have h9' : tm[9]?.getD undef = .pointer (some ⟨G, 0, none⟩) := by rw [← Array.getD_eq_getD_getElem?]; exact h9
                have h19 : tm.getD 19 undef = .int .i64 kw := hJ.old 19 (by intro k hk; unfold Tr.sl; split <;> omega)
                have h19' : tm[19]?.getD undef = .int .i64 kw := by rw [← Array.getD_eq_getD_getElem?]; exact h19
                have h22 : tm.getD 22 undef = .bool b0 := hJ.old 22 (by intro k hk; unfold Tr.sl; split <;> omega)
                have h22' : tm[22]?.getD undef = .bool b0 := by rw [← Array.getD_eq_getD_getElem?]; exact h22
                have hsplit : i = 0 ∨ i = 1 ∨ i = 2 ∨ i = 3 ∨ i = 4 ∨ i = 5 ∨ i = 6 ∨ i = 7 ∨ i = 8 ∨ i = 9 ∨ i = 10 ∨ i = 11 ∨ i = 12 ∨ i = 13 := by omega
                rcases hsplit with rfl | rfl | rfl | rfl | rfl | rfl | rfl | rfl | rfl | rfl | rfl | rfl | rfl | rfl
                · have e := Option.some.inj (show some _ = some o from hi)
                  subst e
                  rw [if_pos (show Region.wanted _ _ = true from rfl)]
                  go_simp
                  exact hK _ _ (hJ.put Tr.Q_mono hinj (by omega) rfl)
                · have e := Option.some.inj (show some _ = some o from hi)
                  subst e
                  rw [if_pos (show Region.wanted _ _ = true from rfl)]
                  go_simp
                  exact hK _ _ (hJ.put Tr.Q_mono hinj (by omega) rfl)
                · have e := Option.some.inj (show some _ = some o from hi)
                  subst e
                  rw [if_pos (show Region.wanted _ _ = true from rfl)]
                  have v1 : tm.getD 172 undef = .int .i64 kw := hJ.val 1 (by omega) (hdep ⟨1, .data⟩ (by simp) rfl)
                  have v1' : tm[172]?.getD undef = .int .i64 kw := by rw [← Array.getD_eq_getD_getElem?]; exact v1
                  go_simp
                  exact hK _ _ (hJ.put Tr.Q_mono hinj (by omega) rfl)
                · have e := Option.some.inj (show some _ = some o from hi)
                  subst e
                  rw [if_pos (show Region.wanted _ _ = true from rfl)]
                  have v0 : tm.getD 171 undef = .bool b0 := hJ.val 0 (by omega) (hdep ⟨0, .data⟩ (by simp) rfl)
                  have v0' : tm[171]?.getD undef = .bool b0 := by rw [← Array.getD_eq_getD_getElem?]; exact v0
                  have v2 : tm.getD 173 undef = .bool (kw == 0) := hJ.val 2 (by omega) (hdep ⟨2, .data⟩ (by simp) rfl)
                  have v2' : tm[173]?.getD undef = .bool (kw == 0) := by rw [← Array.getD_eq_getD_getElem?]; exact v2
                  go_simp
                  exact hK _ _ (hJ.put Tr.Q_mono hinj (by omega) rfl)
                · have e := Option.some.inj (show some _ = some o from hi)
                  subst e
                  rw [if_pos (show Region.wanted _ _ = true from rfl)]
                  have v3 : tm.getD 174 undef = .bool true := hJ.val 3 (by omega) (hdep ⟨3, .data⟩ (by simp) rfl)
                  have v3' : tm[174]?.getD undef = .bool true := by rw [← Array.getD_eq_getD_getElem?]; exact v3
                  go_simp
                  exact hK _ _ (hJ.put Tr.Q_mono hinj (by omega) rfl)
                · have e := Option.some.inj (show some _ = some o from hi)
                  subst e
                  have h175 : tm.getD 175 undef = .bool true := hJ.val 4 (by omega) (hdep ⟨4, .guard⟩ (by simp) rfl)
                  rw [if_pos (Rg.want rfl rfl h175)]
                  go_simp
                  exact hK _ _ (hJ.put Tr.Q_mono hinj (by omega) rfl)
                · have e := Option.some.inj (show some _ = some o from hi)
                  subst e
                  have h175 : tm.getD 175 undef = .bool true := hJ.val 4 (by omega) (hdep ⟨4, .guard⟩ (by simp) rfl)
                  rw [if_pos (Rg.want rfl rfl h175)]
                  go_simp
                  exact hK _ _ (hJ.put Tr.Q_mono hinj (by omega) rfl)
                · have e := Option.some.inj (show some _ = some o from hi)
                  subst e
                  have h175 : tm.getD 175 undef = .bool true := hJ.val 4 (by omega) (hdep ⟨4, .guard⟩ (by simp) rfl)
                  rw [if_pos (Rg.want rfl rfl h175)]
                  have v5 : tm.getD 176 undef = .slice A n c := hJ.val 5 (by omega) (hdep ⟨5, .data⟩ (by simp) rfl)
                  have v5' : tm[176]?.getD undef = .slice A n c := by rw [← Array.getD_eq_getD_getElem?]; exact v5
                  have v6 : tm.getD 177 undef = .agg #[.slice rA nr rc, .slice zA nz zc, .slice lA nl lc] := hJ.val 6 (by omega) (hdep ⟨6, .data⟩ (by simp) rfl)
                  have v6' : tm[177]?.getD undef = .agg #[.slice rA nr rc, .slice zA nz zc, .slice lA nl lc] := by rw [← Array.getD_eq_getD_getElem?]; exact v6
                  go_simp
                  refine (HMs.out wv HBv).mono ?_
                  rintro e w' ⟨⟨v, rfl, ho⟩, hbm⟩
                  obtain ⟨A2, c2, rfl, hle⟩ := own_slice ho
                  exact hK _ _ (hJ.step Tr.Q_mono hinj (by omega) hbm ⟨A2, c2, rfl, hle, Reads.of_own ho⟩)
                · have e := Option.some.inj (show some _ = some o from hi)
                  subst e
                  have h175 : tm.getD 175 undef = .bool true := hJ.val 4 (by omega) (hdep ⟨4, .guard⟩ (by simp) rfl)
                  rw [if_pos (Rg.want rfl rfl h175)]
                  go_simp
                  exact hK _ _ (hJ.put Tr.Q_mono hinj (by omega) rfl)
                · have e := Option.some.inj (show some _ = some o from hi)
                  subst e
                  have h175 : tm.getD 175 undef = .bool true := hJ.val 4 (by omega) (hdep ⟨4, .guard⟩ (by simp) rfl)
                  rw [if_pos (Rg.want rfl rfl h175)]
                  go_simp
                  exact hK _ _ (hJ.put Tr.Q_mono hinj (by omega) rfl)
                · have e := Option.some.inj (show some _ = some o from hi)
                  subst e
                  have h175 : tm.getD 175 undef = .bool true := hJ.val 4 (by omega) (hdep ⟨4, .guard⟩ (by simp) rfl)
                  rw [if_pos (Rg.want rfl rfl h175)]
                  have v8 : tm.getD 179 undef = .slice A n c := hJ.val 8 (by omega) (hdep ⟨8, .data⟩ (by simp) rfl)
                  have v8' : tm[179]?.getD undef = .slice A n c := by rw [← Array.getD_eq_getD_getElem?]; exact v8
                  have v9 : tm.getD 180 undef = .agg #[.slice rA nr rc, .slice zA nz zc, .slice P60 (nl + 1) c60] := hJ.val 9 (by omega) (hdep ⟨9, .data⟩ (by simp) rfl)
                  have v9' : tm[180]?.getD undef = .agg #[.slice rA nr rc, .slice zA nz zc, .slice P60 (nl + 1) c60] := by rw [← Array.getD_eq_getD_getElem?]; exact v9
                  go_simp
                  refine (HMt.out wv HBv).mono ?_
                  rintro e w' ⟨⟨v, rfl, ho⟩, hbm⟩
                  obtain ⟨A2, c2, rfl, hle⟩ := own_slice ho
                  exact hK _ _ (hJ.step Tr.Q_mono hinj (by omega) hbm ⟨A2, c2, rfl, hle, Reads.of_own ho⟩)
                · have e := Option.some.inj (show some _ = some o from hi)
                  subst e
                  have h175 : tm.getD 175 undef = .bool true := hJ.val 4 (by omega) (hdep ⟨4, .guard⟩ (by simp) rfl)
                  rw [if_pos (Rg.want rfl rfl h175)]
                  obtain ⟨A7, c7, v7, hle7, hr7⟩ : Tr.Rd ms (tm.getD 178 undef) wv := hJ.val 7 (by omega) (hdep ⟨7, .data⟩ (by simp) rfl)
                  obtain ⟨A10, c10, v10, hle10, hr10⟩ : Tr.Rd ms (tm.getD 181 undef) wv := hJ.val 10 (by omega) (hdep ⟨10, .data⟩ (by simp) rfl)
                  have v7' : tm[178]?.getD undef = .slice A7 ms.length c7 := by rw [← Array.getD_eq_getD_getElem?]; exact v7
                  have v10' : tm[181]?.getD undef = .slice A10 ms.length c10 := by rw [← Array.getD_eq_getD_getElem?]; exact v10
                  have hT := refTexts_any A7 A10 ms.length ms.length c7 c10 ms ms wv hle7 hle10 hr7 hr10
                  rw [decide_eq_true rfl] at hT
                  have HT2 := Lib.hid hT
                  clear hT hr7 hr10
                  go_simp
                  refine HT2.out.mono ?_
                  rintro e w' ⟨rfl, hd⟩
                  exact hK _ _ (hJ.step Tr.Q_mono hinj (by omega) (hd.below _) rfl)
                · have e := Option.some.inj (show some _ = some o from hi)
                  subst e
                  rw [if_pos (show Region.wanted _ _ = true from rfl)]
                  have v4 : tm.getD 175 undef = .bool true := hJ.val 4 (by omega) (hdep ⟨4, .data⟩ (by simp) rfl)
                  have v4' : tm[175]?.getD undef = .bool true := by rw [← Array.getD_eq_getD_getElem?]; exact v4
                  have v11 : tm.getD 182 undef = .bool true := hJ.val 11 (by omega) (hdep ⟨11, .data⟩ (by simp) rfl)
                  have v11' : tm[182]?.getD undef = .bool true := by rw [← Array.getD_eq_getD_getElem?]; exact v11
                  go_simp
                  exact hK _ _ (hJ.put Tr.Q_mono hinj (by omega) rfl)
                · have e := Option.some.inj (show some _ = some o from hi)
                  subst e
                  rw [if_pos (show Region.wanted _ _ = true from rfl)]
                  have v12 : tm.getD 183 undef = .bool true := hJ.val 12 (by omega) (hdep ⟨12, .data⟩ (by simp) rfl)
                  have v12' : tm[183]?.getD undef = .bool true := by rw [← Array.getD_eq_getD_getElem?]; exact v12
                  go_simp
                  exact hK _ _ (hJ.put Tr.Q_mono hinj (by omega) rfl)
              case finR =>
                intro a' wv hJ hN hdf
                have h8 : a'.tmps.getD 8 undef = .bool true := hJ.val 13 (by omega) (by rfl)
                have HE := Lib.hid (HIT.out wv (below_then HBk.out hJ.below)).2.2.2.2.2.2
                have ef : a' = { tmps := ((List.range 184).map fun i => a'.tmps.getD i undef).toArray, defers := [] } := Sc.frame_of 184 a' hN hdf
                obtain ⟨u, hu⟩ : ∃ u : Nat → Value, (fun i => a'.tmps.getD i undef) = u := ⟨_, rfl⟩
                rw [hu] at ef
                have e8 : u 8 = .bool true := by rw [← hu]; exact h8
                have ef2 : a' = { tmps := #[u 0, u 1, u 2, u 3, u 4, u 5, u 6, u 7, u 8, u 9, u 10, u 11, u 12, u 13, u 14, u 15, u 16, u 17, u 18, u 19, u 20, u 21, u 22, u 23, u 24, u 25, u 26, u 27, u 28, u 29, u 30, u 31, u 32, u 33, u 34, u 35, u 36, u 37, u 38, u 39, u 40, u 41, u 42, u 43, u 44, u 45, u 46, u 47, u 48, u 49, u 50, u 51, u 52, u 53, u 54, u 55, u 56, u 57, u 58, u 59, u 60, u 61, u 62, u 63, u 64, u 65, u 66, u 67, u 68, u 69, u 70, u 71, u 72, u 73, u 74, u 75, u 76, u 77, u 78, u 79, u 80, u 81, u 82, u 83, u 84, u 85, u 86, u 87, u 88, u 89, u 90, u 91, u 92, u 93, u 94, u 95, u 96, u 97, u 98, u 99, u 100, u 101, u 102, u 103, u 104, u 105, u 106, u 107, u 108, u 109, u 110, u 111, u 112, u 113, u 114, u 115, u 116, u 117, u 118, u 119, u 120, u 121, u 122, u 123, u 124, u 125, u 126, u 127, u 128, u 129, u 130, u 131, u 132, u 133, u 134, u 135, u 136, u 137, u 138, u 139, u 140, u 141, u 142, u 143, u 144, u 145, u 146, u 147, u 148, u 149, u 150, u 151, u 152, u 153, u 154, u 155, u 156, u 157, u 158, u 159, u 160, u 161, u 162, u 163, u 164, u 165, u 166, u 167, u 168, u 169, u 170, u 171, u 172, u 173, u 174, u 175, u 176, u 177, u 178, u 179, u 180, u 181, u 182, u 183], defers := [] } := ef
                rw [e8] at ef2
                rw [ef2]
                clear hJ h8 hN hdf ef ef2 hu e8
                go_wp2
                rw [← HP.out]
                exact ⟨ret_bool rfl, HE.out⟩
theorem topRenamed_row (l : List Ca.E) (A : Option Addr) (n c : Nat) (evl : List Value) (s : Src.S) (rv zv lv : Value) (evs : List Value) (name fresh : ByteArray) (w : World) (hWa : Wa w) (hE : Ca.EntR w w.heap.size l (.slice A n c) evl) (hl : l.length = n) (hC : Ca.Wide l)
    (hR : Src.SrcR w w.heap.size s rv zv lv evs) (hw : Src.Wide s) (hnm : name.size ≤ maxLen) (hfr : fresh.size ≤ maxLen) :
    Calls Tryd.prog 4 #[.slice A n c, .agg #[rv, zv, lv], .string name, .string fresh] w fun e w' => e = .returned (.bool true) ∧ Below w.heap.size w w' := topRenamed_any l A n c evl s rv zv lv evs name fresh w hE hl hC hR hw hnm hfr hWa
end Go.Proofs.YtajcgoinhpengaaDoor
