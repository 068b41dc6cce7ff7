/- source.Parse: the lines are gone through. -/
import Derived.Test.YtajcgoinhpengaaDoorP16
import Derived.Laws.MakeOwn
import Derived.Test.YtajcgoinhpengaaDoorP02
import Derived.Deep.RegionHeld3

namespace Go.Proofs.YtajcgoinhpengaaDoor
open Go.RowKit

namespace Src
def rest (L : List Ln) (k : Nat) (s : S) : Par S := match readGo own (L.drop k) s with
  | .bad l c w => .bad l c w
  | .ok s' => finish L s'
theorem rest_step {L : List Ln} {k : Nat} {s : S} {x : Ln} {X : Par S} (h : X = rest L k s) (hx : L[k]? = some x) :
    X = match step own s (x.2.map (·.1)) with
    | .bad p y => .bad x.1 (colAt x.2 p) y
    | .ok s' => rest L (k + 1) s' := by
  rw [h]
  unfold rest
  rw [List.drop_eq_getElem_cons (List.getElem?_eq_some_iff.1 hx).1, (List.getElem?_eq_some_iff.1 hx).2, readGo_cons]
  cases step own s (x.2.map (·.1)) <;> rfl
theorem rest_end {L : List Ln} {k : Nat} {s : S} {X : Par S} (h : X = rest L k s) (hk : L.length ≤ k) : X = finish L s := by
  rw [h]
  unfold rest
  rw [List.drop_eq_nil_of_le hk]
  rfl
theorem rest_all {L : List Ln} : readAll own L = rest L 0 St.none_ := by
  unfold readAll rest
  rw [List.drop_zero]
  cases readGo own L St.none_ <;> rfl
/-- A line with its fields' slice; its cells; a field's cells. -/
def lnc (p : Ln × Value) : List Value := [.int .i64 p.1.1, p.2]
def flc (x : Txt × Int) : List Value := [.string (bts x.1), .int .i64 x.2]
def GRel (g n : Nat) (w1 : World) (L : List Ln) (X : Par S) (i : Value) (wr : World) : Prop :=
  ∃ (k : Nat) (s : S) (rv zv lv : Value) (evs : List Value), k ≤ n ∧ i = .int .i64 k ∧ Hid (X = rest L k s) ∧ Hid (Fit s) ∧ Hid (Held (g + 1) wr g s rv zv lv evs) ∧ Hid (Below w1.heap.size w1 wr) ∧ Hid (k = 0 → s.op = false)
def IRel (W8 : World) (ts : List Txt) (m : Nat) (v i : Value) (wi : World) : Prop :=
  ∃ j : Nat, j ≤ m ∧ i = .int .i64 j ∧ Hid (wi.ownsRow W8.heap.size 9 1 v j (((ts.take j).map bts).map Value.string)) ∧ Hid (Below W8.heap.size W8 wi)
theorem take_more {ts : List Txt} {j : Nat} {t : Txt} (h : ts[j]? = some t) : ((ts.take (j + 1)).map bts).map Value.string = ((ts.take j).map bts).map Value.string ++ [.string (bts t)] := by
  rw [List.take_add_one, h]
  simp
theorem last_at {L : List Ln} {x d : Ln} (h : L[L.length - 1]? = some x) : L.getLastD d = x := by
  rw [List.getLastD_eq_getLast?, List.getLast?_eq_getElem?, h]
  rfl
theorem Held.set_low {B : Nat} {w : World} {g : Nat} {s : S} {rv zv lv : Value} {evs : List Value} (h : Held B w g s rv zv lv evs) {p : Addr} (hp : p.block < g) (u : Value) : Held B (w.setCell p u) g s rv zv lv evs :=
  ⟨h.at_.set_other p u (Nat.ne_of_lt hp), h.many.setBelow (Nat.lt_trans hp h.below) u, h.below, h.evs_len⟩
end Src
theorem At.same {w w' : World} {g : Nat} {xs : List Value} (h : At w g xs) (hs : g < w'.heap.size) (e : w'.heap[g]? = w.heap[g]?) : At w' g xs :=
  ⟨hs, fun i v hi => ⟨(World.cell?_of_block e).trans (h.2 i v hi).1, (World.frozen?_of_block e).trans (h.2 i v hi).2⟩⟩
end Go.Proofs.YtajcgoinhpengaaDoor

/- slices.EqualFunc at zones, source.Same, source.Names. -/
namespace Go.Proofs.YtajcgoinhpengaaDoor
open Go.RowKit

/-- What is asked of a comparison. -/
def Ix.Tells2 {α : Type} (g : FuncId) (lb : Array Value) (enc : α → Value) (f : α → α → Bool) (xs ys : List α) (w : World) : Prop :=
  ∀ W x y, x ∈ xs → y ∈ ys → Below w.heap.size w W → Calls Tryd.prog g (#[enc x, enc y] ++ lb) W fun e w' => e = .returned (.bool (f x y)) ∧ Below w.heap.size w w'
end Go.Proofs.YtajcgoinhpengaaDoor

/- source.Names. -/
namespace Go.Proofs.YtajcgoinhpengaaDoor
open Go.RowKit

namespace Src
def zoneNames (s : S) : List ByteArray := s.zones.map fun z => bts z.1
def linkNames (s : S) : List ByteArray := s.links.map fun k => bts k.2
def names (s : S) : List ByteArray := zoneNames s ++ linkNames s
theorem more_one {l : List ByteArray} {k : Nat} {x : ByteArray} (h : l[k]? = some x) : (l.take (k + 1)).map Value.string = (l.take k).map Value.string ++ [Value.string x] := by
  rw [List.take_add_one, h]
  simp
def NRel (W0 : World) (h : Nat) (cs : List Value) (pre l : List ByteArray) (n : Nat) (v i : Value) (wr : World) : Prop :=
  ∃ k : Nat, k ≤ n ∧ i = .int .i64 k ∧ Hid (wr.ownsRow W0.heap.size 9 1 v (pre.length + k) (pre.map Value.string ++ (l.take k).map Value.string)) ∧ Hid (At wr h cs) ∧ Hid (Below W0.heap.size W0 wr)
end Src
set_option maxHeartbeats 2000000 in
set_option maxRecDepth 100000 in
/-- source.Names: in a row of its own. -/
theorem srcNames_own (s : Src.S) (rv zv lv : Value) (evs : List Value) (w : World) (hR : Src.SrcR w w.heap.size s rv zv lv evs) (hL : Src.Lims s) :
    Calls Tryd.prog 17 #[.agg #[rv, zv, lv]] w fun e w' => ∃ A c, e = .returned (.slice A (s.zones.length + s.links.length) c) ∧ Below w.heap.size w w' ∧ s.zones.length + s.links.length ≤ c ∧ c ≤ maxLen ∧ w'.ownsRow w.heap.size 9 1 (.slice A (s.zones.length + s.links.length) c) (s.zones.length + s.links.length) ((Src.names s).map Value.string) := by
  obtain ⟨rules, zones, links, op⟩ := s
  obtain ⟨⟨rA, rc, rfl, hr1, hr2, hr3⟩, ⟨zA, zc, rfl, hz1, hz2, hz3⟩, ⟨lA, lc, rfl, hl1, hl2, hl3⟩, hlen, hers⟩ := hR
  obtain ⟨L1, L2, L3⟩ := hL
  unfold Src.names Src.zoneNames Src.linkNames
  simp only at hr1 hr3 hz1 hz3 hl1 hl3 hlen hers L1 L2 L3 ⊢
  obtain ⟨n1, hn1⟩ : ∃ n, rules.length = n := ⟨_, rfl⟩
  obtain ⟨n2, hn2⟩ : ∃ n, zones.length = n := ⟨_, rfl⟩
  obtain ⟨n3, hn3⟩ : ∃ n, links.length = n := ⟨_, rfl⟩
  rw [hn1] at L1 ⊢
  rw [hn2] at hz3 L2 hz1 ⊢
  rw [hn3] at hl3 L3 hl1 ⊢
  obtain ⟨ZN, hZN⟩ : ∃ l, (zones.map fun z => Src.bts z.1) = l := ⟨_, rfl⟩
  obtain ⟨LN, hLN⟩ : ∃ l, (links.map fun k => Src.bts k.2) = l := ⟨_, rfl⟩
  have hzl : ZN.length = n2 := by rw [← hZN]; simp [hn2]
  have hll : LN.length = n3 := by rw [← hLN]; simp [hn3]
  rw [hZN, hLN]
  have HZN := Lib.hid hZN
  have HLN := Lib.hid hLN
  have HZL := Lib.hid hzl
  have HLL := Lib.hid hll
  have HRZ := Lib.hid hz3
  have HRL := Lib.hid hl3
  have HLen := Lib.hid (show (zones.zip evs).length = n2 by simp [hlen, hn2])
  have HLe2 := Lib.hid hn3
  have HSl := Lib.hid (show ∀ p ∈ zones.zip evs, ∃ A n c, p.2 = Value.slice A n c from fun p hp => by obtain ⟨A, c, e, _⟩ := hers p hp; exact ⟨A, _, c, e⟩)
  clear hZN hLN hn1 hn2 hn3 hz3 hl3 hr3 hers hlen hzl hll hr1 hr2
  unfold maxLen at hz2 hl2
  obtain ⟨i0, i1, i2, i3, i4⟩ := info_parts str_info
  have HI := Lib.hid (And.intro i1 (And.intro i2 (And.intro i3 i4)))
  clear i1 i2 i3 i4
  obtain ⟨m, hm⟩ : ∃ m : Nat, n2 + n3 = m := ⟨_, rfl⟩
  have hmk := fun W : World => run_make (P := Tryd.prog) W 34 9 i0 _ Tryd.underlying34 HI.out.1 HI.out.2.1 .i64 .i64 0 (m : Int) (by omega) (by omega) (by rw [HI.out.2.2.2]; omega) (by omega)
  rw [HI.out.2.2.1] at hmk
  obtain ⟨MC, hMC⟩ : ∃ x, madeCells (Value.string ⟨#[]⟩).cells ((m : Int).toNat * 1) = x := ⟨_, rfl⟩
  rw [hMC] at hmk
  have hMs : MC.size = m := by rw [← hMC, size_madeCells]; simp
  have hwm : IntKind.i64.wrap ((n2 : Int) + (n3 : Int)) = (m : Int) := by
    rw [show (n2 : Int) + (n3 : Int) = (m : Int) by omega]
    exact IntWalk.i64_in _ (by omega)
  clear hMC
  obtain ⟨W0, hW0⟩ : ∃ x, w.alloc (.cells #[.slice rA n1 rc, .slice zA n2 zc, .slice lA n3 lc] 27) = x := ⟨_, rfl⟩
  have HB0 := Lib.hid (show Below w.heap.size w W0 by rw [← hW0]; exact (Below.refl _ _).alloc (Nat.le_refl _) _)
  have HA0 := Lib.hid (show At W0 w.heap.size [.slice rA n1 rc, .slice zA n2 zc, .slice lA n3 lc] by rw [← hW0]; exact At.new w #[.slice rA n1 rc, .slice zA n2 zc, .slice lA n3 lc] 27)
  have hs0 : W0.heap.size = w.heap.size + 1 := by rw [← hW0]; simp
  obtain ⟨h, hh⟩ : ∃ h, w.heap.size = h := ⟨_, rfl⟩
  rw [hh] at HA0 hs0
  have HS0 := Lib.hid hs0
  have HH := Lib.hid hh
  obtain ⟨a0, a1, a2, _⟩ := HA0.out.three
  have HO0 := Lib.hid (show (W0.alloc (.cells MC 9)).ownsRow W0.heap.size 9 1 (.slice (some ⟨W0.heap.size, 0, none⟩) 0 m) 0 [] from World.ownsRow_made W0 MC m (Nat.le_refl _) (by unfold maxLen; omega) (by omega))
  have b1 : (W0.alloc (.cells MC 9)).cell? ⟨h, 1, none⟩ = some (.slice zA n2 zc) := (HA0.out.allocO _).cell 1 _ rfl
  clear hs0
  go_enter Tryd.func17, Tryd.ntmps17
  go_wp2_with fail
  clear hW0 hh a0 a1 a2 b1
  go_loopw [3, 19] (fun v i wr => Src.NRel W0 h [.slice rA n1 rc, .slice zA n2 zc, .slice lA n3 lc] [] ZN n2 v i wr) (fun _ i _ => n2 - (intOf i).toNat)
  case atStart => exact ⟨0, Nat.zero_le _, rfl, HO0.out, HA0.out.allocO _, (Below.refl _ _).alloc (Nat.le_refl _) _⟩
  case round =>
    obtain ⟨k, hk, rfl, HO, HA, HB⟩ := hrel
    replace HO := Lib.hid (show wr.ownsRow W0.heap.size 9 1 _ k ((ZN.take k).map Value.string) by simpa using HO.out)
    obtain ⟨vA, vc, hv, hv1, hv2⟩ := own_slice_cap HO.out
    subst hv
    have hwr := HB.out.size
    have hs0 : h < W0.heap.size := by have := HS0.out; omega
    by_cases hlt : k < n2
    · have q1 : (0 : Int) ≤ (k : Int) := by omega
      have q2 : (k : Int) < (n2 : Int) := by omega
      have HBw := Lib.hid (below_then HB0.out HB.out)
      obtain ⟨ad, x, rfl, hab, Hx, HLc⟩ := Ix.reads_cells (enc := Src.zc) (m := 2) (fun _ => rfl) HLen.out (HRZ.out.below HBw.out) hlt
      obtain ⟨xA, xn, xc, hx2⟩ := HSl.out x (List.mem_of_getElem? Hx.out)
      obtain ⟨xb, hxb⟩ : ∃ t, Src.bts x.1.1 = t := ⟨_, rfl⟩
      have c0 : wr.cell? (ad.add (k * 2)) = some (.string xb) := by rw [← hxb]; exact HLc.out 0 _ rfl
      have c1 : wr.cell? ⟨(ad.add (k * 2)).block, (ad.add (k * 2)).off + 1, none⟩ = some (.slice xA xn xc) := by rw [← hx2]; exact HLc.out 1 _ rfl
      have hzk : ZN[k]? = some xb := by
        rw [← HZN.out, List.getElem?_map, (List.getElem?_zip_eq_some.1 Hx.out).1, ← hxb]
        rfl
      have HTK := Lib.hid (Src.more_one hzk)
      have HAp := fun {ops : Array Oper} {rest : List Oper} {o : Oper} {a : Act} {Q : Exit → Act → World → Prop} (hgd : o.guard = none) (ho : o.op = .call { callee := .builtin .append, args := #[.tmp 23, .tmp 26], argTypes := #[34, 34] }) (hs : a.eval (.tmp 23) = .slice vA k vc) (hx : a.eval (.tmp 26) = .slice (some ⟨wr.heap.size + 1, 0, none⟩) 1 1) h => wpList_append_any (P := Tryd.prog) (ops := ops) (rest := rest) (o := o) (a := a) (Q := Q) ((wr.alloc (.cells #[.string xb, .slice xA xn xc] 54)).alloc (.cells #[.string xb] 9)) hgd (.tmp 23) (.tmp 26) 34 ho W0.heap.size 9 i0 _ 1 16 Tryd.underlying34 HI.out.1 HI.out.2.1 HI.out.2.2.1 HI.out.2.2.2 rfl (by decide) _ k _ hs ((HO.out.alloc _).alloc _) ((wr.alloc (.cells #[.string xb, .slice xA xn xc] 54)).alloc (.cells #[.string xb] 9)).heap.size _ 1 1 _ hx (er_reads (wr.alloc (.cells #[.string xb, .slice xA xn xc] 54)) (wr.heap.size + 1) [xb] 9 (by simp)) (by simp [Value.oneCell']) (by unfold maxLen; omega) (by omega) (by simp; omega) h
      clear hx2 hxb hzk
      go_wp2_with (at_builtin; refine HAp rfl rfl rfl rfl ?_; intro v9' w9 hown9 hg9 hat9)
      have HA9 := Lib.hid (Sc.At.grownO ((HA.out.allocO (.cells #[.string xb, .slice xA xn xc] 54)).allocO (.cells #[.string xb] 9)) hg9 (fun kk hkk => by have := (HO.out.lt kk hkk).1; omega))
      have HO9 := Lib.hid (show w9.ownsRow W0.heap.size 9 1 v9' (([] : List ByteArray).length + (k + 1)) (([] : List ByteArray).map Value.string ++ (ZN.take (k + 1)).map Value.string) by rw [HTK.out]; simpa using hown9)
      have HB9 := Lib.hid (show Below W0.heap.size W0 w9 from ((HB.out.alloc HB.out.size _).alloc (by simp; omega) _).grown hg9 (by simp; omega) (fun kk hkk => (HO.out.lt kk hkk).1))
      clear hown9 hg9 hat9 HAp c0 c1 hs0
      go_wp2
      go_roundw
      case rel => exact ⟨k + 1, by omega, by go_num, HO9.out, HA9.out, HB9.out⟩
      case measure => simp [intOf]; omega
    · have q2 : ¬ (k : Int) < (n2 : Int) := by omega
      have hkn : k = n2 := by omega
      subst hkn
      obtain ⟨a0, a1, a2, _⟩ := HA.out.three
      have HO2 := Lib.hid (show wr.ownsRow W0.heap.size 9 1 (.slice vA k vc) (ZN.length + 0) (ZN.map Value.string ++ (LN.take 0).map Value.string) by
        have := HO.out
        rw [List.take_of_length_le (by rw [HZL.out]; exact Nat.le_refl _)] at this
        simpa [HZL.out] using this)
      clear hs0
      go_wp2_with fail
      clear a0 a1 a2
      go_loopw [3, 32] (fun v i wr => Src.NRel W0 h [.slice rA n1 rc, .slice zA k zc, .slice lA n3 lc] ZN LN n3 v i wr) (fun _ i _ => n3 - (intOf i).toNat)
      case atStart => exact ⟨0, Nat.zero_le _, rfl, HO2.out, HA.out, HB.out⟩
      case round =>
        clear HO HA HB HO2 hwr hv1 hv2
        obtain ⟨j, hj, rfl, HO, HA, HB⟩ := hrel
        obtain ⟨vA, vc, hv, hv1, hv2⟩ := own_slice_cap HO.out
        subst hv
        have hwr := HB.out.size
        have hs0 : h < W0.heap.size := by have := HS0.out; omega
        have hzl2 := HZL.out
        by_cases hlt2 : j < n3
        · have q1 : (0 : Int) ≤ (j : Int) := by omega
          have q3 : (j : Int) < (n3 : Int) := by omega
          have HBw := Lib.hid (below_then HB0.out HB.out)
          obtain ⟨ad, x, rfl, hab, Hx, HLc⟩ := Ix.reads_cells (enc := Src.lc) (m := 2) (fun _ => rfl) HLe2.out (HRL.out.below HBw.out) hlt2
          obtain ⟨xa, hxa⟩ : ∃ t, Src.bts x.1 = t := ⟨_, rfl⟩
          obtain ⟨xb, hxb⟩ : ∃ t, Src.bts x.2 = t := ⟨_, rfl⟩
          have c0 : wr.cell? (ad.add (j * 2)) = some (.string xa) := by rw [← hxa]; exact HLc.out 0 _ rfl
          have c1 : wr.cell? ⟨(ad.add (j * 2)).block, (ad.add (j * 2)).off + 1, none⟩ = some (.string xb) := by rw [← hxb]; exact HLc.out 1 _ rfl
          have hzk : LN[j]? = some xb := by
            rw [← HLN.out, List.getElem?_map, Hx.out, ← hxb]
            rfl
          have HTK := Lib.hid (Src.more_one hzk)
          obtain ⟨kj, hkj⟩ : ∃ q, ZN.length + j = q := ⟨_, rfl⟩
          have HKJ := Lib.hid hkj
          rw [hkj] at HO ⊢
          have HAp := fun {ops : Array Oper} {rest : List Oper} {o : Oper} {a : Act} {Q : Exit → Act → World → Prop} (hgd : o.guard = none) (ho : o.op = .call { callee := .builtin .append, args := #[.tmp 36, .tmp 39], argTypes := #[34, 34] }) (hs : a.eval (.tmp 36) = .slice vA kj vc) (hx : a.eval (.tmp 39) = .slice (some ⟨wr.heap.size + 1, 0, none⟩) 1 1) h => wpList_append_any (P := Tryd.prog) (ops := ops) (rest := rest) (o := o) (a := a) (Q := Q) ((wr.alloc (.cells #[.string xa, .string xb] 48)).alloc (.cells #[.string xb] 9)) hgd (.tmp 36) (.tmp 39) 34 ho W0.heap.size 9 i0 _ 1 16 Tryd.underlying34 HI.out.1 HI.out.2.1 HI.out.2.2.1 HI.out.2.2.2 rfl (by decide) _ kj _ hs ((HO.out.alloc _).alloc _) ((wr.alloc (.cells #[.string xa, .string xb] 48)).alloc (.cells #[.string xb] 9)).heap.size _ 1 1 _ hx (er_reads (wr.alloc (.cells #[.string xa, .string xb] 48)) (wr.heap.size + 1) [xb] 9 (by simp)) (by simp [Value.oneCell']) (by unfold maxLen; omega) (by omega) (by simp; omega) h
          clear hxa hxb hzk
          go_wp2_with (at_builtin; refine HAp rfl rfl rfl rfl ?_; intro v9' w9 hown9 hg9 hat9)
          have HA9 := Lib.hid (Sc.At.grownO ((HA.out.allocO (.cells #[.string xa, .string xb] 48)).allocO (.cells #[.string xb] 9)) hg9 (fun kk hkk => by have := (HO.out.lt kk hkk).1; omega))
          have HO9 := Lib.hid (show w9.ownsRow W0.heap.size 9 1 v9' (ZN.length + (j + 1)) (ZN.map Value.string ++ (LN.take (j + 1)).map Value.string) by rw [HTK.out, ← List.append_assoc, ← Nat.add_assoc, HKJ.out]; exact hown9)
          have HB9 := Lib.hid (show Below W0.heap.size W0 w9 from ((HB.out.alloc HB.out.size _).alloc (by simp; omega) _).grown hg9 (by simp; omega) (fun kk hkk => (HO.out.lt kk hkk).1))
          clear hown9 hg9 hat9 HAp c0 c1 hs0 hzl2 hkj
          go_wp2
          go_roundw
          case rel => exact ⟨j + 1, by omega, by go_num, HO9.out, HA9.out, HB9.out⟩
          case measure => simp [intOf]; omega
        · have q3 : ¬ (j : Int) < (n3 : Int) := by omega
          have hjn : j = n3 := by omega
          subst hjn
          have he : ZN.length + j = m := by omega
          clear hs0
          go_wp2
          go_ret
          refine ⟨vA, vc, rfl, below_then HB0.out HB.out, by omega, hv2, ?_⟩
          have := HO.out
          rw [List.take_of_length_le (by rw [HLL.out]; exact Nat.le_refl _), he] at this
          exact ⟨this.1, this.2.imp id fun ⟨g, cap, cur, q1, q2, q3⟩ => ⟨g, cap, cur, q1, by have := HS0.out; have := HH.out; omega, q3⟩⟩
/-- source.Names. -/
theorem srcNames_any (s : Src.S) (rv zv lv : Value) (evs : List Value) (w : World) (hR : Src.SrcR w w.heap.size s rv zv lv evs) (hL : Src.Lims s) :
    Calls Tryd.prog 17 #[.agg #[rv, zv, lv]] w fun e w' => ∃ A c, e = .returned (.slice A (s.zones.length + s.links.length) c) ∧ Below w.heap.size w w' ∧ s.zones.length + s.links.length ≤ c ∧ c ≤ maxLen ∧ Reads w' w'.heap.size 1 A (s.zones.length + s.links.length) ((Src.names s).map Value.string) :=
  (srcNames_own s rv zv lv evs w hR hL).mono fun _ _ ⟨A, c, h1, h2, h3, h4, h5⟩ => ⟨A, c, h1, h2, h3, h4, Reads.of_own h5⟩
end Go.Proofs.YtajcgoinhpengaaDoor

/- link.of: a finder for a source. -/
namespace Go.Proofs.YtajcgoinhpengaaDoor
open Go.RowKit

namespace Lk
def zn (s : Src.S) : List ByteArray := s.zones.map fun z => Src.bts z.1
def ln (s : Src.S) : List ByteArray := s.links.map fun k => Src.bts k.2
def tg (s : Src.S) : List ByteArray := s.links.map fun k => Src.bts k.1
end Lk
theorem of1_any (s : Src.S) (rv zv lv : Value) (evs : List Value) (g : Nat) (w : World) (hR : Src.SrcR w w.heap.size s rv zv lv evs) (hA : At w g [rv, zv, lv]) : Lk.Tells 59 #[.pointer (some ⟨g, 0, none⟩)] (Lk.zn s) w := by
  intro W i hold hi
  obtain ⟨A, c, rfl, hn, hc, hr⟩ := hR.zones
  have hlen : (s.zones.zip evs).length = s.zones.length := by rw [List.length_zip, hR.len]; omega
  have hi' : i < s.zones.length := by unfold Lk.zn at hi; simpa using hi
  obtain ⟨ad, x, rfl, hab, Hx, HL⟩ := Ix.reads_cells (enc := Src.zc) (m := 2) (fun _ => rfl) hlen hr hi'
  have hx : (Lk.zn s).getD i ⟨#[]⟩ = Src.bts x.1.1 := by
    have h1 := Hx.out
    rw [List.getElem?_zip_eq_some] at h1
    unfold Lk.zn
    rw [List.getD, List.getElem?_map, h1.1]
    rfl
  rw [hx]
  obtain ⟨b, hb⟩ : ∃ b, Src.bts x.1.1 = b := ⟨_, rfl⟩
  have c0 : W.cell? (ad.add (i * 2)) = some (.string b) := by
    have h1 := HL.out 0 _ rfl
    rw [← hb]
    exact (hold _ (by rw [block_of_add]; exact hab)).trans h1
  have c1 : W.cell? ⟨g, 1, none⟩ = some (.slice (some ad) s.zones.length c) := (hold ⟨g, 1, none⟩ hA.lt).trans (hA.cell 1 _ rfl)
  obtain ⟨n, hn'⟩ : ∃ n, s.zones.length = n := ⟨_, rfl⟩
  rw [hn'] at c1 hi'
  rw [hb]
  have q1 : (0 : Int) ≤ (i : Int) := by omega
  have q2 : (i : Int) < (n : Int) := by omega
  clear hR hA hold hi hn hc hr hlen Hx HL hx hb hn' hab
  show Calls _ _ #[.int .i64 (i : Int), .pointer (some ⟨g, 0, none⟩)] _ _
  go_enter Tryd.func59, Tryd.ntmps59
  go_wp2
  go_ret
  exact ⟨rfl, rfl⟩
theorem of2_any (s : Src.S) (rv zv lv : Value) (evs : List Value) (g : Nat) (w : World) (hR : Src.SrcR w w.heap.size s rv zv lv evs) (hA : At w g [rv, zv, lv]) : Lk.Tells 60 #[.pointer (some ⟨g, 0, none⟩)] (Lk.ln s) w := by
  intro W i hold hi
  obtain ⟨A, c, rfl, hn, hc, hr⟩ := hR.links
  have hi' : i < s.links.length := by unfold Lk.ln at hi; simpa using hi
  obtain ⟨ad, x, rfl, hab, Hx, HL⟩ := Ix.reads_cells (enc := Src.lc) (m := 2) (fun _ => rfl) rfl hr hi'
  have hx : (Lk.ln s).getD i ⟨#[]⟩ = Src.bts x.2 := by
    unfold Lk.ln
    rw [List.getD, List.getElem?_map, Hx.out]
    rfl
  rw [hx]
  obtain ⟨b, hb⟩ : ∃ b, Src.bts x.2 = b := ⟨_, rfl⟩
  have c0 : W.cell? ⟨(ad.add (i * 2)).block, (ad.add (i * 2)).off + 1, none⟩ = some (.string b) := by
    have h1 := HL.out 1 _ rfl
    rw [← hb]
    exact (hold ⟨(ad.add (i * 2)).block, (ad.add (i * 2)).off + 1, none⟩ (by rw [block_of_add]; exact hab)).trans h1
  have c1 : W.cell? ⟨g, 2, none⟩ = some (.slice (some ad) s.links.length c) := (hold ⟨g, 2, none⟩ hA.lt).trans (hA.cell 2 _ rfl)
  obtain ⟨n, hn'⟩ : ∃ n, s.links.length = n := ⟨_, rfl⟩
  rw [hn'] at c1 hi'
  rw [hb]
  have q1 : (0 : Int) ≤ (i : Int) := by omega
  have q2 : (i : Int) < (n : Int) := by omega
  clear hR hA hold hi hn hc hr Hx HL hx hb hn' hab
  show Calls _ _ #[.int .i64 (i : Int), .pointer (some ⟨g, 0, none⟩)] _ _
  go_enter Tryd.func60, Tryd.ntmps60
  go_wp2
  go_ret
  exact ⟨rfl, rfl⟩
/-- A finder in block g: its links, the places of zones and of links, and what is known. -/
structure Lk.Fr (s : Src.S) (lv : Value) (w : World) (g bz bl bk n : Nat) (K : Mp.Fn) : Prop where
  at_ : At w g [lv, .map (some bz), .map (some bl), .map (some bk)]
  z : MapF Tryd.prog 9 w bz s.zones.length (Lk.places (Lk.zn s))
  l : MapF Tryd.prog 9 w bl s.links.length (Lk.places (Lk.ln s))
  k : MapF Tryd.prog 9 w bk n K
  ne1 : bk ≠ bz
  ne2 : bk ≠ bl
/-- What link.of hands back. -/
def Lk.OfRet (s : Src.S) (lv : Value) (w : World) (e : Ending) (w' : World) : Prop :=
  ∃ g bz bl bk, e = .returned (.pointer (some ⟨g, 0, none⟩)) ∧ Lk.Fr s lv w' g bz bl bk 0 (fun _ => none) ∧ (w.heap.size ≤ g ∧ w.heap.size ≤ bk) ∧ Below w.heap.size w w'
section
variable {w0 W W' : World} {h : Nat} {a b c : Value}
theorem Lk.sw_alloc (hs : W.cell? ⟨h, 0, none⟩ = some a ∧ W.cell? ⟨h, 1, none⟩ = some b ∧ W.cell? ⟨h, 2, none⟩ = some c ∧ Hid (h < w0.heap.size ∧ Below w0.heap.size w0 W)) (o : Obj) :
    (W.alloc o).cell? ⟨h, 0, none⟩ = some a ∧ (W.alloc o).cell? ⟨h, 1, none⟩ = some b ∧ (W.alloc o).cell? ⟨h, 2, none⟩ = some c ∧ Hid (h < w0.heap.size ∧ Below w0.heap.size w0 (W.alloc o)) := by
  obtain ⟨h0, h1, h2, hl, hb⟩ := hs
  have hlt : h < W.heap.size := Nat.lt_of_lt_of_le hl hb.size
  exact ⟨(World.cell?_alloc_lt W o ⟨h, 0, none⟩ hlt).trans h0, (World.cell?_alloc_lt W o ⟨h, 1, none⟩ hlt).trans h1, (World.cell?_alloc_lt W o ⟨h, 2, none⟩ hlt).trans h2, hl, hb.alloc hb.size o⟩
theorem Lk.sw_below (hs : W.cell? ⟨h, 0, none⟩ = some a ∧ W.cell? ⟨h, 1, none⟩ = some b ∧ W.cell? ⟨h, 2, none⟩ = some c ∧ Hid (h < w0.heap.size ∧ Below w0.heap.size w0 W)) (k : Below W.heap.size W W') :
    W'.cell? ⟨h, 0, none⟩ = some a ∧ W'.cell? ⟨h, 1, none⟩ = some b ∧ W'.cell? ⟨h, 2, none⟩ = some c ∧ Hid (h < w0.heap.size ∧ Below w0.heap.size w0 W') := by
  obtain ⟨h0, h1, h2, hl, hb⟩ := hs
  have hlt : h < W.heap.size := Nat.lt_of_lt_of_le hl hb.size
  exact ⟨(k.cell (p := ⟨h, 0, none⟩) hlt).trans h0, (k.cell (p := ⟨h, 1, none⟩) hlt).trans h1, (k.cell (p := ⟨h, 2, none⟩) hlt).trans h2, hl, hb.trans (k.mono hb.size)⟩
end
theorem Lk.of_end {s : Src.S} {lv a b c : Value} {w w0 WX W9 : World} {h g bz bl bk : Nat} (hg : g = WX.heap.size) (hw : Below w.heap.size w w0) (hh : w.heap.size = h) (h9 : W9 = WX.alloc (.cells #[lv, .map (some bz), .map (some bl), .map (some bk)] 120))
    (hS : W9.cell? ⟨h, 0, none⟩ = some a ∧ W9.cell? ⟨h, 1, none⟩ = some b ∧ W9.cell? ⟨h, 2, none⟩ = some c ∧ Hid (h < w0.heap.size ∧ Below w0.heap.size w0 W9))
    (hz : MapF Tryd.prog 9 WX bz (Lk.zn s).length (Lk.places (Lk.zn s))) (hl : MapF Tryd.prog 9 WX bl (Lk.ln s).length (Lk.places (Lk.ln s))) (hk : MapF Tryd.prog 9 WX bk 0 (fun _ => none)) (h1 : bk ≠ bz) (h2 : bk ≠ bl) (h3 : w0.heap.size ≤ bk) :
    Lk.OfRet s lv w (.returned (.pointer (some ⟨g, 0, none⟩))) W9 := by
  subst hg h9
  have ez : (Lk.zn s).length = s.zones.length := by unfold Lk.zn; simp
  have el : (Lk.ln s).length = s.links.length := by unfold Lk.ln; simp
  rw [ez] at hz
  rw [el] at hl
  have hb := hw.trans (hS.2.2.2.2.mono hw.size)
  have hs := hS.2.2.2.2.size
  have hlt := hS.2.2.2.1
  rw [World.size_alloc] at hs
  have hsz := hw.size
  exact ⟨WX.heap.size, bz, bl, bk, rfl, ⟨At.new WX #[lv, .map (some bz), .map (some bl), .map (some bk)] 120, hz.alloc _, hl.alloc _, hk.alloc _, h1, h2⟩, ⟨by omega, by omega⟩, hb⟩
set_option maxRecDepth 100000 in
set_option maxHeartbeats 4000000 in
theorem linkOf_any (s : Src.S) (rv zv lv : Value) (evs : List Value) (w : World) (hR : Src.SrcR w w.heap.size s rv zv lv evs) (hL : s.zones.length ≤ 1000000 ∧ s.links.length ≤ 1000000) (hsz : ∀ x ∈ Lk.zn s, x.size ≤ maxLen) (hsl : ∀ x ∈ Lk.ln s, x.size ≤ maxLen) :
    Calls Tryd.prog 39 #[.agg #[rv, zv, lv]] w (Lk.OfRet s lv w) := by
  have hz := fun (W : World) (h : Nat) (hR : Src.SrcR W W.heap.size s rv zv lv evs) (hA : At W h [rv, zv, lv]) => places_any (Lk.zn s) (by unfold Lk.zn; simpa using hL.1) hsz 59 #[.pointer (some ⟨h, 0, none⟩)] (enters_of Tryd.func59 (by kernel_rfl) rfl) W (of1_any s rv zv lv evs h W hR hA)
  have hl := fun (W : World) (h : Nat) (hR : Src.SrcR W W.heap.size s rv zv lv evs) (hA : At W h [rv, zv, lv]) => places_any (Lk.ln s) (by unfold Lk.ln; simpa using hL.2) hsl 60 #[.pointer (some ⟨h, 0, none⟩)] (enters_of Tryd.func60 (by kernel_rfl) rfl) W (of2_any s rv zv lv evs h W hR hA)
  have ez : (Lk.zn s).length = s.zones.length := by unfold Lk.zn; simp
  have el : (Lk.ln s).length = s.links.length := by unfold Lk.ln; simp
  simp only [ez] at hz
  simp only [el] at hl
  have hA0 := At.new w #[rv, zv, lv] 27
  have hB0 := (Below.refl w.heap.size w).alloc (Nat.le_refl _) (.cells #[rv, zv, lv] 27)
  have hR0 := (hR.below hB0).more hB0.size
  obtain ⟨h, hh⟩ : ∃ h, w.heap.size = h := ⟨_, rfl⟩
  obtain ⟨rA, rc, rfl, _⟩ := hR.rules
  obtain ⟨zA, zc, rfl, _⟩ := hR.zones
  obtain ⟨lA, lc, rfl, _⟩ := hR.links
  obtain ⟨nr, hnr⟩ : ∃ n, s.rules.length = n := ⟨_, rfl⟩
  obtain ⟨nz, hnz⟩ : ∃ n, s.zones.length = n := ⟨_, rfl⟩
  obtain ⟨nl, hnl⟩ : ∃ n, s.links.length = n := ⟨_, rfl⟩
  rw [hh] at hA0
  simp only [hnr, hnz, hnl] at hz hl hA0 hR0 hB0 ⊢
  obtain ⟨w0, hw0⟩ : ∃ x, w.alloc (.cells #[.slice rA nr rc, .slice zA nz zc, .slice lA nl lc] 27) = x := ⟨_, rfl⟩
  rw [hw0] at hA0 hB0 hR0
  have HZ : Hid (∀ W, W.cell? ⟨h, 0, none⟩ = some (.slice rA nr rc) ∧ W.cell? ⟨h, 1, none⟩ = some (.slice zA nz zc) ∧ W.cell? ⟨h, 2, none⟩ = some (.slice lA nl lc) ∧ Hid (h < w0.heap.size ∧ Below w0.heap.size w0 W) →
      Calls Tryd.prog 58 #[.int .i64 (nz : Int), .func (.func 59) #[] #[.pointer (some ⟨h, 0, none⟩)]] W (Lk.PlRet (Lk.zn s) W)) := fun W hs => hz W h (hR0.call hs.2.2.2.2) (hA0.call hs.2.2.2.2)
  have HL : Hid (∀ W, W.cell? ⟨h, 0, none⟩ = some (.slice rA nr rc) ∧ W.cell? ⟨h, 1, none⟩ = some (.slice zA nz zc) ∧ W.cell? ⟨h, 2, none⟩ = some (.slice lA nl lc) ∧ Hid (h < w0.heap.size ∧ Below w0.heap.size w0 W) →
      Calls Tryd.prog 58 #[.int .i64 (nl : Int), .func (.func 60) #[] #[.pointer (some ⟨h, 0, none⟩)]] W (Lk.PlRet (Lk.ln s) W)) := fun W hs => hl W h (hR0.call hs.2.2.2.2) (hA0.call hs.2.2.2.2)
  have S0 : w0.cell? ⟨h, 0, none⟩ = some (.slice rA nr rc) ∧ w0.cell? ⟨h, 1, none⟩ = some (.slice zA nz zc) ∧ w0.cell? ⟨h, 2, none⟩ = some (.slice lA nl lc) ∧ Hid (h < w0.heap.size ∧ Below w0.heap.size w0 w0) :=
    ⟨hA0.cell 0 _ rfl, hA0.cell 1 _ rfl, hA0.cell 2 _ rfl, hA0.lt, Below.refl _ _⟩
  have HW0 := Lib.hid hw0
  have HH := Lib.hid hh
  have HB0 := Lib.hid hB0
  have HE := Lib.hid (And.intro (ez.trans hnz) (And.intro (el.trans hnl) (And.intro hnz hnl)))
  have HS0 := Lib.hid S0
  clear hz hl hA0 hR0 hB0 hw0 hh ez el hnr hnz hnl hR hsz hsl hL S0
  have hmk := @run_makeMap Tryd.prog
  go_enter Tryd.func39, Tryd.ntmps39
  go_wp2_with fail
  rw [HW0.out, HH.out]
  have S1 : w0.drew.cell? ⟨h, 0, none⟩ = some (.slice rA nr rc) ∧ w0.drew.cell? ⟨h, 1, none⟩ = some (.slice zA nz zc) ∧ w0.drew.cell? ⟨h, 2, none⟩ = some (.slice lA nl lc) ∧ Hid (h < w0.heap.size ∧ Below w0.heap.size w0 w0.drew) := ⟨HS0.out.1, HS0.out.2.1, HS0.out.2.2.1, HS0.out.2.2.2.1, (Below.refl _ _).drew⟩
  go_region_held3 (fun w' => w'.cell? ⟨h, 0, none⟩ = some (.slice rA nr rc) ∧ w'.cell? ⟨h, 1, none⟩ = some (.slice zA nz zc) ∧ w'.cell? ⟨h, 2, none⟩ = some (.slice lA nl lc) ∧ Hid (h < w0.heap.size ∧ Below w0.heap.size w0 w')) (first | assumption | exact S1 | exact Lk.sw_alloc (by assumption) _ | exact Lk.sw_below (by assumption) hbq)
    (first | (go_at_call_of 58 nz; refine (HZ.out _ (by assumption)).mono ?_; rintro e wz ⟨bz, rfl, hz0, hMz, hbq⟩; have hbz := hbq) | (go_at_call_of 58 nl; refine (HL.out _ (by assumption)).mono ?_; rintro e wl ⟨bl, rfl, hl0, hMl, hbq⟩; have hbl := hbq))
  all_goals
    go_wp2
    go_ret
    have d0 : w0.drew.heap.size = w0.heap.size := rfl
    have d5 : (w0.alloc (.map #[] 0)).drew.heap.size = w0.heap.size + 1 := by
      show (w0.alloc (.map #[] 0)).heap.size = _
      rw [World.size_alloc]
    have d1 := hMz.lt
    have d2 := hMl.lt
    have d3 := hbz.size
    have d4 := hbl.size
    try simp only [World.size_alloc] at d3
    try simp only [World.size_alloc] at d4
    try simp only [World.size_alloc] at hz0
    try simp only [World.size_alloc] at hl0
    refine Lk.of_end (w0 := w0) (h := h) ?_ HB0.out HH.out rfl (by assumption) ?_ ?_ ?_ ?_ ?_ ?_
    · first | rfl | (simp; done)
    · repeat (first | exact hMz | refine MapF.alloc ?_ _ | refine MapF.below ?_ hbl | refine MapF.below ?_ hbz)
    · repeat (first | exact hMl | refine MapF.alloc ?_ _ | refine MapF.below ?_ hbl | refine MapF.below ?_ hbz)
    · repeat (first | exact MapF.made _ | refine MapF.alloc ?_ _ | refine MapF.below ?_ hbl | refine MapF.below ?_ hbz)
    · omega
    · omega
    · omega
end Go.Proofs.YtajcgoinhpengaaDoor
