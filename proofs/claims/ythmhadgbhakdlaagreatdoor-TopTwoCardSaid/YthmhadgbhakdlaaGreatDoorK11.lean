/- intake: (*reader).value of a right value's line. -/
import Derived.Test.YthmhadgbhakdlaaGreatDoorK09
import Derived.Test.YthmhadgbhakdlaaGreatDoorK10
import Derived.Deep.AppendLies
import Derived.Deep.RegionLaw
import Derived.Deep.AppendSrc
import Derived.Laws.IdiomCopy

namespace Go.Proofs.YthmhadgbhakdlaaGreatDoor
open Go.RowKit
open Go.Maps Go.WideShapes Go.ChangeShapes Go.WideMaps

namespace Ink
open Em
theorem add_at (g j : Nat) : ((⟨g, 0, none⟩ : Addr).add j).block = g ∧ ((⟨g, 0, none⟩ : Addr).add j).off = j := by
  unfold Addr.add
  split
  · subst_vars; exact ⟨rfl, rfl⟩
  · simp
/-- The last key's values, where their slice lies. -/
theorem Rd.last {w : World} {b pm np gk ck : Nat} {Ps : List ByteArray} {nmv : Value} {st0 : List Hv.K} {k : Hv.K} {evs0 : List Value} {ev : Value} (h : Rd w b pm np Ps nmv (st0 ++ [k]) (.slice (some ⟨gk, 0, none⟩) (st0.length + 1) ck) (evs0 ++ [ev])) :
    w.cell? ⟨gk, st0.length * 2 + 1, none⟩ = some ev ∧ w.frozen? ⟨gk, st0.length * 2 + 1, none⟩ = false ∧ gk < w.heap.size ∧ w.ownsRow (b + 1) 55 5 ev k.vals.length (k.vals.flatMap Hv.V.cells) := by
  have hl : evs0.length = st0.length := by have := h.len; rw [List.length_append, List.length_append] at this; simpa using this
  have hz : (st0 ++ [k]).zip (evs0 ++ [ev]) = st0.zip evs0 ++ [(k, ev)] := by rw [List.zip_append hl.symm]; rfl
  have hk := h.keys
  rw [List.length_append, List.length_singleton, hz, List.flatMap_append] at hk
  have hr := Reads.of_own hk
  obtain ⟨ad, e, hb, hc⟩ := hr.2 (by omega)
  have e2 : (⟨gk, 0, none⟩ : Addr) = ad := Option.some.inj e
  subst e2
  have h1 := hc (st0.length * 2 + 1) ev (by
    rw [List.getElem?_append_right (by rw [kc_len, List.length_zip, hl]; omega), kc_len, List.length_zip, hl, Nat.min_self, Nat.add_sub_cancel_left]
    rfl)
  have hadd : (⟨gk, 0, none⟩ : Addr).add (st0.length * 2 + 1) = ⟨gk, st0.length * 2 + 1, none⟩ := by unfold Addr.add; rw [if_neg (by omega)]; simp
  rw [hadd] at h1
  exact ⟨h1, hk.frozenAt _, hb, h.vals (k, ev) (by rw [hz]; exact List.mem_append_right _ (List.mem_singleton.2 rfl))⟩
/-- A look into a map. -/
theorem run_look0 {P : Program} {k t e : TypeId} {w : World} {b n : Nat} {f : Mp.Fn} {s : ByteArray} {z : Value} (hk : P.underlying k = some .string) (ht : P.underlying t = some (.map k e)) (hz : (zeroValue e).run P w = .ok z w) (hs : s.size ≤ maxLen) (h : MapF P k w b n f) :
    (Instr.lookup t (.map (some b)) (.string s) true).run P w = .ok (.tuple #[(f s).getD z, .bool (f s).isSome]) w := by
  obtain ⟨D, hD, hf⟩ := h
  obtain ⟨v, ps, hrun, hv⟩ := hD.look_ok (string_keyed hk) ht hz (zd := .held z) (zp := []) rfl (keyOf_string_mk hk hs)
  have hv' : Mp.rv v = some (D.atKey (Mp.kl s) (.held z), ps) := hv
  rw [(hf s).2 z] at hv'
  have e1 : v = (f s).getD z := by
    unfold Mp.rv at hv'
    injection hv' with hv1
    injection hv1 with hv1 _
    injection hv1
  have e2 : Maps.has D (Mp.kl s) = (f s).isSome := (hf s).1
  have hrun' : (Instr.lookup t (.map (some b)) (.string s) true).run P w = .ok (.tuple #[v, .bool (Maps.has D (Mp.kl s))]) w := hrun
  rw [hrun', e1, e2]
theorem run_look {w : World} {b n : Nat} {l : List ByteArray} {s : ByteArray} (hs : s.size ≤ maxLen) (h : MapF Tryz.prog 9 w b n (Hv.sf l)) {q : Bool} (hq : Hv.has l s = q) : (Instr.lookup 104 (.map (some b)) (.string s) true).run Tryz.prog w = .ok (.tuple #[.agg #[], .bool q]) w := by
  have h1 := run_look0 Tryz.underlying9 Tryz.underlying104 (Hv.zero_unit w) hs h
  rw [(Hv.sf_get l s).1, (Hv.sf_get l s).2, hq] at h1
  exact h1
/-- What (*reader).value leaves, where all is right. -/
def VRet (b pm np nm nn gk ck : Nat) (Ps : List ByteArray) (st0 : List Hv.K) (k : Hv.K) (evs0 : List Value) (v : Hv.V) (w w' : World) : Prop :=
  (∃ ev', Rd w' b pm np Ps (.map (some nm)) (st0 ++ [⟨k.path, k.vals ++ [v]⟩]) (.slice (some ⟨gk, 0, none⟩) (st0.length + 1) ck) (evs0 ++ [ev']) ∧ MapF Tryz.prog 9 w' nm (nn + 1) (Hv.sf (Hv.names (k.vals ++ [v])))) ∧ Below (b - 1) w w'
theorem val_info : (Tryz.prog.info? 55).map (fun i => (i.zero, i.size, i.bytes)) = some (some (.agg #[.string ⟨#[]⟩, .int .u8 0, .string ⟨#[]⟩, .int .u32 0, .string ⟨#[]⟩]), 5, 64) := by kernel_rfl
end Ink
namespace Ink
/-- The slots of the look into the names. -/
def sl7 : Nat → Nat
  | 0 => 43
  | 1 => 44
  | 2 => 45
  | 3 => 46
  | 4 => 47
  | 5 => 48
  | 6 => 49
  | 7 => 42
  | 8 => 50
  | 9 => 51
  | 10 => 10
  | 11 => 1000
  | _ => 11
def Q7 (b nm bv : Nat) (vn : ByteArray) : Nat → Value → World → Prop
  | 0, v, _ => v = .pointer (some ⟨b, 0, none⟩)
  | 1, v, _ => v = .pointer (some ⟨b, 0, none⟩)
  | 2, v, _ => v = .pointer (some ⟨b, 2, none⟩)
  | 3, v, _ => v = .map (some nm)
  | 4, v, _ => v = .pointer (some ⟨bv, 0, none⟩)
  | 5, v, _ => v = .string vn
  | 6, v, _ => v = .tuple #[.agg #[], .bool false]
  | 7, v, _ => v = .tuple #[.agg #[], .bool false]
  | 8, v, _ => v = .agg #[]
  | 9, v, _ => v = .bool false
  | 10, v, w => ∃ g, v = .pointer (some ⟨g, 0, none⟩) ∧ g < w.heap.size
  | 11, _, _ => True
  | _, v, _ => v = .bool false
theorem Q7_mono {b nm bv : Nat} {vn : ByteArray} : ∀ k v W W', Q7 b nm bv vn k v W → Below W.heap.size W W' → Q7 b nm bv vn k v W' := by
  intro k v W W' h hb
  unfold Q7 at h ⊢
  split at h
  all_goals first | exact h | (obtain ⟨g, h1, h2⟩ := h; exact ⟨g, h1, Nat.lt_of_lt_of_le h2 hb.size⟩)
end Ink
namespace Rg
open Od
/-- An operation without a slot of its own has run. -/
theorem J.same {n : Nat} {sl : Nat → Nat} {P : Nat → Value → World → Prop} {w0 w w' : World} {u0 u : Nat → Value} {b : Nat → Bool} (h : J n sl P w0 u0 b u w) (hm : ∀ k v W W', P k v W → Below W.heap.size W W' → P k v W') {k : Nat} (hb : Below w.heap.size w w') (hv : ∀ v, P k v w') : J n sl P w0 u0 (upd b k true) u w' := by
  refine ⟨below_then h.below hb, h.old, fun j hj hbj => ?_⟩
  by_cases hjk : j = k
  · subst hjk; exact hv _
  · have e1 : b j = true := by
      unfold upd at hbj
      rwa [if_neg hjk] at hbj
    exact hm _ _ _ _ (h.val j hj e1) hb
end Rg
set_option maxHeartbeats 16000000 in
set_option maxRecDepth 200000 in
theorem inValue_ok (m : Bool) (vn : ByteArray) (kd : Int) (tx : ByteArray) (nu : Int) (by_ : ByteArray) (hv : Hv.valB ⟨vn, kd, tx, nu, by_⟩ = true) (ho : Hv.V.Ok ⟨vn, kd, tx, nu, by_⟩) (w : World) (b pm np nm nn gk ck : Nat) (Ps : List ByteArray) (st0 : List Hv.K) (k : Hv.K) (evs0 : List Value) (ev : Value)
    (hR : Ink.Rd w b pm np Ps (.map (some nm)) (st0 ++ [k]) (.slice (some ⟨gk, 0, none⟩) (st0.length + 1) ck) (evs0 ++ [ev])) (hM : MapF Tryz.prog 9 w nm nn (Hv.sf (Hv.names k.vals))) (hnp : nm ≠ pm) (hnb : b < nm) (hnn : nn ≤ 100000) (hh : Hv.has (Hv.names k.vals) vn = false) (hkl : k.vals.length < 512) (hst : st0.length ≤ 100000) :
    Calls Tryz.prog 102 #[.pointer (some ⟨b, 0, none⟩), .string (Em.bts (Ink.vlineM m ⟨vn, kd, tx, nu, by_⟩))] w fun e w' => e = .returned (.tuple #[.int .i64 0, .int .i64 0]) ∧ Ink.VRet b pm np nm nn gk ck Ps st0 k evs0 ⟨vn, kd, tx, nu, by_⟩ w w' := by
  have HV := Lib.hid (inValue_any m vn kd tx nu by_ hv ho w)
  obtain ⟨LN, hLN⟩ : ∃ L, Em.bts (Ink.vlineM m ⟨vn, kd, tx, nu, by_⟩) = L := ⟨_, rfl⟩
  have hvs : vn.size ≤ maxLen := ho.name
  have hnn2 : nn < maxLen := by unfold maxLen; omega
  rw [hLN] at HV ⊢
  obtain ⟨n0, hn0⟩ : ∃ n, st0.length = n := ⟨_, rfl⟩
  have HN0 := Lib.hid hn0
  obtain ⟨ad, had⟩ : ∃ ad : Addr, (⟨gk, 0, none⟩ : Addr) = ad := ⟨_, rfl⟩
  have HAd := Lib.hid had
  rw [hn0] at hR hst
  have hRa := hR
  rw [had] at hRa
  have HR := Lib.hid hR
  have HM := Lib.hid hM
  have HH := Lib.hid hh
  have HKl := Lib.hid hkl
  have HBb := Lib.hid (Ink.b1 hR.lt)
  have HBl := Lib.hid hR.lt
  have c0 := hRa.at_.cell 0 _ rfl
  have z1 := hRa.lt
  have q0 : (((n0 : Int) + 1) == 0) = false := by rw [beq_eq_false_iff_ne]; omega
  have q1 : IntKind.i64.wrap ((n0 : Int) + 1 - 1) = (n0 : Int) := by rw [IntKind.wrap_i64]; omega
  have q2 : (0 : Int) ≤ (n0 : Int) := by omega
  have q3 : (n0 : Int) < (n0 : Int) + 1 := by omega
  clear hLN hn0 had hR hM hh hkl hRa hv ho
  go_enter Tryz.func102, Tryz.ntmps102
  go_wp2_with fail
  refine HV.out.mono ?_
  rintro e w2 ⟨rfl, hb⟩
  have HR3 := Lib.hid ((HR.out.call hb).call (Hv.bl1 w2 (.cells #[.string vn, .int .u8 kd, .string tx, .int .u32 nu, .string by_] 55)))
  have HM3 := Lib.hid ((HM.out.below hb).below (Hv.bl1 w2 (.cells #[.string vn, .int .u8 kd, .string tx, .int .u32 nu, .string by_] 55)))
  have HA3 : Hid (At (w2.alloc (.cells #[.string vn, .int .u8 kd, .string tx, .int .u32 nu, .string by_] 55)) w2.heap.size [.string vn, .int .u8 kd, .string tx, .int .u32 nu, .string by_]) := At.new _ _ _
  have HB3 : Hid (Below (b - 1) w (w2.alloc (.cells #[.string vn, .int .u8 kd, .string tx, .int .u32 nu, .string by_] 55))) := (hb.mono (Nat.le_of_lt HBb.out)).alloc (Ink.bs (hb.mono (Nat.le_of_lt HBb.out)) HBb.out) _
  have hbl : b < w2.heap.size := Nat.lt_of_lt_of_le HBl.out hb.size
  have HBv := Lib.hid hbl
  have c0' : w2.cell? ⟨b, 0, none⟩ = some (.slice (some ad) (n0 + 1) ck) := by
    have := (HR.out.call hb).at_.cell 0 _ rfl
    rw [HAd.out] at this
    exact this
  clear hb c0 z1
  go_upto_region 6 with fail
  obtain ⟨bv, hbv⟩ : ∃ x, w2.heap.size = x := ⟨_, rfl⟩
  obtain ⟨W3, hW3⟩ : ∃ W, w2.alloc (.cells #[.string vn, .int .u8 kd, .string tx, .int .u32 nu, .string by_] 55) = W := ⟨_, rfl⟩
  rw [hW3, hbv] at HA3
  rw [hW3] at HR3 HM3 HB3 ⊢
  rw [hbv] at HBv hbl ⊢
  have c0 : W3.cell? ⟨b, 0, none⟩ = some (.slice (some ad) (n0 + 1) ck) := by
    have := HR3.out.at_.cell 0 _ rfl
    rw [HAd.out] at this
    exact this
  clear hW3 hbv c0'
  go_quiet (fail)
  obtain ⟨W4, hW4⟩ : ∃ W, W3.drewN nq = W := ⟨_, rfl⟩
  have HR4 : Hid (Ink.Rd W4 b pm np Ps (.map (some nm)) (st0 ++ [k]) (.slice (some ⟨gk, 0, none⟩) (n0 + 1) ck) (evs0 ++ [ev])) := by rw [← hW4]; exact ⟨HR3.out.at_.drew ⟨nq, rfl⟩, HR3.out.keys, HR3.out.len, HR3.out.vals, HR3.out.apart, HR3.out.pair, HR3.out.map.drewN nq, HR3.out.pmb⟩
  have HM4 : Hid (MapF Tryz.prog 9 W4 nm nn (Hv.sf (Hv.names k.vals))) := by rw [← hW4]; exact HM3.out.drewN nq
  have HA4 : Hid (At W4 bv [.string vn, .int .u8 kd, .string tx, .int .u32 nu, .string by_]) := by rw [← hW4]; exact HA3.out.drew ⟨nq, rfl⟩
  have HB4 : Hid (Below (b - 1) w W4) := by rw [← hW4]; exact below_drewN HB3.out nq
  rw [hW4]
  clear hW4 c0
  have c2 := HR4.out.at_.cell 2 _ rfl
  have a0 := HA4.out.cell 0 _ rfl
  have za := HA4.out.lt
  have zb := HR4.out.lt
  have hlk : ∀ j, (Instr.lookup 104 (.map (some nm)) (.string vn) true).run Tryz.prog (W4.drewN j) = .ok (.tuple #[.agg #[], .bool false]) (W4.drewN j) := fun j => Ink.run_look hvs (HM4.out.drewN j) HH.out
  go_upto_region 7 with fail
  have hinj : ∀ j, j < 13 → ∀ k, k < 13 → Ink.sl7 j = Ink.sl7 k → j = k := by decide
  have hno : ∀ j, j < 10 → j ≠ 10 → j ≠ 11 → ∀ k, k < 13 → Ink.sl7 k ≠ j := by decide
  refine Od.wp_region_inv 76 (by kernel_rfl) (by rfl) (by rfl) (Od.ord_of (by kernel_rfl)) (Od.dst_of (by kernel_rfl)) (Rg.J 13 Ink.sl7 (Ink.Q7 b nm bv vn) W4 (Od.slots _)) (Rg.J.start _ _ _ (Below.refl _ _).drew) ?stepR ?finR
  case stepR =>
    intro i o hi b' a' wv hJ hb hdep hdf K hK
    obtain ⟨tm, df⟩ := a'
    simp only at hdf
    subst hdf
    have hi13 : i < 13 := (Array.getElem?_eq_some_iff.1 hi).1
    have hsplit : i = 0 ∨ i = 1 ∨ i = 2 ∨ i = 3 ∨ i = 4 ∨ i = 5 ∨ i = 6 ∨ i = 7 ∨ i = 8 ∨ i = 9 ∨ i = 10 ∨ i = 11 ∨ i = 12 := by omega
    rcases hsplit with rfl | rfl | rfl | rfl | rfl | rfl | rfl | rfl | rfl | rfl | rfl | rfl | rfl
    · have e := Option.some.inj (show some _ = some o from hi)
      subst e
      rw [if_pos (show Region.wanted _ _ = true from rfl)]
      have v0 : tm.getD 0 undef = .pointer (some ⟨b, 0, none⟩) := (hJ.old 0 (hno 0 (by omega) (by omega) (by omega))).trans rfl
      have v0' : tm[0]?.getD undef = .pointer (some ⟨b, 0, none⟩) := by rw [← Array.getD_eq_getD_getElem?]; exact v0
      go_simp
      exact hK _ _ (hJ.put Ink.Q7_mono hinj (by omega) rfl)
    · have e := Option.some.inj (show some _ = some o from hi)
      subst e
      rw [if_pos (show Region.wanted _ _ = true from rfl)]
      have v0 : tm.getD 43 undef = .pointer (some ⟨b, 0, none⟩) := hJ.val 0 (by omega) (hdep ⟨0, .data⟩ (by simp) rfl)
      have v0' : tm[43]?.getD undef = .pointer (some ⟨b, 0, none⟩) := by rw [← Array.getD_eq_getD_getElem?]; exact v0
      go_simp
      exact hK _ _ (hJ.put Ink.Q7_mono hinj (by omega) rfl)
    · have e := Option.some.inj (show some _ = some o from hi)
      subst e
      rw [if_pos (show Region.wanted _ _ = true from rfl)]
      have v1 : tm.getD 44 undef = .pointer (some ⟨b, 0, none⟩) := hJ.val 1 (by omega) (hdep ⟨1, .data⟩ (by simp) rfl)
      have v1' : tm[44]?.getD undef = .pointer (some ⟨b, 0, none⟩) := by rw [← Array.getD_eq_getD_getElem?]; exact v1
      go_simp
      exact hK _ _ (hJ.put Ink.Q7_mono hinj (by omega) rfl)
    · have e := Option.some.inj (show some _ = some o from hi)
      subst e
      rw [if_pos (show Region.wanted _ _ = true from rfl)]
      have v2 : tm.getD 45 undef = .pointer (some ⟨b, 2, none⟩) := hJ.val 2 (by omega) (hdep ⟨2, .data⟩ (by simp) rfl)
      have v2' : tm[45]?.getD undef = .pointer (some ⟨b, 2, none⟩) := by rw [← Array.getD_eq_getD_getElem?]; exact v2
      have c2' := (HR4.out.call hJ.below).at_.cell 2 _ rfl
      go_simp
      exact hK _ _ (hJ.put Ink.Q7_mono hinj (by omega) rfl)
    · have e := Option.some.inj (show some _ = some o from hi)
      subst e
      rw [if_pos (show Region.wanted _ _ = true from rfl)]
      have v0 : tm.getD 6 undef = .pointer (some ⟨bv, 0, none⟩) := (hJ.old 6 (hno 6 (by omega) (by omega) (by omega))).trans rfl
      have v0' : tm[6]?.getD undef = .pointer (some ⟨bv, 0, none⟩) := by rw [← Array.getD_eq_getD_getElem?]; exact v0
      go_simp
      exact hK _ _ (hJ.put Ink.Q7_mono hinj (by omega) rfl)
    · have e := Option.some.inj (show some _ = some o from hi)
      subst e
      rw [if_pos (show Region.wanted _ _ = true from rfl)]
      have v4 : tm.getD 47 undef = .pointer (some ⟨bv, 0, none⟩) := hJ.val 4 (by omega) (hdep ⟨4, .data⟩ (by simp) rfl)
      have v4' : tm[47]?.getD undef = .pointer (some ⟨bv, 0, none⟩) := by rw [← Array.getD_eq_getD_getElem?]; exact v4
      have a0' := (HA4.out.call hJ.below).cell 0 _ rfl
      go_simp
      exact hK _ _ (hJ.put Ink.Q7_mono hinj (by omega) rfl)
    · have e := Option.some.inj (show some _ = some o from hi)
      subst e
      rw [if_pos (show Region.wanted _ _ = true from rfl)]
      have v3 : tm.getD 46 undef = .map (some nm) := hJ.val 3 (by omega) (hdep ⟨3, .data⟩ (by simp) rfl)
      have v3' : tm[46]?.getD undef = .map (some nm) := by rw [← Array.getD_eq_getD_getElem?]; exact v3
      have v5 : tm.getD 48 undef = .string vn := hJ.val 5 (by omega) (hdep ⟨5, .data⟩ (by simp) rfl)
      have v5' : tm[48]?.getD undef = .string vn := by rw [← Array.getD_eq_getD_getElem?]; exact v5
      have hlk := Ink.run_look hvs (HM4.out.below hJ.below) HH.out
      go_simp
      exact hK _ _ (hJ.put Ink.Q7_mono hinj (by omega) rfl)
    · have e := Option.some.inj (show some _ = some o from hi)
      subst e
      rw [if_pos (show Region.wanted _ _ = true from rfl)]
      have v6 : tm.getD 49 undef = .tuple #[.agg #[], .bool false] := hJ.val 6 (by omega) (hdep ⟨6, .data⟩ (by simp) rfl)
      have v6' : tm[49]?.getD undef = .tuple #[.agg #[], .bool false] := by rw [← Array.getD_eq_getD_getElem?]; exact v6
      go_simp
      exact hK _ _ (hJ.put Ink.Q7_mono hinj (by omega) rfl)
    · have e := Option.some.inj (show some _ = some o from hi)
      subst e
      rw [if_pos (show Region.wanted _ _ = true from rfl)]
      have v7 : tm.getD 42 undef = .tuple #[.agg #[], .bool false] := hJ.val 7 (by omega) (hdep ⟨7, .data⟩ (by simp) rfl)
      have v7' : tm[42]?.getD undef = .tuple #[.agg #[], .bool false] := by rw [← Array.getD_eq_getD_getElem?]; exact v7
      go_simp
      exact hK _ _ (hJ.put Ink.Q7_mono hinj (by omega) rfl)
    · have e := Option.some.inj (show some _ = some o from hi)
      subst e
      rw [if_pos (show Region.wanted _ _ = true from rfl)]
      have v7 : tm.getD 42 undef = .tuple #[.agg #[], .bool false] := hJ.val 7 (by omega) (hdep ⟨7, .data⟩ (by simp) rfl)
      have v7' : tm[42]?.getD undef = .tuple #[.agg #[], .bool false] := by rw [← Array.getD_eq_getD_getElem?]; exact v7
      go_simp
      exact hK _ _ (hJ.put Ink.Q7_mono hinj (by omega) rfl)
    · have e := Option.some.inj (show some _ = some o from hi)
      subst e
      rw [if_pos (show Region.wanted _ _ = true from rfl)]
      go_simp
      exact hK _ _ (hJ.step Ink.Q7_mono hinj (by omega) (Hv.bl1 wv _) ⟨wv.heap.size, rfl, by rw [World.size_alloc]; omega⟩)
    · have e := Option.some.inj (show some _ = some o from hi)
      subst e
      rw [if_pos (show Region.wanted _ _ = true from rfl)]
      obtain ⟨g, v10, hg⟩ : ∃ g, tm.getD 10 undef = .pointer (some ⟨g, 0, none⟩) ∧ g < wv.heap.size := hJ.val 10 (by omega) (hdep ⟨10, .data⟩ (by simp) rfl)
      have v10' : tm[10]?.getD undef = .pointer (some ⟨g, 0, none⟩) := by rw [← Array.getD_eq_getD_getElem?]; exact v10
      have v8 : tm.getD 50 undef = .agg #[] := hJ.val 8 (by omega) (hdep ⟨8, .data⟩ (by simp) rfl)
      have v8' : tm[50]?.getD undef = .agg #[] := by rw [← Array.getD_eq_getD_getElem?]; exact v8
      go_simp
      exact hK undef wv (hJ.same Ink.Q7_mono (Below.refl _ _) (fun _ => trivial))
    · have e := Option.some.inj (show some _ = some o from hi)
      subst e
      rw [if_pos (show Region.wanted _ _ = true from rfl)]
      have v9 : tm.getD 51 undef = .bool false := hJ.val 9 (by omega) (hdep ⟨9, .data⟩ (by simp) rfl)
      have v9' : tm[51]?.getD undef = .bool false := by rw [← Array.getD_eq_getD_getElem?]; exact v9
      go_simp
      exact hK _ _ (hJ.put Ink.Q7_mono hinj (by omega) rfl)
  case finR =>
    intro a' W5 hJ hN hdf
    have s0 : a'.tmps.getD 0 undef = .pointer (some ⟨b, 0, none⟩) := (hJ.old 0 (hno 0 (by omega) (by omega) (by omega))).trans rfl
    have s6 : a'.tmps.getD 6 undef = .pointer (some ⟨bv, 0, none⟩) := (hJ.old 6 (hno 6 (by omega) (by omega) (by omega))).trans rfl
    have s9 : a'.tmps.getD 9 undef = .pointer (some (ad.add (n0 * 2))) := (hJ.old 9 (hno 9 (by omega) (by omega) (by omega))).trans rfl
    have s11 : a'.tmps.getD 11 undef = .bool false := hJ.val 12 (by omega) (by rfl)
    have HR5 := Lib.hid (HR4.out.call hJ.below)
    have HM5 := Lib.hid (HM4.out.below hJ.below)
    have HA5 := Lib.hid (HA4.out.call hJ.below)
    have HB5 : Hid (Below (b - 1) w W5) := HB4.out.trans (hJ.below.mono (by omega))
    have ef : a' = { tmps := ((List.range 76).map fun i => a'.tmps.getD i undef).toArray, defers := [] } := Ink.frame_of 76 a' hN hdf
    obtain ⟨u, hu⟩ : ∃ u : Nat → Value, (fun i => a'.tmps.getD i undef) = u := ⟨_, rfl⟩
    rw [hu] at ef
    have e0 : u 0 = .pointer (some ⟨b, 0, none⟩) := by rw [← hu]; exact s0
    have e6 : u 6 = .pointer (some ⟨bv, 0, none⟩) := by rw [← hu]; exact s6
    have e9 : u 9 = .pointer (some (ad.add (n0 * 2))) := by rw [← hu]; exact s9
    have e11 : u 11 = .bool false := by rw [← hu]; exact s11
    have ef2 : a' = { tmps := #[u 0, u 1, u 2, u 3, u 4, u 5, u 6, u 7, u 8, u 9, u 10, u 11, u 12, u 13, u 14, u 15, u 16, u 17, u 18, u 19, u 20, u 21, u 22, u 23, u 24, u 25, u 26, u 27, u 28, u 29, u 30, u 31, u 32, u 33, u 34, u 35, u 36, u 37, u 38, u 39, u 40, u 41, u 42, u 43, u 44, u 45, u 46, u 47, u 48, u 49, u 50, u 51, u 52, u 53, u 54, u 55, u 56, u 57, u 58, u 59, u 60, u 61, u 62, u 63, u 64, u 65, u 66, u 67, u 68, u 69, u 70, u 71, u 72, u 73, u 74, u 75], defers := [] } := ef
    rw [e0, e6, e9, e11] at ef2
    rw [ef2]
    clear hJ hN hdf ef ef2 hu e0 e6 e9 e11 s0 s6 s9 s11 c2 a0 za zb hlk hinj hno
    have hl5 := Ink.Rd.last (st0 := st0) (by have h := HR5.out; rw [← HN0.out] at h; exact h)
    rw [HN0.out] at hl5
    obtain ⟨p1, p2, p3, p4⟩ := hl5
    have hev : ∃ eA ec, ev = .slice eA k.vals.length ec := by
      obtain ⟨A, c, e, _⟩ := own_slice p4
      exact ⟨A, c, e⟩
    obtain ⟨eA, ec, rfl⟩ := hev
    have haddr := Ink.add_at gk (n0 * 2)
    rw [HAd.out] at haddr
    have p1' : W5.cell? ⟨(ad.add (n0 * 2)).block, (ad.add (n0 * 2)).off + 1, none⟩ = some (.slice eA k.vals.length ec) := by rw [haddr.1, haddr.2]; exact p1
    have p3' : (ad.add (n0 * 2)).block < W5.heap.size := by rw [haddr.1]; exact p3
    obtain ⟨ke, hke⟩ : ∃ x, k.vals.length = x := ⟨_, rfl⟩
    have HKe := Lib.hid hke
    have hk5 : ke < 512 := by rw [← hke]; exact HKl.out
    rw [hke] at p1' p4
    have r1 : ¬ (512 : Int) ≤ (ke : Int) := by omega
    have r2 : decide (512 ≤ ke) = false := by rw [decide_eq_false_iff_not]; omega
    have HAdr := Lib.hid haddr
    have HP4 := Lib.hid p4
    have c2 := HR5.out.at_.cell 2 _ rfl
    have a0 := HA5.out.cell 0 _ rfl
    have za := HA5.out.lt
    have zb := HR5.out.lt
    clear p1 p2 p3 haddr hke p4
    go_upto_region 12 with fail
    refine wp_region_quiet_tail (C := fun w' => ∃ j, w' = W5.drewN j) 7 (by kernel_rfl) (by kernel_rfl) ⟨1, rfl⟩ ?_
    repeat (quiet_step (fail))
    refine wpQuiet_nil ?_
    intro wz hwz
    obtain ⟨nq2, rfl⟩ := hwz
    show wpList _ _ _ (_ :: _) _ _
    refine Hv.store_set _ rfl _ _ _ nm nn (Hv.names k.vals) vn hvs hnn2 rfl rfl rfl rfl (HM5.out.drewN nq2) ?_
    intro W6 hM6 hg6
    have hR5d : Ink.Rd (W5.drewN nq2) b pm np Ps (.map (some nm)) (st0 ++ [k]) (.slice (some ⟨gk, 0, none⟩) (n0 + 1) ck) (evs0 ++ [.slice eA k.vals.length ec]) := HR5.out.call ((show Drew W5 (W5.drewN nq2) from ⟨nq2, rfl⟩).below _)
    have HR6 := Lib.hid (hR5d.mapG (HM5.out.drewN nq2) hg6 (hR5d.map.kept hg6 (fun e => hnp (Option.some.inj e).symm)))
    have HM6 := Lib.hid hM6
    have HA6 : Hid (At W6 bv [.string vn, .int .u8 kd, .string tx, .int .u32 nu, .string by_]) := Ink.at_grown (w := W5.drewN nq2) (HA5.out.drew ⟨nq2, rfl⟩) hg6 (fun e => Ink.at_ne_map (HA5.out.drew ⟨nq2, rfl⟩) (HM5.out.drewN nq2) (Option.some.inj e).symm)
    have HB6 : Hid (Below (b - 1) w W6) := (below_drewN HB5.out nq2).grown hg6 (by show b - 1 ≤ W5.heap.size; omega) (fun j e => by have := Option.some.inj e; omega)
    clear hM6 hg6 hR5d c2 a0 za zb p1' p3'
    have hl6 := Ink.Rd.last (st0 := st0) (by have h := HR6.out; rw [← HN0.out] at h; exact h)
    rw [HN0.out] at hl6
    obtain ⟨p1, p2, p3, p4⟩ := hl6
    have p1' : W6.cell? ⟨(ad.add (n0 * 2)).block, (ad.add (n0 * 2)).off + 1, none⟩ = some (.slice eA ke ec) := by rw [HAdr.out.1, HAdr.out.2, ← HKe.out]; exact p1
    have p3' : (ad.add (n0 * 2)).block < W6.heap.size := by rw [HAdr.out.1]; exact p3
    rw [HKe.out] at p4
    obtain ⟨a0, a1, a2, a3, a4, _⟩ := Ink.At.fiveI HA6.out
    have za := HA6.out.lt
    have zb := HR6.out.lt
    have HR7 := Lib.hid (HR6.out.call (Hv.bl1 W6 (.cells #[.string vn, .int .u8 kd, .string tx, .int .u32 nu, .string by_] 55)))
    have hl7 := Ink.Rd.last (st0 := st0) (by have h := HR7.out; rw [← HN0.out] at h; exact h)
    rw [HN0.out] at hl7
    obtain ⟨l1, l2, l3, l4⟩ := hl7
    rw [HKe.out] at l4
    have HO : Hid (((W6.alloc (.cells #[.string vn, .int .u8 kd, .string tx, .int .u32 nu, .string by_] 55)).drewN 1).ownsRow (b + 1) 55 5 (.slice eA ke ec) ke (k.vals.flatMap Hv.V.cells)) := by
      have h := l4
      show World.ownsRow _ _ _ _ _ _ _
      first | exact h | (rw [HKe.out] at h; exact h)
    have HNw := Lib.hid (Em.cells_new W6 #[.string vn, .int .u8 kd, .string tx, .int .u32 nu, .string by_] 55)
    have HL1 : Hid (((W6.alloc (.cells #[.string vn, .int .u8 kd, .string tx, .int .u32 nu, .string by_] 55)).drewN 1).cell? ⟨gk, n0 * 2 + 1, none⟩ = some (.slice eA ke ec)) := by
      show _ = _
      rw [← HKe.out]
      exact l1
    have HL2 : Hid (((W6.alloc (.cells #[.string vn, .int .u8 kd, .string tx, .int .u32 nu, .string by_] 55)).drewN 1).frozen? ⟨gk, n0 * 2 + 1, none⟩ = false) := l2
    have hevk : ∀ g, (Value.slice eA ke ec).ownBlock = some g → g ≠ gk := by
      intro g q e
      subst e
      rw [← HKe.out] at q
      exact HR6.out.apart _ (List.mem_append_right _ (List.mem_singleton.2 rfl)) _ q rfl
    have HEvk := Lib.hid hevk
    obtain ⟨i0, hi0, hz0, hz1, hz2⟩ := info_parts Ink.val_info
    have HI := Lib.hid (And.intro hi0 (And.intro hz0 (And.intro hz1 hz2)))
    have HGl := Lib.hid l3
    clear p1 p2 p3 p4 l1 l2 l3 l4 hevk hi0 hz0 hz1 hz2
    have hKe5 : ke < 512 := hk5
    go_upto_region 13 with fail
    go_region_law ((refine step_append_lies _ (by rfl) (.tmp 70) (.tmp 72) 62 (by rfl) (b + 1) 55 i0 _ 5 64 Tryz.underlying62 HI.out.1 HI.out.2.1 HI.out.2.2.1 HI.out.2.2.2 (by rfl) (by decide) _ ke _ (by rfl) HO.out _ 1 1 _ (by rfl) (by rfl) HNw.out (by simp [Value.oneCell']) (by decide) (by unfold maxLen; omega) (by omega) (by simp; omega) _ rfl ?_; intro g9 cp9 w9 hown9 hg9 hat9 hlt9; have c9 : w9.cell? ⟨(ad.add (n0 * 2)).block, (ad.add (n0 * 2)).off + 1, none⟩ = some (.slice eA ke ec) := (by rw [HAdr.out.1, HAdr.out.2]; exact (World.cell?_of_block (a := ⟨gk, n0 * 2 + 1, none⟩) (hg9.block gk HGl.out (fun e => HEvk.out gk e.symm rfl))).trans HL1.out); have f9 : w9.frozen? ⟨(ad.add (n0 * 2)).block, (ad.add (n0 * 2)).off + 1, none⟩ = false := (by rw [HAdr.out.1, HAdr.out.2]; exact (World.frozen?_of_block (a := ⟨gk, n0 * 2 + 1, none⟩) (hg9.block gk HGl.out (fun e => HEvk.out gk e.symm rfl))).trans HL2.out)))
    all_goals (have HF := Lib.hid hown9; have HG := Lib.hid hg9; have HT := Lib.hid hat9; clear hown9 hg9 hat9 c9 f9)
    all_goals go_wp2
    all_goals go_ret2
    all_goals
      have hRd : Ink.Rd ((W6.alloc (.cells #[.string vn, .int .u8 kd, .string tx, .int .u32 nu, .string by_] 55)).drewN 1) b pm np Ps (.map (some nm)) (st0 ++ [k]) (.slice (some ⟨gk, 0, none⟩) (n0 + 1) ck) (evs0 ++ [.slice eA k.vals.length ec]) := HR7.out.call ((show Drew _ _ from ⟨1, rfl⟩).below _)
      have hMd : MapF Tryz.prog 9 ((W6.alloc (.cells #[.string vn, .int .u8 kd, .string tx, .int .u32 nu, .string by_] 55)).drewN 1) nm (nn + 1) (Hv.sf (Hv.names k.vals ++ [vn])) := (HM6.out.alloc _).drewN 1
      have hgk : gk ≠ nm := fun e => Ink.own_ne_map hRd.keys hMd (by rw [← e]; rfl)
      have hnmv : Hv.names (k.vals ++ [⟨vn, kd, tx, nu, by_⟩]) = Hv.names k.vals ++ [vn] := Ink.names_app _ _
      have hevo := Ink.Rd.last (st0 := st0) (by have h := hRd; rw [← HN0.out] at h; exact h)
      have hGf : ((W6.alloc (.cells #[.string vn, .int .u8 kd, .string tx, .int .u32 nu, .string by_] 55)).drewN 1).grownBy w9 (Value.slice eA k.vals.length ec).ownBlock := by rw [HKe.out]; exact HG.out
      refine ⟨rfl, ?_⟩
      unfold Ink.VRet
      refine ⟨⟨.slice (some ⟨g9, 0, none⟩) (ke + 1) cp9, ?_, ?_⟩, ?_⟩
      · have h1 := Ink.Rd.pushVal (st0 := st0) (v := ⟨vn, kd, tx, nu, by_⟩) (ev' := .slice (some ⟨g9, 0, none⟩) (ke + 1) cp9) (by have h := hRd; rw [← HN0.out] at h; exact h) hGf (by rw [HKe.out]; exact HF.out) (by
          intro g hg q e
          have e2 : g9 = g := Option.some.inj e
          subst e2
          rcases HT.out with h | h
          · rw [HKe.out] at q
            exact absurd h q
          · rw [h] at hg
            exact absurd hg (Nat.lt_irrefl _))
        rw [HAdr.out.1, HAdr.out.2, ← HN0.out]
        exact h1
      · rw [hnmv, HAdr.out.1, HAdr.out.2]
        exact (hMd.kept hGf (fun e => Ink.own_ne_map hevo.2.2.2 hMd e.symm)).setCell (a := ⟨gk, n0 * 2 + 1, none⟩) (fun e => hgk e.symm) _
      · rw [HAdr.out.1, HAdr.out.2]
        refine ((below_drewN (HB6.out.alloc (Ink.bs HB6.out HBb.out) _) 1).grown hGf ?_ (fun g e => ?_)).setCell (p := ⟨gk, n0 * 2 + 1, none⟩) ?_ _
        · show b - 1 ≤ (W6.alloc _).heap.size
          rw [World.size_alloc]
          have := Ink.bs HB6.out HBb.out
          omega
        · have := (hevo.2.2.2.lt g e).1
          omega
        · have := (hRd.keys.lt gk rfl).1
          show b - 1 ≤ gk
          omega
end Go.Proofs.YthmhadgbhakdlaaGreatDoor

/- intake.whole: bytes that were made of a text, cut and written on. -/
namespace Go.Proofs.YthmhadgbhakdlaaGreatDoor
open Go.RowKit

namespace Ink
open Em
/-- A block of bytes of a call's own: its first ones are l. -/
structure Buf (B : Nat) (w : World) (g c : Nat) (l : Txt) : Prop where
  new : B ≤ g
  lt : g < w.heap.size
  le : l.length ≤ c
  max : c ≤ maxLen
  holds : ∀ j x, l[j]? = some x → w.cell? ⟨g, j, none⟩ = some (.int .u8 (x.toNat : Int))
  there : ∀ j, j < c → (w.cell? ⟨g, j, none⟩).isSome = true ∧ w.frozen? ⟨g, j, none⟩ = false
section
variable {B g c : Nat} {w w' : World} {l : Txt}
theorem Buf.call (h : Buf B w g c l) (hb : Below w.heap.size w w') : Buf B w' g c l := by
  have e := hb.block g h.lt
  exact ⟨h.new, Nat.lt_of_lt_of_le h.lt hb.size, h.le, h.max, fun j x hj => (World.cell?_of_block (a := ⟨g, j, none⟩) e).trans (h.holds j x hj), fun j hj => ⟨by rw [World.cell?_of_block (a := ⟨g, j, none⟩) e]; exact (h.there j hj).1, (World.frozen?_of_block (a := ⟨g, j, none⟩) e).trans (h.there j hj).2⟩⟩
theorem Buf.drewN (h : Buf B w g c l) (n : Nat) : Buf B (w.drewN n) g c l := ⟨h.new, h.lt, h.le, h.max, h.holds, h.there⟩
theorem Buf.drew (h : Buf B w g c l) : Buf B w.drew g c l := ⟨h.new, h.lt, h.le, h.max, h.holds, h.there⟩
theorem Buf.less (h : Buf B w g c l) {l' : Txt} (hp : l' <+: l) : Buf B w g c l' :=
  ⟨h.new, h.lt, Nat.le_trans hp.length_le h.le, h.max, fun j x hj => h.holds j x (by
    obtain ⟨t, rfl⟩ := hp
    rw [List.getElem?_append_left (List.getElem?_eq_some_iff.1 hj).1]
    exact hj), h.there⟩
theorem Buf.conv (w : World) (s : ByteArray) (hs : s.size ≤ 100000000) : Buf w.heap.size (Lib.bytesWorld w 5 s) w.heap.size (grownCap w s.size 0 5) (tl s) := by
  have hge := grownCap_ge w s.size 0 5
  have hle := grownCap_le_maxLen w s.size 0 5 (by unfold maxLen; omega)
  have hsz : (Lib.bytesCells w 5 s).size = grownCap w s.size 0 5 := by
    unfold Lib.bytesCells
    rw [Array.size_append, Array.size_map, Array.size_replicate]
    show s.size + _ = _
    omega
  refine ⟨Nat.le_refl _, by rw [Lib.bytesWorld_size]; omega, by rw [tl_length]; exact hge, hle, fun j x hj => ?_, fun j hj => ⟨?_, ?_⟩⟩
  · have hjl := (List.getElem?_eq_some_iff.1 hj).1
    rw [tl_length] at hjl
    rw [Lib.bytesWorld_cell w 5 s j hjl]
    have : s.data.toList.getD j 0 = x := by
      show (tl s).getD j 0 = x
      rw [List.getD_eq_getElem?_getD, hj]
      rfl
    rw [this]
  · have e := Lib.bytesWorld_at_new w 5 s
    unfold World.cell?
    simp only [e]
    rw [Array.getElem?_eq_getElem (by omega)]
    rfl
  · have e := Lib.bytesWorld_at_new w 5 s
    unfold World.frozen?
    simp only [e]
    simp
    omega
end
theorem below_setCells {B : Nat} {a : World} (b : Nat) (hb : B ≤ b) : ∀ (vs : List Value) (o : Nat) (w : World), Below B a w → Below B a (w.setCells b o vs)
  | [], _, _, h => h
  | v :: r, o, _, h => below_setCells b hb r (o + 1) _ (h.setCell (p := ⟨b, o, none⟩) hb v)
theorem size_setCells (b : Nat) : ∀ (vs : List Value) (o : Nat) (w : World), (w.setCells b o vs).heap.size = w.heap.size
  | [], _, _ => rfl
  | _ :: r, _, _ => by rw [World.setCells, size_setCells b r, heap_set]
theorem zc_size (k : Nat) : (Builtin.zeroCells (Value.int .u8 0).cells k).size = k := by
  simp [Builtin.zeroCells, Value.cells]
theorem cells_same (s : ByteArray) : Go.byteCells s = Lib.byteCells (tl s) := rfl
set_option maxRecDepth 100000 in
/-- A text is written on behind the first n bytes. -/
theorem Buf.write {B g c n : Nat} {w : World} {l : Txt} (h : Buf B w g c l) (s : ByteArray) (hn : l.length = n) (hs : n + s.size ≤ 100000000) (ty : TypeId) :
    ∃ g' c' w', (Builtin.append_ #[58, 9] ty #[.slice (some ⟨g, 0, none⟩) n c, .string s]).run Tryz.prog w = .ok (.slice (some ⟨g', 0, none⟩) (n + s.size) c') w' ∧ Buf B w' g' c' (l ++ tl s) ∧ Below B w w' := by
  subst hn
  obtain ⟨i, hi, hz, h1, h2⟩ := info_parts u8_info
  have hsrc := Src.ofString (P := Tryz.prog) w (tx := 9) Tryz.underlying9 s
  have hgl : (tl s).length = s.size := tl_length s
  by_cases hroom : l.length + s.size ≤ c
  · have hr := run_append_room_src (P := Tryz.prog) w 58 9 ty 5 i Tryz.underlying58 hi g 0 l.length c (.string s) s.size (Go.byteCells s) (by rw [h1]; exact hsrc) hroom
      (fun j hj => by
        rw [h1, Nat.zero_add, Nat.mul_one]
        exact (h.there _ (by rw [byteCells_length] at hj; omega)).1)
      (fun j hj => by
        rw [h1, Nat.zero_add, Nat.mul_one]
        exact (h.there _ (by rw [byteCells_length] at hj; omega)).2)
    rw [h1, Nat.zero_add, Nat.mul_one] at hr
    refine ⟨g, c, _, hr, ⟨h.new, by rw [size_setCells]; exact h.lt, by rw [List.length_append, hgl]; exact hroom, h.max, fun j x hj => ?_, fun j hj => ⟨?_, ?_⟩⟩, below_setCells g h.new _ _ _ (Below.refl _ _)⟩
    · by_cases hjl : j < l.length
      · rw [List.getElem?_append_left hjl] at hj
        rw [World.cell?_setCells_out g _ _ _ _ (fun _ _ => .inl hjl)]
        exact h.holds j x hj
      · rw [List.getElem?_append_right (by omega)] at hj
        have hjs : j - l.length < (Go.byteCells s).length := by rw [byteCells_length, ← hgl]; exact (List.getElem?_eq_some_iff.1 hj).1
        have h3 := World.cell?_setCells_in g (Go.byteCells s) l.length w (fun k hk => (h.there _ (by rw [byteCells_length] at hk; omega)).1) (j - l.length) hjs
        rw [show l.length + (j - l.length) = j by omega] at h3
        rw [h3]
        have h4 : (Go.byteCells s)[j - l.length]? = some (.int .u8 (x.toNat : Int)) := by
          show ((tl s).map fun b => Value.int .u8 (b.toNat : Int))[j - l.length]? = _
          rw [List.getElem?_map, hj]
          rfl
        rw [List.getElem?_eq_getElem hjs] at h4
        exact h4
    · by_cases hin : l.length ≤ j ∧ j < l.length + (Go.byteCells s).length
      · have h3 := World.cell?_setCells_in g (Go.byteCells s) l.length w (fun k hk => (h.there _ (by rw [byteCells_length] at hk; omega)).1) (j - l.length) (by omega)
        rw [show l.length + (j - l.length) = j by omega] at h3
        rw [h3]
        rfl
      · rw [World.cell?_setCells_out g _ _ _ _ (fun _ _ => by
          show j < l.length ∨ l.length + (Go.byteCells s).length ≤ j
          omega)]
        exact (h.there j hj).1
    · rw [World.frozen?_setCells]
      exact (h.there j hj).2
  · have hold : (Builtin.firstCells i.size l.length (.slice (some ⟨g, 0, none⟩) l.length c)).run Tryz.prog w.drew = .ok (Lib.byteCells l).toArray w.drew := by
      rw [h1]
      refine run_firstCells_some (P := Tryz.prog) w.drew 1 l.length ⟨g, 0, none⟩ l.length c (Lib.byteCells l) (by rw [Em.cells_len', Nat.mul_one]) fun j v hj => ?_
      have hadd : (⟨g, 0, none⟩ : Addr).add j = ⟨g, j, none⟩ := by unfold Addr.add; split <;> simp_all
      rw [hadd]
      unfold Lib.byteCells at hj
      rw [List.getElem?_map] at hj
      cases e : l[j]? with
      | none => rw [e] at hj; cases hj
      | some x =>
        rw [e] at hj
        have := h.holds j x e
        rw [← Option.some.inj hj]
        exact this
    have hr := run_append_grow_src (P := Tryz.prog) w 58 9 ty 5 i (Value.int .u8 0) Tryz.underlying58 hi hz (some ⟨g, 0, none⟩) l.length c (Lib.byteCells l) hold (.string s) s.size (Go.byteCells s) (by rw [h1]; exact hsrc) (by omega) (by omega)
      (by rw [h2, Nat.mul_one]; exact Nat.le_trans (nextslicecap_le (by omega)) (by omega))
    have hge := grownCap_ge w (l.length + s.size) c 5
    have hle := grownCap_le_maxLen w (l.length + s.size) c 5 (by unfold maxLen; omega)
    obtain ⟨c', hc'⟩ : ∃ c', grownCap w (l.length + s.size) c 5 = c' := ⟨_, rfl⟩
    rw [hc'] at hr hge hle
    obtain ⟨CS, hCS⟩ : ∃ CS : Array Value, ((Lib.byteCells l ++ Go.byteCells s).toArray ++ Builtin.zeroCells (Value.int .u8 0).cells (c' - (l.length + s.size))) = CS := ⟨_, rfl⟩
    have hpre : ∀ (j : Nat) (x : UInt8), (l ++ tl s)[j]? = some x → CS[j]? = some (Value.int .u8 (x.toNat : Int)) := by
      intro j x hj
      have hjl := (List.getElem?_eq_some_iff.1 hj).1
      have hlen : (Lib.byteCells l ++ Go.byteCells s).toArray.size = (l ++ tl s).length := by
        rw [List.size_toArray, List.length_append, Em.cells_len', byteCells_length, List.length_append, hgl]
      rw [← hCS, Array.getElem?_append_left (by rw [hlen]; exact hjl), List.getElem?_toArray]
      show (Lib.byteCells l ++ Lib.byteCells (tl s))[j]? = _
      rw [← Em.cells_app]
      unfold Lib.byteCells
      rw [List.getElem?_map, hj]
      rfl
    have hCsz : CS.size = c' := by
      rw [← hCS, Array.size_append, List.size_toArray, List.length_append, Em.cells_len', byteCells_length]
      have hz2 : (Builtin.zeroCells (Value.int .u8 0).cells (c' - (l.length + s.size))).size = c' - (l.length + s.size) := zc_size _
      rw [hz2]
      omega
    rw [hCS] at hr
    refine ⟨w.heap.size, c', _, hr, ⟨Nat.le_trans h.new (Nat.le_of_lt h.lt), ?_, by rw [List.length_append, hgl]; exact hge, hle, fun j x hj => ?_, fun j hj => ⟨?_, ?_⟩⟩, ?_⟩
    · rw [World.size_alloc]; exact Nat.lt_succ_self _
    · exact ((At.new w.drew CS 5).2 j _ (by rw [Array.getElem?_toList]; exact hpre j x hj)).1
    · obtain ⟨u, hu⟩ : ∃ u, CS.toList[j]? = some u := ⟨_, List.getElem?_eq_getElem (by rw [Array.length_toList]; omega)⟩
      have := (At.new w.drew CS 5).2 j u hu
      rw [show (w.drew.alloc (.cells CS 5)).cell? ⟨w.heap.size, j, none⟩ = some u from this.1]
      rfl
    · obtain ⟨u, hu⟩ : ∃ u, CS.toList[j]? = some u := ⟨_, List.getElem?_eq_getElem (by rw [Array.length_toList]; omega)⟩
      exact ((At.new w.drew CS 5).2 j u hu).2
    · exact (Below.drew (Below.refl _ w)).alloc (Nat.le_trans h.new (Nat.le_of_lt h.lt)) _
/-- The bytes, as a text. -/
theorem Buf.text {B g c n : Nat} {w : World} {l : Txt} (h : Buf B w g c l) (hn : l.length = n) : (convert 58 9 (.slice (some ⟨g, 0, none⟩) n c)).run Tryz.prog w = .ok (.string (bts l)) w := by
  subst hn
  refine run_convert_bytes_back (P := Tryz.prog) w 58 9 5 ⟨g, 0, none⟩ c l Tryz.underlying58 Tryz.underlying5 Tryz.underlying9 fun j hj => ?_
  have hadd : (⟨g, 0, none⟩ : Addr).add j = ⟨g, j, none⟩ := by unfold Addr.add; split <;> simp_all
  rw [hadd]
  exact h.holds j _ (List.getElem?_eq_getElem hj)
end Ink
end Go.Proofs.YthmhadgbhakdlaaGreatDoor
