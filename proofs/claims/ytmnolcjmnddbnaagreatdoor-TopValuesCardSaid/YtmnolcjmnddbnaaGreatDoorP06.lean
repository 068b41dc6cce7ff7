/- intake: (*reader).path. -/
import Derived.Test.YtmnolcjmnddbnaaGreatDoorP05
import Derived.Test.YtmnolcjmnddbnaaGreatDoorP04
import Derived.Lib.ConvBytes
import Derived.Laws.Strings3
import Derived.Laws.Closers25
import Derived.Laws.Closers25b

namespace Go.Proofs.YtmnolcjmnddbnaaGreatDoor
open Go.RowKit

namespace Ink
open Em
def pline (p : ByteArray) : ByteArray := bts (91 :: (tl p ++ [93]))
theorem pline_size (p : ByteArray) : (pline p).size = p.size + 2 := by
  unfold pline
  rw [bts_size, List.length_cons, List.length_append, tl_length]
  rfl
theorem pline_last (p : ByteArray) (h : p.size + 1 < (pline p).size) : (pline p)[p.size + 1] = 93 := by
  have h1 := Em.byte_at (pline p) (p.size + 1) h _ rfl
  unfold pline at h1
  rw [tl_bts, List.getElem?_cons_succ, List.getElem?_append_right (by rw [tl_length]; exact Nat.le_refl _), tl_length, Nat.sub_self] at h1
  exact (Option.some.inj h1).symm
theorem pline_mid (p : ByteArray) : (pline p).extract 1 (p.size + 1) = p := by
  apply ByteArray.ext
  apply Array.ext'
  show ((pline p).extract 1 (p.size + 1)).data.toList = tl p
  unfold pline bts
  simp [ByteArray.data_extract, tl]
end Ink
theorem make_none (W : World) : (Instr.makeMap 67 none).run Tryz.prog W = .ok (.map (some W.heap.size)) (W.alloc (.map #[] 0)) := by
  simp [Instr.makeMap]
theorem key_info : (Tryz.prog.info? 44).map (fun i => (i.zero, i.size, i.bytes)) = some (some (.agg #[.string ⟨#[]⟩, .slice none 0 0]), 2, 40) := by kernel_rfl
set_option maxRecDepth 100000 in
/-- An append of one key. -/
theorem key_append {ops : Array Oper} {rest : List Oper} {o : Oper} {a : Act} {Q : Exit → Act → World → Prop} (W : World) (B n : Nat) (xs : List Value) (v : Value) (p : ByteArray) (x y : Nat) (H : Nat) (hH : W.heap.size = H)
    (hO : W.ownsRow B 44 2 v n xs) (hl : n ≤ 2000000) (hB : B ≤ W.heap.size) (hgd : o.guard = none)
    (ho : o.op = .call { callee := .builtin .append, args := #[.tmp x, .tmp y], argTypes := #[34, 34] }) (hs : a.eval (.tmp x) = v) (hx : a.eval (.tmp y) = .slice (some ⟨H, 0, none⟩) 1 1)
    (h : ∀ v' w', w'.ownsRow B 44 2 v' (n + 1) (xs ++ [.string p, .slice none 0 0]) → (W.alloc (.cells #[.string p, .slice none 0 0] 44)).grownBy w' v.ownBlock → (v'.ownBlock = v.ownBlock ∨ v'.ownBlock = some (W.heap.size + 1)) → wpList Tryz.prog ops Q rest (a.put o.dst v') w') :
    wpList Tryz.prog ops Q (o :: rest) a (W.alloc (.cells #[.string p, .slice none 0 0] 44)) := by
  subst hH
  obtain ⟨i0, hi0, hz0, hz1, hz2⟩ := info_parts key_info
  have hA := At.new W #[.string p, .slice none 0 0] 44
  have hR : Reads (W.alloc (.cells #[.string p, .slice none 0 0] 44)) (W.heap.size + 1) 2 (some ⟨W.heap.size, 0, none⟩) 1 [.string p, .slice none 0 0] :=
    ⟨rfl, fun _ => ⟨_, rfl, Nat.lt_succ_self _, fun j u hu => by
      have hadd : (⟨W.heap.size, 0, none⟩ : Addr).add j = ⟨W.heap.size, j, none⟩ := by unfold Addr.add; split <;> simp_all
      rw [hadd]
      exact hA.cell j u hu⟩⟩
  have h1 : ∀ u ∈ [Value.string p, .slice none 0 0], u.oneCell' = true := by
    intro u hu
    simp only [List.mem_cons, List.not_mem_nil, or_false] at hu
    rcases hu with rfl | rfl <;> rfl
  refine wpList_append_any (P := Tryz.prog) _ hgd (.tmp x) (.tmp y) 34 ho B 44 i0 _ 2 40 Tryz.underlying34 hi0 hz0 hz1 hz2 rfl (by omega) v n xs hs (hO.alloc _) _ _ 1 1 _ hx hR h1 (by unfold maxLen; omega) (by omega) (by rw [World.size_alloc]; omega) ?_
  intro v' w' hown hg hat
  rw [World.size_alloc] at hat
  exact h v' w' hown hg hat
theorem at_grown9 {w w' : World} {b : Nat} {xs : List Value} {kv : Value} {cs : Array Value} {t : TypeId} (h : At w b xs) (hk : kv.ownBlock ≠ some b) (hg : (w.alloc (.cells cs t)).grownBy w' kv.ownBlock) : At w' b xs := Ink.at_grown (h.allocO _) hg hk
theorem Ink.b1 {b : Nat} {w : World} (h : b < w.heap.size) : b - 1 < w.heap.size := Nat.lt_of_le_of_lt (Nat.sub_le _ _) h
theorem Ink.bs {B : Nat} {a w : World} (h : Below B a w) (hB : B < a.heap.size) : B ≤ w.heap.size := Nat.le_trans (Nat.le_of_lt hB) h.size
section
variable {w : World} {b pm np : Nat} {Ps : List ByteArray} {nmv kv : Value} {st : List Hv.K} {evs : List Value}
set_option maxHeartbeats 4000000 in
set_option maxRecDepth 100000 in
theorem inPath_form (p : ByteArray) (hp : p.size ≤ 100000) (hb : Hv.path p = false) (hW : Wl w) :
    Calls Tryz.prog 45 #[.pointer (some ⟨b, 0, none⟩), .string (Ink.pline p)] w fun e w' => e = .returned (.int .i64 2) ∧ Below w.heap.size w w' := by
  have HP := Lib.hid (hvPath_any p (by unfold maxLen; omega) w hW)
  rw [hb] at HP
  obtain ⟨S, hS⟩ : ∃ S, Ink.pline p = S := ⟨_, rfl⟩
  have hsz : S.size = p.size + 2 := by rw [← hS]; exact Ink.pline_size p
  have hsi : (S.size : Int) = (p.size : Int) + 2 := by omega
  have hlt : p.size + 1 < S.size := by omega
  have hl : S[p.size + 1] = 93 := by subst hS; exact Ink.pline_last p hlt
  have hm : S.extract 1 (p.size + 1) = p := by rw [← hS]; exact Ink.pline_mid p
  rw [hS]
  have q1 : ¬ (p.size : Int) + 2 < 2 := by omega
  have q2 : IntKind.i64.wrap ((p.size : Int) + 2 - 1) = (p.size : Int) + 1 := by rw [IntKind.wrap_i64]; omega
  have q3 : ((p.size : Int) + 1).toNat = p.size + 1 := by omega
  have q4 : (0 : Int) ≤ (p.size : Int) + 1 := by omega
  have q5 : (p.size : Int) + 1 < (p.size : Int) + 2 := by omega
  have q6 : (1 : Int) ≤ (p.size : Int) + 1 := by omega
  have q7 : (p.size : Int) + 1 ≤ (p.size : Int) + 2 := by omega
  have HS := Lib.hid hsz
  clear hS hb hW hsz
  go_enter Tryz.func45, Tryz.ntmps45
  go_wp2_with fail
  refine HP.out.mono ?_
  rintro e w1 ⟨rfl, hb⟩
  have HB := Lib.hid hb
  clear hb
  go_wp2
  go_ret
  exact ⟨rfl, HB.out⟩
set_option maxHeartbeats 4000000 in
set_option maxRecDepth 100000 in
theorem inPath_twice (p : ByteArray) (hp : p.size ≤ 100000) (hb : Hv.path p = true) (hh : Hv.has Ps p = true) (hR : Ink.Rd w b pm np Ps nmv st kv evs) (hW : Wl w) :
    Calls Tryz.prog 45 #[.pointer (some ⟨b, 0, none⟩), .string (Ink.pline p)] w fun e w' => e = .returned (.int .i64 8) ∧ Below w.heap.size w w' := by
  have HP := Lib.hid (hvPath_any p (by unfold maxLen; omega) w hW)
  rw [hb] at HP
  obtain ⟨S, hS⟩ : ∃ S, Ink.pline p = S := ⟨_, rfl⟩
  have hsz : S.size = p.size + 2 := by rw [← hS]; exact Ink.pline_size p
  have hsi : (S.size : Int) = (p.size : Int) + 2 := by omega
  have hlt : p.size + 1 < S.size := by omega
  have hl : S[p.size + 1] = 93 := by subst hS; exact Ink.pline_last p hlt
  have hm : S.extract 1 (p.size + 1) = p := by rw [← hS]; exact Ink.pline_mid p
  rw [hS]
  have q1 : ¬ (p.size : Int) + 2 < 2 := by omega
  have q2 : IntKind.i64.wrap ((p.size : Int) + 2 - 1) = (p.size : Int) + 1 := by rw [IntKind.wrap_i64]; omega
  have q3 : ((p.size : Int) + 1).toNat = p.size + 1 := by omega
  have q4 : (0 : Int) ≤ (p.size : Int) + 1 := by omega
  have q5 : (p.size : Int) + 1 < (p.size : Int) + 2 := by omega
  have q6 : (1 : Int) ≤ (p.size : Int) + 1 := by omega
  have q7 : (p.size : Int) + 1 ≤ (p.size : Int) + 2 := by omega
  have HS := Lib.hid hsz
  have HR := Lib.hid hR
  have HH := Lib.hid hh
  have hpm : p.size ≤ maxLen := by unfold maxLen; omega
  clear hS hb hW hsz hR hh
  go_enter Tryz.func45, Tryz.ntmps45
  go_wp2_with fail
  refine HP.out.mono ?_
  rintro e w1 ⟨rfl, hb⟩
  have HB := Lib.hid hb
  have HR1 := Lib.hid (HR.out.call hb)
  have c1 := HR1.out.at_.cell 1 _ rfl
  have z1 := HR1.out.lt
  have HB2 := Lib.hid (HB.out.alloc HB.out.size (.cells #[] 99))
  clear hb
  go_wp2_with (at_lookup; refine Hv.look_set _ rfl _ _ pm np Ps p hpm rfl rfl rfl HR1.out.map true HH.out ?_)
  go_ret
  exact ⟨rfl, HB2.out⟩
set_option maxHeartbeats 8000000 in
set_option maxRecDepth 100000 in
theorem inPath_ok (p : ByteArray) (hp : p.size ≤ 100000) (hb : Hv.path p = true) (hh : Hv.has Ps p = false) (hR : Ink.Rd w b pm np Ps nmv st kv evs) (hn : st.length < 4096) (hnp : np ≤ 100000) (hW : Wl w) :
    Calls Tryz.prog 45 #[.pointer (some ⟨b, 0, none⟩), .string (Ink.pline p)] w fun e w' => e = .returned (.int .i64 0) ∧ (∃ kv' nm, Ink.Rd w' b pm (np + 1) (Ps ++ [p]) (.map (some nm)) (st ++ [⟨p, []⟩]) kv' (evs ++ [.slice none 0 0]) ∧ MapF Tryz.prog 9 w' nm 0 (Hv.sf []) ∧ nm ≠ pm ∧ b < nm) ∧ Below (b - 1) w w' := by
  have HP := Lib.hid (hvPath_any p (by unfold maxLen; omega) w hW)
  rw [hb] at HP
  obtain ⟨S, hS⟩ : ∃ S, Ink.pline p = S := ⟨_, rfl⟩
  have hsz : S.size = p.size + 2 := by rw [← hS]; exact Ink.pline_size p
  have hsi : (S.size : Int) = (p.size : Int) + 2 := by omega
  have hlt : p.size + 1 < S.size := by omega
  have hl : S[p.size + 1] = 93 := by subst hS; exact Ink.pline_last p hlt
  have hm : S.extract 1 (p.size + 1) = p := by rw [← hS]; exact Ink.pline_mid p
  rw [hS]
  have q1 : ¬ (p.size : Int) + 2 < 2 := by omega
  have q2 : IntKind.i64.wrap ((p.size : Int) + 2 - 1) = (p.size : Int) + 1 := by rw [IntKind.wrap_i64]; omega
  have q3 : ((p.size : Int) + 1).toNat = p.size + 1 := by omega
  have q4 : (0 : Int) ≤ (p.size : Int) + 1 := by omega
  have q5 : (p.size : Int) + 1 < (p.size : Int) + 2 := by omega
  have q6 : (1 : Int) ≤ (p.size : Int) + 1 := by omega
  have q7 : (p.size : Int) + 1 ≤ (p.size : Int) + 2 := by omega
  have HS := Lib.hid hsz
  obtain ⟨nK, hnK⟩ : ∃ n, st.length = n := ⟨_, rfl⟩
  have HNK := Lib.hid hnK
  have hn4 : nK < 4096 := by omega
  have HR := Lib.hid hR
  have HH := Lib.hid hh
  have hpm : p.size ≤ maxLen := by unfold maxLen; omega
  have hnm : np < maxLen := by unfold maxLen; omega
  have hmk := make_none
  clear hS hb hW hsz hR hh hn hnK
  go_enter Tryz.func45, Tryz.ntmps45
  go_wp2_with fail
  refine HP.out.mono ?_
  rintro e w1 ⟨rfl, hb⟩
  have HB := Lib.hid hb
  have HR1 := Lib.hid (HR.out.call hb)
  have HR2 := Lib.hid (HR1.out.call (Hv.bl1 w1 (.cells #[] 99)))
  have HBb := Lib.hid (Ink.b1 HR.out.lt)
  have HB2 := Lib.hid ((HB.out.mono (Nat.le_of_lt HBb.out)).alloc (Nat.le_trans (Nat.le_of_lt HBb.out) HB.out.size) (.cells #[] 99))
  have hkl : ∃ kA kc, kv = .slice kA nK kc := by
    have h := HR1.out.keys
    rw [HNK.out] at h
    obtain ⟨A, c, e, _⟩ := own_slice h
    exact ⟨A, c, e⟩
  obtain ⟨kA, kc, rfl⟩ := hkl
  obtain ⟨c0, c1, c2, f0, f1, f2⟩ := HR1.out.at_.three
  have z1 := HR1.out.lt
  have q8 : ¬ (4096 : Int) ≤ (nK : Int) := by omega
  have q9 : decide (4096 ≤ nK) = false := by rw [decide_eq_false_iff_not]; omega
  clear hb
  go_wp2_with (first | (at_lookup; refine Hv.look_set _ rfl _ _ pm np Ps p hpm rfl rfl rfl HR1.out.map false HH.out ?_) | (at_mapUpdate; go_loud (refine Hv.store_set _ rfl _ _ _ pm np Ps p hpm hnm rfl rfl rfl rfl HR2.out.map ?_; intro w3 hM3 hg3; have HR3 := Lib.hid (HR2.out.mapG HR2.out.map hg3 hM3); have HB3 := Lib.hid (HB2.out.grown hg3 (Ink.bs HB2.out HBb.out) (fun j e => by cases e; have := HR2.out.pmb; omega)); have HR4 := Lib.hid ((HR3.out.setNm (.map (some w3.heap.size))).call (Hv.bl1 _ (.map #[] 0))); have HB4 := Lib.hid ((HB3.out.setCell (p := ⟨b, 2, none⟩) (Nat.sub_le b 1) (.map (some w3.heap.size))).alloc (by rw [heap_set]; exact Ink.bs HB3.out HBb.out) (.map #[] 0)); have HM4 := Lib.hid (MapF.made (P := Tryz.prog) (k := 9) (w3.setCell ⟨b, 2, none⟩ (.map (some w3.heap.size)))); clear c0 c1 c2 f0 f1 f2 z1 hM3 hg3; obtain ⟨c0, c1, c2, f0, f1, f2⟩ := HR3.out.at_.three; have z1 := HR3.out.lt; have z3 := HR3.out.map.lt)) | (at_builtin; go_loud (refine key_append _ (b + 1) nK _ _ p 65 68 (w3.heap.size + 1) (by rw [World.size_alloc, heap_set]) (by have h := HR4.out.keys; rw [HNK.out] at h; exact h) (by omega) HR4.out.lt rfl rfl rfl rfl ?_; intro v9 w9 hown9 hg9 hat9; obtain ⟨vA9, vc9, rfl, _⟩ := own_slice hown9; have HO9 := Lib.hid hown9; have HG9 := Lib.hid hg9; have HA9 := Lib.hid hat9; have HX9 := Lib.hid (at_grown9 HR4.out.at_ HR4.out.kv_ne hg9); clear c0 c1 c2 f0 f1 f2 z1 z3 hown9 hg9 hat9; obtain ⟨c0, c1, c2, f0, f1, f2⟩ := HX9.out.three; have z1 := HX9.out.lt)))
  have hrl : (w3.setCell ⟨b, 2, none⟩ (.map (some w3.heap.size))).heap.size = w3.heap.size := heap_set _ _ _
  obtain ⟨W4, hW4⟩ : ∃ W, (w3.setCell ⟨b, 2, none⟩ (.map (some w3.heap.size))).alloc (.map #[] 0) = W := ⟨_, rfl⟩
  have hm4 := HM4.out
  rw [hW4] at HR4 HB4 HG9 hm4
  rw [hrl] at hm4
  have hs4 : W4.heap.size = w3.heap.size + 1 := by rw [← hW4, World.size_alloc, heap_set]
  have hnm4 : w3.heap.size ≠ pm := by have := HR3.out.map.lt; omega
  have hnb4 : b < w3.heap.size := HR3.out.lt
  go_ret
  refine ⟨rfl, ⟨.slice vA9 (nK + 1) vc9, w3.heap.size, ?_, ?_, hnm4, hnb4⟩, ?_⟩
  · refine (HR4.out.call (Hv.bl1 W4 _)).pushKey HG9.out ?_ ?_
    · rw [HNK.out]; exact HO9.out
    · intro g hg q
      rw [World.size_alloc] at hg
      rcases HA9.out with e | e
      · rw [e]; exact q
      · rw [e]
        intro e2
        have := Option.some.inj e2
        simp only [World.size_alloc, heap_set] at this
        omega
  · have h1 := ((hm4.alloc (.cells #[.string p, .slice none 0 0] 44)).kept HG9.out (fun e => Ink.own_ne_map HR4.out.keys hm4 e.symm)).setCell (a := ⟨b, 0, none⟩) (by show w3.heap.size ≠ b; omega) (.slice vA9 (nK + 1) vc9)
    exact h1
  · exact ((HB4.out.alloc (Ink.bs HB4.out HBb.out) _).grown HG9.out (by rw [World.size_alloc]; have := Ink.bs HB4.out HBb.out; omega) (fun g e => by have := (HR4.out.keys.lt g e).1; omega)).setCell (p := ⟨b, 0, none⟩) (Nat.sub_le b 1) _
end
end Go.Proofs.YtmnolcjmnddbnaaGreatDoor

/- little.digit, little.Unhex: bytes from digits. -/
namespace Go.Proofs.YtmnolcjmnddbnaaGreatDoor
open Go.RowKit

namespace Ink
open Em
theorem dig_bd (b : UInt8) : -1 ≤ dig b ∧ dig b ≤ 15 := by
  unfold dig
  split
  · omega
  · split
    · omega
    · split <;> omega
theorem dig_cases (b : UInt8) : (48 ≤ (b.toNat : Int) ∧ (b.toNat : Int) ≤ 57 ∧ dig b = (b.toNat : Int) - 48) ∨ (48 ≤ (b.toNat : Int) ∧ ¬ (b.toNat : Int) ≤ 57 ∧ 97 ≤ (b.toNat : Int) ∧ (b.toNat : Int) ≤ 102 ∧ dig b = (b.toNat : Int) - 97 + 10) ∨
    (48 ≤ (b.toNat : Int) ∧ ¬ (b.toNat : Int) ≤ 57 ∧ 97 ≤ (b.toNat : Int) ∧ ¬ (b.toNat : Int) ≤ 102 ∧ 65 ≤ (b.toNat : Int) ∧ ¬ (b.toNat : Int) ≤ 70 ∧ dig b = -1) ∨ (48 ≤ (b.toNat : Int) ∧ ¬ (b.toNat : Int) ≤ 57 ∧ ¬ 97 ≤ (b.toNat : Int) ∧ 65 ≤ (b.toNat : Int) ∧ (b.toNat : Int) ≤ 70 ∧ dig b = (b.toNat : Int) - 65 + 10) ∨
    (48 ≤ (b.toNat : Int) ∧ ¬ (b.toNat : Int) ≤ 57 ∧ ¬ 97 ≤ (b.toNat : Int) ∧ 65 ≤ (b.toNat : Int) ∧ ¬ (b.toNat : Int) ≤ 70 ∧ dig b = -1) ∨ (48 ≤ (b.toNat : Int) ∧ ¬ (b.toNat : Int) ≤ 57 ∧ ¬ 97 ≤ (b.toNat : Int) ∧ ¬ 65 ≤ (b.toNat : Int) ∧ dig b = -1) ∨
    (¬ 48 ≤ (b.toNat : Int) ∧ ¬ 97 ≤ (b.toNat : Int) ∧ ¬ 65 ≤ (b.toNat : Int) ∧ dig b = -1) := by
  unfold dig
  split
  · omega
  · split
    · omega
    · split <;> omega
theorem unh_step {a b : UInt8} {rest t : Txt} (h : unh (a :: b :: rest) = some t) : 0 ≤ dig a ∧ 0 ≤ dig b ∧ ∃ t', t = UInt8.ofNat (dig a * 16 + dig b).toNat :: t' ∧ ((rest = [] ∧ t' = []) ∨ ∃ r, rest = 44 :: r ∧ unh r = some t') := by
  cases rest with
  | nil =>
    rw [unh] at h
    split at h
    · rename_i hd
      exact ⟨hd.1, hd.2, [], (Option.some.inj h).symm, .inl ⟨rfl, rfl⟩⟩
    · cases h
  | cons c r =>
    rw [unh] at h
    split at h
    · rename_i hd
      obtain ⟨h1, h2, rfl⟩ := hd
      cases e : unh r with
      | none => rw [e] at h; cases h
      | some t' =>
        rw [e] at h
        exact ⟨h1, h2, t', (Option.some.inj h).symm, .inr ⟨r, rfl, e⟩⟩
    · cases h
theorem unh_len : ∀ (f : Nat) (l t : Txt), l.length ≤ f → unh l = some t → l.length % 3 = 2 → l.length + 1 = 3 * t.length
  | 0, l, t, hl, h, h3 => by omega
  | f + 1, [], t, hl, h, h3 => by simp at h3
  | f + 1, [_], t, hl, h, h3 => by simp at h3
  | f + 1, a :: b :: rest, t, hl, h, h3 => by
    obtain ⟨_, _, t', rfl, h4⟩ := unh_step h
    rcases h4 with ⟨rfl, rfl⟩ | ⟨r, rfl, hr⟩
    · rfl
    · simp only [List.length_cons] at hl h3 ⊢
      have := unh_len f r t' (by omega) hr (by omega)
      omega
theorem hex_or : ∀ x : Fin 16, ∀ y : Fin 16, IntKind.u8.wrap (bits .or .i64 ((x.val : Int) * 16) (y.val : Int)) = ((UInt8.ofNat ((x.val : Int) * 16 + (y.val : Int)).toNat).toNat : Int) ∧ bits .or .i64 ((x.val : Int) * 16) (y.val : Int) = (x.val : Int) * 16 + (y.val : Int) := by decide +kernel
theorem hex_byte {x y : Int} (h0 : 0 ≤ x) (h1 : x ≤ 15) (h2 : 0 ≤ y) (h3 : y ≤ 15) : IntKind.u8.wrap (bits .or .i64 (x * 16) y) = ((UInt8.ofNat (x * 16 + y).toNat).toNat : Int) ∧ bits .or .i64 (x * 16) y = x * 16 + y := by
  have h := hex_or ⟨x.toNat, by omega⟩ ⟨y.toNat, by omega⟩
  simp only [Int.toNat_of_nonneg h0, Int.toNat_of_nonneg h2] at h
  exact h
end Ink
set_option maxHeartbeats 2000000 in
theorem digit_any (b : UInt8) (w : World) : Calls Tryz.prog 58 #[.int .u8 (b.toNat : Int)] w fun e w' => e = .returned (.int .i64 (Ink.dig b)) ∧ w = w' := by
  have h256 : (b.toNat : Int) < 256 := by have := b.toNat_lt; omega
  obtain ⟨X, hX⟩ : ∃ X, Ink.dig b = X := ⟨_, rfl⟩
  have hc := Ink.dig_cases b
  rw [hX] at hc ⊢
  clear hX
  obtain ⟨x, hx⟩ : ∃ x : Int, (b.toNat : Int) = x := ⟨_, rfl⟩
  have hx0 : 0 ≤ x := by omega
  rw [hx] at hc h256 ⊢
  clear hx
  rcases hc with ⟨h1, h2, h3⟩ | ⟨h1, h2, h3, h4, h5⟩ | ⟨h1, h2, h3, h4, h5, h6, h7⟩ | ⟨h1, h2, h3, h4, h5, h6⟩ | ⟨h1, h2, h3, h4, h5, h6⟩ | ⟨h1, h2, h3, h4, h5⟩ | ⟨h1, h2, h3, h4⟩
  all_goals
    subst X
    go_enter Tryz.func58, Tryz.ntmps58
    go_wp2
    go_ret
    exact ⟨rfl, rfl⟩
set_option maxHeartbeats 8000000 in
set_option maxRecDepth 100000 in
/-- Digits that tell bytes. -/
theorem unhex_ok (s : ByteArray) (t : Em.Txt) (hs : s.size ≤ 1000000) (h0 : s.size = 0 ∧ t = [] ∨ s.size % 3 = 2 ∧ Ink.unh (tl s) = some t) (w : World) :
    Calls Tryz.prog 38 #[.string s] w fun e w' => e = .returned (.tuple #[.string (Em.bts t), .int .i64 0]) ∧ Below w.heap.size w w' := by
  rcases h0 with ⟨h0, rfl⟩ | ⟨h3, hu⟩
  · have g0 : s.toList.isEmpty = true := Hv.emp_yes h0
    clear h0
    go_enter Tryz.func38, Tryz.ntmps38
    go_wp2
    go_ret2
    exact ⟨rfl, Below.refl _ _⟩
  have g0 : s.toList.isEmpty = false := Hv.emp_no (by omega)
  obtain ⟨i0, hi0, hz0, hz1, hz2⟩ := info_parts u8_info
  have hmk := fun W : World => run_make (P := Tryz.prog) W 31 5 i0 _ Tryz.underlying31 hi0 hz0 .i64 .i64 0 ((s.size : Int) / 3 + 1) (by omega) (by omega) (by rw [hz2]; omega) (by omega)
  rw [hz1] at hmk
  obtain ⟨MC, hMC⟩ : ∃ x, madeCells (Value.int .u8 0).cells (((s.size : Int) / 3 + 1).toNat * 1) = x := ⟨_, rfl⟩
  rw [hMC] at hmk
  have hMs : MC.size = ((s.size : Int) / 3 + 1).toNat * 1 := by rw [← hMC, size_madeCells]
  obtain ⟨cp, hcp⟩ : ∃ c, ((s.size : Int) / 3 + 1).toNat = c := ⟨_, rfl⟩
  rw [hcp] at hmk hMs
  have hcm : cp ≤ maxLen := by unfold maxLen; omega
  have HI := Lib.hid (And.intro hi0 (And.intro hz0 (And.intro hz1 hz2)))
  have HMs := Lib.hid hMs
  have HCm := Lib.hid hcm
  have HU := Lib.hid hu
  have HD := Lib.hid (fun (b : UInt8) W => digit_any b W)
  have r3 : (s.size : Int).tmod 3 = 2 := by rw [Int.tmod_eq_emod_of_nonneg (by omega)]; omega
  have r4 : (s.size : Int).tdiv 3 = (s.size : Int) / 3 := Int.tdiv_eq_ediv_of_nonneg (by omega)
  have r5 : (s.size : Int) % 3 = 2 := by omega
  have hn : ∃ n, s.size + 1 = 3 * n ∧ t.length = n := by
    have := Ink.unh_len _ _ _ (Nat.le_refl _) hu (by rw [tl_length]; exact h3)
    rw [tl_length] at this
    exact ⟨t.length, by omega, rfl⟩
  obtain ⟨n, hn, htl⟩ := hn
  have HN := Lib.hid hn
  have HT := Lib.hid htl
  have p3 : wrap64 ((s.size : Int) / 3 + 1) = (s.size : Int) / 3 + 1 := by unfold wrap64; omega
  clear hMC hi0 hz0 hz1 hz2 hMs hcp hcm hu h3 hn htl
  go_enter Tryz.func38, Tryz.ntmps38
  go_wp2_with fail
  clear hmk p3 r3 r4 r5
  go_loopw [4, 5] (fun v i wr => ∃ k j : Nat, ∃ A c, j ≤ s.size + 1 ∧ v = .slice A k c ∧ i = .int .i64 (j : Int) ∧ Hid (j = 3 * k) ∧ Hid (k ≤ n) ∧ Hid (wr.ownsRow w.heap.size 5 1 (.slice A k c) k (Lib.byteCells (t.take k))) ∧ Hid (k < n → Ink.unh ((tl s).drop (3 * k)) = some (t.drop k)) ∧ Hid (Below w.heap.size w wr)) (fun _ i _ => s.size + 3 - (intOf i).toNat)
  case atStart =>
    refine ⟨0, 0, _, _, by omega, rfl, rfl, rfl, Nat.zero_le _, World.ownsRow_made w MC cp (Nat.le_refl _) HCm.out HMs.out, fun _ => HU.out, ?_⟩
    exact Hv.bl1 _ _
  case round =>
    obtain ⟨k, j, A, c, hk, rfl, rfl, HJ, HK, HO, HX, HB⟩ := hrel
    by_cases hlt : j < s.size
    · have hkn : k < n := by have := HN.out; have := HJ.out; omega
      have hx := HX.out hkn
      rw [← HJ.out] at hx
      have h1 : j + 1 < s.size := by have := HN.out; have := HJ.out; omega
      rw [Ink.drop_at hlt, Ink.drop_at h1] at hx
      obtain ⟨a, ha⟩ : ∃ a, s[j] = a := ⟨_, rfl⟩
      obtain ⟨b, hb⟩ : ∃ b, s[j + 1] = b := ⟨_, rfl⟩
      rw [ha, hb] at hx
      obtain ⟨d1, d2, t', ht', hr⟩ := Ink.unh_step hx
      have hb1 := Ink.dig_bd a
      have hb2 := Ink.dig_bd b
      have hby := Ink.hex_byte d1 hb1.2 d2 hb2.2
      obtain ⟨x, hxx⟩ : ∃ x, UInt8.ofNat (Ink.dig a * 16 + Ink.dig b).toNat = x := ⟨_, rfl⟩
      rw [hxx] at ht' hby
      obtain ⟨da, hda⟩ : ∃ d, Ink.dig a = d := ⟨_, rfl⟩
      obtain ⟨db, hdb⟩ : ∃ d, Ink.dig b = d := ⟨_, rfl⟩
      have HDa : Hid (∀ W, Calls Tryz.prog 58 #[.int .u8 (a.toNat : Int)] W fun e w' => e = .returned (.int .i64 da) ∧ w' = W) := fun W => by rw [← hda]; exact (HD.out a W).mono fun _ _ h => ⟨h.1, h.2.symm⟩
      have HDb : Hid (∀ W, Calls Tryz.prog 58 #[.int .u8 (b.toNat : Int)] W fun e w' => e = .returned (.int .i64 db) ∧ w' = W) := fun W => by rw [← hdb]; exact (HD.out b W).mono fun _ _ h => ⟨h.1, h.2.symm⟩
      rw [hda] at d1 hb1 hby
      rw [hdb] at d2 hb2 hby
      have HT1 : Hid (t.take (k + 1) = t.take k ++ [x] ∧ t.drop (k + 1) = t') := by
        have e1 : t[k]? = some x := by rw [← List.head?_drop, ht']; rfl
        refine ⟨by rw [List.take_add_one, e1]; rfl, ?_⟩
        have : t.drop (k + 1) = (t.drop k).drop 1 := by rw [List.drop_drop]
        rw [this, ht']
        rfl
      have HNx : Hid (k + 1 < n → Ink.unh ((tl s).drop (3 * (k + 1))) = some (t.drop (k + 1))) := by
        intro hk1
        have h2 : j + 2 < s.size := by have := HN.out; have := HJ.out; omega
        rcases hr with ⟨e, _⟩ | ⟨r, e, h⟩
        · rw [Ink.drop_at h2] at e; cases e
        · rw [Ink.drop_at h2] at e
          injection e with _ e
          rw [HT1.out.2, show 3 * (k + 1) = j + 2 + 1 by have := HJ.out; omega, e]
          exact h
      have hcomma : ∀ h2 : j + 2 < s.size, s[j + 2] = 44 := by
        intro h2
        rcases hr with ⟨e, _⟩ | ⟨r, e, h⟩
        · rw [Ink.drop_at h2] at e; cases e
        · rw [Ink.drop_at h2] at e
          injection e with e _
      have hsz := HB.out.size
      have q1 : (0 : Int) ≤ (j : Int) := by omega
      have q2 : (j : Int) < (s.size : Int) := by omega
      have q3 : (0 : Int) ≤ (j : Int) + 1 := by omega
      have q4 : (j : Int) + 1 < (s.size : Int) := by omega
      have q5 : ((j : Int) + 1).toNat = j + 1 := by omega
      have q6 : True → IntKind.i64.wrap ((j : Int) + 1) = (j : Int) + 1 := fun _ => by rw [IntKind.wrap_i64]; omega
      have q7 : True → IntKind.i64.wrap ((j : Int) + 2) = (j : Int) + 2 := fun _ => by rw [IntKind.wrap_i64]; omega
      have q8 : True → IntKind.i64.wrap ((j : Int) + 3) = (j : Int) + 3 := fun _ => by rw [IntKind.wrap_i64]; omega
      have q9 : ((j : Int) + 2).toNat = j + 2 := by omega
      have q10 : (0 : Int) ≤ (j : Int) + 2 := by omega
      have q11 : True → IntKind.i64.wrap (da * 16) = da * 16 := fun _ => by rw [IntKind.wrap_i64]; omega
      have n1 : ¬ da < 0 := by omega
      have n2 : ¬ db < 0 := by omega
      have hkle : k ≤ 1000000 := by have := HK.out; have := HN.out; omega
      have HJx := Lib.hid (show j + 3 = 3 * (k + 1) by have := HJ.out; omega)
      have HKx := Lib.hid (show k + 1 ≤ n by omega)
      have hj3 : j + 3 ≤ s.size + 1 := by have := HN.out; have := HJ.out; omega
      obtain ⟨hy1, hy2⟩ := hby
      have hz1 : True → IntKind.u8.wrap (bits .or .i64 (da * 16) db) = (x.toNat : Int) := fun _ => hy1
      have hz2 : True → bits .or .i64 (da * 16) db = da * 16 + db := fun _ => hy2
      have hz3 : True → IntKind.u8.wrap (da * 16 + db) = (x.toNat : Int) := fun _ => by rw [← hy2]; exact hy1
      clear hx ht' hr hda hdb hxx hy1 hy2
      have hway : (∃ h2 : j + 2 < s.size, s[j + 2] = 44 ∧ (j : Int) + 2 < (s.size : Int)) ∨ ¬ (j : Int) + 2 < (s.size : Int) := by
        by_cases h2 : j + 2 < s.size
        · exact .inl ⟨h2, hcomma h2, by omega⟩
        · exact .inr (by omega)
      clear hcomma
      rcases hway with ⟨h2, h44, q12⟩ | q12
      all_goals
        go_wp2_with fail
        go_quiet (first | (go_at_call_of 58 a; exact Calls.quiet_of_same (HDa.out _)) | (go_at_call_of 58 b; exact Calls.quiet_of_same (HDb.out _)))
        obtain ⟨wq, hwq⟩ : ∃ W, wr.drewN nq = W := ⟨_, rfl⟩
        have HBq : Hid (Below w.heap.size w wq) := by rw [← hwq]; exact below_drewN HB.out nq
        have HOq : Hid (wq.ownsRow w.heap.size 5 1 (.slice A k c) k (Lib.byteCells (t.take k))) := by rw [← hwq]; exact HO.out
        have hszq := HBq.out.size
        rw [hwq]
        clear hwq
        go_wp2_with (at_builtin; refine wpList_append_bytes HI.out _ rfl (.tmp 54) (.tmp 60) rfl w.heap.size _ k _ rfl (HOq.out.alloc _) _ _ _ _ _ rfl (reads_lit wq #[.int .u8 (x.toNat : Int)] 5) (by intro u hu; cases hu with | head => rfl | tail _ h => cases h) (by show k + 1 ≤ _; omega) (by rw [World.size_alloc]; omega) ?_; intro v9 w9 hown9 hg9; obtain ⟨A9, c9, rfl, _⟩ := own_slice hown9; have HO9 := Lib.hid hown9; have HG9 := Lib.hid hg9; clear hown9 hg9)
        have HB9 : Hid (Below w.heap.size w w9) := (HBq.out.alloc HBq.out.size _).grown HG9.out (by rw [World.size_alloc]; omega) (fun g e => (HOq.out.lt g e).1)
        go_roundw
        case rel =>
          refine ⟨k + 1, j + 3, A9, c9, hj3, rfl, by go_num, HJx.out, HKx.out, ?_, HNx.out, HB9.out⟩
          show World.ownsRow _ _ _ _ _ _ _
          rw [HT1.out.1, Em.cells_app]
          exact HO9.out
        case measure => simp [intOf]; omega
    · have hkn : k = n := by have := HN.out; have := HJ.out; have := HK.out; omega
      subst hkn
      have q2 : ¬ (j : Int) < (s.size : Int) := by omega
      have hO : wr.ownsRow w.heap.size 5 1 (.slice A k c) k (Lib.byteCells t) := by
        have h := HO.out
        rw [List.take_of_length_le (by rw [HT.out]; exact Nat.le_refl _)] at h
        exact h
      have hcv0 : (convert 31 9 (.slice A k c)).run Tryz.prog wr = .ok (.string (Em.bts t)) wr := Em.bytes_back hO HT.out.symm rfl
      have hcv : ∀ m, (convert 31 9 (.slice A k c)).run Tryz.prog (wr.drewN m) = .ok (.string (Em.bts t)) (wr.drewN m) := fun m => Em.bytes_back (w := wr.drewN m) hO HT.out.symm rfl
      go_wp2
      go_ret2
      exact ⟨rfl, HB.out⟩
end Go.Proofs.YtmnolcjmnddbnaaGreatDoor

/- strconv.ParseUint of few digits to the base 16. -/
namespace Go.Proofs.YtmnolcjmnddbnaaGreatDoor
open Go.RowKit

namespace Ink
def lowhex (c : UInt8) : Prop := (48 ≤ c.toNat ∧ c.toNat ≤ 57) ∨ (97 ≤ c.toNat ∧ c.toNat ≤ 102)
theorem bw_below (w : World) (s : ByteArray) : Below w.heap.size w (Lib.bytesWorld w 5 s) :=
  ⟨rfl, rfl, rfl, by rw [Lib.bytesWorld_size]; omega, fun k hk => Lib.bytesWorld_at_old w 5 s k hk⟩
theorem hexd_low : ∀ n, n < 16 → (48 ≤ (Em.hexd n).toNat ∧ (Em.hexd n).toNat ≤ 57) ∨ (97 ≤ (Em.hexd n).toNat ∧ (Em.hexd n).toNat ≤ 102) := by decide
theorem dig_num {c : UInt8} (h0 : 48 ≤ c.toNat) (h1 : c.toNat ≤ 57) : (dig c).toNat = c.toNat - 48 := by
  unfold dig
  rw [if_pos (by omega)]
  omega
theorem dig_let {c : UInt8} (h0 : 97 ≤ c.toNat) (h1 : c.toNat ≤ 102) : (dig c).toNat = c.toNat - 87 := by
  unfold dig
  rw [if_neg (by omega), if_pos (by omega)]
  omega
theorem or32 : ∀ m : Nat, 97 ≤ m → m ≤ 102 → bits .or .u8 (m : Int) 32 = (m : Int) := by
  intro m h1 h2
  rcases (show m = 97 ∨ m = 98 ∨ m = 99 ∨ m = 100 ∨ m = 101 ∨ m = 102 by omega) with rfl | rfl | rfl | rfl | rfl | rfl <;> decide
theorem valL_le : ∀ (l : Em.Txt) (n k : Nat), (∀ c ∈ l, (dig c).toNat ≤ 15) → n < 16 ^ k → valL l n < 16 ^ (k + l.length)
  | [], n, k, _, h => h
  | c :: l, n, k, hc, h => by
    have h1 := hc c List.mem_cons_self
    have := valL_le l (n * 16 + (dig c).toNat) (k + 1) (fun x hx => hc x (List.mem_cons_of_mem _ hx)) (by rw [Nat.pow_succ]; omega)
    rw [valL, List.length_cons, show k + (l.length + 1) = k + 1 + l.length by omega]
    exact this
end Ink
set_option maxHeartbeats 1000000 in
theorem lower_low (m : Nat) (h1 : 97 ≤ m) (h2 : m ≤ 102) (w : World) :
    Calls Tryz.prog 91 #[.int .u8 (m : Int)] w fun e w' => e = .returned (.int .u8 (m : Int)) ∧ w = w' := by
  have hb := Ink.or32 m h1 h2
  go_enter Tryz.func91, Tryz.ntmps91
  go_wp2
  go_ret
  exact ⟨by simp, rfl⟩
set_option maxHeartbeats 16000000 in
set_option maxRecDepth 100000 in
theorem pu16_in (t : ByteArray) (h1 : 1 ≤ t.size) (h8 : t.size ≤ 8) (hd : ∀ c ∈ tl t, Ink.lowhex c) (w : World) :
    Calls Tryz.prog 75 #[.string t, .int .i64 16, .int .i64 32] w fun e w' => e = .returned (.tuple #[.int .u64 (Ink.valL (tl t) 0 : Int), .nilIface]) ∧ Below w.heap.size w w' := by
  have HL := Lib.hid (fun (m : Nat) (h1 : 97 ≤ m) (h2 : m ≤ 102) W => lower_low m h1 h2 W)
  have hemp : t.toList.isEmpty = false := Hv.emp_no (by omega)
  have hcv := Lib.run_convert_string_bytes (P := Tryz.prog) w 9 31 5 t (u := .string) Tryz.underlying9 Tryz.underlying31 Tryz.underlying5
  have hB : ∀ j, j < t.size → (Lib.bytesWorld w 5 t).cell? ⟨w.heap.size, j, none⟩ = some (.int .u8 (t.data.toList.getD j 0).toNat) := fun j hj => Lib.bytesWorld_cell w 5 t j hj
  have hbw : Below w.heap.size w (Lib.bytesWorld w 5 t) := Ink.bw_below w t
  obtain ⟨W1, hW1⟩ : ∃ W1, W1 = Lib.bytesWorld w 5 t := ⟨_, rfl⟩
  rw [← hW1] at hcv hB hbw
  have HBw := Lib.hid hbw
  have hlt1 : w.heap.size < W1.heap.size := by rw [hW1, Lib.bytesWorld_size]; omega
  clear hW1 hbw
  have hmv : IntKind.u64.wrap (IntKind.u64.wrap 4294967296 - 1) = 4294967295 := by
    rw [IntKind.wrap_u64, IntKind.wrap_u64]
    decide
  obtain ⟨X, hX⟩ : ∃ X, Ink.valL (tl t) 0 = X := ⟨_, rfl⟩
  rw [hX]
  have HX := Lib.hid hX
  have HD := Lib.hid hd
  clear hX hd
  go_enter Tryz.func75, Tryz.ntmps75
  go_wp2
  go_loop [12, 13, 101] (fun vu vn vi => ∃ (k acc : Nat) (a : Int), vu = .bool false ∧ vn = .int .u64 a ∧ vi = .int .i64 k ∧ k ≤ t.size ∧ Hid (a = (acc : Int) ∧ acc < 16 ^ k ∧ X = Ink.valL ((tl t).drop k) acc))
    (fun _ _ vi => t.size - (intOf vi).toNat)
  case atStart => exact ⟨0, 0, 0, rfl, rfl, rfl, by omega, rfl, by decide, HX.out.symm⟩
  case round =>
    obtain ⟨k, acc, a, rfl, rfl, rfl, hk, hh⟩ := hrel
    obtain ⟨ha, hacc, hdec⟩ := hh.out
    clear hh
    have hp : 16 ^ k ≤ 16 ^ 8 := Nat.pow_le_pow_right (by omega) (by omega)
    have hp8 : (16 : Nat) ^ 8 = 4294967296 := by decide
    have a0 : 0 ≤ a := by omega
    by_cases hkn : k < t.size
    · have hp7 : 16 ^ k ≤ 16 ^ 7 := Nat.pow_le_pow_right (by omega) (by omega)
      have hp77 : (16 : Nat) ^ 7 = 268435456 := by decide
      have a1 : a < 268435456 := by omega
      have hpk : 16 ^ (k + 1) = 16 ^ k * 16 := Nat.pow_succ ..
      have hc := hB k hkn
      have hkl : k < (tl t).length := by rw [tl_length]; exact hkn
      have hdrop : (tl t).drop k = (tl t)[k] :: (tl t).drop (k + 1) := List.drop_eq_getElem_cons hkl
      have hget : t.data.toList.getD k 0 = (tl t)[k] := by
        show (tl t).getD k 0 = _
        rw [List.getD_eq_getElem?_getD, List.getElem?_eq_getElem hkl]
        rfl
      have hlo := HD.out _ (List.getElem_mem hkl)
      rw [hdrop] at hdec
      rw [hget] at hc
      generalize (tl t)[k] = c at hc hdec hlo
      have hc256 : c.toNat < 256 := c.toNat_lt
      have hF : Ink.valL (c :: (tl t).drop (k + 1)) acc = Ink.valL ((tl t).drop (k + 1)) (acc * 16 + (Ink.dig c).toNat) := rfl
      rw [hF] at hdec
      clear hB hdrop hget hF
      rcases hlo with ⟨d0, d1⟩ | ⟨d0, d1⟩
      · rw [Ink.dig_num d0 d1] at hdec
        have HN : Hid (a * 16 + ((c.toNat : Int) - 48) = ((acc * 16 + (c.toNat - 48) : Nat) : Int) ∧ acc * 16 + (c.toNat - 48) < 16 ^ (k + 1) ∧ X = Ink.valL ((tl t).drop (k + 1)) (acc * 16 + (c.toNat - 48))) := Lib.hid ⟨by omega, by omega, hdec⟩
        have iov : a * 16 + ((c.toNat : Int) - 48) < 4294967296 := by omega
        clear hacc hdec ha hp hp8 hp7 hp77 hpk hkl
        go_wp2
        refine ⟨⟨k + 1, acc * 16 + (c.toNat - 48), a * 16 + ((c.toNat : Int) - 48), rfl, (by first | rfl | (congr 1; omega)), (by first | rfl | (congr 1; omega)), by omega, HN⟩, by simp [intOf]; omega⟩
      · rw [Ink.dig_let d0 d1] at hdec
        have HN : Hid (a * 16 + ((c.toNat : Int) - 87) = ((acc * 16 + (c.toNat - 87) : Nat) : Int) ∧ acc * 16 + (c.toNat - 87) < 16 ^ (k + 1) ∧ X = Ink.valL ((tl t).drop (k + 1)) (acc * 16 + (c.toNat - 87))) := Lib.hid ⟨by omega, by omega, hdec⟩
        have iov : a * 16 + ((c.toNat : Int) - 87) < 4294967296 := by omega
        have e97 : IntKind.u8.wrap (IntKind.u8.wrap ((c.toNat : Int) - 97) + 10) = (c.toNat : Int) - 87 := by rw [IntKind.wrap_u8, IntKind.wrap_u8]; omega
        have e97b : IntKind.u8.wrap ((c.toNat : Int) - 97 + 10) = (c.toNat : Int) - 87 := by rw [IntKind.wrap_u8]; omega
        clear hacc hdec ha hp hp8 hp7 hp77 hpk hkl
        go_wp2_with (go_at_call 91; refine (HL.out _ d0 d1 _).mono ?_; rintro e w' ⟨rfl, rfl⟩)
        refine ⟨⟨k + 1, acc * 16 + (c.toNat - 87), a * 16 + ((c.toNat : Int) - 87), rfl, (by first | rfl | (congr 1; omega)), (by first | rfl | (congr 1; omega)), by omega, HN⟩, by simp [intOf]; omega⟩
    · have hkk : k = t.size := by omega
      subst hkk
      have hF : Ink.valL ((tl t).drop t.size) acc = acc := by rw [List.drop_eq_nil_of_le (by rw [tl_length]; exact Nat.le_refl _)]; rfl
      rw [hF] at hdec
      have HE : Hid ((X : Int) = a) := by show _ = _; rw [ha, hdec]
      clear hacc hF a0 hp hp8 ha hdec
      go_wp2
      go_ret2
      exact ⟨by rw [HE.out]; rfl, HBw.out⟩
set_option maxHeartbeats 4000000 in
theorem pu16_any (t : ByteArray) (h1 : 1 ≤ t.size) (h8 : t.size ≤ 8) (hd : ∀ c ∈ tl t, Ink.lowhex c) (w : World) :
    Calls Tryz.prog 57 #[.string t, .int .i64 16, .int .i64 32] w fun e w' => e = .returned (.tuple #[.int .u64 (Ink.valL (tl t) 0 : Int), .nilIface]) ∧ Below w.heap.size w w' := by
  have HP := Lib.hid (pu16_in t h1 h8 hd)
  obtain ⟨X, hX⟩ : ∃ X : Int, (Ink.valL (tl t) 0 : Int) = X := ⟨_, rfl⟩
  rw [hX] at HP ⊢
  clear hX hd
  go_enter Tryz.func57, Tryz.ntmps57
  go_wp2_with fail
  refine (HP.out _).mono ?_
  rintro e w1 ⟨rfl, hb⟩
  have HB := Lib.hid hb
  clear hb
  go_wp2
  go_ret2
  exact ⟨rfl, HB.out⟩

set_option maxHeartbeats 4000000 in
theorem inNumber_any (t : ByteArray) (h1 : 1 ≤ t.size) (h8 : t.size ≤ 8) (hd : ∀ c ∈ tl t, Ink.lowhex c) (w : World) :
    Calls Tryz.prog 37 #[.string t] w fun e w' => e = .returned (.tuple #[.int .u32 (Ink.valL (tl t) 0 : Int), .bool true]) ∧ Below w.heap.size w w' := by
  have HP := Lib.hid (pu16_any t h1 h8 hd)
  have hv : Ink.valL (tl t) 0 < 16 ^ (0 + (tl t).length) := Ink.valL_le (tl t) 0 0 (fun c hc => by
    rcases hd c hc with ⟨a, b⟩ | ⟨a, b⟩
    · rw [Ink.dig_num a b]; omega
    · rw [Ink.dig_let a b]; omega) (by decide)
  have hv2 : Ink.valL (tl t) 0 < 4294967296 := by
    refine Nat.lt_of_lt_of_le hv ?_
    rw [Nat.zero_add, tl_length, show (4294967296 : Nat) = 16 ^ 8 by decide]
    exact Nat.pow_le_pow_right (by omega) h8
  obtain ⟨X, hX⟩ : ∃ X : Int, (Ink.valL (tl t) 0 : Int) = X := ⟨_, rfl⟩
  have hx0 : 0 ≤ X := by omega
  have hx1 : X < 4294967296 := by omega
  have hw : IntKind.u32.wrap X = X := by rw [IntKind.wrap_u32]; omega
  rw [hX] at HP ⊢
  have q1 : ¬ (t.size : Int) < 1 := by omega
  have q2 : ¬ (8 : Int) < (t.size : Int) := by omega
  clear hX hd hv hv2 h1 h8
  go_enter Tryz.func37, Tryz.ntmps37
  go_wp2_with fail
  refine (HP.out _).mono ?_
  rintro e w1 ⟨rfl, hb⟩
  have HB := Lib.hid hb
  clear hb
  go_wp2_with fail
  go_quiet (fail)
  have HBq := Lib.hid (below_drewN HB.out nq)
  go_wp2
  go_ret2
  exact ⟨rfl, HBq.out⟩
end Go.Proofs.YtmnolcjmnddbnaaGreatDoor

/- intake.told, intake.Value: a value's line. -/
namespace Go.Proofs.YtmnolcjmnddbnaaGreatDoor
open Go.RowKit

namespace Ink
open Em
theorem cut_hit (p r : Txt) : Lib.trimPrefix (p ++ r) p = r ∧ Lib.hasPrefix (p ++ r) p = true := by
  have h : Lib.hasPrefix (p ++ r) p = true := List.isPrefixOf_iff_prefix.2 (List.prefix_append p r)
  refine ⟨?_, h⟩
  unfold Lib.trimPrefix
  rw [if_pos h, List.drop_left]
theorem cut_miss {s p : Txt} (h : s.head? ≠ p.head?) (hp : p ≠ []) : Lib.trimPrefix s p = s ∧ Lib.hasPrefix s p = false := by
  have h2 : Lib.hasPrefix s p = false := by
    cases e : Lib.hasPrefix s p with
    | false => rfl
    | true =>
      exfalso
      obtain ⟨t, rfl⟩ := List.isPrefixOf_iff_prefix.1 e
      cases p with
      | nil => exact hp rfl
      | cons c p => exact h rfl
  refine ⟨?_, h2⟩
  unfold Lib.trimPrefix
  rw [h2]
  rfl
theorem cut_len {s p : Txt} (h : s.length < p.length) : Lib.trimPrefix s p = s ∧ Lib.hasPrefix s p = false := by
  have h2 : Lib.hasPrefix s p = false := by
    cases e : Lib.hasPrefix s p with
    | false => rfl
    | true =>
      exfalso
      have := (List.isPrefixOf_iff_prefix.1 e).length_le
      omega
  refine ⟨?_, h2⟩
  unfold Lib.trimPrefix
  rw [h2]
  rfl
def numP : Txt := [110, 117, 109, 98, 101, 114, 58]
def bytP : Txt := [98, 121, 116, 101, 115, 58]
def zval : List Value := [.string ⟨#[]⟩, .int .u8 0, .string ⟨#[]⟩, .int .u32 0, .string ⟨#[]⟩]
theorem cut_any (s : ByteArray) (p : Txt) (w : World) : Calls Tryz.prog 36 #[.string s, .string (bts p)] w fun e w' => e = .returned (.tuple #[.string (bts (Lib.trimPrefix (tl s) p)), .bool (Lib.hasPrefix (tl s) p)]) ∧ w' = w :=
  Tryz.strings_CutPrefix s (bts p) w
theorem tup3_set {W w : World} (h : Below w.heap.size w W) (a b c d e : Value) : Below w.heap.size w (((((W.setCell ⟨w.heap.size, 0, none⟩ a).setCell ⟨w.heap.size, 1, none⟩ b).setCell ⟨w.heap.size, 2, none⟩ c).setCell ⟨w.heap.size, 3, none⟩ d).setCell ⟨w.heap.size, 4, none⟩ e) :=
  ((((h.setCell (p := ⟨w.heap.size, 0, none⟩) (Nat.le_refl _) _).setCell (p := ⟨w.heap.size, 1, none⟩) (Nat.le_refl _) _).setCell (p := ⟨w.heap.size, 2, none⟩) (Nat.le_refl _) _).setCell (p := ⟨w.heap.size, 3, none⟩) (Nat.le_refl _) _).setCell (p := ⟨w.heap.size, 4, none⟩) (Nat.le_refl _) _
theorem At.fiveI {w : World} {g : Nat} {a b c d e : Value} (h : At w g [a, b, c, d, e]) : w.cell? ⟨g, 0, none⟩ = some a ∧ w.cell? ⟨g, 1, none⟩ = some b ∧ w.cell? ⟨g, 2, none⟩ = some c ∧ w.cell? ⟨g, 3, none⟩ = some d ∧ w.cell? ⟨g, 4, none⟩ = some e ∧
    w.frozen? ⟨g, 0, none⟩ = false ∧ w.frozen? ⟨g, 1, none⟩ = false ∧ w.frozen? ⟨g, 2, none⟩ = false ∧ w.frozen? ⟨g, 3, none⟩ = false ∧ w.frozen? ⟨g, 4, none⟩ = false :=
  ⟨h.cell 0 _ rfl, h.cell 1 _ rfl, h.cell 2 _ rfl, h.cell 3 _ rfl, h.cell 4 _ rfl, h.free 0 _ rfl, h.free 1 _ rfl, h.free 2 _ rfl, h.free 3 _ rfl, h.free 4 _ rfl⟩
end Ink
set_option maxHeartbeats 4000000 in
set_option maxRecDepth 100000 in
theorem told_text (s : ByteArray) (t : Em.Txt) (hs : s.size ≤ 100000000) (hu : Ink.uq (tl s) = some (t, [])) (w : World) :
    Calls Tryz.prog 20 #[.string s] w fun e w' => e = .returned (.tuple #[.agg #[.string ⟨#[]⟩, .int .u8 1, .string (Em.bts t), .int .u32 0, .string ⟨#[]⟩], .bool true]) ∧ Below w.heap.size w w' := by
  have HU := Lib.hid (fun W => unquote_any s hs W)
  rw [hu] at HU
  obtain ⟨T, hT⟩ : ∃ T, Em.bts t = T := ⟨_, rfl⟩
  have HU2 : Hid (∀ W, Calls Tryz.prog 18 #[.string s] W fun e w' => e = .returned (.tuple #[.string T, .string ⟨#[]⟩, .bool true]) ∧ Below W.heap.size W w') := fun W => by rw [← hT]; exact HU.out W
  rw [hT]
  have HZ0 : Hid (At (w.alloc (.cells #[.string ⟨#[]⟩, .int .u8 0, .string ⟨#[]⟩, .int .u32 0, .string ⟨#[]⟩] 25)) w.heap.size Ink.zval) := At.new _ _ _
  have HB0 := Lib.hid (Hv.bl1 w (.cells #[.string ⟨#[]⟩, .int .u8 0, .string ⟨#[]⟩, .int .u32 0, .string ⟨#[]⟩] 25))
  clear hu HU hT
  go_enter Tryz.func20, Tryz.ntmps20
  go_wp2_with fail
  refine (HU2.out _).mono ?_
  rintro e w1 ⟨rfl, hb⟩
  have HB1 := Lib.hid (below_then HB0.out hb)
  have hA := HZ0.out.call hb
  obtain ⟨c0, c1, c2, c3, c4, f0, f1, f2, f3, f4⟩ := Ink.At.fiveI hA
  have hz := hA.lt
  clear hb hA
  go_wp2
  refine bodyPost_ret (v := .tuple #[.agg #[.string ⟨#[]⟩, .int .u8 1, .string T, .int .u32 0, .string ⟨#[]⟩], .bool true]) (by simp [results, Tryz.results20, go_sem, *]) rfl ⟨rfl, Ink.tup3_set HB1.out _ _ _ _ _⟩
set_option maxHeartbeats 4000000 in
set_option maxRecDepth 100000 in
theorem told_num (s : ByteArray) (d : Em.Txt) (hs : tl s = Ink.numP ++ d) (h1 : 1 ≤ d.length) (h8 : d.length ≤ 8) (hd : ∀ c ∈ d, Ink.lowhex c) (w : World) :
    Calls Tryz.prog 20 #[.string s] w fun e w' => e = .returned (.tuple #[.agg #[.string ⟨#[]⟩, .int .u8 2, .string ⟨#[]⟩, .int .u32 (Ink.valL d 0 : Int), .string ⟨#[]⟩], .bool true]) ∧ Below w.heap.size w w' := by
  have hsz : s.size ≤ 100000000 := by rw [← tl_length, hs, List.length_append]; show 7 + d.length ≤ _; omega
  have hu : Ink.uq (tl s) = none := by rw [hs]; rfl
  have HU : Hid (∀ W, Calls Tryz.prog 18 #[.string s] W fun e w' => e = .returned (.tuple #[.string ⟨#[]⟩, .string ⟨#[]⟩, .bool false]) ∧ Below W.heap.size W w') := fun W => by
    have h := unquote_any s hsz W
    rw [hu] at h
    exact h
  have HC : Hid (∀ W, Calls Tryz.prog 36 #[.string s, .string ⟨#[110, 117, 109, 98, 101, 114, 58]⟩] W fun e w' => e = .returned (.tuple #[.string (Em.bts d), .bool true]) ∧ w' = W) := fun W => by
    have h := Ink.cut_any s Ink.numP W
    rw [hs, (Ink.cut_hit Ink.numP d).1, (Ink.cut_hit Ink.numP d).2] at h
    exact h
  have HN := Lib.hid (fun W => inNumber_any (Em.bts d) (by rw [Em.bts_size]; exact h1) (by rw [Em.bts_size]; exact h8) (by rw [Em.tl_bts]; exact hd) W)
  rw [Em.tl_bts] at HN
  obtain ⟨D, hD⟩ : ∃ D, Em.bts d = D := ⟨_, rfl⟩
  obtain ⟨X, hX⟩ : ∃ X : Int, (Ink.valL d 0 : Int) = X := ⟨_, rfl⟩
  rw [hD] at HC HN
  rw [hX] at HN ⊢
  have HZ0 : Hid (At (w.alloc (.cells #[.string ⟨#[]⟩, .int .u8 0, .string ⟨#[]⟩, .int .u32 0, .string ⟨#[]⟩] 25)) w.heap.size Ink.zval) := At.new _ _ _
  have HB0 := Lib.hid (Hv.bl1 w (.cells #[.string ⟨#[]⟩, .int .u8 0, .string ⟨#[]⟩, .int .u32 0, .string ⟨#[]⟩] 25))
  clear hu hD hX hs hsz h1 h8 hd
  go_enter Tryz.func20, Tryz.ntmps20
  go_wp2_with fail
  refine (HU.out _).mono ?_
  rintro e w1 ⟨rfl, hb⟩
  have HB1 := Lib.hid (below_then HB0.out hb)
  have HZ1 := Lib.hid (HZ0.out.call hb)
  clear hb
  go_wp2_with fail
  refine (HC.out _).mono ?_
  rintro e w2 ⟨rfl, rfl⟩
  go_wp2_with fail
  refine (HN.out _).mono ?_
  rintro e w3 ⟨rfl, hb⟩
  have HB3 := Lib.hid (below_then HB1.out hb)
  have hA := HZ1.out.call hb
  obtain ⟨c0, c1, c2, c3, c4, f0, f1, f2, f3, f4⟩ := Ink.At.fiveI hA
  have hz := hA.lt
  clear hb hA
  go_wp2
  refine bodyPost_ret (v := .tuple #[.agg #[.string ⟨#[]⟩, .int .u8 2, .string ⟨#[]⟩, .int .u32 X, .string ⟨#[]⟩], .bool true]) (by simp [results, Tryz.results20, go_sem, *]) rfl ⟨rfl, Ink.tup3_set HB3.out _ _ _ _ _⟩
set_option maxHeartbeats 4000000 in
set_option maxRecDepth 100000 in
theorem told_bytes (s : ByteArray) (d t : Em.Txt) (hs : tl s = Ink.bytP ++ d) (hl : d.length ≤ 1000000) (h0 : d.length = 0 ∧ t = [] ∨ d.length % 3 = 2 ∧ Ink.unh d = some t) (w : World) :
    Calls Tryz.prog 20 #[.string s] w fun e w' => e = .returned (.tuple #[.agg #[.string ⟨#[]⟩, .int .u8 3, .string ⟨#[]⟩, .int .u32 0, .string (Em.bts t)], .bool true]) ∧ Below w.heap.size w w' := by
  have hsz : s.size ≤ 100000000 := by rw [← tl_length, hs, List.length_append]; show 6 + d.length ≤ _; omega
  have hu : Ink.uq (tl s) = none := by rw [hs]; rfl
  have HU : Hid (∀ W, Calls Tryz.prog 18 #[.string s] W fun e w' => e = .returned (.tuple #[.string ⟨#[]⟩, .string ⟨#[]⟩, .bool false]) ∧ Below W.heap.size W w') := fun W => by
    have h := unquote_any s hsz W
    rw [hu] at h
    exact h
  have HC0 : Hid (∀ W, Calls Tryz.prog 36 #[.string s, .string ⟨#[110, 117, 109, 98, 101, 114, 58]⟩] W fun e w' => e = .returned (.tuple #[.string s, .bool false]) ∧ w' = W) := fun W => by
    have h := Ink.cut_any s Ink.numP W
    have hm := Ink.cut_miss (s := tl s) (p := Ink.numP) (by rw [hs]; show some (98 : UInt8) ≠ some 110; decide) (by decide)
    rw [hm.1, hm.2] at h
    exact h
  have HC : Hid (∀ W, Calls Tryz.prog 36 #[.string s, .string ⟨#[98, 121, 116, 101, 115, 58]⟩] W fun e w' => e = .returned (.tuple #[.string (Em.bts d), .bool true]) ∧ w' = W) := fun W => by
    have h := Ink.cut_any s Ink.bytP W
    rw [hs, (Ink.cut_hit Ink.bytP d).1, (Ink.cut_hit Ink.bytP d).2] at h
    exact h
  have HN := Lib.hid (fun W => unhex_ok (Em.bts d) t (by rw [Em.bts_size]; exact hl) (by rw [Em.bts_size, Em.tl_bts]; exact h0) W)
  obtain ⟨D, hD⟩ : ∃ D, Em.bts d = D := ⟨_, rfl⟩
  obtain ⟨T, hT⟩ : ∃ T, Em.bts t = T := ⟨_, rfl⟩
  rw [hD] at HC HN
  rw [hT] at HN ⊢
  have HZ0 : Hid (At (w.alloc (.cells #[.string ⟨#[]⟩, .int .u8 0, .string ⟨#[]⟩, .int .u32 0, .string ⟨#[]⟩] 25)) w.heap.size Ink.zval) := At.new _ _ _
  have HB0 := Lib.hid (Hv.bl1 w (.cells #[.string ⟨#[]⟩, .int .u8 0, .string ⟨#[]⟩, .int .u32 0, .string ⟨#[]⟩] 25))
  clear hu hD hT hs hsz hl h0
  go_enter Tryz.func20, Tryz.ntmps20
  go_wp2_with fail
  refine (HU.out _).mono ?_
  rintro e w1 ⟨rfl, hb⟩
  have HB1 := Lib.hid (below_then HB0.out hb)
  have HZ1 := Lib.hid (HZ0.out.call hb)
  clear hb
  go_wp2_with fail
  refine (HC0.out _).mono ?_
  rintro e w2 ⟨rfl, rfl⟩
  go_wp2_with fail
  refine (HC.out _).mono ?_
  rintro e w2 ⟨rfl, rfl⟩
  go_wp2_with fail
  refine (HN.out _).mono ?_
  rintro e w3 ⟨rfl, hb⟩
  have HB3 := Lib.hid (below_then HB1.out hb)
  have hA := HZ1.out.call hb
  obtain ⟨c0, c1, c2, c3, c4, f0, f1, f2, f3, f4⟩ := Ink.At.fiveI hA
  have hz := hA.lt
  clear hb hA
  go_wp2
  refine bodyPost_ret (v := .tuple #[.agg #[.string ⟨#[]⟩, .int .u8 3, .string ⟨#[]⟩, .int .u32 0, .string T], .bool true]) (by simp [results, Tryz.results20, go_sem, *]) rfl ⟨rfl, Ink.tup3_set HB3.out _ _ _ _ _⟩
end Go.Proofs.YtmnolcjmnddbnaaGreatDoor

/- top 18: a value's lines, put together to one, with capital letters. -/
namespace Go.Proofs.YtmnolcjmnddbnaaGreatDoor
open Go.RowKit

namespace Ink
open Em
def vlineM (m : Bool) (v : Hv.V) : Txt := if v.kind = 3 then bpre v ++ hexsM m (tl v.bytes) else val v
/-- What the law makes of what stands behind the front. -/
def ov : Nat → Txt → Txt
  | 0, _ => []
  | _ + 1, [] => []
  | f + 1, c :: r => if c = 92 then ov f (r.drop 3) else up c :: ov f r
theorem ov_more : ∀ (f g : Nat) (l : Txt), l.length ≤ f → l.length ≤ g → ov f l = ov g l
  | 0, 0, l, h1, h2 => rfl
  | 0, g + 1, l, h1, h2 => by
    have : l = [] := List.length_eq_zero_iff.1 (by omega)
    subst this
    rfl
  | f + 1, 0, l, h1, h2 => by
    have : l = [] := List.length_eq_zero_iff.1 (by omega)
    subst this
    rfl
  | f + 1, g + 1, [], h1, h2 => rfl
  | f + 1, g + 1, c :: r, h1, h2 => by
    rw [List.length_cons] at h1 h2
    unfold ov
    rw [ov_more f g (r.drop 3) (by rw [List.length_drop]; omega) (by rw [List.length_drop]; omega), ov_more f g r (by omega) (by omega)]
def ovL (l : Txt) : Txt := ov l.length l
theorem ovL_nil : ovL [] = [] := rfl
theorem ovL_skip (r : Txt) : ovL (92 :: r) = ovL (r.drop 3) := by
  unfold ovL
  rw [List.length_cons, ov, if_pos rfl]
  exact ov_more _ _ _ (by rw [List.length_drop]; omega) (Nat.le_refl _)
theorem ovL_cons {c : UInt8} (r : Txt) (h : c ≠ 92) : ovL (c :: r) = up c :: ovL r := by
  unfold ovL
  rw [List.length_cons, ov, if_neg h]
theorem ovL_app : ∀ (a b : Txt), (∀ c ∈ a, c ≠ 92) → ovL (a ++ b) = a.map up ++ ovL b
  | [], _, _ => rfl
  | c :: a, b, h => by
    rw [List.cons_append, ovL_cons _ (h c List.mem_cons_self), ovL_app a b fun x hx => h x (List.mem_cons_of_mem _ hx)]
    rfl
theorem map_up_hexs : ∀ l : Txt, (hexs l).map up = hexsM true l
  | [] => rfl
  | b :: r => by
    have key : ∀ r : Txt, (r.flatMap fun c => 44 :: hexb c).map up = r.flatMap fun c => 44 :: hexbM true c := by
      intro r
      induction r with
      | nil => rfl
      | cons c r ih =>
        rw [List.flatMap_cons, List.map_append, ih, List.flatMap_cons]
        rfl
    show (hexb b ++ r.flatMap fun c => 44 :: hexb c).map up = _
    rw [List.map_append, key]
    rfl
theorem hexsM_app (m : Bool) (p r : Txt) (hp : p ≠ []) (hr : r ≠ []) : hexsM m (p ++ r) = hexsM m p ++ 44 :: hexsM m r := by
  cases p with
  | nil => exact absurd rfl hp
  | cons a p =>
    cases r with
    | nil => exact absurd rfl hr
    | cons b r => simp [hexsM]
theorem ov_joined : ∀ ps : List Txt, (∀ p ∈ ps, p ≠ []) → ovL (joined ps) = hexsM true ps.flatten
  | [], _ => rfl
  | [p], _ => by
    have e : joined [p] = hexs p ++ [] := by simp [joined]
    rw [e, ovL_app _ _ fun c hc => (hexs_plain p c hc).2.2.1, map_up_hexs, ovL_nil]
    simp
  | p :: q :: r, h => by
    have ih := ov_joined (q :: r) fun x hx => h x (List.mem_cons_of_mem _ hx)
    have hq : (q :: r).flatten ≠ [] := by
      intro e
      rw [List.flatten_eq_nil_iff] at e
      exact h q (by simp) (e q (by simp))
    have e : joined (p :: q :: r) = hexs p ++ (44 :: 92 :: 10 :: 32 :: 32 :: joined (q :: r)) := by rw [joined_cons]; simp [go]
    rw [e, ovL_app _ _ fun c hc => (hexs_plain p c hc).2.2.1, map_up_hexs, ovL_cons _ (by decide), ovL_skip]
    show _ ++ up 44 :: ovL (joined (q :: r)) = _
    rw [ih, show (p :: q :: r).flatten = p ++ (q :: r).flatten from rfl, hexsM_app true p _ (h p List.mem_cons_self) hq]
    rfl
theorem ov_bytes (l : Txt) : ovL (Em.bytes l) = hexsM true l := by
  unfold Em.bytes
  rw [ov_joined _ (parts_ne _ _), parts_flat _ _ (Nat.le_refl _)]
end Ink
end Go.Proofs.YtmnolcjmnddbnaaGreatDoor
