/- solsticetop.TopTwo. -/
import Derived.Test.YthmhadgbhakdlaaGreatDoorK17
import Derived.Test.YthmhadgbhakdlaaGreatDoorK14
import Derived.Test.YthmhadgbhakdlaaGreatDoorK06
import Derived.Test.YthmhadgbhakdlaaGreatDoorK09
import Derived.Test.YthmhadgbhakdlaaGreatDoorK18
import Derived.Test.YthmhadgbhakdlaaGreatDoorCards
import Derived.Test.YthmhadgbhakdlaaGreatDoorTie
import Derived.ProofKit
import Derived.OpenShut
import Derived.ShutString
import Derived.ChangeOld
import Derived.LaidMore
import Derived.Stop.LaidErr
import Derived.Deep.DeepHandedRow
import Derived.Lib.LaidTab
import Derived.Lib.SmallJoins
import Derived.SizedLaws

namespace Go.Proofs.YthmhadgbhakdlaaGreatDoor
open Go.RowKit

namespace T2
def front : ByteArray := ⟨#[82, 69, 71, 73, 83, 84, 69, 82, 32, 49, 10]⟩
theorem kc_one {w : World} {B : Nat} {l : List Hv.K} {v : Value} {evs : List Value} (h : Hv.HR w B l v evs) : ∀ u ∈ (l.zip evs).flatMap Hv.kc, u.oneCell' = true := by
  intro u hu
  obtain ⟨p, hp, hu⟩ := List.mem_flatMap.1 hu
  obtain ⟨A, c, e, _, _, _⟩ := h.vals p hp
  simp only [Hv.kc, e, List.mem_cons, List.not_mem_nil, or_false] at hu
  rcases hu with rfl | rfl <;> rfl
theorem zip_app {α β : Type} : ∀ (a a' : List α) (b b' : List β), b.length = a.length → (a ++ a').zip (b ++ b') = a.zip b ++ a'.zip b'
  | [], a', [], b', _ => rfl
  | x :: a, a', y :: b, b', h => by
    rw [List.cons_append, List.cons_append, List.zip_cons_cons, List.zip_cons_cons, zip_app a a' b b' (by simpa using h)]
    rfl
theorem own_cap {w : World} {base : Nat} {e : TypeId} {size n : Nat} {v : Value} {xs : List Value} (h : w.ownsRow base e size v n xs) : ∃ A c, v = .slice A n c ∧ n ≤ c ∧ c ≤ maxLen := by
  rcases h.2 with ⟨rfl, rfl⟩ | ⟨g, cap, cur, rfl, _, _, h1, h2, _⟩
  · exact ⟨none, 0, rfl, Nat.le_refl _, Nat.zero_le _⟩
  · exact ⟨_, cap, rfl, h1, h2⟩
theorem own_row {w : World} {B size n : Nat} {e : TypeId} {v : Value} {xs : List Value} (ho : w.ownsRow B e size v n xs) : Hv.Row w w.heap.size size n v xs := by
  have hr := ho
  obtain ⟨A, c, rfl, h1, h2⟩ : ∃ A c, v = .slice A n c ∧ n ≤ c ∧ c ≤ maxLen := by
    rcases ho.2 with ⟨rfl, rfl⟩ | ⟨g, cap, cur, rfl, _, _, h1, h2, _⟩
    · exact ⟨none, 0, rfl, Nat.le_refl _, Nat.zero_le _⟩
    · exact ⟨_, cap, rfl, h1, h2⟩
  exact ⟨A, c, rfl, h1, h2, Reads.of_own hr⟩
/-- Two hives' keys in one row. -/
theorem both {w : World} {B n m : Nat} {la lb : List Hv.K} {va vb v : Value} {eva evb : List Value} {e : TypeId} (ha : Hv.HR w w.heap.size la va eva) (hb : Hv.HR w w.heap.size lb vb evb) (hn : la.length = n) (hm : lb.length = m) (ho : w.ownsRow B e 2 v (n + m) ((la.zip eva).flatMap Hv.kc ++ (lb.zip evb).flatMap Hv.kc)) : Hv.HR w w.heap.size (la ++ lb) v (eva ++ evb) := by
  have hz := zip_app la lb eva evb ha.len
  refine ⟨?_, by rw [List.length_append, List.length_append, ha.len, hb.len], fun p hp => ?_⟩
  · rw [hz, List.flatMap_append, List.length_append, hn, hm]
    exact own_row ho
  · rw [hz] at hp
    rcases List.mem_append.1 hp with hp | hp
    · exact ha.vals p hp
    · exact hb.vals p hp
theorem front_facts {t : ByteArray} {l : List Hv.K} (h : t = Em.bts (Em.text l)) : 11 ≤ t.size ∧ t.extract 0 11 = front ∧ tl (t.extract 11 t.size) = (Em.text l).drop 11 := by
  obtain ⟨r, hr⟩ := Ink.text_front l
  have htl : tl t = Em.text l := by rw [h, Em.tl_bts]
  have hsz : t.size = r.length + 11 := by rw [← tl_length, htl, hr]; simp
  refine ⟨by omega, ?_, ?_⟩
  · apply ByteArray.ext
    apply Array.ext'
    show tl (t.extract 0 11) = [82, 69, 71, 73, 83, 84, 69, 82, 32, 49, 10]
    have e : tl (t.extract 0 11) = ((tl t).take 11).drop 0 := by
      simp [tl, ByteArray.data_extract]
    rw [e, htl, hr]
    rfl
  · have e : tl (t.extract 11 t.size) = (tl t).drop 11 := by
      simp [tl, ByteArray.data_extract]
      refine List.take_of_length_le ?_
      rw [List.length_drop]
      exact Nat.le_refl _
    rw [e, htl]
end T2
set_option maxHeartbeats 16000000 in
set_option maxRecDepth 200000 in
theorem topTwo_any (la : List Hv.K) (A : Option Addr) (n c : Nat) (eva : List Value) (lb : List Hv.K) (B : Option Addr) (m d : Nat) (evb : List Value) (w : World) (hW : Wg w)
    (hra : Hv.HR w w.heap.size la (.slice A n c) eva) (hla : la.length = n) (hna : n ≤ maxLen) (hoa : ∀ k ∈ la, k.Ok) (hfa : ∀ k ∈ la, ∀ v ∈ k.vals, v.Far)
    (hrb : Hv.HR w w.heap.size lb (.slice B m d) evb) (hlb : lb.length = m) (hnb : m ≤ maxLen) (hob : ∀ k ∈ lb, k.Ok) (hfb : ∀ k ∈ lb, ∀ v ∈ k.vals, v.Far) :
    Calls Tryz.prog 4 #[.agg #[.slice A n c], .agg #[.slice B m d]] w fun e w' => e = .returned (.bool true) ∧ Below w.heap.size w w' := by
  have HSa : Hid (∀ W, Below w.heap.size w W → Calls Tryz.prog 19 #[.agg #[.slice A n c]] W (Hv.SmRet la W)) := fun W hb => small34_any la (fun k hk => ⟨(hoa k hk).path, hfa k hk⟩) A n c eva W hla hna ((hra.below hb).more hb.size)
  have HSb : Hid (∀ W, Below w.heap.size w W → Calls Tryz.prog 19 #[.agg #[.slice B m d]] W (Hv.SmRet lb W)) := fun W hb => small34_any lb (fun k hk => ⟨(hob k hk).path, hfb k hk⟩) B m d evb W hlb hnb ((hrb.below hb).more hb.size)
  have HEa : Hid (∀ W, Below w.heap.size w W → Calls Tryz.prog 20 #[.agg #[.slice A n c]] W fun e w' => e = .returned (if Hv.hiveB la = true then .tuple #[.string (Em.bts (Em.text la)), .int .i64 0] else .tuple #[.string ⟨#[]⟩, .int .i64 2]) ∧ Below W.heap.size W w') := fun W hb => emText_any la hoa A n c eva W hla hna ((hra.below hb).more hb.size) (hW.below hb)
  have HEb : Hid (∀ W, Below w.heap.size w W → Calls Tryz.prog 20 #[.agg #[.slice B m d]] W fun e w' => e = .returned (if Hv.hiveB lb = true then .tuple #[.string (Em.bts (Em.text lb)), .int .i64 0] else .tuple #[.string ⟨#[]⟩, .int .i64 2]) ∧ Below W.heap.size W w') := fun W hb => emText_any lb hob B m d evb W hlb hnb ((hrb.below hb).more hb.size) (hW.below hb)
  have HW := Lib.hid hW
  have HRa := Lib.hid hra
  have HRb := Lib.hid hrb
  have HLa := Lib.hid hla
  have HLb := Lib.hid hlb
  have HOa := Lib.hid hoa
  have HOb := Lib.hid hob
  obtain ⟨W1, hW1⟩ : ∃ W, ((w.alloc (.cells #[.slice A n c] 43)).alloc (.cells #[.slice B m d] 43)) = W := ⟨_, rfl⟩
  have HB1 : Hid (Below w.heap.size w W1) := by show Below _ _ _; rw [← hW1]; exact Hv.bl (Hv.bl1 _ _) _
  have HA1 : Hid (At W1 w.heap.size [.slice A n c]) := by show At _ _ _; rw [← hW1]; exact (At.new _ _ _).allocO _
  have HC1 : Hid (At W1 (w.heap.size + 1) [.slice B m d]) := by
    have h := At.new (w.alloc (.cells #[.slice A n c] 43)) #[.slice B m d] 43
    rw [World.size_alloc, hW1] at h
    exact h
  have HW1 := Lib.hid hW1
  clear hW1 hW hra hla hoa hfa hrb hlb hob hfb
  go_enter Tryz.func4, Tryz.ntmps4
  go_wp2_with fail
  rw [HW1.out]
  refine (begins18 W1 (HW.out.below HB1.out)).mono ?_
  rintro e w2 ⟨rfl, hb⟩
  have HB2 := Lib.hid (below_then HB1.out hb)
  have HA2 := Lib.hid (HA1.out.call hb)
  have HC2 := Lib.hid (HC1.out.call hb)
  have a0 := HA2.out.cell 0 _ rfl
  have a1 := HA2.out.lt
  clear hb
  go_wp2_with fail
  refine (HSa.out _ HB2.out).mono ?_
  rintro e w3 ⟨h3, hb⟩
  have HB3 := Lib.hid (below_then HB2.out hb)
  have HA3 := Lib.hid (HA2.out.call hb)
  have HC3 := Lib.hid (HC2.out.call hb)
  clear hb a0 a1
  rcases h3 with rfl | ⟨rfl, hfa⟩
  · go_wp2
    go_ret
    exact ⟨rfl, HB3.out⟩
  have a0 := HC3.out.cell 0 _ rfl
  have a1 := HC3.out.lt
  have HFa := Lib.hid hfa
  clear hfa
  go_wp2_with fail
  refine (HSb.out _ HB3.out).mono ?_
  rintro e w4 ⟨h4, hb⟩
  have HB4 := Lib.hid (below_then HB3.out hb)
  have HA4 := Lib.hid (HA3.out.call hb)
  have HC4 := Lib.hid (HC3.out.call hb)
  clear hb a0 a1
  rcases h4 with rfl | ⟨rfl, hfb⟩
  · go_wp2
    go_ret
    exact ⟨rfl, HB4.out⟩
  have HFb := Lib.hid hfb
  have hn30 : n ≤ 30 := by rw [← HLa.out]; exact HFa.out.n
  have hm30 : m ≤ 30 := by rw [← HLb.out]; exact HFb.out.n
  have a0 := HA4.out.cell 0 _ rfl
  have a1 := HA4.out.lt
  clear hfb
  go_wp2_with fail
  refine (HEa.out _ HB4.out).mono ?_
  rintro e w5 ⟨he5, hb⟩
  have HB5 := Lib.hid (below_then HB4.out hb)
  have HA5 := Lib.hid (HA4.out.call hb)
  have HC5 := Lib.hid (HC4.out.call hb)
  clear hb a0 a1
  have a0 := HC5.out.cell 0 _ rfl
  have a1 := HC5.out.lt
  by_cases ha : Hv.hiveB la = true
  case neg =>
    rw [if_neg ha] at he5
    subst he5
    go_wp2_with fail
    refine (HEb.out _ HB5.out).mono ?_
    rintro e w6 ⟨he6, hb⟩
    obtain ⟨sb, wb, hsb⟩ : ∃ sb wb, (if Hv.hiveB lb = true then Value.tuple #[.string (Em.bts (Em.text lb)), .int .i64 0] else .tuple #[.string ⟨#[]⟩, .int .i64 2]) = .tuple #[.string sb, .int .i64 wb] := by
      by_cases h : Hv.hiveB lb = true
      · exact ⟨_, _, by rw [if_pos h]⟩
      · exact ⟨_, _, by rw [if_neg h]⟩
    rw [hsb] at he6
    subst he6
    have HB6 := Lib.hid (below_then HB5.out hb)
    clear hb hsb a0 a1
    go_wp2
    go_ret
    exact ⟨rfl, HB6.out⟩
  rw [if_pos ha] at he5
  subst he5
  obtain ⟨S, hS⟩ : ∃ S, Em.bts (Em.text la) = S := ⟨_, rfl⟩
  rw [hS]
  have HS : Hid (tl S = Em.text la) := by show tl S = _; rw [← hS]; exact Em.tl_bts _
  have hSz : S.size ≤ 5000000000 := by
    have h := Em.text_len la (Ink.hive_keys ha)
    rw [← HS.out, tl_length, HLa.out] at h
    omega
  have HHa := Lib.hid ha
  clear hS ha
  go_wp2_with fail
  refine (HEb.out _ HB5.out).mono ?_
  rintro e w6 ⟨he6, hb⟩
  have HB6 := Lib.hid (below_then HB5.out hb)
  have HA6 := Lib.hid (HA5.out.call hb)
  have HC6 := Lib.hid (HC5.out.call hb)
  clear hb a0 a1
  by_cases hbb : Hv.hiveB lb = true
  case neg =>
    rw [if_neg hbb] at he6
    subst he6
    go_wp2
    go_ret
    exact ⟨rfl, HB6.out⟩
  rw [if_pos hbb] at he6
  subst he6
  obtain ⟨T, hT⟩ : ∃ T, Em.bts (Em.text lb) = T := ⟨_, rfl⟩
  rw [hT]
  have HT : Hid (11 ≤ T.size ∧ T.extract 0 11 = T2.front ∧ tl (T.extract 11 T.size) = (Em.text lb).drop 11) := T2.front_facts hT.symm
  have hTz : T.size ≤ 5000000000 := by
    have h := Em.text_len lb (Ink.hive_keys hbb)
    rw [← Em.bts_size, hT, HLb.out] at h
    omega
  have HHb := Lib.hid hbb
  clear hT hbb
  go_wp2_with fail
  have ra := HRa.out.below (HB6.out)
  have rb := HRb.out.below (HB6.out)
  have R0 : Hid (Reads w6 w6.heap.size 2 A n ((la.zip eva).flatMap Hv.kc)) := by
    have h := HRa.out.row.below HB6.out
    rw [HLa.out] at h
    obtain ⟨A', c', e, _, _, hr⟩ := h.more HB6.out.size
    injection e with e1 e2 e3
    subst e1
    exact hr
  have R1 : Hid (Reads w6 w6.heap.size 2 B m ((lb.zip evb).flatMap Hv.kc)) := by
    have h := HRb.out.row.below HB6.out
    rw [HLb.out] at h
    obtain ⟨A', c', e, _, _, hr⟩ := h.more HB6.out.size
    injection e with e1 e2 e3
    subst e1
    exact hr
  have O0 := Lib.hid (T2.kc_one HRa.out)
  have O1 := Lib.hid (T2.kc_one HRb.out)
  obtain ⟨i0, i01, i02, i03, i04⟩ := info_parts key_info
  have HI := Lib.hid (And.intro i01 (And.intro i02 (And.intro i03 i04)))
  have hAz : ∀ {W}, Below w6.heap.size w6 W → At W w.heap.size [.slice A n c] := fun hb => HA6.out.call hb
  have hCz : ∀ {W}, Below w6.heap.size w6 W → At W (w.heap.size + 1) [.slice B m d] := fun hb => HC6.out.call hb
  clear i01 i02 i03 i04 ra rb
  refine Od.wp_region_inv 98 (by kernel_rfl) (by rfl) (by rfl) (Od.ord_of (by kernel_rfl)) (Od.dst_of (by kernel_rfl)) (T2.J ⟨w6.heap.size, .slice A n c, .slice B m d, n, m, (la.zip eva).flatMap Hv.kc, (lb.zip evb).flatMap Hv.kc, w.heap.size, w.heap.size + 1⟩ w6 (Od.slots _)) (T2.J.start (Below.refl _ _).drew (by show w6.heap.size ≤ w6.drew.heap.size; exact Nat.le_refl _)) ?step ?fin
  case step =>
    intro i o hi b a' wz hJ hb hdep hdf K hK
    obtain ⟨tm, df⟩ := a'
    simp only at hdf
    subst hdf
    have hi10 : i < 10 := (Array.getElem?_eq_some_iff.1 hi).1
    have hsplit : i = 0 ∨ i = 1 ∨ i = 2 ∨ i = 3 ∨ i = 4 ∨ i = 5 ∨ i = 6 ∨ i = 7 ∨ i = 8 ∨ i = 9 := by omega
    rcases hsplit with rfl | rfl | rfl | rfl | rfl | rfl | rfl | rfl | rfl | rfl
    · have e := Option.some.inj (show some _ = some o from hi)
      subst e
      rw [if_pos (show Region.wanted _ _ = true from rfl)]
      go_simp
      exact hK _ _ (hJ.s0 hb)
    · have e := Option.some.inj (show some _ = some o from hi)
      subst e
      rw [if_pos (show Region.wanted _ _ = true from rfl)]
      have v2 : tm.getD 2 undef = .pointer (some ⟨w.heap.size, 0, none⟩) := (hJ.old 2 (by omega) (by omega)).trans rfl
      have v2' : tm[2]?.getD undef = .pointer (some ⟨w.heap.size, 0, none⟩) := by rw [← Array.getD_eq_getD_getElem?]; exact v2
      go_simp
      exact hK _ _ hJ.s1
    · have e := Option.some.inj (show some _ = some o from hi)
      subst e
      rw [if_pos (show Region.wanted _ _ = true from rfl)]
      have hp : tm.getD 39 undef = .pointer (some ⟨w.heap.size, 0, none⟩) := hJ.p1 (hdep ⟨1, .data⟩ (by simp) rfl)
      have hp' : tm[39]?.getD undef = .pointer (some ⟨w.heap.size, 0, none⟩) := by rw [← Array.getD_eq_getD_getElem?]; exact hp
      have hc := (hAz hJ.below).cell 0 _ rfl
      go_simp
      exact hK _ _ hJ.s2
    · have e := Option.some.inj (show some _ = some o from hi)
      subst e
      rw [if_pos (show Region.wanted _ _ = true from rfl)]
      have hd : b 0 = true := hdep ⟨0, .data⟩ (by simp) rfl
      have hx : tm.getD 40 undef = .slice A n c := hJ.x1 (hdep ⟨2, .data⟩ (by simp) rfl)
      refine wp_append_any wz (.tmp 38) (.tmp 40) 41 rfl w6.heap.size 64 i0 _ 2 40 Tryz.underlying41 HI.out.1 HI.out.2.1 HI.out.2.2.1 HI.out.2.2.2 rfl (by decide) _ 0 [] rfl (hJ.own0 hb hd) _ A n c _ hx (R0.out.below hJ.below) O0.out (by unfold maxLen; omega) (by omega) hJ.size ?_
      intro v' w' hown hg hat
      rw [Nat.zero_add, List.nil_append] at hown
      exact hK _ _ (hJ.s3 hb hd hown hg hat)
    · have e := Option.some.inj (show some _ = some o from hi)
      subst e
      rw [if_pos (show Region.wanted _ _ = true from rfl)]
      have v2 : tm.getD 3 undef = .pointer (some ⟨w.heap.size + 1, 0, none⟩) := (hJ.old 3 (by omega) (by omega)).trans rfl
      have v2' : tm[3]?.getD undef = .pointer (some ⟨w.heap.size + 1, 0, none⟩) := by rw [← Array.getD_eq_getD_getElem?]; exact v2
      go_simp
      exact hK _ _ hJ.s4
    · have e := Option.some.inj (show some _ = some o from hi)
      subst e
      rw [if_pos (show Region.wanted _ _ = true from rfl)]
      have hp : tm.getD 42 undef = .pointer (some ⟨w.heap.size + 1, 0, none⟩) := hJ.p2 (hdep ⟨4, .data⟩ (by simp) rfl)
      have hp' : tm[42]?.getD undef = .pointer (some ⟨w.heap.size + 1, 0, none⟩) := by rw [← Array.getD_eq_getD_getElem?]; exact hp
      have hc := (hCz hJ.below).cell 0 _ rfl
      go_simp
      exact hK _ _ hJ.s5
    · have e := Option.some.inj (show some _ = some o from hi)
      subst e
      rw [if_pos (show Region.wanted _ _ = true from rfl)]
      have hd : b 3 = true := hdep ⟨3, .data⟩ (by simp) rfl
      have hx : tm.getD 43 undef = .slice B m d := hJ.x2 (hdep ⟨5, .data⟩ (by simp) rfl)
      refine wp_append_any wz (.tmp 41) (.tmp 43) 41 rfl w6.heap.size 64 i0 _ 2 40 Tryz.underlying41 HI.out.1 HI.out.2.1 HI.out.2.2.1 HI.out.2.2.2 rfl (by decide) _ n _ rfl (hJ.own3 hb hd) _ B m d _ hx (R1.out.below hJ.below) O1.out (by unfold maxLen; omega) (by omega) hJ.size ?_
      intro v' w' hown hg hat
      exact hK _ _ (hJ.s6 hb hd hown hg hat)
    · have e := Option.some.inj (show some _ = some o from hi)
      subst e
      rw [if_pos (show Region.wanted _ _ = true from rfl)]
      have hd := hdep ⟨6, .data⟩ (by simp) rfl
      obtain ⟨P, q, g1, _, _⟩ := T2.own_cap (hJ.own6 hd)
      have hbl := hJ.s7 hd
      rw [g1] at hbl
      have g1' : tm[44]?.getD undef = .slice P (n + m) q := by rw [← Array.getD_eq_getD_getElem?]; exact g1
      go_simp
      exact hK _ _ hbl
    · have e := Option.some.inj (show some _ = some o from hi)
      subst e
      rw [if_pos (show Region.wanted _ _ = true from rfl)]
      go_simp
      exact hK _ _ (hJ.s8 hb)
    · have e := Option.some.inj (show some _ = some o from hi)
      subst e
      rw [if_pos (show Region.wanted _ _ = true from rfl)]
      have h7 := hdep ⟨7, .data⟩ (by simp) rfl
      have h8 := hdep ⟨8, .data⟩ (by simp) rfl
      obtain ⟨P, q, g1, _, _⟩ := T2.own_cap (hJ.own6 (hJ.dep 7 h7 6 (by simp [T2.deps])))
      have g1 : tm.getD 44 undef = .slice P (n + m) q := g1
      have h45 : tm.getD 45 undef = .agg #[.slice P (n + m) q] := by rw [← g1]; exact hJ.bd h7
      obtain ⟨g, hg1, hg2, hg3, _⟩ := hJ.al h8
      rw [hb, if_neg (by decide)] at hg3
      have h9 : tm.getD 9 undef = .pointer (some ⟨g, 0, none⟩) := hg1
      have hst := hJ.s9 h7 h8 hb hg1
      have s1 : Od.slots ⟨tm, []⟩ 44 = .slice P (n + m) q := g1
      rw [s1] at hst
      have z0 := hg3.cell 0 _ rfl
      have z1 := hg3.free 0 _ rfl
      go_simp
      exact hK undef _ hst
  case fin =>
    intro a' wz hJ hN hdf
    obtain ⟨g, hg1, hg2, hg3, _⟩ := hJ.al (by rfl)
    rw [if_pos (show decide (9 < Array.size _) = true by rfl)] at hg3
    have hown := hJ.own6 (by rfl)
    obtain ⟨P, q, g1, hq1, hq2⟩ := T2.own_cap hown
    rw [g1] at hg3 hown
    have h9 : a'.tmps.getD 9 undef = .pointer (some ⟨g, 0, none⟩) := hg1
    have hbz : Below w6.heap.size w6 wz := hJ.below
    have HB7 := Lib.hid (below_then HB6.out hbz)
    have HAll := Lib.hid (T2.both ((HRa.out.call HB6.out).call hbz) ((HRb.out.call HB6.out).call hbz) HLa.out HLb.out hown)
    have HG7 := Lib.hid hg3
    have ef : a' = { tmps := ((List.range 98).map fun i => a'.tmps.getD i undef).toArray, defers := [] } := Ink.frame_of 98 a' hN hdf
    obtain ⟨u, hu⟩ : ∃ u : Nat → Value, (fun i => a'.tmps.getD i undef) = u := ⟨_, rfl⟩
    rw [hu] at ef
    have e9 : u 9 = .pointer (some ⟨g, 0, none⟩) := by rw [← hu]; exact h9
    have e5 : u 5 = .string S := by rw [← hu]; exact (hJ.old 5 (by omega) (by omega)).trans rfl
    have e7 : u 7 = .string T := by rw [← hu]; exact (hJ.old 7 (by omega) (by omega)).trans rfl
    have e2 : u 2 = .pointer (some ⟨w.heap.size, 0, none⟩) := by rw [← hu]; exact (hJ.old 2 (by omega) (by omega)).trans rfl
    have e3 : u 3 = .pointer (some ⟨w.heap.size + 1, 0, none⟩) := by rw [← hu]; exact (hJ.old 3 (by omega) (by omega)).trans rfl
    have ef2 : a' = { tmps := #[u 0, u 1, u 2, u 3, u 4, u 5, u 6, u 7, u 8, u 9, u 10, u 11, u 12, u 13, u 14, u 15, u 16, u 17, u 18, u 19, u 20, u 21, u 22, u 23, u 24, u 25, u 26, u 27, u 28, u 29, u 30, u 31, u 32, u 33, u 34, u 35, u 36, u 37, u 38, u 39, u 40, u 41, u 42, u 43, u 44, u 45, u 46, u 47, u 48, u 49, u 50, u 51, u 52, u 53, u 54, u 55, u 56, u 57, u 58, u 59, u 60, u 61, u 62, u 63, u 64, u 65, u 66, u 67, u 68, u 69, u 70, u 71, u 72, u 73, u 74, u 75, u 76, u 77, u 78, u 79, u 80, u 81, u 82, u 83, u 84, u 85, u 86, u 87, u 88, u 89, u 90, u 91, u 92, u 93, u 94, u 95, u 96, u 97], defers := [] } := ef
    rw [e2, e3, e5, e7, e9] at ef2
    rw [ef2]
    clear hJ hg1 hg3 hown g1 h9 hbz ef ef2 hu e2 e3 e5 e7 e9 hN hdf hAz hCz hq1 hq2
    obtain ⟨hT1, hT2, hT3⟩ := HT.out
    unfold T2.front at hT2
    have q1 : ¬ (T.size : Int) < 11 := by omega
    have q2 : (11 : Int) ≤ (T.size : Int) := by omega
    obtain ⟨R, hR⟩ : ∃ R, T.extract 11 T.size = R := ⟨_, rfl⟩
    have hRs : R.size + 11 = T.size := by
      rw [← hR, ByteArray.size_extract]
      omega
    rw [hR] at hT3
    obtain ⟨X, hX⟩ : ∃ X, S ++ R = X := ⟨_, rfl⟩
    have HX : Hid (tl X = Em.text la ++ (Em.text lb).drop 11) := by
      show tl X = _
      rw [← hX, ← hT3, ← HS.out]
      simp [tl]
    have hXs : X.size + 11 = S.size + T.size := by
      rw [← hX, ByteArray.size_append]
      omega
    have w1 : IntKind.i64.wrap ((S.size : Int) + (T.size : Int)) = (S.size : Int) + (T.size : Int) := IntWalk.i64_in _ (by omega)
    have w2 : IntKind.i64.wrap ((S.size : Int) + (T.size : Int) - 11) = (S.size : Int) + (T.size : Int) - 11 := IntWalk.i64_in _ (by omega)
    have HT3 := Lib.hid hT3
    clear hT3
    have a0 := HG7.out.cell 0 _ rfl
    have a1 := HG7.out.lt
    by_cases hlong : 1048576 < X.size
    · have p1 : (1048576 : Int) < (S.size : Int) + (T.size : Int) - 11 := by omega
      have HL := Lib.hid (inParse_long X hlong wz)
      go_wp2_with fail
      refine HL.out.mono ?_
      rintro e w8 ⟨rfl, hb⟩
      have HB8 := Lib.hid (below_then HB7.out hb)
      clear hb a0 a1
      go_wp2_with fail
      go_ret
      exact ⟨rfl, Hv.bl (Hv.bl HB8.out _) _⟩
    · have p1 : ¬ (1048576 : Int) < (S.size : Int) + (T.size : Int) - 11 := by omega
      have hPs := inParse_two la lb HHa.out HHb.out HOa.out HOb.out (by rw [HLa.out, HLb.out]; omega) X HX.out (by omega) wz (HW.out.l.below HB7.out)
      have HOk : Hid (∀ k ∈ la ++ lb, k.Ok) := fun k hk => by
        rcases List.mem_append.1 hk with hk | hk
        · exact HOa.out k hk
        · exact HOb.out k hk
      have HLn : Hid ((la ++ lb).length = n + m) := by show _ = _; rw [List.length_append, HLa.out, HLb.out]
      have HCk := Lib.hid fun W (hb : Below wz.heap.size wz W) => hvCheck_any (la ++ lb) HOk.out P (n + m) q (eva ++ evb) W HLn.out (by unfold maxLen; omega) (HAll.out.call hb) (HW.out.l.below (below_then HB7.out hb))
      have wnm : n + m ≤ maxLen := by unfold maxLen; omega
      obtain ⟨nm, hnm⟩ : ∃ k, n + m = k := ⟨_, rfl⟩
      rw [hnm] at HAll HG7 HLn HCk wnm a0
      by_cases hall : Hv.hiveB (la ++ lb) = true
      · rw [if_pos hall] at hPs
        rw [if_pos hall] at HCk
        have HP := Lib.hid hPs
        clear hPs hall
        go_wp2_with fail
        refine HP.out.mono ?_
        rintro e w8 ⟨hb, kv, evs, rfl, hR⟩
        obtain ⟨xA, xc, rfl, _, _, _⟩ := hR.row
        rw [HLn.out] at hR ⊢
        have HB8 := Lib.hid (below_then HB7.out hb)
        have HR8 := Lib.hid hR
        obtain ⟨W9, hW9⟩ : ∃ W, ((w8.alloc (.cells #[.slice xA nm xc] 43)).alloc (.cells #[.int .i64 0, .int .i64 0, .int .i64 0] 47)) = W := ⟨_, rfl⟩
        have HX9 : Hid (At W9 w8.heap.size [.slice xA nm xc]) := by show At _ _ _; rw [← hW9]; exact (At.new _ _ _).allocO _
        have HF9 : Hid (At W9 (w8.heap.size + 1) [.int .i64 0, .int .i64 0, .int .i64 0]) := by
          have h := At.new (w8.alloc (.cells #[.slice xA nm xc] 43)) #[.int .i64 0, .int .i64 0, .int .i64 0] 47
          rw [World.size_alloc, hW9] at h
          exact h
        have hb89 : Below w8.heap.size w8 W9 := by rw [← hW9]; exact Hv.bl (Hv.bl1 _ _) _
        have hbz9 : Below wz.heap.size wz W9 := below_then hb hb89
        have HB9 := Lib.hid (below_then HB7.out hbz9)
        have HG9 := Lib.hid (HG7.out.call hbz9)
        have HR9 := Lib.hid (hR.call hb89)
        have HAll9 := Lib.hid (HAll.out.call hbz9)
        have HC9 := Lib.hid (HCk.out W9 hbz9)
        have b0 := HG9.out.cell 0 _ rfl
        have b1 := HG9.out.lt
        have HW9 := Lib.hid hW9
        rw [← hW9] at b0 b1
        clear hb hR hb89 hbz9 hW9 a0 a1
        go_wp2_with fail
        rw [HW9.out]
        refine HC9.out.mono ?_
        rintro e w10 ⟨rfl, hb⟩
        have HB10 := Lib.hid (below_then HB9.out hb)
        have HX10 := Lib.hid (HX9.out.call hb)
        have HF10 := Lib.hid (HF9.out.call hb)
        have HG10 := Lib.hid (HG9.out.call hb)
        have HSm := Lib.hid (hvSame_any xA P nm xc q (la ++ lb) evs (eva ++ evb) w10 wnm HLn.out (HR9.out.call hb) (HAll9.out.call hb))
        obtain ⟨c0, c1, c2, f0, f1, f2⟩ := HF10.out.three
        have z1 := HF10.out.lt
        have x0 := HX10.out.cell 0 _ rfl
        have x1 := HX10.out.lt
        have g0 := HG10.out.cell 0 _ rfl
        have g1 := HG10.out.lt
        clear hb b0 b1
        go_wp2_with fail
        refine HSm.out.mono ?_
        rintro e w11 ⟨rfl, hb⟩
        have HB11 := Lib.hid (below_then HB10.out hb)
        clear hb c0 c1 c2 f0 f1 f2 x0 x1 g0 g1
        go_wp2
        go_ret
        exact ⟨rfl, HB11.out⟩
      · rw [if_neg hall] at hPs
        rw [if_neg hall] at HCk
        have HP := Lib.hid hPs
        clear hPs hall
        go_wp2_with fail
        refine HP.out.mono ?_
        rintro e w8 ⟨hb, x, y, rfl⟩
        have HB8 := Lib.hid (below_then HB7.out hb)
        obtain ⟨W9, hW9⟩ : ∃ W, ((w8.alloc (.cells #[.slice none 0 0] 43)).alloc (.cells #[.int .i64 x, .int .i64 y, .int .i64 8] 47)) = W := ⟨_, rfl⟩
        have HX9 : Hid (At W9 w8.heap.size [.slice none 0 0]) := by show At _ _ _; rw [← hW9]; exact (At.new _ _ _).allocO _
        have HF9 : Hid (At W9 (w8.heap.size + 1) [.int .i64 x, .int .i64 y, .int .i64 8]) := by
          have h := At.new (w8.alloc (.cells #[.slice none 0 0] 43)) #[.int .i64 x, .int .i64 y, .int .i64 8] 47
          rw [World.size_alloc, hW9] at h
          exact h
        have hb89 : Below w8.heap.size w8 W9 := by rw [← hW9]; exact Hv.bl (Hv.bl1 _ _) _
        have hbz9 : Below wz.heap.size wz W9 := below_then hb hb89
        have HB9 := Lib.hid (below_then HB7.out hbz9)
        have HG9 := Lib.hid (HG7.out.call hbz9)
        have HC9 := Lib.hid (HCk.out W9 hbz9)
        have b0 := HG9.out.cell 0 _ rfl
        have b1 := HG9.out.lt
        have HW9 := Lib.hid hW9
        rw [← hW9] at b0 b1
        clear hb hb89 hbz9 hW9 a0 a1
        go_wp2_with fail
        rw [HW9.out]
        refine HC9.out.mono ?_
        rintro e w10 ⟨rfl, hb⟩
        have HB10 := Lib.hid (below_then HB9.out hb)
        have HX10 := Lib.hid (HX9.out.call hb)
        have HF10 := Lib.hid (HF9.out.call hb)
        obtain ⟨c0, c1, c2, f0, f1, f2⟩ := HF10.out.three
        have z1 := HF10.out.lt
        have x0 := HX10.out.cell 0 _ rfl
        have x1 := HX10.out.lt
        clear hb b0 b1
        go_wp2
        go_ret
        exact ⟨rfl, HB10.out⟩
end Go.Proofs.YthmhadgbhakdlaaGreatDoor

/-
  TopTwo: whatever comes in, the law returns true and each argument reads as it did.
  Conditions: the listed package-level tables read as the program's text lays them (the card ties them to it).
-/
namespace Go.Proofs.YthmhadgbhakdlaaGreatDoor.topTwo
open Go.ChangeShapes Go.WideShapes Go.ChangeAt Go.RowKit Go.Joins
open Go.ChangeMaps (open_string shut_string)

theorem u8_nonneg {c : Int} (h : (Lit.int .u8 c).wf = true) : 0 ≤ c := by
  have : 0 ≤ c ∧ c ≤ 255 := by simpa [Lit.wf, IntKind.min, IntKind.max, IntKind.signed, IntKind.bits] using h
  exact this.1
theorem own : ownKnob Tryz.prog.godebug = none := by kernel_rfl
theorem laidOut : laidOutB Tryz.prog = true := by kernel_rfl
theorem g_brujn : Tryz.prog.globalNamed "math/bits.deBruijn64tab" = some 8 := by kernel_rfl
theorem t_brujn : (Tryz.prog.globals[8]?).map (·.type) = some 263 := by kernel_rfl

/-- What the program's variables hold where the call begins. -/
theorem wo_of {W : World} (h : laidMetH Tryz.prog Rows.topTwoRow.laid W) (hS : W.ShapedOpen Tryz.prog) : Wg W := by
  have h0 : laidMet Tryz.prog Rows.topTwoRow.laid W := h
  have h1 := h0.tail
  have x_brujn : Lib.TabIs Tryz.prog W "math/bits.deBruijn64tab" .u8 [0, 1, 56, 2, 57, 49, 28, 3, 61, 58, 42, 50, 38, 29, 17, 4, 62, 47, 59, 36, 45, 43, 51, 22, 53, 39, 33, 30, 24, 18, 12, 5, 63, 55, 48, 27, 60, 41, 37, 16, 46, 35, 44, 21, 52, 32, 23, 11, 54, 26, 40, 15, 34, 20, 31, 10, 25, 14, 19, 9, 13, 8, 7, 6] := Lib.tabIs_of_head g_brujn t_brujn Tryz.underlying263 Tryz.underlying5 (by kernel_rfl) (by kernel_rfl) h1
  exact ⟨⟨Tryz.laysM145.s1_3 W hS⟩, ⟨x_brujn.cell g_brujn 15 (by decide)⟩⟩

noncomputable def laidWorld (os : Os) : World :=
  { World.doorLaid Tryz.prog 4000 os with heap := (World.doorLaid Tryz.prog 4000 os).heap.modify 3 fun
      | .cells _ t frozen => .cells ((Go.Pinned.utf8FirstZ.map fun (z : Nat) => Value.int .u8 (Int.ofNat z)).toArray) t frozen
      | o => o }
theorem laid_met (os : Os) : laidMet Tryz.prog Rows.topTwoRow.laid ((laidWorld os).forCall (fun _ _ => 0) ⟨#[], #[.agg #[.slice none 0 0], .agg #[.slice none 0 0]], []⟩).memory :=
  laidMet_of_run' 8 (by kernel_rfl) (by kernel_rfl)
theorem reads (os : Os) {H : Type} (enc : TypeId × Value → H) : ∃ places, DataW.whole enc Tryz.prog ((laidWorld os).forCall (fun _ _ => 0) ⟨#[], #[.agg #[.slice none 0 0], .agg #[.slice none 0 0]], []⟩).memory Tryz.f4.params.toList Rows.topTwoSpec.vars false #[Value.agg #[.slice none 0 0], .agg #[.slice none 0 0]].toList 8 = some ([.agg [.nil], .agg [.nil]], [], places) :=
  ⟨[], by kernel_rfl⟩

set_option maxRecDepth 100000 in
set_option maxHeartbeats 4000000 in
theorem contract (H : Type) (enc : TypeId × Value → H) (W : World) (base : Nat) (args : Array Value) (ds gs : List (DataW H)) (before : List MemPlace)
    (hval : ∀ (j : Nat) t v, Tryz.f4.params[j]? = some t → args[j]? = some v → Value.okWide Tryz.prog W .any base t v)
    (hW : DataW.Whole enc Tryz.prog Tryz.f4.params.toList Rows.topTwoSpec.vars false W args.toList ds gs before) (hL : laidMetH Tryz.prog Rows.topTwoRow.laid W) (hS : W.ShapedOpen Tryz.prog) (hz : (DataW.weightsEach Tryz.prog (Tryz.f4.params.toList ++ (OpenSpec.ofChange Rows.topTwoSpec).bare.plain.varTypes Tryz.prog) (ds ++ gs)).all (· ≤ reachBytes) = true) :
    Calls Tryz.prog 4 args W fun e W' => ∃ v, e = .returned v ∧ Rows.topTwoSpec.post enc Tryz.prog Tryz.f4 false true false false W args v W' := by
  have hW' := hW
  obtain ⟨p, q, hA0, hV, rfl, hfz, hnd⟩ := hW
  have hA : DataW.TrodAll enc Tryz.prog W 0 (fun _ => true) true Tryz.f4.params.toList args.toList ds p := hA0
  rw [Tryz.params4] at hA hval
  obtain ⟨v0, vs0, d0, ds0, p0, q0, hargs, rfl, rfl, h0, r0⟩ := trodAll_cons hA
  obtain ⟨v1, vs1, d1, ds1, p1, q1, rfl, rfl, rfl, h1, r1⟩ := trodAll_cons r0
  obtain ⟨rfl, rfl, rfl⟩ := trodAll_nil r1
  obtain rfl : args = #[v0, v1] := by cases args; simp_all
  obtain ⟨rfl, rfl⟩ := trodVars_none hV
  have k0 := h0
  have lt0 : ∀ x ∈ p0, x.block < W.heap.size := by obtain ⟨m, hm⟩ := k0; exact DataW.trod_lt m _ _ _ hm
  obtain ⟨l0, A0, n0, c0, evh0, rfl, hhr0, hhl0, hhn0, hho0, hhf0⟩ := Hv.open_hive (hval 0 43 v0 rfl rfl) h0 (Hv.Lite.arg hz (j := 0) rfl rfl)
  have k1 := h1
  have lt1 : ∀ x ∈ p1, x.block < W.heap.size := by obtain ⟨m, hm⟩ := k1; exact DataW.trod_lt m _ _ _ hm
  obtain ⟨l1, A1, n1, c1, evh1, rfl, hhr1, hhl1, hhn1, hho1, hhf1⟩ := Hv.open_hive (hval 1 43 v1 rfl rfl) h1 (Hv.Lite.arg hz (j := 1) rfl rfl)
  clear hA0
  refine (topTwo_any l0 A0 n0 c0 evh0 l1 A1 n1 c1 evh1 W (wo_of hL hS) hhr0 hhl0 hhn0 hho0 hhf0 hhr1 hhl1 hhn1 hho1 hhf1).mono fun e W' ⟨he, bel⟩ => ?_
  subst he
  exact ⟨_, rfl, _, _, _, [], _, [], hW', trodAll_mk1 (shut_bool Tryz.underlying4 _), (trodAll_cons_mk (Below.trod laidOut (by kernel_rfl) (of_decide_eq_true (by kernel_rfl)) k0 bel lt0) (trodAll_cons_mk (Below.trod laidOut (by kernel_rfl) (of_decide_eq_true (by kernel_rfl)) k1 bel lt1) trodAll_mk0)), rfl, bel.frame _, fun h => by cases h⟩

set_option maxRecDepth 100000 in
theorem lifted (os : Os) (started : os.Started) (H : Type) (enc : TypeId × Value → H) (F : Stop.Interp) :
    ReturnsInHanded {} Tryz.checked os 4 .any ((OpenSpec.ofChange Rows.topTwoSpec).preRow enc Tryz.prog Tryz.f4 Rows.topTwoRow.domain false Rows.topTwoRow.laid) (((OpenSpec.ofChange Rows.topTwoSpec).at F).post enc Tryz.prog Tryz.f4 false true false false) := by
  obtain ⟨places, hx⟩ := reads os enc
  refine returnsInHanded_of_row (C := Tryz.checked) (s := OpenSpec.ofChange Rows.topTwoSpec) own started (by kernel_rfl) Tryz.func4
    (witness_row_at (enc := enc) (C := Tryz.checked) false (laidWorld os) #[.agg #[.slice none 0 0], .agg #[.slice none 0 0]] rfl (by kernel_rfl) (by kernel_rfl) (by kernel_rfl)
      (OpenSpec.preRow_of_cond 8 hx (by kernel_rfl) (fun k hk => by cases hk) (by kernel_rfl) (laid_met os))) ?_
  intro W base args ds gs before hval hW _ _ hz hL hS _
  exact contract H enc W base args ds gs before hval hW hL hS hz

theorem said : Rows.TopTwoSaid :=
  OpenClaim.holds_of_cond 4 Tryz.f4 rfl rfl rfl rfl rfl rfl rfl ⟨rfl, rfl, rfl, rfl, rfl⟩ rfl rfl rfl rfl rfl (by kernel_rfl) Tryz.func4 (by kernel_rfl)
    (of_decide_eq_true (by kernel_rfl)) (by unfold Func.isWrapper; first | (rw [if_pos (by decide +kernel)]; kernel_rfl) | (rw [if_neg (by decide +kernel)]; exact ⟨rfl, rfl⟩))
    (fun os started H enc _ F => by rw [OpenClaim.pre_eq_preRow]; exact lifted os started H enc F)

/-- No parameter wants a stand-in; the program's own looks are off. -/
theorem plain (f : FuncId) (fn : Func) (hf : Tryz.pinned.checked.prog.funcNamed "solstice/solsticetop.TopTwo" = some f) (hfn : Tryz.pinned.checked.prog.funcs[f]? = some fn) :
    true = Tryz.pinned.checked.prog.looks [] ∧ ∀ (j : Nat) t, fn.params[j]? = some t → Tryz.pinned.checked.prog.wantsStandIn t = false := by
  obtain rfl : f = 4 := Option.some.inj ((show Tryz.prog.funcNamed "solstice/solsticetop.TopTwo" = some 4 by kernel_rfl).symm.trans hf) |>.symm
  obtain rfl : fn = Tryz.f4 := (Option.some.inj (Tryz.func4.symm.trans hfn)).symm
  refine ⟨by kernel_rfl, fun j t ht => ?_⟩
  rw [Tryz.params4] at ht
  have hm : t ∈ [43] := by
    have := Array.mem_of_getElem? ht
    simp at this ⊢
    omega
  simp only [List.mem_cons, List.not_mem_nil, or_false] at hm
  subst hm
  exact (show Tryz.prog.wantsStandIn 43 = false by kernel_rfl)

/-- The statement: the tied card. -/
theorem card : Rows.TopTwoCardSaid :=
  Claim7.holds_tied_plain_at .later [] _ _ _ _ said (fun _ h => by cases h) (by kernel_rfl) (fun _ h => by cases h) topTwo_row_tie rfl ⟨rfl, rfl⟩ (by kernel_rfl) rfl plain (by kernel_rfl)
end Go.Proofs.YthmhadgbhakdlaaGreatDoor.topTwo
