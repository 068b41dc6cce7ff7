/- solsticeref30.first: the character with which a text begins. -/
import Derived.Test.YteacncdpjbcinaaDoorR3Enc
import Derived.Deep.QuietTactic
import Derived.BigQuiet
namespace Go.Proofs.YteacncdpjbcinaaDoor
open Go.RowKit

namespace R3
def frR (s : ByteArray) : Value := .tuple #[.int .i64 ((frs s).1 : Int), .int .i64 ((frs s).2 : Int)]
theorem wrap_byte (x : UInt8) : wrap64 (x.toNat : Int) = (x.toNat : Int) := by have := x.toNat_lt; unfold wrap64; omega
theorem wrap_byte2 (x : UInt8) : IntKind.i64.wrap (x.toNat : Int) = (x.toNat : Int) := by have := x.toNat_lt; rw [IntKind.wrap_i64]; omega
theorem ne_list {a b : ByteArray} (h : ¬ a = b) : (a.toList == b.toList) = false := by
  rw [beq_eq_false_iff_ne, ByteArray.toList_eq, ByteArray.toList_eq]
  intro e
  exact h (ByteArray.ext (Array.toList_inj.1 e))
theorem get_is (s : ByteArray) (k : Nat) (h : k < s.size) : s.get! k = s[k]'h := by simpa using get_at s k h
/-- The first bytes, as a text. -/
theorem same_iff (s : ByteArray) (c n : Nat) (h : n ≤ s.size) (hc : c ≤ 1114111) : encS c = s.extract 0 n ↔ encN c = (List.range n).map (fun i => (s.get! i).toNat) := by
  have hn : (tl (s.extract 0 n)).map UInt8.toNat = (List.range n).map (fun i => (s.get! i).toNat) := by
    apply List.ext_getElem?
    intro i
    rw [List.getElem?_map, List.getElem?_map]
    unfold tl
    rw [ByteArray.data_extract, Array.toList_extract]
    simp only [List.extract, Nat.sub_zero, List.drop_zero]
    by_cases hi : i < n
    · have := Te.get_tl s i (by omega)
      unfold tl at this
      rw [List.getElem?_take_of_lt hi, this, List.getElem?_range hi]
      rfl
    · rw [List.getElem?_eq_none (by rw [List.length_take]; omega), List.getElem?_eq_none (by simp; omega)]
      rfl
  have he : (tl (encS c)).map UInt8.toNat = encN c := by
    show ((encN c).map UInt8.ofNat).map UInt8.toNat = encN c
    rw [List.map_map]
    have : ∀ l : List Nat, (∀ b ∈ l, b < 256) → l.map (UInt8.toNat ∘ UInt8.ofNat) = l := by
      intro l
      induction l with
      | nil => intro _; rfl
      | cons a r ih =>
        intro hl
        rw [List.map_cons, ih fun b hb => hl b (by simp [hb])]
        congr 1
        have := hl a (by simp)
        simp [UInt8.toNat_ofNat']
        omega
    exact this _ (encN_byte hc)
  constructor
  · intro h1
    rw [← he, ← hn, h1]
  · intro h1
    have h2 : (tl (encS c)).map UInt8.toNat = (tl (s.extract 0 n)).map UInt8.toNat := by rw [he, hn, h1]
    have h3 : tl (encS c) = tl (s.extract 0 n) := (List.map_inj_right (fun a b h => UInt8.toNat_inj.1 h)).1 h2
    apply ByteArray.ext
    apply Array.toList_inj.1
    exact h3
end R3
set_option maxHeartbeats 4000000 in
set_option maxRecDepth 100000 in
theorem first_1 (s : ByteArray) (hs : s.size ≤ maxLen) (h0 : 0 < s.size) (_h1 : 0 ≤ (s.get! 0).toNat) (h2 : (s.get! 0).toNat < 192) (w : World) : Calls Tryd.prog 42 #[.string s] w fun e w' => e = .returned (R3.frR s) ∧ Below w.heap.size w w' := by
  unfold maxLen at hs
  have hem : s.toList.isEmpty = false := by
    rw [ByteArray.toList_eq]
    cases e : s.data.toList with
    | nil => exfalso; have : s.size = 0 := by show s.data.size = 0; rw [← Array.length_toList, e]; rfl
             omega
    | cons _ _ => rfl
  obtain ⟨b, hb⟩ : ∃ b, s[0]'h0 = b := ⟨_, rfl⟩
  have hg := R3.get_is s 0 h0
  rw [hb] at hg
  rw [hg] at h2
  obtain ⟨c0, hc0⟩ : ∃ c, b.toNat = c := ⟨_, rfl⟩
  have hl : R3.lead b.toNat = (1, c0) := by unfold R3.lead; rw [if_neg (by omega), if_neg (by omega), if_neg (by omega), hc0]
  obtain ⟨X, hX⟩ : ∃ X, R3.frR s = X := ⟨_, rfl⟩
  rw [hX]
  have hcl := R3.cb_le s c0 (by omega)
  have hfr : R3.frs s = if s.size < 1 then (0, 0) else if R3.okc (R3.cb s c0 (1 - 1)) = true ∧ R3.encN (R3.cb s c0 (1 - 1)) = (List.range 1).map (fun i => (s.get! i).toNat) then (R3.cb s c0 (1 - 1), 1) else (0, 0) := by
    unfold R3.frs
    rw [hg, hl]
  have t0 : ¬ (240 : Int) ≤ (b.toNat : Int) := by omega
  have t1 : ¬ (224 : Int) ≤ (b.toNat : Int) := by omega
  have t2 : ¬ (192 : Int) ≤ (b.toNat : Int) := by omega
  have e0 : (b.toNat : Int) = (c0 : Int) := by omega
  have q0 : (0 : Int) < (s.size : Int) := by omega
  have hn : ¬ s.size < 1 := by omega
  have hR : ∀ cc : Nat, R3.cb s c0 (1 - 1) = cc → (R3.okc cc = false → X = .tuple #[.int .i64 0, .int .i64 0]) ∧ (R3.okc cc = true → R3.encS cc ≠ s.extract 0 1 → X = .tuple #[.int .i64 0, .int .i64 0]) ∧ (R3.okc cc = true → R3.encS cc = s.extract 0 1 → X = .tuple #[.int .i64 (cc : Int), .int .i64 1]) := by
    intro cc hcc
    rw [if_neg hn, hcc] at hfr
    refine ⟨fun h => ?_, fun h h2 => ?_, fun h h2 => ?_⟩
    · rw [← hX]; unfold R3.frR; rw [hfr, if_neg (fun q => by rw [h] at q; cases q.1)]; rfl
    · rw [← hX]; unfold R3.frR; rw [hfr, if_neg (fun q => h2 ((R3.same_iff s cc 1 (by omega) ((R3.okc_iff cc).1 h).1).2 q.2))]; rfl
    · rw [← hX]; unfold R3.frR; rw [hfr, if_pos ⟨h, (R3.same_iff s cc 1 (by omega) ((R3.okc_iff cc).1 h).1).1 h2⟩]; rfl
  have HR := Lib.hid hR
  have HCl := Lib.hid hcl
  have HGt := Lib.hid (R3.get_is s)
  have p0 : ¬ (s.size : Int) < 1 := by omega
  have hn2 : 1 ≤ s.size := by omega
  have w0 : (0 : Int) ≤ (c0 : Int) := by omega
  have w1 : (c0 : Int) ≤ 255 := by have := b.toNat_lt; omega
  have u0 := R3.wrap_byte b
  have u1 := R3.wrap_byte2 b
  clear hX hR hfr hcl hc0 hl hg h2 hn
  go_enter Tryd.func42, Tryd.ntmps42
  go_wp2
  go_quiet (fail)
  clear u1
  go_wp2_with fail
  clear u0
  go_loop [5, 6] (fun v i => ∃ j C : Nat, j + 1 ≤ 1 ∧ i = .int .i64 ((j : Int) + 1) ∧ v = .int .i64 (C : Int) ∧ Hid (R3.cb s c0 j = C)) (fun _ i => (1 - intOf i).toNat)
  case atStart => exact ⟨0, c0, by omega, rfl, rfl, rfl⟩
  case round =>
    obtain ⟨j, C, hj, rfl, rfl, HC⟩ := hrel
    have hCb : C ≤ 67108863 ∧ (j + 1 < 1 → C ≤ 1048575) := by
      have hc := HCl.out
      have he := HC.out
      rcases (by omega : j = 0) with rfl
      all_goals omega
    by_cases hlt : j + 1 < 1
    · have q1 : (j : Int) + 1 < 1 := by omega
      have q2 : (0 : Int) ≤ (j : Int) + 1 := by omega
      have q3 : (j : Int) + 1 < (s.size : Int) := by omega
      have q4 : ((j : Int) + 1).toNat = j + 1 := by omega
      have hji : j + 1 < s.size := by omega
      obtain ⟨x, hx⟩ : ∃ x, s[j + 1]'hji = x := ⟨_, rfl⟩
      obtain ⟨m, hm⟩ : ∃ m, x.toNat % 64 = m := ⟨_, rfl⟩
      have e1 : (x.toNat : Int) % 64 = (m : Int) := by omega
      have q5 : (C : Int) ≤ 1048575 := by have := hCb.2 hlt; omega
      have q6 : (m : Int) < 64 := by omega
      have HN : Hid (R3.cb s c0 (j + 1) = 64 * C + m) := by show R3.cb s c0 (j + 1) = _; rw [R3.cb, HC.out, HGt.out (j + 1) hji, hx, hm]
      have xl := x.toNat_lt
      have u2 := R3.wrap_byte x
      have x0 : (0 : Int) ≤ (x.toNat : Int) := by omega
      have xm : (x.toNat : Int) < 256 := by omega
      have hlt' := hlt
      clear hm hCb xl hn2 hj hlt HCl HR HGt
      go_wp2
      clear u2
      go_round
      case rel => exact ⟨j + 1, 64 * C + m, by omega, by go_num, by go_num, HN.out⟩
      case measure => simp [intOf]; omega
    · have q1 : ¬ (j : Int) + 1 < 1 := by omega
      have hCe : R3.cb s c0 (1 - 1) = C := by rw [← HC.out]; congr 1; omega
      have HE := Lib.hid (enc_any C (by omega))
      obtain ⟨r1, r2, r3⟩ := HR.out C hCe
      have HR1 := Lib.hid r1
      have HR2 := Lib.hid r2
      have HR3 := Lib.hid r3
      clear hCe r1 r2 r3 hCb
      cases hk : R3.okc C with
      | false =>
        have hF := HR1.out hk
        have HF := Lib.hid hF
        have he : R3.encR C = .tuple #[.string ⟨#[]⟩, .int .i64 1] := if_neg (by rw [hk]; decide)
        rw [he] at HE
        clear he hF hk
        go_wp2_with fail
        refine (HE.out _).mono ?_
        rintro e w2 ⟨rfl, hb2⟩
        have HB2 := Lib.hid hb2
        clear hb2
        go_wp2
        go_ret2
        exact ⟨by rw [HF.out]; rfl, ((Drew.below (show Drew w _ from ⟨_, rfl⟩) _)).trans HB2.out⟩
      | true =>
        have he : R3.encR C = .tuple #[.string (R3.encS C), .int .i64 0] := if_pos hk
        rw [he] at HE
        obtain ⟨E, hE⟩ : ∃ E, R3.encS C = E := ⟨_, rfl⟩
        rw [hE] at HE HR2 HR3
        clear he hE
        have q7 : (1 : Int) ≤ (s.size : Int) := by omega
        by_cases hq : E = s.extract 0 1
        · have hF := HR3.out hk hq
          have HF := Lib.hid hF
          clear hF hk HR1 HR2 HR3
          go_wp2_with fail
          refine (HE.out _).mono ?_
          rintro e w2 ⟨rfl, hb2⟩
          have HB2 := Lib.hid hb2
          clear hb2
          subst hq
          go_wp2
          go_ret2
          exact ⟨by rw [HF.out]; rfl, ((Drew.below (show Drew w _ from ⟨_, rfl⟩) _)).trans HB2.out⟩
        · have hF := HR2.out hk hq
          have HF := Lib.hid hF
          have hq2 := R3.ne_list hq
          clear hF hk HR1 HR2 HR3 hq
          go_wp2_with fail
          refine (HE.out _).mono ?_
          rintro e w2 ⟨rfl, hb2⟩
          have HB2 := Lib.hid hb2
          clear hb2
          go_wp2
          go_ret2
          exact ⟨by rw [HF.out]; rfl, ((Drew.below (show Drew w _ from ⟨_, rfl⟩) _)).trans HB2.out⟩
set_option maxHeartbeats 4000000 in
set_option maxRecDepth 100000 in
theorem first_2 (s : ByteArray) (hs : s.size ≤ maxLen) (h0 : 0 < s.size) (h1 : 192 ≤ (s.get! 0).toNat) (h2 : (s.get! 0).toNat < 224) (w : World) : Calls Tryd.prog 42 #[.string s] w fun e w' => e = .returned (R3.frR s) ∧ Below w.heap.size w w' := by
  unfold maxLen at hs
  have hem : s.toList.isEmpty = false := by
    rw [ByteArray.toList_eq]
    cases e : s.data.toList with
    | nil => exfalso; have : s.size = 0 := by show s.data.size = 0; rw [← Array.length_toList, e]; rfl
             omega
    | cons _ _ => rfl
  obtain ⟨b, hb⟩ : ∃ b, s[0]'h0 = b := ⟨_, rfl⟩
  have hg := R3.get_is s 0 h0
  rw [hb] at hg
  rw [hg] at h1 h2
  obtain ⟨c0, hc0⟩ : ∃ c, b.toNat - 192 = c := ⟨_, rfl⟩
  have hl : R3.lead b.toNat = (2, c0) := by unfold R3.lead; rw [if_neg (by omega), if_neg (by omega), if_pos (by omega), hc0]
  obtain ⟨X, hX⟩ : ∃ X, R3.frR s = X := ⟨_, rfl⟩
  rw [hX]
  have hcl := R3.cb_le s c0 (by omega)
  have hfr : R3.frs s = if s.size < 2 then (0, 0) else if R3.okc (R3.cb s c0 (2 - 1)) = true ∧ R3.encN (R3.cb s c0 (2 - 1)) = (List.range 2).map (fun i => (s.get! i).toNat) then (R3.cb s c0 (2 - 1), 2) else (0, 0) := by
    unfold R3.frs
    rw [hg, hl]
  have t0 : ¬ (240 : Int) ≤ (b.toNat : Int) := by omega
  have t1 : ¬ (224 : Int) ≤ (b.toNat : Int) := by omega
  have t2 : (192 : Int) ≤ (b.toNat : Int) := by omega
  have e0 : (b.toNat : Int) - 192 = (c0 : Int) := by omega
  have q0 : (0 : Int) < (s.size : Int) := by omega
  by_cases hn : s.size < 2
  · have hF : X = .tuple #[.int .i64 0, .int .i64 0] := by rw [← hX]; unfold R3.frR; rw [hfr, if_pos hn]; rfl
    rw [hF]
    have p0 : (s.size : Int) < 2 := by omega
    have u0 := R3.wrap_byte b
    have u1 := R3.wrap_byte2 b
    clear hF hX hfr hcl hc0 hl hg h1 h2 hn
    go_enter Tryd.func42, Tryd.ntmps42
    go_wp2
    go_quiet (fail)
    go_wp2
    go_ret2
    exact ⟨rfl, (Drew.below (show Drew w _ from ⟨_, rfl⟩) _)⟩
  have hR : ∀ cc : Nat, R3.cb s c0 (2 - 1) = cc → (R3.okc cc = false → X = .tuple #[.int .i64 0, .int .i64 0]) ∧ (R3.okc cc = true → R3.encS cc ≠ s.extract 0 2 → X = .tuple #[.int .i64 0, .int .i64 0]) ∧ (R3.okc cc = true → R3.encS cc = s.extract 0 2 → X = .tuple #[.int .i64 (cc : Int), .int .i64 2]) := by
    intro cc hcc
    rw [if_neg hn, hcc] at hfr
    refine ⟨fun h => ?_, fun h h2 => ?_, fun h h2 => ?_⟩
    · rw [← hX]; unfold R3.frR; rw [hfr, if_neg (fun q => by rw [h] at q; cases q.1)]; rfl
    · rw [← hX]; unfold R3.frR; rw [hfr, if_neg (fun q => h2 ((R3.same_iff s cc 2 (by omega) ((R3.okc_iff cc).1 h).1).2 q.2))]; rfl
    · rw [← hX]; unfold R3.frR; rw [hfr, if_pos ⟨h, (R3.same_iff s cc 2 (by omega) ((R3.okc_iff cc).1 h).1).1 h2⟩]; rfl
  have HR := Lib.hid hR
  have HCl := Lib.hid hcl
  have HGt := Lib.hid (R3.get_is s)
  have p0 : ¬ (s.size : Int) < 2 := by omega
  have hn2 : 2 ≤ s.size := by omega
  have w0 : (0 : Int) ≤ (c0 : Int) := by omega
  have w1 : (c0 : Int) ≤ 255 := by have := b.toNat_lt; omega
  have u0 := R3.wrap_byte b
  have u1 := R3.wrap_byte2 b
  clear hX hR hfr hcl hc0 hl hg h1 h2 hn
  go_enter Tryd.func42, Tryd.ntmps42
  go_wp2
  go_quiet (fail)
  clear u1
  go_wp2_with fail
  clear u0
  go_loop [5, 6] (fun v i => ∃ j C : Nat, j + 1 ≤ 2 ∧ i = .int .i64 ((j : Int) + 1) ∧ v = .int .i64 (C : Int) ∧ Hid (R3.cb s c0 j = C)) (fun _ i => (2 - intOf i).toNat)
  case atStart => exact ⟨0, c0, by omega, rfl, rfl, rfl⟩
  case round =>
    obtain ⟨j, C, hj, rfl, rfl, HC⟩ := hrel
    have hCb : C ≤ 67108863 ∧ (j + 1 < 2 → C ≤ 1048575) := by
      have hc := HCl.out
      have he := HC.out
      rcases (by omega : j = 0 ∨ j = 1) with rfl | rfl
      all_goals omega
    by_cases hlt : j + 1 < 2
    · have q1 : (j : Int) + 1 < 2 := by omega
      have q2 : (0 : Int) ≤ (j : Int) + 1 := by omega
      have q3 : (j : Int) + 1 < (s.size : Int) := by omega
      have q4 : ((j : Int) + 1).toNat = j + 1 := by omega
      have hji : j + 1 < s.size := by omega
      obtain ⟨x, hx⟩ : ∃ x, s[j + 1]'hji = x := ⟨_, rfl⟩
      obtain ⟨m, hm⟩ : ∃ m, x.toNat % 64 = m := ⟨_, rfl⟩
      have e1 : (x.toNat : Int) % 64 = (m : Int) := by omega
      have q5 : (C : Int) ≤ 1048575 := by have := hCb.2 hlt; omega
      have q6 : (m : Int) < 64 := by omega
      have HN : Hid (R3.cb s c0 (j + 1) = 64 * C + m) := by show R3.cb s c0 (j + 1) = _; rw [R3.cb, HC.out, HGt.out (j + 1) hji, hx, hm]
      have xl := x.toNat_lt
      have u2 := R3.wrap_byte x
      have x0 : (0 : Int) ≤ (x.toNat : Int) := by omega
      have xm : (x.toNat : Int) < 256 := by omega
      have hlt' := hlt
      clear hm hCb xl hn2 hj hlt HCl HR HGt
      go_wp2
      clear u2
      go_round
      case rel => exact ⟨j + 1, 64 * C + m, by omega, by go_num, by go_num, HN.out⟩
      case measure => simp [intOf]; omega
    · have q1 : ¬ (j : Int) + 1 < 2 := by omega
      have hCe : R3.cb s c0 (2 - 1) = C := by rw [← HC.out]; congr 1; omega
      have HE := Lib.hid (enc_any C (by omega))
      obtain ⟨r1, r2, r3⟩ := HR.out C hCe
      have HR1 := Lib.hid r1
      have HR2 := Lib.hid r2
      have HR3 := Lib.hid r3
      clear hCe r1 r2 r3 hCb
      cases hk : R3.okc C with
      | false =>
        have hF := HR1.out hk
        have HF := Lib.hid hF
        have he : R3.encR C = .tuple #[.string ⟨#[]⟩, .int .i64 1] := if_neg (by rw [hk]; decide)
        rw [he] at HE
        clear he hF hk
        go_wp2_with fail
        refine (HE.out _).mono ?_
        rintro e w2 ⟨rfl, hb2⟩
        have HB2 := Lib.hid hb2
        clear hb2
        go_wp2
        go_ret2
        exact ⟨by rw [HF.out]; rfl, ((Drew.below (show Drew w _ from ⟨_, rfl⟩) _)).trans HB2.out⟩
      | true =>
        have he : R3.encR C = .tuple #[.string (R3.encS C), .int .i64 0] := if_pos hk
        rw [he] at HE
        obtain ⟨E, hE⟩ : ∃ E, R3.encS C = E := ⟨_, rfl⟩
        rw [hE] at HE HR2 HR3
        clear he hE
        have q7 : (2 : Int) ≤ (s.size : Int) := by omega
        by_cases hq : E = s.extract 0 2
        · have hF := HR3.out hk hq
          have HF := Lib.hid hF
          clear hF hk HR1 HR2 HR3
          go_wp2_with fail
          refine (HE.out _).mono ?_
          rintro e w2 ⟨rfl, hb2⟩
          have HB2 := Lib.hid hb2
          clear hb2
          subst hq
          go_wp2
          go_ret2
          exact ⟨by rw [HF.out]; rfl, ((Drew.below (show Drew w _ from ⟨_, rfl⟩) _)).trans HB2.out⟩
        · have hF := HR2.out hk hq
          have HF := Lib.hid hF
          have hq2 := R3.ne_list hq
          clear hF hk HR1 HR2 HR3 hq
          go_wp2_with fail
          refine (HE.out _).mono ?_
          rintro e w2 ⟨rfl, hb2⟩
          have HB2 := Lib.hid hb2
          clear hb2
          go_wp2
          go_ret2
          exact ⟨by rw [HF.out]; rfl, ((Drew.below (show Drew w _ from ⟨_, rfl⟩) _)).trans HB2.out⟩
set_option maxHeartbeats 4000000 in
set_option maxRecDepth 100000 in
theorem first_3 (s : ByteArray) (hs : s.size ≤ maxLen) (h0 : 0 < s.size) (h1 : 224 ≤ (s.get! 0).toNat) (h2 : (s.get! 0).toNat < 240) (w : World) : Calls Tryd.prog 42 #[.string s] w fun e w' => e = .returned (R3.frR s) ∧ Below w.heap.size w w' := by
  unfold maxLen at hs
  have hem : s.toList.isEmpty = false := by
    rw [ByteArray.toList_eq]
    cases e : s.data.toList with
    | nil => exfalso; have : s.size = 0 := by show s.data.size = 0; rw [← Array.length_toList, e]; rfl
             omega
    | cons _ _ => rfl
  obtain ⟨b, hb⟩ : ∃ b, s[0]'h0 = b := ⟨_, rfl⟩
  have hg := R3.get_is s 0 h0
  rw [hb] at hg
  rw [hg] at h1 h2
  obtain ⟨c0, hc0⟩ : ∃ c, b.toNat - 224 = c := ⟨_, rfl⟩
  have hl : R3.lead b.toNat = (3, c0) := by unfold R3.lead; rw [if_neg (by omega), if_pos (by omega), hc0]
  obtain ⟨X, hX⟩ : ∃ X, R3.frR s = X := ⟨_, rfl⟩
  rw [hX]
  have hcl := R3.cb_le s c0 (by omega)
  have hfr : R3.frs s = if s.size < 3 then (0, 0) else if R3.okc (R3.cb s c0 (3 - 1)) = true ∧ R3.encN (R3.cb s c0 (3 - 1)) = (List.range 3).map (fun i => (s.get! i).toNat) then (R3.cb s c0 (3 - 1), 3) else (0, 0) := by
    unfold R3.frs
    rw [hg, hl]
  have t0 : ¬ (240 : Int) ≤ (b.toNat : Int) := by omega
  have t1 : (224 : Int) ≤ (b.toNat : Int) := by omega
  have e0 : (b.toNat : Int) - 224 = (c0 : Int) := by omega
  have q0 : (0 : Int) < (s.size : Int) := by omega
  by_cases hn : s.size < 3
  · have hF : X = .tuple #[.int .i64 0, .int .i64 0] := by rw [← hX]; unfold R3.frR; rw [hfr, if_pos hn]; rfl
    rw [hF]
    have p0 : (s.size : Int) < 3 := by omega
    have u0 := R3.wrap_byte b
    have u1 := R3.wrap_byte2 b
    clear hF hX hfr hcl hc0 hl hg h1 h2 hn
    go_enter Tryd.func42, Tryd.ntmps42
    go_wp2
    go_quiet (fail)
    go_wp2
    go_ret2
    exact ⟨rfl, (Drew.below (show Drew w _ from ⟨_, rfl⟩) _)⟩
  have hR : ∀ cc : Nat, R3.cb s c0 (3 - 1) = cc → (R3.okc cc = false → X = .tuple #[.int .i64 0, .int .i64 0]) ∧ (R3.okc cc = true → R3.encS cc ≠ s.extract 0 3 → X = .tuple #[.int .i64 0, .int .i64 0]) ∧ (R3.okc cc = true → R3.encS cc = s.extract 0 3 → X = .tuple #[.int .i64 (cc : Int), .int .i64 3]) := by
    intro cc hcc
    rw [if_neg hn, hcc] at hfr
    refine ⟨fun h => ?_, fun h h2 => ?_, fun h h2 => ?_⟩
    · rw [← hX]; unfold R3.frR; rw [hfr, if_neg (fun q => by rw [h] at q; cases q.1)]; rfl
    · rw [← hX]; unfold R3.frR; rw [hfr, if_neg (fun q => h2 ((R3.same_iff s cc 3 (by omega) ((R3.okc_iff cc).1 h).1).2 q.2))]; rfl
    · rw [← hX]; unfold R3.frR; rw [hfr, if_pos ⟨h, (R3.same_iff s cc 3 (by omega) ((R3.okc_iff cc).1 h).1).1 h2⟩]; rfl
  have HR := Lib.hid hR
  have HCl := Lib.hid hcl
  have HGt := Lib.hid (R3.get_is s)
  have p0 : ¬ (s.size : Int) < 3 := by omega
  have hn2 : 3 ≤ s.size := by omega
  have w0 : (0 : Int) ≤ (c0 : Int) := by omega
  have w1 : (c0 : Int) ≤ 255 := by have := b.toNat_lt; omega
  have u0 := R3.wrap_byte b
  have u1 := R3.wrap_byte2 b
  clear hX hR hfr hcl hc0 hl hg h1 h2 hn
  go_enter Tryd.func42, Tryd.ntmps42
  go_wp2
  go_quiet (fail)
  clear u1
  go_wp2_with fail
  clear u0
  go_loop [5, 6] (fun v i => ∃ j C : Nat, j + 1 ≤ 3 ∧ i = .int .i64 ((j : Int) + 1) ∧ v = .int .i64 (C : Int) ∧ Hid (R3.cb s c0 j = C)) (fun _ i => (3 - intOf i).toNat)
  case atStart => exact ⟨0, c0, by omega, rfl, rfl, rfl⟩
  case round =>
    obtain ⟨j, C, hj, rfl, rfl, HC⟩ := hrel
    have hCb : C ≤ 67108863 ∧ (j + 1 < 3 → C ≤ 1048575) := by
      have hc := HCl.out
      have he := HC.out
      rcases (by omega : j = 0 ∨ j = 1 ∨ j = 2) with rfl | rfl | rfl
      all_goals omega
    by_cases hlt : j + 1 < 3
    · have q1 : (j : Int) + 1 < 3 := by omega
      have q2 : (0 : Int) ≤ (j : Int) + 1 := by omega
      have q3 : (j : Int) + 1 < (s.size : Int) := by omega
      have q4 : ((j : Int) + 1).toNat = j + 1 := by omega
      have hji : j + 1 < s.size := by omega
      obtain ⟨x, hx⟩ : ∃ x, s[j + 1]'hji = x := ⟨_, rfl⟩
      obtain ⟨m, hm⟩ : ∃ m, x.toNat % 64 = m := ⟨_, rfl⟩
      have e1 : (x.toNat : Int) % 64 = (m : Int) := by omega
      have q5 : (C : Int) ≤ 1048575 := by have := hCb.2 hlt; omega
      have q6 : (m : Int) < 64 := by omega
      have HN : Hid (R3.cb s c0 (j + 1) = 64 * C + m) := by show R3.cb s c0 (j + 1) = _; rw [R3.cb, HC.out, HGt.out (j + 1) hji, hx, hm]
      have xl := x.toNat_lt
      have u2 := R3.wrap_byte x
      have x0 : (0 : Int) ≤ (x.toNat : Int) := by omega
      have xm : (x.toNat : Int) < 256 := by omega
      have hlt' := hlt
      clear hm hCb xl hn2 hj hlt HCl HR HGt
      go_wp2
      clear u2
      go_round
      case rel => exact ⟨j + 1, 64 * C + m, by omega, by go_num, by go_num, HN.out⟩
      case measure => simp [intOf]; omega
    · have q1 : ¬ (j : Int) + 1 < 3 := by omega
      have hCe : R3.cb s c0 (3 - 1) = C := by rw [← HC.out]; congr 1; omega
      have HE := Lib.hid (enc_any C (by omega))
      obtain ⟨r1, r2, r3⟩ := HR.out C hCe
      have HR1 := Lib.hid r1
      have HR2 := Lib.hid r2
      have HR3 := Lib.hid r3
      clear hCe r1 r2 r3 hCb
      cases hk : R3.okc C with
      | false =>
        have hF := HR1.out hk
        have HF := Lib.hid hF
        have he : R3.encR C = .tuple #[.string ⟨#[]⟩, .int .i64 1] := if_neg (by rw [hk]; decide)
        rw [he] at HE
        clear he hF hk
        go_wp2_with fail
        refine (HE.out _).mono ?_
        rintro e w2 ⟨rfl, hb2⟩
        have HB2 := Lib.hid hb2
        clear hb2
        go_wp2
        go_ret2
        exact ⟨by rw [HF.out]; rfl, ((Drew.below (show Drew w _ from ⟨_, rfl⟩) _)).trans HB2.out⟩
      | true =>
        have he : R3.encR C = .tuple #[.string (R3.encS C), .int .i64 0] := if_pos hk
        rw [he] at HE
        obtain ⟨E, hE⟩ : ∃ E, R3.encS C = E := ⟨_, rfl⟩
        rw [hE] at HE HR2 HR3
        clear he hE
        have q7 : (3 : Int) ≤ (s.size : Int) := by omega
        by_cases hq : E = s.extract 0 3
        · have hF := HR3.out hk hq
          have HF := Lib.hid hF
          clear hF hk HR1 HR2 HR3
          go_wp2_with fail
          refine (HE.out _).mono ?_
          rintro e w2 ⟨rfl, hb2⟩
          have HB2 := Lib.hid hb2
          clear hb2
          subst hq
          go_wp2
          go_ret2
          exact ⟨by rw [HF.out]; rfl, ((Drew.below (show Drew w _ from ⟨_, rfl⟩) _)).trans HB2.out⟩
        · have hF := HR2.out hk hq
          have HF := Lib.hid hF
          have hq2 := R3.ne_list hq
          clear hF hk HR1 HR2 HR3 hq
          go_wp2_with fail
          refine (HE.out _).mono ?_
          rintro e w2 ⟨rfl, hb2⟩
          have HB2 := Lib.hid hb2
          clear hb2
          go_wp2
          go_ret2
          exact ⟨by rw [HF.out]; rfl, ((Drew.below (show Drew w _ from ⟨_, rfl⟩) _)).trans HB2.out⟩
set_option maxHeartbeats 4000000 in
set_option maxRecDepth 100000 in
theorem first_4 (s : ByteArray) (hs : s.size ≤ maxLen) (h0 : 0 < s.size) (h1 : 240 ≤ (s.get! 0).toNat) (h2 : (s.get! 0).toNat < 256) (w : World) : Calls Tryd.prog 42 #[.string s] w fun e w' => e = .returned (R3.frR s) ∧ Below w.heap.size w w' := by
  unfold maxLen at hs
  have hem : s.toList.isEmpty = false := by
    rw [ByteArray.toList_eq]
    cases e : s.data.toList with
    | nil => exfalso; have : s.size = 0 := by show s.data.size = 0; rw [← Array.length_toList, e]; rfl
             omega
    | cons _ _ => rfl
  obtain ⟨b, hb⟩ : ∃ b, s[0]'h0 = b := ⟨_, rfl⟩
  have hg := R3.get_is s 0 h0
  rw [hb] at hg
  rw [hg] at h1 h2
  obtain ⟨c0, hc0⟩ : ∃ c, b.toNat - 240 = c := ⟨_, rfl⟩
  have hl : R3.lead b.toNat = (4, c0) := by unfold R3.lead; rw [if_pos (by omega), hc0]
  obtain ⟨X, hX⟩ : ∃ X, R3.frR s = X := ⟨_, rfl⟩
  rw [hX]
  have hcl := R3.cb_le s c0 (by omega)
  have hfr : R3.frs s = if s.size < 4 then (0, 0) else if R3.okc (R3.cb s c0 (4 - 1)) = true ∧ R3.encN (R3.cb s c0 (4 - 1)) = (List.range 4).map (fun i => (s.get! i).toNat) then (R3.cb s c0 (4 - 1), 4) else (0, 0) := by
    unfold R3.frs
    rw [hg, hl]
  have t0 : (240 : Int) ≤ (b.toNat : Int) := by omega
  have e0 : (b.toNat : Int) - 240 = (c0 : Int) := by omega
  have q0 : (0 : Int) < (s.size : Int) := by omega
  by_cases hn : s.size < 4
  · have hF : X = .tuple #[.int .i64 0, .int .i64 0] := by rw [← hX]; unfold R3.frR; rw [hfr, if_pos hn]; rfl
    rw [hF]
    have p0 : (s.size : Int) < 4 := by omega
    have u0 := R3.wrap_byte b
    have u1 := R3.wrap_byte2 b
    clear hF hX hfr hcl hc0 hl hg h1 h2 hn
    go_enter Tryd.func42, Tryd.ntmps42
    go_wp2
    go_quiet (fail)
    go_wp2
    go_ret2
    exact ⟨rfl, (Drew.below (show Drew w _ from ⟨_, rfl⟩) _)⟩
  have hR : ∀ cc : Nat, R3.cb s c0 (4 - 1) = cc → (R3.okc cc = false → X = .tuple #[.int .i64 0, .int .i64 0]) ∧ (R3.okc cc = true → R3.encS cc ≠ s.extract 0 4 → X = .tuple #[.int .i64 0, .int .i64 0]) ∧ (R3.okc cc = true → R3.encS cc = s.extract 0 4 → X = .tuple #[.int .i64 (cc : Int), .int .i64 4]) := by
    intro cc hcc
    rw [if_neg hn, hcc] at hfr
    refine ⟨fun h => ?_, fun h h2 => ?_, fun h h2 => ?_⟩
    · rw [← hX]; unfold R3.frR; rw [hfr, if_neg (fun q => by rw [h] at q; cases q.1)]; rfl
    · rw [← hX]; unfold R3.frR; rw [hfr, if_neg (fun q => h2 ((R3.same_iff s cc 4 (by omega) ((R3.okc_iff cc).1 h).1).2 q.2))]; rfl
    · rw [← hX]; unfold R3.frR; rw [hfr, if_pos ⟨h, (R3.same_iff s cc 4 (by omega) ((R3.okc_iff cc).1 h).1).1 h2⟩]; rfl
  have HR := Lib.hid hR
  have HCl := Lib.hid hcl
  have HGt := Lib.hid (R3.get_is s)
  have p0 : ¬ (s.size : Int) < 4 := by omega
  have hn2 : 4 ≤ s.size := by omega
  have w0 : (0 : Int) ≤ (c0 : Int) := by omega
  have w1 : (c0 : Int) ≤ 255 := by have := b.toNat_lt; omega
  have u0 := R3.wrap_byte b
  have u1 := R3.wrap_byte2 b
  clear hX hR hfr hcl hc0 hl hg h1 h2 hn
  go_enter Tryd.func42, Tryd.ntmps42
  go_wp2
  go_quiet (fail)
  clear u1
  go_wp2_with fail
  clear u0
  go_loop [5, 6] (fun v i => ∃ j C : Nat, j + 1 ≤ 4 ∧ i = .int .i64 ((j : Int) + 1) ∧ v = .int .i64 (C : Int) ∧ Hid (R3.cb s c0 j = C)) (fun _ i => (4 - intOf i).toNat)
  case atStart => exact ⟨0, c0, by omega, rfl, rfl, rfl⟩
  case round =>
    obtain ⟨j, C, hj, rfl, rfl, HC⟩ := hrel
    have hCb : C ≤ 67108863 ∧ (j + 1 < 4 → C ≤ 1048575) := by
      have hc := HCl.out
      have he := HC.out
      rcases (by omega : j = 0 ∨ j = 1 ∨ j = 2 ∨ j = 3) with rfl | rfl | rfl | rfl
      all_goals omega
    by_cases hlt : j + 1 < 4
    · have q1 : (j : Int) + 1 < 4 := by omega
      have q2 : (0 : Int) ≤ (j : Int) + 1 := by omega
      have q3 : (j : Int) + 1 < (s.size : Int) := by omega
      have q4 : ((j : Int) + 1).toNat = j + 1 := by omega
      have hji : j + 1 < s.size := by omega
      obtain ⟨x, hx⟩ : ∃ x, s[j + 1]'hji = x := ⟨_, rfl⟩
      obtain ⟨m, hm⟩ : ∃ m, x.toNat % 64 = m := ⟨_, rfl⟩
      have e1 : (x.toNat : Int) % 64 = (m : Int) := by omega
      have q5 : (C : Int) ≤ 1048575 := by have := hCb.2 hlt; omega
      have q6 : (m : Int) < 64 := by omega
      have HN : Hid (R3.cb s c0 (j + 1) = 64 * C + m) := by show R3.cb s c0 (j + 1) = _; rw [R3.cb, HC.out, HGt.out (j + 1) hji, hx, hm]
      have xl := x.toNat_lt
      have u2 := R3.wrap_byte x
      have x0 : (0 : Int) ≤ (x.toNat : Int) := by omega
      have xm : (x.toNat : Int) < 256 := by omega
      have hlt' := hlt
      clear hm hCb xl hn2 hj hlt HCl HR HGt
      go_wp2
      clear u2
      go_round
      case rel => exact ⟨j + 1, 64 * C + m, by omega, by go_num, by go_num, HN.out⟩
      case measure => simp [intOf]; omega
    · have q1 : ¬ (j : Int) + 1 < 4 := by omega
      have hCe : R3.cb s c0 (4 - 1) = C := by rw [← HC.out]; congr 1; omega
      have HE := Lib.hid (enc_any C (by omega))
      obtain ⟨r1, r2, r3⟩ := HR.out C hCe
      have HR1 := Lib.hid r1
      have HR2 := Lib.hid r2
      have HR3 := Lib.hid r3
      clear hCe r1 r2 r3 hCb
      cases hk : R3.okc C with
      | false =>
        have hF := HR1.out hk
        have HF := Lib.hid hF
        have he : R3.encR C = .tuple #[.string ⟨#[]⟩, .int .i64 1] := if_neg (by rw [hk]; decide)
        rw [he] at HE
        clear he hF hk
        go_wp2_with fail
        refine (HE.out _).mono ?_
        rintro e w2 ⟨rfl, hb2⟩
        have HB2 := Lib.hid hb2
        clear hb2
        go_wp2
        go_ret2
        exact ⟨by rw [HF.out]; rfl, ((Drew.below (show Drew w _ from ⟨_, rfl⟩) _)).trans HB2.out⟩
      | true =>
        have he : R3.encR C = .tuple #[.string (R3.encS C), .int .i64 0] := if_pos hk
        rw [he] at HE
        obtain ⟨E, hE⟩ : ∃ E, R3.encS C = E := ⟨_, rfl⟩
        rw [hE] at HE HR2 HR3
        clear he hE
        have q7 : (4 : Int) ≤ (s.size : Int) := by omega
        by_cases hq : E = s.extract 0 4
        · have hF := HR3.out hk hq
          have HF := Lib.hid hF
          clear hF hk HR1 HR2 HR3
          go_wp2_with fail
          refine (HE.out _).mono ?_
          rintro e w2 ⟨rfl, hb2⟩
          have HB2 := Lib.hid hb2
          clear hb2
          subst hq
          go_wp2
          go_ret2
          exact ⟨by rw [HF.out]; rfl, ((Drew.below (show Drew w _ from ⟨_, rfl⟩) _)).trans HB2.out⟩
        · have hF := HR2.out hk hq
          have HF := Lib.hid hF
          have hq2 := R3.ne_list hq
          clear hF hk HR1 HR2 HR3 hq
          go_wp2_with fail
          refine (HE.out _).mono ?_
          rintro e w2 ⟨rfl, hb2⟩
          have HB2 := Lib.hid hb2
          clear hb2
          go_wp2
          go_ret2
          exact ⟨by rw [HF.out]; rfl, ((Drew.below (show Drew w _ from ⟨_, rfl⟩) _)).trans HB2.out⟩
theorem first_any (s : ByteArray) (hs : s.size ≤ maxLen) (h0 : 0 < s.size) (w : World) : Calls Tryd.prog 42 #[.string s] w fun e w' => e = .returned (R3.frR s) ∧ Below w.heap.size w w' := by
  have hb := (s.get! 0).toNat_lt
  rcases (by omega : (s.get! 0).toNat < 192 ∨ (192 ≤ (s.get! 0).toNat ∧ (s.get! 0).toNat < 224) ∨ (224 ≤ (s.get! 0).toNat ∧ (s.get! 0).toNat < 240) ∨ 240 ≤ (s.get! 0).toNat) with h | ⟨h, h'⟩ | ⟨h, h'⟩ | h
  · exact first_1 s hs h0 (Nat.zero_le _) h w
  · exact first_2 s hs h0 h h' w
  · exact first_3 s hs h0 h h' w
  · exact first_4 s hs h0 h hb w
end Go.Proofs.YteacncdpjbcinaaDoor
