/- ideal.Named. -/
import Derived.Test.YtolgigaolffenaaGreatDoorQ38
import Derived.Test.YtolgigaolffenaaGreatDoorQ20
import Derived.Test.YtolgigaolffenaaGreatDoorQ31
import Derived.Test.YtolgigaolffenaaGreatDoorQ34

namespace Go.Proofs.YtolgigaolffenaaGreatDoor
open Go.RowKit Go.Shelf

theorem Lk.find_bd (zn ln tg : List ByteArray) : ∀ (f : Nat) (K : Lk.Kn) (x : ByteArray), (∀ y e, K y = some e → 0 ≤ e.1 ∧ e.1 ≤ zn.length) → 0 ≤ (Lk.find zn ln tg f K x).2.1 ∧ (Lk.find zn ln tg f K x).2.1 ≤ zn.length
  | 0, K, x, _ => ⟨Int.le_refl _, by show (0 : Int) ≤ _; omega⟩
  | f + 1, K, x, hK => by
    unfold Lk.find
    split
    · rename_i e he
      exact hK _ _ he
    · split
      · rename_i i hi
        have := (List.getElem?_eq_some_iff.1 (Lk.first_some hi)).1
        exact ⟨by show (0 : Int) ≤ (i : Int); omega, by show (i : Int) ≤ _; omega⟩
      · split
        · exact ⟨Int.le_refl _, by show (0 : Int) ≤ _; omega⟩
        · refine Lk.find_bd zn ln tg f _ _ ?_
          intro y e he
          unfold Lk.mark at he
          split at he
          · cases he
            exact ⟨Int.le_refl _, by show (0 : Int) ≤ _; omega⟩
          · exact hK _ _ he
theorem walk_bd (s : Src.S) (name : ByteArray) (h : s.zones.length ≤ 1024) : 0 ≤ (Lk.walk s name).2.1 ∧ (Lk.walk s name).2.1 < 9223372036854775808 := by
  have h1 := Lk.find_bd (Lk.zn s) (Lk.ln s) (Lk.tg s) (s.links.length + 1) (fun _ => none) name (fun _ _ e => by cases e)
  have h2 : (Lk.zn s).length = s.zones.length := by unfold Lk.zn; rw [List.length_map]
  unfold Lk.walk
  omega
set_option maxHeartbeats 8000000 in
set_option maxRecDepth 100000 in
theorem idNamed_any (s : Src.S) (name : ByteArray) (t : Int) (rv zv lv : Value) (evs : List Value) (w : World) (hR : Src.SrcR w w.heap.size s rv zv lv evs) (hS : Vd.Sz s) (hW : Wo w) (hA : Wa w) (hnm : name.size ≤ maxLen) (ht : -9223372036854775808 ≤ t ∧ t < 9223372036854775808)
    (hcc : ∀ x ∈ s.zones, ∀ e ∈ x.2, 0 ≤ e.u.c) (hwc : ∀ r ∈ s.rules, 0 ≤ r.c) :
    Calls Tryz.prog 12 #[.agg #[rv, zv, lv], .string name, .int .i64 t] w (Ln.AtRet (Ln.namedT s name t) w) := by
  have hzb := walk_bd s name hS.lims.zones
  have HVd := Lib.hid fun (W : World) (hR : Src.SrcR W W.heap.size s rv zv lv evs) (hW : Wo W) (hA : Wa W) => vdWell_any s rv zv lv evs W hR hS hW hA
  have HLk := Lib.hid fun (W : World) (hR : Src.SrcR W W.heap.size s rv zv lv evs) => linkZone_any s rv zv lv evs name W hR hS.nm hnm
  have HAt := Lib.hid fun (W : World) (hR : Src.SrcR W W.heap.size s rv zv lv evs) (hW : Wo W) (hA : Wa W) => idAt_any s (Lk.walk s name).2.1 t rv zv lv evs W hR hS hW hA (by omega) ht hcc hwc
  have HR0 := Lib.hid hR
  obtain ⟨rA, rc, rfl, _⟩ := hR.rules
  obtain ⟨zA, zc, rfl, _⟩ := hR.zones
  obtain ⟨lA, lc, rfl, _⟩ := hR.links
  obtain ⟨n1, hn1⟩ : ∃ n, s.rules.length = n := ⟨_, rfl⟩
  obtain ⟨n2, hn2⟩ : ∃ n, s.zones.length = n := ⟨_, rfl⟩
  obtain ⟨n3, hn3⟩ : ∃ n, s.links.length = n := ⟨_, rfl⟩
  rw [hn1, hn2, hn3] at HVd HLk HAt HR0
  rw [hn1, hn2, hn3]
  obtain ⟨Z, hZ⟩ : ∃ Z, Ln.namedT s name t = Z := ⟨_, rfl⟩
  rw [hZ]
  unfold Ln.namedT at hZ
  obtain ⟨z0, hz0⟩ : ∃ z, (Lk.walk s name).2.1 = z := ⟨_, rfl⟩
  obtain ⟨y0, hy0⟩ : ∃ z, (Lk.walk s name).2.2 = z := ⟨_, rfl⟩
  rw [hz0] at HAt hZ
  rw [hz0, hy0] at HLk
  rw [hy0] at hZ
  obtain ⟨X, hX⟩ : ∃ X, Ln.atT s z0 t = X := ⟨_, rfl⟩
  rw [hX] at HAt hZ
  obtain ⟨bw, hbw⟩ : ∃ b, Vd.well s = b := ⟨_, rfl⟩
  rw [hbw] at HVd hZ
  obtain ⟨W1, hW1⟩ : ∃ W, (w.alloc (.cells #[.slice rA n1 rc, .slice zA n2 zc, .slice lA n3 lc] 26)).alloc (.cells #[.int .i64 0, .bool false, .string ⟨#[]⟩] 31) = W := ⟨_, rfl⟩
  have hb1 : Below w.heap.size w W1 := by rw [← hW1]; exact ((Below.refl w.heap.size w).alloc (Nat.le_refl _) _).alloc (by simp) _
  have hA1 : At W1 w.heap.size [.slice rA n1 rc, .slice zA n2 zc, .slice lA n3 lc] := by rw [← hW1]; exact (At.new _ _ _).allocO _
  have hX1 : At W1 (w.heap.size + 1) [.int .i64 0, .bool false, .string ⟨#[]⟩] := by
    rw [← hW1]
    have h := At.new (w.alloc (.cells #[.slice rA n1 rc, .slice zA n2 zc, .slice lA n3 lc] 26)) #[Value.int .i64 0, .bool false, .string ⟨#[]⟩] 31
    rw [World.size_alloc] at h
    exact h
  have HWo := Lib.hid hW
  have HWa := Lib.hid hA
  have HA1 := Lib.hid hA1
  have HX1 := Lib.hid hX1
  have HB1 := Lib.hid hb1
  have HW1 := Lib.hid hW1
  have HZ := Lib.hid hZ
  have hzw := hb1.size
  have HC1 := Lib.hid (HVd.out W1 (HR0.out.call hb1) (hW.below hb1) (hA.below hb1))
  obtain ⟨b0, b1, b2, _⟩ := hA1.three
  clear hn1 hn2 hn3 hb1 hA1 hX1 hW1 hR hS hwc hcc hW hA hZ hX hbw hz0 hy0 hnm ht hzb
  go_enter Tryz.func12, Tryz.ntmps12
  go_wp2_with fail
  rw [HW1.out]
  refine HC1.out.mono ?_
  rintro e w2 ⟨rfl, hb2⟩
  have HB2 := Lib.hid (HB1.out.trans (hb2.mono HB1.out.size))
  have HX2 := Lib.hid (HX1.out.call hb2)
  have HA2 := Lib.hid (HA1.out.call hb2)
  clear hb2 b0 b1 b2
  cases bw with
  | false =>
    have HEz : Hid (Z = (Ln.St.zero, 2)) := by
      show Z = _
      rw [← HZ.out, if_pos rfl]
    clear HZ
    obtain ⟨y0, y1, y2, g0, g1, g2⟩ := HX2.out.three
    have zY := HX2.out.lt
    go_wp2_with fail
    have hF := ((HX2.out.set 0 (.int .i64 0)).set 1 (.bool false)).set 2 (.string ⟨#[]⟩)
    rw [HEz.out]
    refine bodyPost_ret (named_results (s := Ln.St.zero) rfl rfl (hF.cell 0 _ rfl) (hF.cell 1 _ rfl) (hF.cell 2 _ rfl)) rfl ⟨rfl, ?_⟩
    exact ((HB2.out.setCell (p := ⟨w.heap.size + 1, 0, none⟩) (by show _ ≤ w.heap.size + 1; omega) _).setCell (p := ⟨w.heap.size + 1, 1, none⟩) (by show _ ≤ w.heap.size + 1; omega) _).setCell (p := ⟨w.heap.size + 1, 2, none⟩) (by show _ ≤ w.heap.size + 1; omega) _
  | true =>
    obtain ⟨a0, a1, a2, _⟩ := HA2.out.three
    have zA2 := HA2.out.lt
    have HC2 := Lib.hid (HLk.out w2 (HR0.out.call HB2.out))
    go_wp2_with fail
    refine HC2.out.mono ?_
    rintro e w3 ⟨rfl, hb3⟩
    have HB3 := Lib.hid (HB2.out.trans (hb3.mono HB2.out.size))
    have HX3 := Lib.hid (HX2.out.call hb3)
    have HA3 := Lib.hid (HA2.out.call hb3)
    clear hb3 a0 a1 a2 zA2
    by_cases hy : y0 = 0
    · subst hy
      have HEz : Hid (Z = X) := by
        show Z = _
        rw [← HZ.out, if_neg (by decide), if_neg (by decide)]
      clear HZ
      obtain ⟨a0, a1, a2, _⟩ := HA3.out.three
      have zA3 := HA3.out.lt
      obtain ⟨y0, y1, y2, g0, g1, g2⟩ := HX3.out.three
      have HC3 := Lib.hid (HAt.out w3 (HR0.out.call HB3.out) (HWo.out.below HB3.out) (HWa.out.below HB3.out))
      go_wp2_with fail
      refine HC3.out.mono ?_
      rintro e w4 ⟨rfl, hb4⟩
      have HB4 := Lib.hid (HB3.out.trans (hb4.mono HB3.out.size))
      have HX4 := Lib.hid (HX3.out.call hb4)
      clear hb4 a0 a1 a2 zA3 y0 y1 y2 g0 g1 g2
      obtain ⟨y0, y1, y2, g0, g1, g2⟩ := HX4.out.three
      have zY := HX4.out.lt
      obtain ⟨⟨so, sd, sa⟩, xe⟩ := X
      unfold Ln.St.v
      simp only
      go_wp2_with fail
      have hF := ((HX4.out.set 0 (.int .i64 so)).set 1 (.bool sd)).set 2 (.string sa)
      rw [HEz.out]
      refine bodyPost_ret (named_results (s := ⟨so, sd, sa⟩) rfl rfl (hF.cell 0 _ rfl) (hF.cell 1 _ rfl) (hF.cell 2 _ rfl)) rfl ⟨rfl, ?_⟩
      exact ((HB4.out.setCell (p := ⟨w.heap.size + 1, 0, none⟩) (by show _ ≤ w.heap.size + 1; omega) _).setCell (p := ⟨w.heap.size + 1, 1, none⟩) (by show _ ≤ w.heap.size + 1; omega) _).setCell (p := ⟨w.heap.size + 1, 2, none⟩) (by show _ ≤ w.heap.size + 1; omega) _
    · have HEz : Hid (Z = (Ln.St.zero, y0)) := by
        show Z = _
        rw [← HZ.out, if_neg (by decide), if_pos hy]
      have qy : (y0 != 0) = true := by simpa using hy
      clear HZ
      obtain ⟨x0, x1, x2, g0, g1, g2⟩ := HX3.out.three
      have zY := HX3.out.lt
      go_wp2_with fail
      have hF := ((HX3.out.set 0 (.int .i64 0)).set 1 (.bool false)).set 2 (.string ⟨#[]⟩)
      rw [HEz.out]
      refine bodyPost_ret (named_results (s := Ln.St.zero) rfl rfl (hF.cell 0 _ rfl) (hF.cell 1 _ rfl) (hF.cell 2 _ rfl)) rfl ⟨rfl, ?_⟩
      exact ((HB3.out.setCell (p := ⟨w.heap.size + 1, 0, none⟩) (by show _ ≤ w.heap.size + 1; omega) _).setCell (p := ⟨w.heap.size + 1, 1, none⟩) (by show _ ≤ w.heap.size + 1; omega) _).setCell (p := ⟨w.heap.size + 1, 2, none⟩) (by show _ ≤ w.heap.size + 1; omega) _
end Go.Proofs.YtolgigaolffenaaGreatDoor

/- What the laws of the ninth stage ask first. -/
namespace Go.Proofs.YtolgigaolffenaaGreatDoor
open Go.RowKit

namespace B9
def e0_0 : Er.E := ⟨3600, 0, 0, ⟨#[]⟩, ⟨#[120]⟩, false, ⟨0, 0, 0, 0, 0, 0, 0⟩⟩
def s : Src.S := ⟨[], [([65], [e0_0])], [], false⟩
theorem e0_0_ok : e0_0.Ok := ⟨by decide +kernel, by decide +kernel, .inl ⟨rfl, rfl, rfl⟩, fun h => (by cases h), fun _ => rfl⟩
theorem right : Src.srcB s = true := by
  have he0_0 : e0_0.good = true := by unfold Er.E.good; rw [Er.chk_ok e0_0 e0_0_ok]; rfl
  have hz0 : Src.zoneB ([65], [e0_0]) = true := by
    unfold Src.zoneB Src.erasB Src.erasB
    simp only [he0_0]
    decide +kernel
  unfold Src.srcB s
  simp only [List.all_cons, List.all_nil, hz0]
  rfl
theorem names : (Src.names s).Nodup := by
  have h : Src.names s = [⟨#[65]⟩] := rfl
  rw [h]
  decide +kernel
theorem flaws : Vd.flaws s = [] := by
  rw [Vd.flaws_iff]
  refine ⟨names, ?_, ?_, ?_⟩
  · intro z hz e he hk
    obtain rfl : z = ([65], [e0_0]) := by simpa [s] using hz
    obtain rfl : e = e0_0 := by simpa using he
    exact absurd hk (by decide)
  · intro z hz
    obtain rfl : z = ([65], [e0_0]) := by simpa [s] using hz
    decide +kernel
  · intro l hl
    cases hl
theorem well : Vd.well s = true := (Vd.well_iff s).2 ⟨right, flaws⟩
theorem sz : Vd.Sz s := by
  refine ⟨⟨by decide, by decide, by decide⟩, ?_, ⟨?_, ?_, ?_⟩⟩
  · intro z hz
    obtain rfl : z = ([65], [e0_0]) := by simpa [s] using hz
    decide
  · intro r hr
    cases hr
  · intro z hz
    obtain rfl : z = ([65], [e0_0]) := by simpa [s] using hz
    refine ⟨by decide, fun e he => ?_⟩
    obtain rfl : e = e0_0 := by simpa using he
    exact ⟨by decide, by decide⟩
  · intro k hk
    cases hk
theorem rcs : ∀ r ∈ s.rules, 0 ≤ r.c := by
  intro r hr
  cases hr
theorem ccs : ∀ z ∈ s.zones, ∀ e ∈ z.2, 0 ≤ e.u.c := by
  intro z hz e he
  obtain rfl : z = ([65], [e0_0]) := by simpa [s] using hz
  obtain rfl : e = e0_0 := by simpa using he
  decide
end B9
namespace B9
def v0 (w : World) : World := w
def v1 (w : World) : World := (v0 w).alloc (.cells #[.int .i64 3600, .int .u8 0, .int .i64 0, .string ⟨#[]⟩, .string ⟨#[120]⟩, .bool false, .int .i64 0, .int .i64 0, .int .u8 0, .int .i64 0, .int .i64 0, .int .i64 0, .int .u8 0] 53)
def v2 (w : World) : World := (v1 w).alloc (.cells #[.string ⟨#[65]⟩, .slice (some ⟨w.heap.size, 0, none⟩) 1 1] 56)
def v3 (w : World) : World := (v2 w).alloc (.cells #[.slice none 0 0, .slice (some ⟨w.heap.size + 1, 0, none⟩) 1 1, .slice none 0 0] 26)
theorem n0 (w : World) : (v0 w).heap.size = w.heap.size := rfl
theorem n1 (w : World) : (v1 w).heap.size = w.heap.size + 1 := (World.size_alloc _ _).trans (congrArg (· + 1) (n0 w))
theorem n2 (w : World) : (v2 w).heap.size = w.heap.size + 1 + 1 := (World.size_alloc _ _).trans (congrArg (· + 1) (n1 w))
theorem b0 (w : World) : Below w.heap.size w (v0 w) := Below.refl _ _
theorem b1 (w : World) : Below w.heap.size w (v1 w) := (b0 w).alloc (b0 w).size _
theorem b2 (w : World) : Below w.heap.size w (v2 w) := (b1 w).alloc (b1 w).size _
theorem b3 (w : World) : Below w.heap.size w (v3 w) := (b2 w).alloc (b2 w).size _
abbrev wl (w : World) : World := v3 w
theorem below (w : World) : Below w.heap.size w (wl w) := b3 w
theorem a0_1 (w : World) : At (v1 w) (w.heap.size) [.int .i64 3600, .int .u8 0, .int .i64 0, .string ⟨#[]⟩, .string ⟨#[120]⟩, .bool false, .int .i64 0, .int .i64 0, .int .u8 0, .int .i64 0, .int .i64 0, .int .i64 0, .int .u8 0] := by
  unfold v1
  exact Lit.newAt (v0 w) _ _ _ (n0 w).symm
theorem a0_2 (w : World) : At (v2 w) (w.heap.size) [.int .i64 3600, .int .u8 0, .int .i64 0, .string ⟨#[]⟩, .string ⟨#[120]⟩, .bool false, .int .i64 0, .int .i64 0, .int .u8 0, .int .i64 0, .int .i64 0, .int .i64 0, .int .u8 0] := (a0_1 w).allocO _
theorem a0_3 (w : World) : At (v3 w) (w.heap.size) [.int .i64 3600, .int .u8 0, .int .i64 0, .string ⟨#[]⟩, .string ⟨#[120]⟩, .bool false, .int .i64 0, .int .i64 0, .int .u8 0, .int .i64 0, .int .i64 0, .int .i64 0, .int .u8 0] := (a0_2 w).allocO _
theorem at0 (w : World) : At (wl w) (w.heap.size) [.int .i64 3600, .int .u8 0, .int .i64 0, .string ⟨#[]⟩, .string ⟨#[120]⟩, .bool false, .int .i64 0, .int .i64 0, .int .u8 0, .int .i64 0, .int .i64 0, .int .i64 0, .int .u8 0] := a0_3 w
theorem a1_2 (w : World) : At (v2 w) (w.heap.size + 1) [.string ⟨#[65]⟩, .slice (some ⟨w.heap.size, 0, none⟩) 1 1] := by
  unfold v2
  exact Lit.newAt (v1 w) _ _ _ (n1 w).symm
theorem a1_3 (w : World) : At (v3 w) (w.heap.size + 1) [.string ⟨#[65]⟩, .slice (some ⟨w.heap.size, 0, none⟩) 1 1] := (a1_2 w).allocO _
theorem at1 (w : World) : At (wl w) (w.heap.size + 1) [.string ⟨#[65]⟩, .slice (some ⟨w.heap.size, 0, none⟩) 1 1] := a1_3 w
theorem a2_3 (w : World) : At (v3 w) (w.heap.size + 1 + 1) [.slice none 0 0, .slice (some ⟨w.heap.size + 1, 0, none⟩) 1 1, .slice none 0 0] := by
  unfold v3
  exact Lit.newAt (v2 w) _ _ _ (n2 w).symm
theorem at2 (w : World) : At (wl w) (w.heap.size + 1 + 1) [.slice none 0 0, .slice (some ⟨w.heap.size + 1, 0, none⟩) 1 1, .slice none 0 0] := a2_3 w
end B9
namespace B9
theorem r (w : World) : Src.SrcR (wl w) (wl w).heap.size s (.slice none 0 0) (.slice (some ⟨w.heap.size + 1, 0, none⟩) 1 1) (.slice none 0 0) [.slice (some ⟨w.heap.size, 0, none⟩) 1 1] := by
  refine ⟨⟨none, 0, rfl, Nat.le_refl _, by unfold maxLen; omega, Reads.none_⟩, ⟨_, 1, rfl, Nat.le_refl _, by unfold maxLen; omega, Lit.reads (at1 w) rfl⟩, ⟨none, 0, rfl, Nat.le_refl _, by unfold maxLen; omega, Reads.none_⟩, rfl, ?_⟩
  intro p hp
  have e : p = (([65], [e0_0]), .slice (some ⟨w.heap.size, 0, none⟩) 1 1) := by simpa [s] using hp
  subst e
  exact ⟨_, 1, rfl, Nat.le_refl _, by unfold maxLen; omega, Lit.reads (at0 w) rfl⟩
theorem at_one : Eg.zoneAt s 0 = some ([65], [e0_0]) := rfl
theorem walk : Lk.walk s ⟨#[65]⟩ = ([⟨#[65]⟩], (0, 0)) := Lk.walk_zone (i := 0) rfl
theorem st0 : Ln.stAt s.rules [e0_0] 0 = ⟨3600, false, ⟨#[120]⟩⟩ := by
  have h1 : (Ln.stAt s.rules [e0_0] 0).off = 3600 := by decide +kernel
  have h2 : (Ln.stAt s.rules [e0_0] 0).dst = false := by decide +kernel
  have h3 : (Ln.stAt s.rules [e0_0] 0).ab = ⟨#[120]⟩ := by decide +kernel
  obtain ⟨X, hX⟩ : ∃ X, Ln.stAt s.rules [e0_0] 0 = X := ⟨_, rfl⟩
  rw [hX] at h1 h2 h3 ⊢
  obtain ⟨a, b, c⟩ := X
  simp only at h1 h2 h3
  rw [h1, h2, h3]
theorem named : Ln.namedT s ⟨#[65]⟩ 0 = (⟨3600, false, ⟨#[120]⟩⟩, 0) := by
  unfold Ln.namedT
  rw [if_neg (by rw [well]; decide), walk, if_neg (by decide)]
  unfold Ln.atT
  rw [if_neg (by rw [well]; decide), at_one]
  simp only
  rw [if_pos (by decide +kernel), st0]
theorem iny : Ln.InY 1970 1970 := by unfold Ln.InY; decide
theorem line : Ln.lineOf s [e0_0] 1970 1970 = [⟨0, 3600, false⟩] := by decide +kernel
end B9
set_option maxHeartbeats 8000000 in
set_option maxRecDepth 200000 in
theorem begins9_any (w : World) (hW : Wo w) (hA : Wa w) : Calls Tryz.prog 24 #[] w fun e w' => e = .returned (.bool true) ∧ Below w.heap.size w w' := by
  have hWW : ∀ W, Below (B9.wl w).heap.size (B9.wl w) W → Wo W ∧ Wa W := fun W hb => ⟨hW.below ((B9.below w).trans (hb.mono (B9.below w).size)), hA.below ((B9.below w).trans (hb.mono (B9.below w).size))⟩
  have HNm : Hid (∀ W, Below (B9.wl w).heap.size (B9.wl w) W → Calls Tryz.prog 12 #[.agg #[.slice none 0 0, .slice (some ⟨w.heap.size + 1, 0, none⟩) 1 1, .slice none 0 0], .string ⟨#[65]⟩, .int .i64 0] W fun e w' => e = .returned (.tuple #[.agg #[.int .i64 3600, .bool false, .string ⟨#[120]⟩], .int .i64 0]) ∧ Below W.heap.size W w') := fun W hb => by
    have h := idNamed_any B9.s ⟨#[65]⟩ 0 _ _ _ _ W ((B9.r w).call hb) B9.sz (hWW W hb).1 (hWW W hb).2 (by decide) (by decide) B9.ccs B9.rcs
    rw [B9.named] at h
    exact h
  have HLn : Hid (∀ W, Below (B9.wl w).heap.size (B9.wl w) W → Calls Tryz.prog 21 #[.agg #[.slice none 0 0, .slice (some ⟨w.heap.size + 1, 0, none⟩) 1 1, .slice none 0 0], .int .i64 0, .int .i64 1970, .int .i64 1970] W fun e w' => Below W.heap.size W w' ∧ ∃ v, e = .returned (.tuple #[v, .int .i64 0]) ∧ w'.ownsRow W.heap.size 71 3 v 1 [.int .i64 0, .int .i64 3600, .bool false]) := fun W hb => by
    refine (lnOf_any B9.s 0 1970 1970 _ _ _ _ W ((B9.r w).call hb) B9.sz (hWW W hb).1 (hWW W hb).2 (by decide) (by decide) (by decide) B9.ccs B9.rcs).mono ?_
    rintro e w' ⟨hb', ⟨hwr, _⟩ | ⟨_, hno, _⟩ | ⟨x, _, hx, hin, _⟩ | ⟨x, v, _, hx, _, rfl, ho⟩⟩
    · rw [B9.well] at hwr; cases hwr
    · rw [B9.at_one] at hno; cases hno
    · exact absurd B9.iny hin
    · rw [B9.at_one] at hx
      cases hx
      rw [B9.line] at ho
      exact ⟨hb', v, rfl, ho⟩
  have HS := Lib.hid (B9.at2 w)
  have HB := Lib.hid (B9.below w)
  clear hW hA hWW
  go_enter Tryz.func24, Tryz.ntmps24
  go_wp2_with fail
  refine (HNm.out _ (Below.refl _ _)).mono ?_
  rintro e w1 ⟨rfl, hb1⟩
  have HB1 := Lib.hid hb1
  obtain ⟨W2, hW2⟩ : ∃ X, w1.alloc (.cells #[.int .i64 3600, .bool false, .string ⟨#[120]⟩] 31) = X := ⟨_, rfl⟩
  have hb2 : Below w1.heap.size w1 W2 := by rw [← hW2]; exact (Below.refl _ _).alloc (Nat.le_refl _) _
  have hX2 : At W2 w1.heap.size [.int .i64 3600, .bool false, .string ⟨#[120]⟩] := by rw [← hW2]; exact At.new _ _ _
  have HB2 := Lib.hid (HB1.out.trans (hb2.mono HB1.out.size))
  have HX2 := Lib.hid hX2
  have HW2 := Lib.hid hW2
  obtain ⟨a0, a1, a2, _⟩ := (HS.out.call hb1).three
  have z := (HS.out.call hb1).lt
  clear hb1 hb2 hX2 hW2
  go_wp2_with fail
  rw [HW2.out]
  refine (HLn.out _ HB2.out).mono ?_
  rintro e w3 ⟨hb3, v, rfl, ho3⟩
  obtain ⟨vA, vc, rfl, hv1, hv2⟩ := own_slice_cap ho3
  obtain ⟨c0, c1, c2, _⟩ := (HX2.out.call hb3).three
  have zx := (HX2.out.call hb3).lt
  have HB3 := Lib.hid (HB2.out.trans (hb3.mono HB2.out.size))
  have hq : ∀ W, (Op.equalIn 10000 31 (.agg #[.int .i64 3600, .bool false, .string ⟨#[120]⟩]) (.agg #[.int .i64 3600, .bool false, .string ⟨#[120]⟩])).run Tryz.prog W = .ok true W := fun W => by kernel_rfl
  have hal : Below w3.heap.size w3 (w3.alloc (.cells #[.int .i64 0, .int .i64 3600, .bool false] 71)) := (Below.refl _ _).alloc (Nat.le_refl _) _
  have HSm := Lib.hid (same18_any vA (some ⟨w3.heap.size, 0, none⟩) 1 1 vc 1 [⟨0, 3600, false⟩] [⟨0, 3600, false⟩] (w3.alloc (.cells #[.int .i64 0, .int .i64 3600, .bool false] 71)) (by decide) (by decide) rfl rfl (((Reads.of_own ho3).below hal).more hal.size) (Lit.reads (At.new w3 #[.int .i64 0, .int .i64 3600, .bool false] 71) rfl))
  have HAl := Lib.hid hal
  clear hb3 ho3 a0 a1 a2 z hal
  go_wp2_with fail
  refine HSm.out.mono ?_
  rintro e w4 ⟨rfl, hd⟩
  have HB4 := Lib.hid (HB3.out.trans ((HAl.out.trans ((hd.below _).mono HAl.out.size)).mono HB3.out.size))
  clear hd
  go_wp2
  go_ret
  exact ⟨ret_bool (by decide), HB.out.trans (HB4.out.mono HB.out.size)⟩
end Go.Proofs.YtolgigaolffenaaGreatDoor
