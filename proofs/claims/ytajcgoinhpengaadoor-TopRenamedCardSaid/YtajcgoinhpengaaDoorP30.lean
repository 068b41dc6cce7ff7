/- solsticelaw11.Small: 0, or 1 and the source is small. -/
import Derived.Test.YtajcgoinhpengaaDoorP16
import Derived.Test.YtajcgoinhpengaaDoorP24
import Derived.Test.YtajcgoinhpengaaDoorP14
import Derived.Orders
import Derived.RegionTactic

namespace Go.Proofs.YtajcgoinhpengaaDoor
open Go.RowKit

namespace Src
def SmE (e : Er.E) : Prop := e.ru.size ≤ 1000 ∧ e.fm.size ≤ 1000
def SmZ (z : Txt × List Er.E) : Prop := z.2.length ≤ 12 ∧ z.1.length ≤ 1000 ∧ ∀ e ∈ z.2, SmE e
def SmR (r : Ru.R) : Prop := r.nm.size ≤ 1000 ∧ r.lt.size ≤ 1000
def SmL (k : Txt × Txt) : Prop := k.1.length ≤ 1000 ∧ k.2.length ≤ 1000
structure Few (s : S) : Prop where
  nr : s.rules.length ≤ 40
  nz : s.zones.length ≤ 12
  nl : s.links.length ≤ 20
  rules : ∀ r ∈ s.rules, SmR r
  zones : ∀ z ∈ s.zones, SmZ z
  links : ∀ k ∈ s.links, SmL k
theorem take_all {α : Type} {P : α → Prop} {l : List α} {k : Nat} {x : α} (h : ∀ a ∈ l.take k, P a) (hx : l[k]? = some x) (hp : P x) : ∀ a ∈ l.take (k + 1), P a := by
  rw [List.take_add_one, hx]
  intro a ha
  rcases List.mem_append.1 ha with ha | ha
  · exact h a ha
  · have e : a = x := by simpa using ha
    rw [e]; exact hp
theorem bts_size (t : Txt) : (bts t).size = t.length := rfl
end Src
def SRel {α : Type} (P : α → Prop) (l : List α) (n : Nat) (w0 : World) (i : Value) (wr : World) : Prop :=
  ∃ k : Nat, k ≤ n ∧ i = .int .i64 k ∧ Hid (∀ a ∈ l.take k, P a) ∧ Hid (Below w0.heap.size w0 wr)
set_option maxHeartbeats 4000000 in
set_option maxRecDepth 100000 in
theorem few_any (s : Src.S) (rv zv lv : Value) (evs : List Value) (w : World) (hR : Src.SrcR w w.heap.size s rv zv lv evs) (hw : Src.Wide s) :
    Calls Tryd.prog 7 #[.agg #[rv, zv, lv]] w fun e w' => (e = .returned (.int .i64 0) ∨ (e = .returned (.int .i64 1) ∧ Src.Few s)) ∧ Below w.heap.size w w' := by
  have hwr := hw.rules
  have hwz := hw.zones
  have hwl := hw.links
  clear hw
  obtain ⟨rules, zones, links, op⟩ := s
  obtain ⟨⟨rA, rc, rfl, hr1, hr2, hr3⟩, ⟨zA, zc, rfl, hz1, hz2, hz3⟩, ⟨lA, lc, rfl, hl1, hl2, hl3⟩, hlen, hers⟩ := hR
  simp only at hr1 hr3 hz1 hz3 hl1 hl3 hlen hers hwr hwz hwl ⊢
  obtain ⟨nr, hnr⟩ : ∃ n, rules.length = n := ⟨_, rfl⟩
  obtain ⟨nz, hnz⟩ : ∃ n, zones.length = n := ⟨_, rfl⟩
  obtain ⟨nl, hnl⟩ : ∃ n, links.length = n := ⟨_, rfl⟩
  have hzl : (zones.zip evs).length = nz := by rw [List.length_zip, hlen, hnz]; omega
  rw [hnr] at hr1 hr3 ⊢
  rw [hnz] at hz1 hz3 ⊢
  rw [hnl] at hl1 hl3 ⊢
  unfold maxLen at hr2 hz2 hl2
  have HNr := Lib.hid hnr
  have HNz := Lib.hid hnz
  have HNl := Lib.hid hnl
  have HZl := Lib.hid hzl
  have HRr := Lib.hid hr3
  have HRz := Lib.hid hz3
  have HRl := Lib.hid hl3
  have HEr := Lib.hid hers
  have HWr := Lib.hid hwr
  have HWz := Lib.hid hwz
  have HWl := Lib.hid hwl
  have HB0 := Lib.hid ((Below.refl w.heap.size w).alloc (Nat.le_refl _) (.cells #[.slice rA nr rc, .slice zA nz zc, .slice lA nl lc] 27))
  have HA0 := Lib.hid (At.new w #[.slice rA nr rc, .slice zA nz zc, .slice lA nl lc] 27)
  obtain ⟨w0, hw0⟩ : ∃ x, w.alloc (.cells #[.slice rA nr rc, .slice zA nz zc, .slice lA nl lc] 27) = x := ⟨_, rfl⟩
  obtain ⟨h, hh⟩ : ∃ h, w.heap.size = h := ⟨_, rfl⟩
  rw [hw0] at HB0 HA0
  have HH := Lib.hid hh
  clear hnr hnz hnl hzl hr3 hz3 hl3 hers hwr hwz hwl hlen
  obtain ⟨c0, c1, c2, _⟩ := (show At w0 h [.slice rA nr rc, .slice zA nz zc, .slice lA nl lc] by rw [← hh]; exact HA0.out).three
  rw [hh] at HA0
  go_enter Tryd.func7, Tryd.ntmps7
  by_cases q1 : (40 : Int) < (nr : Int)
  · go_wp2
    go_ret
    exact ⟨.inl rfl, by first | exact HB0.out | (rw [← hh]; exact HB0.out)⟩
  by_cases q2 : (12 : Int) < (nz : Int)
  · go_wp2
    go_ret
    exact ⟨.inl rfl, by first | exact HB0.out | (rw [← hh]; exact HB0.out)⟩
  by_cases q5 : (20 : Int) < (nl : Int)
  · go_wp2
    go_ret
    exact ⟨.inl rfl, by first | exact HB0.out | (rw [← hh]; exact HB0.out)⟩
  go_wp2
  clear c0 c1 c2
  go_loopw [30] (fun i wr => SRel Src.SmZ zones nz w0 i wr) (fun i _ => nz - (intOf i).toNat)
  case atStart => exact ⟨0, Nat.zero_le _, rfl, (fun a ha => by simp at ha), Below.refl _ _⟩
  case round =>
    obtain ⟨k, hk, rfl, HPk, HB⟩ := hrel
    have HBr := Lib.hid (HB0.out.trans (HB.out.mono HB0.out.size))
    by_cases hlt : k < nz
    · have q3 : (0 : Int) ≤ (k : Int) := by omega
      have q4 : (k : Int) < (nz : Int) := by omega
      obtain ⟨ad, x, rfl, hab, Hx, HL0⟩ := Ix.reads_cells (enc := Src.zc) (m := 2) (fun _ => rfl) HZl.out (HRz.out.below HBr.out) hlt
      obtain ⟨z, ev⟩ := x
      have hxz : zones[k]? = some z := (List.getElem?_zip_eq_some.1 Hx.out).1
      have hwx := HWz.out z (List.mem_of_getElem? hxz)
      obtain ⟨eA, ec, he, hne, hem, hre⟩ := HEr.out (z, ev) (List.mem_of_getElem? Hx.out)
      simp only at he hne hre
      subst he
      obtain ⟨en0, hen⟩ : ∃ n, z.2.length = n := ⟨_, rfl⟩
      obtain ⟨xn, hxn⟩ : ∃ y, Src.bts z.1 = y := ⟨_, rfl⟩
      have hzn : xn.size = z.1.length := by rw [← hxn]; rfl
      have hs1 : xn.size ≤ maxLen := by rw [hzn]; exact hwx.1
      unfold maxLen at hs1 hem
      rw [hen] at hne hre
      have x0 : wr.cell? (ad.add (k * 2)) = some (.string xn) := by rw [← hxn]; exact HL0.out 0 _ rfl
      have x1 : wr.cell? ⟨(ad.add (k * 2)).block, (ad.add (k * 2)).off + 1, none⟩ = some (.slice eA en0 ec) := by rw [← hen]; exact HL0.out 1 _ rfl
      have HXz := Lib.hid hxz
      have HZn := Lib.hid hzn
      have HEn := Lib.hid hen
      have HRe := Lib.hid hre
      have HWe := Lib.hid hwx.2
      obtain ⟨g, hg⟩ : ∃ g, wr.heap.size = g := ⟨_, rfl⟩
      obtain ⟨w3, hw3⟩ : ∃ x, wr.alloc (.cells #[.string xn, .slice eA en0 ec] 54) = x := ⟨_, rfl⟩
      have HT := Lib.hid (show At w3 g [.string xn, .slice eA en0 ec] by rw [← hw3, ← hg]; exact At.new wr #[.string xn, .slice eA en0 ec] 54)
      have HBa := Lib.hid (show Below w0.heap.size w0 w3 by rw [← hw3]; exact HB.out.alloc HB.out.size _)
      replace HBr := Lib.hid (show Below w.heap.size w w3 by rw [← hw3]; exact HBr.out.alloc HBr.out.size _)
      obtain ⟨t0, t1, _⟩ := HT.out.two
      clear hwx hxn hxz hzn hre hen
      by_cases p1 : (12 : Int) < (en0 : Int)
      · go_wp2
        go_ret
        exact ⟨.inl rfl, by first | exact HBr.out | (rw [← hh]; exact HBr.out)⟩
      by_cases p2 : (1000 : Int) < (xn.size : Int)
      · go_wp2
        go_ret
        exact ⟨.inl rfl, by first | exact HBr.out | (rw [← hh]; exact HBr.out)⟩
      go_wp2
      clear t0 t1 x0 x1
      go_loopw [47] (fun i wr => SRel Src.SmE z.2 en0 w0 i wr) (fun i _ => en0 - (intOf i).toNat)
      case atStart => exact ⟨0, Nat.zero_le _, rfl, (fun a ha => by simp at ha), HBa.out⟩
      case round =>
        obtain ⟨j, hk, rfl, HPj, HB⟩ := hrel
        have HBr := Lib.hid (HB0.out.trans (HB.out.mono HB0.out.size))
        by_cases hlt : j < en0
        · have q3 : (0 : Int) ≤ (j : Int) := by omega
          have q4 : (j : Int) < (en0 : Int) := by omega
          obtain ⟨ad2, x, rfl, hab2, Hx2, HL2⟩ := Ix.reads_cells (enc := Er.E.cells) (m := 13) (fun _ => rfl) HEn.out (HRe.out.below HBr.out) hlt
          have hwx := HWe.out x (List.mem_of_getElem? Hx2.out)
          obtain ⟨std, ek, esv, ru, fm, en, ⟨y, m, dk, dn, dd, sc, cc⟩⟩ := x
          have hs1 : ru.size ≤ maxLen := hwx.2.1
          have hs2 : fm.size ≤ maxLen := hwx.2.2
          unfold maxLen at hs1 hs2
          have yy0 : wr.cell? (ad2.add (j * 13)) = some (.int .i64 std) := HL2.out 0 _ rfl
          have yy1 : wr.cell? ⟨(ad2.add (j * 13)).block, (ad2.add (j * 13)).off + 1, none⟩ = some (.int .u8 ek) := HL2.out 1 _ rfl
          have yy2 : wr.cell? ⟨(ad2.add (j * 13)).block, (ad2.add (j * 13)).off + 2, none⟩ = some (.int .i64 esv) := HL2.out 2 _ rfl
          have yy3 : wr.cell? ⟨(ad2.add (j * 13)).block, (ad2.add (j * 13)).off + 3, none⟩ = some (.string ru) := HL2.out 3 _ rfl
          have yy4 : wr.cell? ⟨(ad2.add (j * 13)).block, (ad2.add (j * 13)).off + 4, none⟩ = some (.string fm) := HL2.out 4 _ rfl
          have yy5 : wr.cell? ⟨(ad2.add (j * 13)).block, (ad2.add (j * 13)).off + 5, none⟩ = some (.bool en) := HL2.out 5 _ rfl
          have yy6 : wr.cell? ⟨(ad2.add (j * 13)).block, (ad2.add (j * 13)).off + 6, none⟩ = some (.int .i64 y) := HL2.out 6 _ rfl
          have yy7 : wr.cell? ⟨(ad2.add (j * 13)).block, (ad2.add (j * 13)).off + 7, none⟩ = some (.int .i64 m) := HL2.out 7 _ rfl
          have yy8 : wr.cell? ⟨(ad2.add (j * 13)).block, (ad2.add (j * 13)).off + 8, none⟩ = some (.int .u8 dk) := HL2.out 8 _ rfl
          have yy9 : wr.cell? ⟨(ad2.add (j * 13)).block, (ad2.add (j * 13)).off + 9, none⟩ = some (.int .i64 dn) := HL2.out 9 _ rfl
          have yy10 : wr.cell? ⟨(ad2.add (j * 13)).block, (ad2.add (j * 13)).off + 10, none⟩ = some (.int .i64 dd) := HL2.out 10 _ rfl
          have yy11 : wr.cell? ⟨(ad2.add (j * 13)).block, (ad2.add (j * 13)).off + 11, none⟩ = some (.int .i64 sc) := HL2.out 11 _ rfl
          have yy12 : wr.cell? ⟨(ad2.add (j * 13)).block, (ad2.add (j * 13)).off + 12, none⟩ = some (.int .u8 cc) := HL2.out 12 _ rfl
          have HBa := Lib.hid (HB.out.alloc HB.out.size (.cells #[.int .i64 std, .int .u8 ek, .int .i64 esv, .string ru, .string fm, .bool en, .int .i64 y, .int .i64 m, .int .u8 dk, .int .i64 dn, .int .i64 dd, .int .i64 sc, .int .u8 cc] 65))
          replace HBr := Lib.hid (HBr.out.alloc HBr.out.size (.cells #[.int .i64 std, .int .u8 ek, .int .i64 esv, .string ru, .string fm, .bool en, .int .i64 y, .int .i64 m, .int .u8 dk, .int .i64 dn, .int .i64 dd, .int .i64 sc, .int .u8 cc] 65))
          clear hwx
          by_cases p3 : (1000 : Int) < (ru.size : Int)
          · go_wp2
            go_ret
            exact ⟨.inl rfl, by first | exact HBr.out | (rw [← hh]; exact HBr.out)⟩
          by_cases p4 : (1000 : Int) < (fm.size : Int)
          · go_wp2
            go_ret
            exact ⟨.inl rfl, by first | exact HBr.out | (rw [← hh]; exact HBr.out)⟩
          have HP2 := Lib.hid (Src.take_all HPj.out Hx2.out (show Src.SmE ⟨std, ek, esv, ru, fm, en, ⟨y, m, dk, dn, dd, sc, cc⟩⟩ from ⟨by show ru.size ≤ 1000; omega, by show fm.size ≤ 1000; omega⟩))
          go_wp2
          go_roundw
          case rel => exact ⟨j + 1, by omega, by go_num, HP2.out, HBa.out⟩
          case measure => simp [intOf]; omega
        · have q4 : ¬ (j : Int) < (en0 : Int) := by omega
          have hkn : en0 = j := by omega
          subst hkn
          have hall := HPj.out
          rw [List.take_of_length_le (by rw [HEn.out]; exact Nat.le_refl _)] at hall
          have HP2 := Lib.hid (Src.take_all HPk.out HXz.out (show Src.SmZ z from ⟨by rw [HEn.out]; omega, by rw [← HZn.out]; omega, hall⟩))
          clear hall
          go_wp2
          go_roundw
          case rel => exact ⟨k + 1, by omega, by go_num, HP2.out, HB.out⟩
          case measure => simp [intOf]; omega
    · have q4 : ¬ (k : Int) < (nz : Int) := by omega
      have hkn : nz = k := by omega
      subst hkn
      have hall := HPk.out
      rw [List.take_of_length_le (by rw [HNz.out]; exact Nat.le_refl _)] at hall
      have HAz := Lib.hid hall
      clear hall
      obtain ⟨c0, c1, c2, _⟩ := (HA0.out.below HB.out HA0.out.lt).three
      go_wp2
      clear c0 c1 c2
      go_loopw [66] (fun i wr => SRel Src.SmR rules nr w0 i wr) (fun i _ => nr - (intOf i).toNat)
      case atStart => exact ⟨0, Nat.zero_le _, rfl, (fun a ha => by simp at ha), HB.out⟩
      case round =>
        obtain ⟨k, hk, rfl, HPk, HB⟩ := hrel
        have HBr := Lib.hid (HB0.out.trans (HB.out.mono HB0.out.size))
        by_cases hlt : k < nr
        · have q3 : (0 : Int) ≤ (k : Int) := by omega
          have q4 : (k : Int) < (nr : Int) := by omega
          obtain ⟨ad, x, rfl, hab, Hx, HL0⟩ := Ix.reads_cells (enc := Ru.R.cells) (m := 11) (fun _ => rfl) HNr.out (HRr.out.below HBr.out) hlt
          have hwx := HWr.out x (List.mem_of_getElem? Hx.out)
          obtain ⟨nm, fr, tt, mo, rk, rn, rd, rs, rc0, sv, lt⟩ := x
          have hs1 : nm.size ≤ maxLen := hwx.2.1
          have hs2 : lt.size ≤ maxLen := hwx.2.2
          unfold maxLen at hs1 hs2
          have x0 : wr.cell? (ad.add (k * 11)) = some (.string nm) := HL0.out 0 _ rfl
          have x1 : wr.cell? ⟨(ad.add (k * 11)).block, (ad.add (k * 11)).off + 1, none⟩ = some (.int .i64 fr) := HL0.out 1 _ rfl
          have x2 : wr.cell? ⟨(ad.add (k * 11)).block, (ad.add (k * 11)).off + 2, none⟩ = some (.int .i64 tt) := HL0.out 2 _ rfl
          have x3 : wr.cell? ⟨(ad.add (k * 11)).block, (ad.add (k * 11)).off + 3, none⟩ = some (.int .i64 mo) := HL0.out 3 _ rfl
          have x4 : wr.cell? ⟨(ad.add (k * 11)).block, (ad.add (k * 11)).off + 4, none⟩ = some (.int .u8 rk) := HL0.out 4 _ rfl
          have x5 : wr.cell? ⟨(ad.add (k * 11)).block, (ad.add (k * 11)).off + 5, none⟩ = some (.int .i64 rn) := HL0.out 5 _ rfl
          have x6 : wr.cell? ⟨(ad.add (k * 11)).block, (ad.add (k * 11)).off + 6, none⟩ = some (.int .i64 rd) := HL0.out 6 _ rfl
          have x7 : wr.cell? ⟨(ad.add (k * 11)).block, (ad.add (k * 11)).off + 7, none⟩ = some (.int .i64 rs) := HL0.out 7 _ rfl
          have x8 : wr.cell? ⟨(ad.add (k * 11)).block, (ad.add (k * 11)).off + 8, none⟩ = some (.int .u8 rc0) := HL0.out 8 _ rfl
          have x9 : wr.cell? ⟨(ad.add (k * 11)).block, (ad.add (k * 11)).off + 9, none⟩ = some (.int .i64 sv) := HL0.out 9 _ rfl
          have x10 : wr.cell? ⟨(ad.add (k * 11)).block, (ad.add (k * 11)).off + 10, none⟩ = some (.string lt) := HL0.out 10 _ rfl
          have HT := Lib.hid (At.new wr #[.string nm, .int .i64 fr, .int .i64 tt, .int .i64 mo, .int .u8 rk, .int .i64 rn, .int .i64 rd, .int .i64 rs, .int .u8 rc0, .int .i64 sv, .string lt] 67)
          have HBa := Lib.hid (HB.out.alloc HB.out.size (.cells #[.string nm, .int .i64 fr, .int .i64 tt, .int .i64 mo, .int .u8 rk, .int .i64 rn, .int .i64 rd, .int .i64 rs, .int .u8 rc0, .int .i64 sv, .string lt] 67))
          replace HBr := Lib.hid (HBr.out.alloc HBr.out.size (.cells #[.string nm, .int .i64 fr, .int .i64 tt, .int .i64 mo, .int .u8 rk, .int .i64 rn, .int .i64 rd, .int .i64 rs, .int .u8 rc0, .int .i64 sv, .string lt] 67))
          clear hwx
          by_cases p1 : (1000 : Int) < (nm.size : Int)
          · go_wp2
            go_ret
            exact ⟨.inl rfl, by first | exact HBr.out | (rw [← hh]; exact HBr.out)⟩
          by_cases p2 : (1000 : Int) < (lt.size : Int)
          · go_wp2
            go_ret
            exact ⟨.inl rfl, by first | exact HBr.out | (rw [← hh]; exact HBr.out)⟩
          have HP2 := Lib.hid (Src.take_all HPk.out Hx.out (show Src.SmR ⟨nm, fr, tt, mo, rk, rn, rd, rs, rc0, sv, lt⟩ from ⟨by show nm.size ≤ 1000; omega, by show lt.size ≤ 1000; omega⟩))
          go_wp2
          go_roundw
          case rel => exact ⟨k + 1, by omega, by go_num, HP2.out, HBa.out⟩
          case measure => simp [intOf]; omega
        · have q4 : ¬ (k : Int) < (nr : Int) := by omega
          have hkn : nr = k := by omega
          subst hkn
          have hall := HPk.out
          rw [List.take_of_length_le (by rw [HNr.out]; exact Nat.le_refl _)] at hall
          have HAr := Lib.hid hall
          clear hall
          obtain ⟨c0, c1, c2, _⟩ := (HA0.out.below HB.out HA0.out.lt).three
          go_wp2
          clear c0 c1 c2
          go_loopw [84] (fun i wr => SRel Src.SmL links nl w0 i wr) (fun i _ => nl - (intOf i).toNat)
          case atStart => exact ⟨0, Nat.zero_le _, rfl, (fun a ha => by simp at ha), HB.out⟩
          case round =>
            obtain ⟨k, hk, rfl, HPk, HB⟩ := hrel
            have HBr := Lib.hid (HB0.out.trans (HB.out.mono HB0.out.size))
            by_cases hlt : k < nl
            · have q3 : (0 : Int) ≤ (k : Int) := by omega
              have q4 : (k : Int) < (nl : Int) := by omega
              obtain ⟨ad, x, rfl, hab, Hx, HL0⟩ := Ix.reads_cells (enc := Src.lc) (m := 2) (fun _ => rfl) HNl.out (HRl.out.below HBr.out) hlt
              have hwx := HWl.out x (List.mem_of_getElem? Hx.out)
              obtain ⟨xa, hxa⟩ : ∃ y, Src.bts x.1 = y := ⟨_, rfl⟩
              obtain ⟨xb, hxb⟩ : ∃ y, Src.bts x.2 = y := ⟨_, rfl⟩
              have hza : xa.size = x.1.length := by rw [← hxa]; rfl
              have hzb : xb.size = x.2.length := by rw [← hxb]; rfl
              have hs1 : xa.size ≤ maxLen := by rw [hza]; exact hwx.1
              have hs2 : xb.size ≤ maxLen := by rw [hzb]; exact hwx.2
              unfold maxLen at hs1 hs2
              have x0 : wr.cell? (ad.add (k * 2)) = some (.string xa) := by rw [← hxa]; exact HL0.out 0 _ rfl
              have x1 : wr.cell? ⟨(ad.add (k * 2)).block, (ad.add (k * 2)).off + 1, none⟩ = some (.string xb) := by rw [← hxb]; exact HL0.out 1 _ rfl
              have HBa := Lib.hid (HB.out.alloc HB.out.size (.cells #[.string xa, .string xb] 48))
              replace HBr := Lib.hid (HBr.out.alloc HBr.out.size (.cells #[.string xa, .string xb] 48))
              have HZa := Lib.hid hza
              have HZb := Lib.hid hzb
              clear hwx hxa hxb hza hzb
              by_cases p1 : (1000 : Int) < (xa.size : Int)
              · go_wp2
                go_ret
                exact ⟨.inl rfl, by first | exact HBr.out | (rw [← hh]; exact HBr.out)⟩
              by_cases p2 : (1000 : Int) < (xb.size : Int)
              · go_wp2
                go_ret
                exact ⟨.inl rfl, by first | exact HBr.out | (rw [← hh]; exact HBr.out)⟩
              have HP2 := Lib.hid (Src.take_all HPk.out Hx.out (show Src.SmL x from ⟨by rw [← HZa.out]; omega, by rw [← HZb.out]; omega⟩))
              go_wp2
              go_roundw
              case rel => exact ⟨k + 1, by omega, by go_num, HP2.out, HBa.out⟩
              case measure => simp [intOf]; omega
            · have q4 : ¬ (k : Int) < (nl : Int) := by omega
              have hkn : nl = k := by omega
              subst hkn
              have hall := HPk.out
              rw [List.take_of_length_le (by rw [HNl.out]; exact Nat.le_refl _)] at hall
              have HF := Lib.hid (show Src.Few ⟨rules, zones, links, op⟩ from ⟨by show rules.length ≤ 40; rw [HNr.out]; omega, by show zones.length ≤ 12; rw [HNz.out]; omega, by show links.length ≤ 20; rw [HNl.out]; omega, HAr.out, HAz.out, hall⟩)
              clear hall
              go_wp2
              go_ret
              exact ⟨.inr ⟨rfl, HF.out⟩, by first | exact HBr.out | (rw [← hh]; exact HBr.out)⟩
end Go.Proofs.YtajcgoinhpengaaDoor

/- A region that draws its order, by an invariant: what is done, what the slots hold, the world. -/
namespace Go.Proofs.YtajcgoinhpengaaDoor
open Go.RowKit

namespace Od
def slots (a : Act) : Nat → Value := fun k => a.tmps.getD k undef
def upd {α : Type} (f : Nat → α) (i : Nat) (v : α) : Nat → α := fun j => if j = i then v else f j
def updo (u : Nat → Value) (d : Option Tmp) (v : Value) : Nat → Value := match d with
  | some k => upd u k v
  | none => u
theorem slots_put {a : Act} {d : Option Tmp} {v : Value} (h : ∀ k, d = some k → k < a.tmps.size) : slots (a.put d v) = updo (slots a) d v := by
  cases d with
  | none => rfl
  | some k =>
    have hk := h k rfl
    funext j
    show (a.tmps.setIfInBounds k v).getD j undef = if j = k then v else a.tmps.getD j undef
    by_cases e : j = k
    · subst e
      rw [if_pos rfl]
      simp [Array.getD, hk]
    · rw [if_neg e]
      simp only [Array.getD_eq_getD_getElem?, Array.getElem?_setIfInBounds, if_neg (Ne.symm e)]
theorem size_put {a : Act} {d : Option Tmp} {v : Value} : (a.put d v).tmps.size = a.tmps.size := by
  cases d with
  | none => rfl
  | some k => show (a.tmps.setIfInBounds k v).size = _; simp
theorem defers_put {a : Act} {d : Option Tmp} {v : Value} : (a.put d v).defers = a.defers := by cases d <;> rfl
theorem count_set : ∀ (l : List Bool) (i : Nat), l[i]? = some false → (l.set i true).count false + 1 = l.count false
  | [], i, h => by simp at h
  | x :: l, 0, h => by
    simp at h
    subst h
    simp
  | x :: l, i + 1, h => by
    have := count_set l i (by simpa using h)
    simp only [List.set_cons_succ, List.count_cons]
    omega
theorem all_true : ∀ (l : List Bool), l.count false = 0 → ∀ x ∈ l, x = true
  | [], _, x, hx => by cases hx
  | y :: l, h, x, hx => by
    simp only [List.count_cons] at h
    have h1 : l.count false = 0 := by omega
    have h2 : y = true := by
      cases y
      · simp at h
      · rfl
    rcases List.mem_cons.1 hx with rfl | hx
    · exact h2
    · exact all_true l h1 x hx
theorem ord_of {ops : Array Oper} (h : ((List.range ops.size).all fun j => match ops[j]? with
    | some o => o.after.toList.all fun e => decide (e.on < j)
    | none => true) = true) : ∀ (j : Nat) o, ops[j]? = some o → ∀ e ∈ o.after, e.on < j := by
  intro j o hj e he
  have h1 := List.all_eq_true.1 h j (List.mem_range.2 (Array.getElem?_eq_some_iff.1 hj).1)
  rw [hj] at h1
  exact of_decide_eq_true (List.all_eq_true.1 h1 e (Array.mem_toList_iff.2 he))
theorem dst_of {ops : Array Oper} {N : Nat} (h : ((List.range ops.size).all fun j => match ops[j]? with
    | some o => (match o.dst with
      | some d => decide (d < N)
      | none => true)
    | none => true) = true) : ∀ (j : Nat) o d, ops[j]? = some o → o.dst = some d → d < N := by
  intro j o d hj hd
  have h1 := List.all_eq_true.1 h j (List.mem_range.2 (Array.getElem?_eq_some_iff.1 hj).1)
  rw [hj] at h1
  simp only [hd] at h1
  exact of_decide_eq_true h1
section
variable {P : Program} {ops : Array Oper} {Q : Exit → Act → World → Prop}
theorem ready_nil_all {s : Array Bool} (hs : s.size = ops.size) (hord : ∀ (j : Nat) o, ops[j]? = some o → ∀ e ∈ o.after, e.on < j) (h : Region.ready .any ops s = []) : ∀ j, j < ops.size → s.getD j false = true := by
  intro j
  induction j using Nat.strongRecOn with
  | ind j ih =>
    intro hj
    cases hb : s.getD j false with
    | true => rfl
    | false =>
      exfalso
      have hb' : s.getD j true = false := by
        have : j < s.size := by omega
        simp [Array.getD, this] at hb ⊢
        exact hb
      have : j ∈ Region.ready .any ops s := mem_ready.2 ⟨hb', ops[j], Array.getElem?_eq_getElem hj, fun e he _ => ih e.on (hord j _ (Array.getElem?_eq_getElem hj) e he) (by have := hord j _ (Array.getElem?_eq_getElem hj) e he; omega)⟩
      rw [h] at this
      cases this
theorem wpAny_inv (N : Nat) (hord : ∀ (j : Nat) o, ops[j]? = some o → ∀ e ∈ o.after, e.on < j) (hdst : ∀ (j : Nat) o d, ops[j]? = some o → o.dst = some d → d < N)
    (J : (Nat → Bool) → (Nat → Value) → World → Prop)
    (hstep : ∀ i o, ops[i]? = some o → ∀ (b : Nat → Bool) (a : Act) (w : World), J b (slots a) w → b i = false → (∀ e ∈ o.after, Region.binds .any e = true → b e.on = true) → a.defers = [] →
      ∀ K : Act → World → Prop, (∀ v w', J (upd b i true) (updo (slots a) o.dst v) w' → K (a.put o.dst v) w') → if Region.wanted o (yielded ops a.tmps) = true then Oper.wp P o a w K Q else K (a.put o.dst undef) w)
    (hend : ∀ (a : Act) (w : World), J (fun j => decide (j < ops.size)) (slots a) w → a.tmps.size = N → a.defers = [] → Q .normal a w) :
    ∀ (g : Nat) (s : Array Bool) (a : Act) (w : World), s.size = ops.size → s.toList.count false ≤ g → a.tmps.size = N → a.defers = [] → J (fun j => s.getD j false) (slots a) w → wpAny P .any ops Q g s a w := by
  have fin : ∀ (s : Array Bool) (a : Act) (w : World), s.size = ops.size → (∀ j, j < ops.size → s.getD j false = true) → a.tmps.size = N → a.defers = [] → J (fun j => s.getD j false) (slots a) w → Q .normal a w := by
    intro s a w hs hall hN hd hJ
    refine hend a w ?_ hN hd
    have : (fun j => s.getD j false) = fun j => decide (j < ops.size) := by
      funext j
      by_cases hj : j < ops.size
      · rw [hall j hj, decide_eq_true hj]
      · rw [decide_eq_false hj]
        simp [Array.getD, hs, hj]
    rw [this] at hJ
    exact hJ
  intro g
  induction g with
  | zero =>
    intro s a w hs hc hN hd hJ
    have hall : ∀ j, j < ops.size → s.getD j false = true := by
      intro j hj
      have hj' : j < s.size := by omega
      have := all_true s.toList (by omega) s[j] (by simp)
      simp [Array.getD, hj', this]
    have hr : Region.ready .any ops s = [] := by
      cases e : Region.ready .any ops s with
      | nil => rfl
      | cons i l =>
        exfalso
        obtain ⟨h1, o, ho, _⟩ := mem_ready.1 (show i ∈ Region.ready .any ops s by rw [e]; exact List.mem_cons_self)
        have hi : i < ops.size := (Array.getElem?_eq_some_iff.1 ho).1
        have h2 := hall i hi
        have hi' : i < s.size := by omega
        simp [Array.getD, hi'] at h1 h2
        rw [h1] at h2
        cases h2
    exact ⟨hr, fin s a w hs hall hN hd hJ⟩
  | succ g ih =>
    intro s a w hs hc hN hd hJ
    refine ⟨fun hr => fin s a w hs (ready_nil_all hs hord hr) hN hd hJ, fun i hi => ?_⟩
    obtain ⟨h1, o, ho, hdep⟩ := mem_ready.1 hi
    have hio : i < ops.size := (Array.getElem?_eq_some_iff.1 ho).1
    have hi' : i < s.size := by omega
    have hsi : s[i] = false := by simpa [Array.getD, hi'] using h1
    refine wpOp_step ho fun K hK => hstep i o ho (fun j => s.getD j false) a w hJ (by simp [Array.getD, hi', hsi]) hdep hd K fun v w' hJ' => hK _ _ (ih _ _ _ (by simp [hs]) ?_ (by rw [size_put]; exact hN) (by rw [defers_put]; exact hd) ?_)
    · have := count_set s.toList i (by simp [hi', hsi])
      rw [Array.toList_setIfInBounds]
      omega
    · rw [slots_put (fun k hk => by rw [hN]; exact hdst i o k ho hk)]
      have : (fun j => (s.setIfInBounds i true).getD j false) = upd (fun j => s.getD j false) i true := by
        funext j
        unfold upd
        by_cases e : j = i
        · subst e
          rw [if_pos rfl]
          simp [Array.getD, hi']
        · rw [if_neg e]
          simp only [Array.getD_eq_getD_getElem?, Array.getElem?_setIfInBounds, if_neg (Ne.symm e)]
      rw [this]
      exact hJ'
/-- The region. -/
theorem wp_region_inv {id : Nat} {a : Act} {w : World} (N : Nat) (hm : P.follows .mixedOrders = true) (hN : a.tmps.size = N) (hd : a.defers = []) (hord : ∀ (j : Nat) o, ops[j]? = some o → ∀ e ∈ o.after, e.on < j) (hdst : ∀ (j : Nat) o d, ops[j]? = some o → o.dst = some d → d < N)
    (J : (Nat → Bool) → (Nat → Value) → World → Prop) (h0 : J (fun _ => false) (slots a) w.drew)
    (hstep : ∀ i o, ops[i]? = some o → ∀ (b : Nat → Bool) (a : Act) (w : World), J b (slots a) w → b i = false → (∀ e ∈ o.after, Region.binds .any e = true → b e.on = true) → a.defers = [] →
      ∀ K : Act → World → Prop, (∀ v w', J (upd b i true) (updo (slots a) o.dst v) w' → K (a.put o.dst v) w') → if Region.wanted o (yielded ops a.tmps) = true then Oper.wp P o a w K Q else K (a.put o.dst undef) w)
    (hend : ∀ (a : Act) (w : World), J (fun j => decide (j < ops.size)) (slots a) w → a.tmps.size = N → a.defers = [] → Q .normal a w) : (Code.region id ops true).wp P Q a w := by
  refine wp_region_any hm ?_
  refine wpAny_inv N hord hdst J hstep hend ops.size _ a _ (by simp) (by simp) hN hd ?_
  have : (fun j => (Array.replicate ops.size false).getD j false) = fun _ => false := by
    funext j
    simp [Array.getD]
  rw [this]
  exact h0
end
end Od
end Go.Proofs.YtajcgoinhpengaaDoor
