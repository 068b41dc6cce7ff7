/- The statement's Near; lists of times compared. -/
import Derived.Test.YtolgigaolffenaaGreatDoorQ33
import Derived.Test.YtolgigaolffenaaGreatDoorQ27
import Derived.Test.YtolgigaolffenaaGreatDoorQ31
import Derived.Test.YtolgigaolffenaaGreatDoorQ11
import Derived.Test.YtolgigaolffenaaGreatDoorQ01
import Derived.Deep.QuietTactic
import Derived.BigQuiet
import Derived.Test.YtolgigaolffenaaGreatDoorQ28

namespace Go.Proofs.YtolgigaolffenaaGreatDoor
open Go.RowKit

namespace Eg
def Near (s : Src.S) (w : World) (e : Ending) (w' : World) : Prop := (e = .returned (.int .i64 0) ∨ (e = .returned (.int .i64 1) ∧ Src.Few s)) ∧ Below w.heap.size w w'
end Eg
set_option maxHeartbeats 4000000 in
set_option maxRecDepth 100000 in
theorem near16_some (s : Src.S) (rv zv lv : Value) (evs : List Value) (hi : Int) (w : World) (hR : Src.SrcR w w.heap.size s rv zv lv evs) (hw : Src.Wide s) (hhi : 0 ≤ hi ∧ hi ≤ 10000) :
    Calls Tryz.prog 11 #[.agg #[rv, zv, lv], .int .i64 hi] w (Eg.Near s w) := by
  have hlen : (s.zones.zip evs).length = s.zones.length := by rw [List.length_zip, hR.len]; omega
  have hers := hR.eras
  have hrs : ∀ r ∈ s.rules, r.nm.size ≤ maxLen ∧ r.lt.size ≤ maxLen := fun r hr => (hw.rules r hr).2
  obtain ⟨rA, rc, rfl, hr1, hr2, hrr⟩ := hR.rules
  obtain ⟨zA, zc, rfl, hz1, hzc, hrz⟩ := hR.zones
  obtain ⟨lA, lc, rfl, _⟩ := hR.links
  obtain ⟨W1, hW1⟩ : ∃ W, w.alloc (.cells #[.slice rA s.rules.length rc, .slice zA s.zones.length zc, .slice lA s.links.length lc] 26) = W := ⟨_, rfl⟩
  have hb1 : Below w.heap.size w W1 := by rw [← hW1]; exact (Below.refl _ _).alloc (Nat.le_refl _) _
  have hA1 : At W1 w.heap.size [.slice rA s.rules.length rc, .slice zA s.zones.length zc, .slice lA s.links.length lc] := by rw [← hW1]; exact At.new _ _ _
  have HCf := Lib.hid (few_any s _ _ _ evs W1 (hR.call hb1) hw)
  have HCn : Hid (∀ W, Below w.heap.size w W → Calls Tryz.prog 42 #[.slice rA s.rules.length rc, .int .i64 hi] W (Eg.SomeZ W)) := fun W hb => near15_some s.rules rA rc hi W ((hrr.below hb).more hb.size) hrs hhi
  obtain ⟨n1, hn1⟩ : ∃ n, s.rules.length = n := ⟨_, rfl⟩
  obtain ⟨n2, hn2⟩ : ∃ n, s.zones.length = n := ⟨_, rfl⟩
  obtain ⟨n3, hn3⟩ : ∃ n, s.links.length = n := ⟨_, rfl⟩
  rw [hn1, hn2, hn3] at HCf hA1 hW1 ⊢
  rw [hn1] at HCn hr1
  rw [hn2] at hrz hlen hz1
  unfold maxLen at hzc hr2
  have HB1 := Lib.hid hb1
  have HW1 := Lib.hid hW1
  have HA1 := Lib.hid hA1
  have HRz := Lib.hid hrz
  have HLen := Lib.hid hlen
  have HErs := Lib.hid hers
  obtain ⟨b0, b1, b2, _⟩ := hA1.three
  clear hR hw hb1 hW1 hA1 hrz hlen hers hrs hrr hn1 hn2 hn3
  go_enter Tryz.func11, Tryz.ntmps11
  go_wp2_with fail
  rw [HW1.out]
  refine HCf.out.mono ?_
  rintro e w2 ⟨he, hb2⟩
  have HA2 := Lib.hid (HA1.out.call hb2)
  have HB2 := Lib.hid (below_then HB1.out hb2)
  clear hb2 b0 b1 b2
  obtain ⟨b0, b1, b2, _⟩ := HA2.out.three
  rcases he with rfl | ⟨rfl, hfew⟩
  · go_wp2
    go_ret
    exact ⟨.inl rfl, HB2.out⟩
  have HF := Lib.hid hfew
  clear hfew
  by_cases h12 : (12 : Int) < (n1 : Int)
  · go_wp2
    go_ret
    exact ⟨.inl rfl, HB2.out⟩
  have HCn2 := Lib.hid (HCn.out w2 HB2.out)
  clear HCn
  go_wp2_with fail
  refine HCn2.out.mono ?_
  rintro e w3 ⟨he, hb3⟩
  have HA3 := Lib.hid (HA2.out.call hb3)
  have HB3 := Lib.hid (below_then HB2.out hb3)
  clear hb3 b0 b1 b2
  obtain ⟨b0, b1, b2, _⟩ := HA3.out.three
  rcases he with rfl | rfl
  · go_wp2
    go_ret
    exact ⟨.inl rfl, HB3.out⟩
  go_wp2
  clear b0 b1 b2
  go_loopw [28] (fun i wr => ∃ k : Nat, k ≤ n2 ∧ i = .int .i64 (k : Int) ∧ Hid (Below w.heap.size w wr)) (fun i _ => n2 - (intOf i).toNat)
  case atStart => exact ⟨0, Nat.zero_le _, rfl, HB3.out⟩
  case round =>
    obtain ⟨k, hk, rfl, HB⟩ := hrel
    by_cases hlt : k < n2
    · have q1 : (0 : Int) ≤ (k : Int) := by omega
      have q3 : (k : Int) < (n2 : Int) := by omega
      obtain ⟨adz, x, rfl, hab, Hx, HL⟩ := Ix.reads_cells (enc := Src.zc) (m := 2) (fun _ => rfl) HLen.out (HRz.out.below HB.out) hlt
      obtain ⟨eA, ec, he2, hme1, hec, hre⟩ := HErs.out x (List.mem_of_getElem? Hx.out)
      obtain ⟨zb, hzb⟩ : ∃ t, Src.bts x.1.1 = t := ⟨_, rfl⟩
      obtain ⟨es, hes⟩ : ∃ l, x.1.2 = l := ⟨_, rfl⟩
      obtain ⟨me, hme⟩ : ∃ l, es.length = l := ⟨_, rfl⟩
      rw [hes, hme] at he2 hre hme1
      have c0 : wr.cell? (adz.add (k * 2)) = some (.string zb) := by rw [← hzb]; exact HL.out 0 _ rfl
      have c1 : wr.cell? ⟨(adz.add (k * 2)).block, (adz.add (k * 2)).off + 1, none⟩ = some (.slice eA me ec) := by rw [← he2]; exact HL.out 1 _ rfl
      have HBa := Lib.hid (HB.out.alloc HB.out.size (.cells #[.string zb, .slice eA me ec] 56))
      have HMe := Lib.hid hme
      have HRe := Lib.hid hre
      unfold maxLen at hec
      clear HL he2 hre hzb hes hme HB
      go_wp2
      clear c0 c1
      go_loopw [35] (fun i wr => ∃ j : Nat, j ≤ me ∧ i = .int .i64 (j : Int) ∧ Hid (Below w.heap.size w wr)) (fun i _ => me - (intOf i).toNat)
      case atStart => exact ⟨0, Nat.zero_le _, rfl, HBa.out⟩
      case round =>
        clear HBa
        obtain ⟨j, hj, rfl, HB⟩ := hrel
        by_cases hlt3 : j < me
        · have q4 : (0 : Int) ≤ (j : Int) := by omega
          have q5 : (j : Int) < (me : Int) := by omega
          obtain ⟨ad, x9, rfl, habe, Hx9, HLe⟩ := Ix.reads_cells (enc := Er.E.cells) (m := 13) (fun _ => rfl) HMe.out (HRe.out.below HB.out) hlt3
          obtain ⟨std, ek, esv, ru, fm, en, ⟨y, m, dk, dn, dd, us, cc⟩⟩ := x9
          have y0 : wr.cell? (ad.add (j * 13)) = some (.int .i64 std) := HLe.out 0 _ rfl
          have y1 : wr.cell? ⟨(ad.add (j * 13)).block, (ad.add (j * 13)).off + 1, none⟩ = some (.int .u8 ek) := HLe.out 1 _ rfl
          have y2 : wr.cell? ⟨(ad.add (j * 13)).block, (ad.add (j * 13)).off + 2, none⟩ = some (.int .i64 esv) := HLe.out 2 _ rfl
          have y3 : wr.cell? ⟨(ad.add (j * 13)).block, (ad.add (j * 13)).off + 3, none⟩ = some (.string ru) := HLe.out 3 _ rfl
          have y4 : wr.cell? ⟨(ad.add (j * 13)).block, (ad.add (j * 13)).off + 4, none⟩ = some (.string fm) := HLe.out 4 _ rfl
          have y5 : wr.cell? ⟨(ad.add (j * 13)).block, (ad.add (j * 13)).off + 5, none⟩ = some (.bool en) := HLe.out 5 _ rfl
          have y6 : wr.cell? ⟨(ad.add (j * 13)).block, (ad.add (j * 13)).off + 6, none⟩ = some (.int .i64 y) := HLe.out 6 _ rfl
          have y7 : wr.cell? ⟨(ad.add (j * 13)).block, (ad.add (j * 13)).off + 7, none⟩ = some (.int .i64 m) := HLe.out 7 _ rfl
          have y8 : wr.cell? ⟨(ad.add (j * 13)).block, (ad.add (j * 13)).off + 8, none⟩ = some (.int .u8 dk) := HLe.out 8 _ rfl
          have y9 : wr.cell? ⟨(ad.add (j * 13)).block, (ad.add (j * 13)).off + 9, none⟩ = some (.int .i64 dn) := HLe.out 9 _ rfl
          have y10 : wr.cell? ⟨(ad.add (j * 13)).block, (ad.add (j * 13)).off + 10, none⟩ = some (.int .i64 dd) := HLe.out 10 _ rfl
          have y11 : wr.cell? ⟨(ad.add (j * 13)).block, (ad.add (j * 13)).off + 11, none⟩ = some (.int .i64 us) := HLe.out 11 _ rfl
          have y12 : wr.cell? ⟨(ad.add (j * 13)).block, (ad.add (j * 13)).off + 12, none⟩ = some (.int .u8 cc) := HLe.out 12 _ rfl
          have HB9 := Lib.hid (HB.out.alloc HB.out.size (.cells #[.int .i64 std, .int .u8 ek, .int .i64 esv, .string ru, .string fm, .bool en, .int .i64 y, .int .i64 m, .int .u8 dk, .int .i64 dn, .int .i64 dd, .int .i64 us, .int .u8 cc] 53))
          clear Hx9 HLe HB
          cases en with
          | false =>
            go_wp2
            go_roundw
            case rel => exact ⟨j + 1, by omega, by go_num, HB9.out⟩
            case measure => simp [intOf]; omega
          | true =>
            by_cases l1 : hi < y
            · by_cases l2 : y ≤ 9999
              · go_wp2
                go_ret
                exact ⟨.inl rfl, HB9.out⟩
              · go_wp2
                go_roundw
                case rel => exact ⟨j + 1, by omega, by go_num, HB9.out⟩
                case measure => simp [intOf]; omega
            · go_wp2
              go_roundw
              case rel => exact ⟨j + 1, by omega, by go_num, HB9.out⟩
              case measure => simp [intOf]; omega
        · obtain rfl : j = me := by omega
          have q5 : ¬ (j : Int) < (j : Int) := by omega
          go_wp2
          go_roundw
          case rel => exact ⟨k + 1, by omega, by go_num, HB.out⟩
          case measure => simp [intOf]; omega
    · obtain rfl : k = n2 := by omega
      have q3 : ¬ (k : Int) < (k : Int) := by omega
      go_wp2
      go_ret
      exact ⟨.inr ⟨rfl, HF.out⟩, HB.out⟩
end Go.Proofs.YtolgigaolffenaaGreatDoor

/- What the laws of lines ask of them. -/
namespace Go.Proofs.YtolgigaolffenaaGreatDoor
open Go.RowKit Go.Shelf

namespace Tp
theorem drop {w : World} {B n : Nat} {ad : Addr} {xs : List Value} (h : Reads w B 3 (some ad) n xs) (hn : 0 < n) : Reads w B 3 (some (ad.add 3)) (n - 1) (xs.drop 3) := by
  obtain ⟨ad', e, hb, hc⟩ := h.2 hn
  obtain rfl := Option.some.inj e
  refine ⟨by rw [List.length_drop, h.1]; omega, fun _ => ⟨_, rfl, by rw [block_of_add]; exact hb, fun j u hu => ?_⟩⟩
  rw [add_of_add]
  exact hc _ _ (by rw [← List.getElem?_drop]; exact hu)
theorem drop2 {w : World} {B n c : Nat} {ad : Addr} {x : Ln.Sp} {C : List Ln.Sp} (h : Reads w B 3 (some ad) (n + 1) ((x :: C).flatMap Ln.Sp.cells)) (hC : (x :: C).length = n + 1) (hc : n + 1 ≤ c) : Reads w B 3 (if c = 1 then some ad else some { block := ad.block, off := ad.off + 3 }) n (C.flatMap Ln.Sp.cells) := by
  by_cases h1 : c = 1
  · rw [if_pos h1]
    have hn : n = 0 := by omega
    subst hn
    have : C = [] := List.eq_nil_of_length_eq_zero (by simpa using hC)
    subst this
    exact Reads.none_
  · rw [if_neg h1]
    exact drop h (Nat.succ_pos _)
theorem cells_one (l : List Ln.Sp) : ∀ u ∈ l.flatMap Ln.Sp.cells, u.oneCell' = true := by
  intro u hu
  obtain ⟨p, _, hp⟩ := List.mem_flatMap.1 hu
  exact Ln.cells_one p u hp
theorem bad {s : Src.S} {z lo hi : Int} {B : Nat} {e : Ending} {w : World} (h : Ln.OfRet s z lo hi B e w) (hw : Vd.well s = false) : e = .returned (.tuple #[.slice none 0 0, .int .i64 2]) := by
  rcases h with ⟨_, h⟩ | ⟨h, _⟩ | ⟨_, h, _⟩ | ⟨_, _, h, _⟩
  · exact h
  all_goals rw [hw] at h; cases h
theorem gone {s : Src.S} {z lo hi : Int} {B : Nat} {e : Ending} {w : World} (h : Ln.OfRet s z lo hi B e w) (hw : Vd.well s = true) (hx : Eg.zoneAt s z = none) : e = .returned (.tuple #[.slice none 0 0, .int .i64 3]) := by
  rcases h with ⟨h, _⟩ | ⟨_, _, h⟩ | ⟨_, _, h, _⟩ | ⟨_, _, _, h, _⟩
  · rw [hw] at h; cases h
  · exact h
  all_goals rw [hx] at h; cases h
theorem got {s : Src.S} {z lo hi : Int} {B : Nat} {e : Ending} {w : World} {x : Src.Txt × List Er.E} (h : Ln.OfRet s z lo hi B e w) (hw : Vd.well s = true) (hx : Eg.zoneAt s z = some x) (hin : Ln.InY lo hi) : ∃ v, e = .returned (.tuple #[v, .int .i64 0]) ∧ w.ownsRow B 71 3 v (Ln.lineOf s x.2 lo hi).length ((Ln.lineOf s x.2 lo hi).flatMap Ln.Sp.cells) := by
  rcases h with ⟨h, _⟩ | ⟨_, h, _⟩ | ⟨_, _, _, h, _⟩ | ⟨_, v, _, h, _, h1, h2⟩
  · rw [hw] at h; cases h
  · rw [hx] at h; cases h
  · exact absurd hin h
  · rw [hx] at h
    cases h
    exact ⟨v, h1, h2⟩
theorem len_le {s : Src.S} {eras : List Er.E} (hr : Eg.RulesOk s.rules) (hz : Eg.ZoneOk eras) {lo hi : Int} (h : Ln.InY lo hi) : (Ln.lineOf s eras lo hi).length ≤ 130000000 := by
  obtain ⟨y1, y2, y3, y4⟩ := h
  obtain ⟨F1, F2, F3, F4, F5⟩ := Ln.years_in y1 y2 y3
  have h1 := Ln.pieces_len (eras := eras) (ends := Eg.ends s.rules eras) hr.len F2 F3 (by rw [F4, F5]; omega) eras.length
  have h2 := Ln.fold_len (Ln.pieces s.rules eras (Eg.ends s.rules eras) (Oc.D lo * 86400) (Oc.D (hi + 1) * 86400) eras.length) []
  have h3 := hz.len
  unfold Ln.lineOf Ln.line
  simp only [List.length_nil] at h2
  omega
end Tp
end Go.Proofs.YtolgigaolffenaaGreatDoor

/- solsticeref18.Same: whether two lists of spans are one. -/
namespace Go.Proofs.YtolgigaolffenaaGreatDoor
open Go.RowKit

namespace Ln
theorem take_more {α : Type} {l m : List α} {k : Nat} {a : α} (h : l.take k = m.take k) (h1 : l[k]? = some a) (h2 : m[k]? = some a) : l.take (k + 1) = m.take (k + 1) := by
  rw [List.take_add_one, List.take_add_one, h, h1, h2]
def spSame (a b : Sp) : Bool := decide (a.fr = b.fr) && (decide (a.off = b.off) && decide (a.dst = b.dst))
theorem spSame_iff (a b : Sp) : spSame a b = true ↔ a = b := by
  obtain ⟨x, y, z⟩ := a
  obtain ⟨x', y', z'⟩ := b
  simp only [spSame, Bool.and_eq_true, decide_eq_true_eq, Sp.mk.injEq]
theorem and_if {p : Prop} [Decidable p] {q : Bool} {w : World} {R : Result Bool} (h : R = .ok q w) : (if p then R else .ok false w) = .ok (decide p && q) w := by
  by_cases hp : p
  · rw [if_pos hp, h, decide_eq_true hp, Bool.true_and]
  · rw [if_neg hp, decide_eq_false hp, Bool.false_and]
theorem last_if (p : Prop) [Decidable p] (w : World) : (if p then (.ok true w : Result Bool) else .ok false w) = .ok (decide p) w := by
  by_cases hp : p
  · rw [if_pos hp, decide_eq_true hp]
  · rw [if_neg hp, decide_eq_false hp]
end Ln
set_option maxHeartbeats 800000 in
theorem span_same (a b : Ln.Sp) (w : World) : (Op.equalIn 10000 71 (.agg #[.int .i64 a.fr, .int .i64 a.off, .bool a.dst]) (.agg #[.int .i64 b.fr, .int .i64 b.off, .bool b.dst])).run Tryz.prog w = .ok (Ln.spSame a b) w := by
  obtain ⟨x, y, z⟩ := a
  obtain ⟨x', y', z'⟩ := b
  unfold Ln.spSame
  simp only
  go_simp
  iterate 2 refine Ln.and_if ?_
  exact Ln.last_if _ _
set_option maxHeartbeats 2000000 in
set_option maxRecDepth 100000 in
theorem same18_any (A A' : Option Addr) (n n' c c' : Nat) (l l' : List Ln.Sp) (w : World) (hn : n ≤ maxLen) (hn' : n' ≤ maxLen) (h1 : l.length = n) (h2 : l'.length = n') (hr : Reads w w.heap.size 3 A n (l.flatMap Ln.Sp.cells)) (hr' : Reads w w.heap.size 3 A' n' (l'.flatMap Ln.Sp.cells)) :
    Calls Tryz.prog 26 #[.slice A n c, .slice A' n' c'] w fun e w' => e = .returned (.bool (decide (l = l'))) ∧ Drew w w' := by
  unfold maxLen at hn hn'
  by_cases he : n = n'
  · subst he
    have q0 : ((n : Int) != (n : Int)) = false := by simp
    have H1 := Lib.hid h1
    have H2 := Lib.hid h2
    have HR := Lib.hid hr
    have HR' := Lib.hid hr'
    clear h1 h2 hr hr'
    go_enter Tryz.func26, Tryz.ntmps26
    go_wp2
    go_loopw [13] (fun i wr => ∃ k : Nat, k ≤ n ∧ i = .int .i64 k ∧ Hid (Drew w wr) ∧ Hid (l.take k = l'.take k)) (fun i _ => n - (intOf i).toNat)
    case atStart => exact ⟨0, Nat.zero_le _, rfl, Drew.refl w, rfl⟩
    case round =>
      obtain ⟨k, hk, rfl, HD, HE⟩ := hrel
      by_cases hlt : k < n
      · obtain ⟨x, hx⟩ : ∃ m, l[k]? = some m := ⟨_, List.getElem?_eq_getElem (by rw [H1.out]; exact hlt)⟩
        obtain ⟨y, hy⟩ : ∃ m, l'[k]? = some m := ⟨_, List.getElem?_eq_getElem (by rw [H2.out]; exact hlt)⟩
        obtain ⟨ad, x', rfl, _, Hx, HL0⟩ := Ix.reads_cells (enc := Ln.Sp.cells) (m := 3) (fun _ => rfl) H1.out (HR.out.of_drew HD.out) hlt
        obtain ⟨ad', y', rfl, _, Hy, HL0'⟩ := Ix.reads_cells (enc := Ln.Sp.cells) (m := 3) (fun _ => rfl) H2.out (HR'.out.of_drew HD.out) hlt
        have ex : x' = x := by have := Hx.out; rw [hx] at this; exact (Option.some.inj this).symm
        have ey : y' = y := by have := Hy.out; rw [hy] at this; exact (Option.some.inj this).symm
        have c0 : wr.cell? (ad.add (k * 3)) = some (.int .i64 x.fr) := by rw [← ex]; exact HL0.out 0 _ rfl
        have c1 : wr.cell? ⟨(ad.add (k * 3)).block, (ad.add (k * 3)).off + 1, none⟩ = some (.int .i64 x.off) := by rw [← ex]; exact HL0.out 1 _ rfl
        have c2 : wr.cell? ⟨(ad.add (k * 3)).block, (ad.add (k * 3)).off + 2, none⟩ = some (.bool x.dst) := by rw [← ex]; exact HL0.out 2 _ rfl
        have d0 : wr.cell? (ad'.add (k * 3)) = some (.int .i64 y.fr) := by rw [← ey]; exact HL0'.out 0 _ rfl
        have d1 : wr.cell? ⟨(ad'.add (k * 3)).block, (ad'.add (k * 3)).off + 1, none⟩ = some (.int .i64 y.off) := by rw [← ey]; exact HL0'.out 1 _ rfl
        have d2 : wr.cell? ⟨(ad'.add (k * 3)).block, (ad'.add (k * 3)).off + 2, none⟩ = some (.bool y.dst) := by rw [← ey]; exact HL0'.out 2 _ rfl
        clear ex ey Hx Hy HL0 HL0'
        have q1 : (0 : Int) ≤ (k : Int) := by omega
        have q2 : (k : Int) < (n : Int) := by omega
        have hq := span_same x y
        by_cases hxy : x = y
        · subst hxy
          have HN := Lib.hid (Ln.take_more HE.out hx hy)
          rw [(Ln.spSame_iff x x).2 rfl] at hq
          clear hx hy
          go_wp2
          go_quiet (fail)
          go_wp2
          go_roundw
          case rel => exact ⟨k + 1, by omega, by go_num, by first | exact HD.out | exact HD.out.drewN _, HN⟩
          case measure => simp [intOf]; omega
        · have hs : Ln.spSame x y = false := by
            cases h : Ln.spSame x y with
            | false => rfl
            | true => exact absurd ((Ln.spSame_iff x y).1 h) hxy
          have HN : Hid (decide (l = l') = false) := by
            show decide (l = l') = false
            apply decide_eq_false
            intro e
            apply hxy
            rw [e, hy] at hx
            exact (Option.some.inj hx).symm
          rw [hs] at hq
          clear hx hy hxy hs
          go_wp2
          go_quiet (fail)
          go_wp2
          go_ret
          exact ⟨by rw [HN.out]; rfl, by first | exact HD.out | exact HD.out.drewN _⟩
      · have q2 : ¬ (k : Int) < (n : Int) := by omega
        have hkn : k = n := by omega
        have HN : Hid (decide (l = l') = true) := by
          show decide (l = l') = true
          apply decide_eq_true
          have := HE.out
          rwa [List.take_of_length_le (by rw [H1.out]; omega), List.take_of_length_le (by rw [H2.out]; omega)] at this
        go_wp2
        go_ret
        exact ⟨by rw [HN.out]; rfl, HD.out⟩
  · have q0 : ((n : Int) != (n' : Int)) = true := by simp; omega
    have q0' : ¬ (n : Int) = (n' : Int) := by omega
    have HN : Hid (decide (l = l') = false) := by
      show decide (l = l') = false
      apply decide_eq_false
      intro e
      apply he
      rw [← h1, ← h2, e]
    clear h1 h2 hr hr' he
    go_enter Tryz.func26, Tryz.ntmps26
    go_wp2
    go_ret
    exact ⟨by rw [HN.out]; rfl, Drew.refl w⟩
end Go.Proofs.YtolgigaolffenaaGreatDoor

/- ideal.behind: occurrences, the last one first. -/
namespace Go.Proofs.YtolgigaolffenaaGreatDoor
open Go.RowKit Go.Shelf
attribute [local go_sem] Oper.semAt_some

theorem idBehind_any (A : Option Addr) (n c : Nat) (w : World) :
    Calls Tryz.prog 145 #[.slice A n c] w fun e w' => e = .returned (.func (.func 168) #[] #[.pointer (some ⟨w.heap.size, 0, none⟩)]) ∧ w.alloc (.cells #[.slice A n c] 57) = w' := by
  go_enter Tryz.func145, Tryz.ntmps145
  go_wp2
  go_ret
  exact ⟨rfl, rfl⟩
theorem take_rev {α : Type} {es : List α} {N r : Nat} {o : α} (hN : es.length = N) (hr : r < N) (ho : es[r]? = some o) : es.reverse.take (N - r) = es.reverse.take (N - (r + 1)) ++ [o] := by
  have e : N - r = (N - (r + 1)) + 1 := by omega
  rw [e, List.take_add_one]
  congr 1
  rw [List.getElem?_reverse (by omega), hN, show N - 1 - (N - (r + 1)) = r by omega, ho]
  rfl
set_option maxHeartbeats 8000000 in
set_option maxRecDepth 100000 in
theorem idBehind1_in (n l bl n₀ : Nat) {α : Type} (f : α → Oc.E) (es : List α) (A : Option Addr) (N c : Nat) (hN : es.length = N) (hNb : N ≤ 1000000000) (JY JX : List α → World → Prop)
    (hY : ∀ pre (x : α) W, JY pre W → pre.length < N → YieldAt Fence.wide n Tryz.prog l #[(f x).occv] W fun e W' =>
      (e = .returned (.bool true) ∧ JY (pre ++ [x]) W' ∧ Below n₀ W W') ∨ (e = .returned (.bool false) ∧ JX (pre ++ [x]) W'))
    (W : World) (hc : W.cell? ⟨bl, 0, none⟩ = some (.slice A N c)) (hbl : bl < n₀) (hR : Reads W n₀ 5 A N (es.flatMap fun a => (f a).occ)) (hn0 : n₀ ≤ W.heap.size) (h0 : JY [] W) :
    CallsIn Fence.wide (n + 1) Tryz.prog 168 #[.func (.yield l) #[] #[], .pointer (some ⟨bl, 0, none⟩)] W fun e W' => (∃ v, e = .returned v) ∧ ((∃ ys, ys = es.reverse ∧ JY ys W') ∨ (∃ pre, (∃ j, pre = es.reverse.take j) ∧ JX pre W')) := by
  have HRs : Hid (∀ W', Below n₀ W W' → W'.cell? ⟨bl, 0, none⟩ = some (.slice A N c) ∧ Reads W' n₀ 5 A N (es.flatMap fun a => (f a).occ)) := fun W' hb => ⟨(hb.cell (p := ⟨bl, 0, none⟩) hbl).trans hc, hR.below hb⟩
  have HN := Lib.hid hN
  have HH0 : Hid (JY (es.reverse.take (N - N)) W) := by
    show JY _ _
    rw [Nat.sub_self]
    exact h0
  have w1 : IntKind.i64.wrap ((N : Int) - 1) = (N : Int) - 1 := by rw [IntKind.wrap_i64]; omega
  have hbl2 : bl < W.heap.size := by omega
  clear hR hN h0
  refine callsIn_of_wp Tryz.func168 rfl trivial ?_ rfl
  simp only [Tryz.ntmps168, List.size_toArray, List.length_cons, List.length_nil, Nat.reduceAdd, Nat.reduceSub, Array.replicate_succ, Array.replicate_zero, List.push_toArray, List.append_toArray, List.nil_append, List.cons_append]
  gi_wp2_with fail
  gi_loopw [3] (fun i wr => ∃ r : Nat, r ≤ N ∧ i = .int .i64 ((r : Int) - 1) ∧ Hid (JY (es.reverse.take (N - r)) wr) ∧ Hid (Below n₀ W wr)) (fun i _ => (intOf i + 1).toNat)
  case atStart => exact ⟨N, Nat.le_refl _, rfl, HH0.out, Below.refl _ _⟩
  case round =>
    obtain ⟨r, hr, rfl, HJ, HB⟩ := hrel
    obtain ⟨c0, hRr⟩ := HRs.out wr HB.out
    have hzr := HB.out.size
    have hbl3 : bl < wr.heap.size := by omega
    rcases Nat.eq_zero_or_pos r with h0r | h0r
    · subst h0r
      have q1 : ¬ (0 : Int) ≤ ((0 : Nat) : Int) - 1 := by omega
      have HJ2 : Hid (JY es.reverse wr) := by
        have h := HJ.out
        rw [Nat.sub_zero, List.take_of_length_le (by rw [List.length_reverse, HN.out]; exact Nat.le_refl _)] at h
        exact h
      clear HJ
      gi_wp2_with fail
      go_end0
      exact ⟨⟨_, rfl⟩, .inl HJ2.out⟩
    · obtain ⟨r, rfl⟩ : ∃ k, r = k + 1 := ⟨r - 1, by omega⟩
      have e1' : (((r + 1 : Nat) : Int) - 1) = (r : Int) := by omega
      rw [e1']
      have q1 : (0 : Int) ≤ (r : Int) := by omega
      have q2 : (r : Int) < (N : Int) := by omega
      have w2 : IntKind.i64.wrap ((r : Int) - 1) = (r : Int) - 1 := by rw [IntKind.wrap_i64]; omega
      obtain ⟨ad, o, rfl, hab, Ho, HLo⟩ := Ix.reads_cells (enc := fun a => (f a).occ) (m := 5) (fun _ => rfl) HN.out hRr (show r < N by omega)
      have HT := Lib.hid (take_rev HN.out (show r < N by omega) Ho.out)
      obtain ⟨fn, tmps, assign, body, hy, hR⟩ := hY (es.reverse.take (N - (r + 1))) o wr HJ.out (by rw [List.length_take, List.length_reverse, HN.out]; omega)
      obtain ⟨q, hq⟩ : ∃ q, f o = q := ⟨_, rfl⟩
      rw [hq] at hy
      have HLo2 : Hid (∀ (j : Nat) (v : Value), q.occ[j]? = some v → wr.cell? ((ad.add (r * 5)).add j) = some v) := by
        have h := HLo.out
        rw [hq] at h
        exact h
      clear hq HLo
      have HLo := HLo2
      clear HLo2
      obtain ⟨on, oc_, os, ob, ol, op, oy⟩ := q
      have x0 : wr.cell? (ad.add (r * 5)) = some (.int .i64 on) := HLo.out 0 _ rfl
      have x1 : wr.cell? ⟨(ad.add (r * 5)).block, (ad.add (r * 5)).off + 1, none⟩ = some (.int .u8 oc_) := HLo.out 1 _ rfl
      have x2 : wr.cell? ⟨(ad.add (r * 5)).block, (ad.add (r * 5)).off + 2, none⟩ = some (.int .i64 os) := HLo.out 2 _ rfl
      have x3 : wr.cell? ⟨(ad.add (r * 5)).block, (ad.add (r * 5)).off + 3, none⟩ = some (.int .i64 ob) := HLo.out 3 _ rfl
      have x4 : wr.cell? ⟨(ad.add (r * 5)).block, (ad.add (r * 5)).off + 4, none⟩ = some (.string ol) := HLo.out 4 _ rfl
      unfold Oc.E.occv at hy
      clear Ho HLo hRr hY HJ
      gi_wp2_with fail
      refine hR.mono ?_
      rintro e W3 (⟨rfl, hJ3, hk3⟩ | ⟨rfl, hJx3⟩)
      · have HJ3 : Hid (JY (es.reverse.take (N - r)) W3) := by
          show JY _ _
          rw [HT.out]
          exact hJ3
        have HB3 := Lib.hid (HB.out.trans hk3)
        clear hJ3 hk3
        gi_wp2
        go_roundw
        case rel => exact ⟨r, by omega, by first | rfl | (simp; done) | (simp; omega), HJ3.out, HB3.out⟩
        case measure => first | (simp [intOf]; done) | (simp [intOf]; omega)
      · have HX : Hid (JX (es.reverse.take (N - r)) W3) := by
          show JX _ _
          rw [HT.out]
          exact hJx3
        clear hJx3
        gi_wp2
        refine bodyPost_ret (results_none rfl _ _ _) rfl ?_
        exact ⟨⟨_, rfl⟩, .inr ⟨_, ⟨_, rfl⟩, HX.out⟩⟩
end Go.Proofs.YtolgigaolffenaaGreatDoor
