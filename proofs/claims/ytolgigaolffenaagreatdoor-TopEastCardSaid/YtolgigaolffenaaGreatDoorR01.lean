/- Plain law of the calendar: numbers of days, and dates. -/
import Derived.Test.YtolgigaolffenaaGreatDoorQ01
import Derived.Test.YtolgigaolffenaaGreatDoorQ02
import Derived.Test.YtolgigaolffenaaGreatDoorQ03
import Derived.Test.YtolgigaolffenaaGreatDoorQ04
import Derived.Test.YtolgigaolffenaaGreatDoorQ05
import Derived.Test.YtolgigaolffenaaGreatDoorQ06
import Derived.Test.YtolgigaolffenaaGreatDoorQ07
import Derived.Test.YtolgigaolffenaaGreatDoorQ08
import Derived.Test.YtolgigaolffenaaGreatDoorQ09
import Derived.Test.YtolgigaolffenaaGreatDoorQ10
import Derived.Test.YtolgigaolffenaaGreatDoorQ11
import Derived.Test.YtolgigaolffenaaGreatDoorQ12
import Derived.Test.YtolgigaolffenaaGreatDoorQ13
import Derived.Test.YtolgigaolffenaaGreatDoorQ14
import Derived.Test.YtolgigaolffenaaGreatDoorQ15
import Derived.Test.YtolgigaolffenaaGreatDoorQ16
import Derived.Test.YtolgigaolffenaaGreatDoorQ17
import Derived.Test.YtolgigaolffenaaGreatDoorQ18
import Derived.Test.YtolgigaolffenaaGreatDoorQ19
import Derived.Test.YtolgigaolffenaaGreatDoorQ20
import Derived.Test.YtolgigaolffenaaGreatDoorQ21
import Derived.Test.YtolgigaolffenaaGreatDoorQ22
import Derived.Test.YtolgigaolffenaaGreatDoorQ23
import Derived.Test.YtolgigaolffenaaGreatDoorQ24
import Derived.Test.YtolgigaolffenaaGreatDoorQ25
import Derived.Test.YtolgigaolffenaaGreatDoorQ26
import Derived.Test.YtolgigaolffenaaGreatDoorQ27
import Derived.Test.YtolgigaolffenaaGreatDoorQ28
import Derived.Test.YtolgigaolffenaaGreatDoorQ29
import Derived.Test.YtolgigaolffenaaGreatDoorQ30
import Derived.Test.YtolgigaolffenaaGreatDoorQ31
import Derived.Test.YtolgigaolffenaaGreatDoorQ32
import Derived.Test.YtolgigaolffenaaGreatDoorQ33
import Derived.Test.YtolgigaolffenaaGreatDoorQ34
import Derived.Test.YtolgigaolffenaaGreatDoorQ35
import Derived.Test.YtolgigaolffenaaGreatDoorQ36
import Derived.Test.YtolgigaolffenaaGreatDoorQ37
import Derived.Test.YtolgigaolffenaaGreatDoorQ38
import Derived.Test.YtolgigaolffenaaGreatDoorQ39
import Derived.Test.YtolgigaolffenaaGreatDoorQa01
import Derived.Deep.QuietTactic
import Derived.BigQuiet

namespace Go.Proofs.YtolgigaolffenaaGreatDoor.Cv
theorem md_bd (y m d : Int) (h : Valid y m d) :
    ∃ r : Nat, r < 400 ∧ (r : Int) = my y m % 400 ∧ 0 ≤ (153 * mm m + 2) / 5 + d - 1 ∧ begun r + ((153 * mm m + 2) / 5 + d - 1) ≤ lastDay r := by
  obtain ⟨h1, h2, h3, h4, h5, h6⟩ := h
  rw [len_month y m h3 h4] at h6
  refine ⟨(my y m % 400).toNat, by omega, by omega, ?_, ?_⟩
  · have : 0 ≤ mm m := by unfold mm; split <;> omega
    omega
  · have hl := lastDay_leap (my y m % 400).toNat (by omega)
    have he : (((my y m % 400).toNat : Nat) : Int) = my y m % 400 := by omega
    have hlp : leap ((((my y m % 400).toNat : Nat) : Int) + 1) = leap (my y m + 1) := by
      rw [he, leap_mod, leap_mod (my y m + 1)]
      congr 1
      omega
    rw [hlp] at hl
    have hm : m = 1 ∨ m = 2 ∨ m = 3 ∨ m = 4 ∨ m = 5 ∨ m = 6 ∨ m = 7 ∨ m = 8 ∨ m = 9 ∨ m = 10 ∨ m = 11 ∨ m = 12 := by omega
    by_cases hlt : m < 3
    · have e1 : my y m + 1 = y := by unfold my; rw [if_pos hlt]; omega
      have e2 : mm m = m + 9 := by unfold mm; rw [if_pos hlt]
      rw [e1] at hl
      rw [e2]
      have : m = 1 ∨ m = 2 := by omega
      rcases this with rfl | rfl
      · simp at h6; split at hl <;> omega
      · rw [if_pos rfl] at h6
        by_cases hq : leap y = true
        · rw [if_pos hq] at h6 hl; omega
        · rw [if_neg hq] at h6 hl; omega
    · have e2 : mm m = m - 3 := by unfold mm; rw [if_neg hlt]
      rw [e2]
      have h7 : (153 * (m - 3) + 2) / 5 + d - 1 ≤ 305 := by
        rcases hm with rfl | rfl | rfl | rfl | rfl | rfl | rfl | rfl | rfl | rfl | rfl | rfl <;> simp at h6 <;> omega
      split at hl <;> omega

end Go.Proofs.YtolgigaolffenaaGreatDoor.Cv

/- (*reader).era. -/
namespace Go.Proofs.YtolgigaolffenaaGreatDoor
open Go.RowKit

theorem era_info : (Tryz.prog.info? 53).map (fun i => (i.zero, i.size, i.bytes)) = some (some (.agg #[.int .i64 0, .int .u8 0, .int .i64 0, .string ⟨#[]⟩, .string ⟨#[]⟩, .bool false, .int .i64 0, .int .i64 0, .int .u8 0, .int .i64 0, .int .i64 0, .int .i64 0, .int .u8 0]), 13, 120) := by kernel_rfl
end Go.Proofs.YtolgigaolffenaaGreatDoor

/- (*reader).era in one law; (*reader).zone. -/
namespace Go.Proofs.YtolgigaolffenaaGreatDoor
open Go.RowKit

namespace Src
end Src
theorem zone_info : (Tryz.prog.info? 56).map (fun i => (i.zero, i.size, i.bytes)) = some (some (.agg #[.string ⟨#[]⟩, .slice none 0 0]), 2, 40) := by kernel_rfl
end Go.Proofs.YtolgigaolffenaaGreatDoor

/- What the lines of a text are bounded by; places are not negative; a source in memory as it is read. -/
namespace Go.Proofs.YtolgigaolffenaaGreatDoor
open Go.RowKit

namespace Src
theorem RowR.of_own {w : World} {base size n : Nat} {e : TypeId} {v : Value} {xs : List Value} (h : w.ownsRow base e size v n xs) : RowR w w.heap.size size n v xs := by
  obtain ⟨A, c, rfl, h1, h2⟩ := own_slice_cap h
  exact ⟨A, c, rfl, h1, h2, Reads.of_own h⟩
end Src
end Go.Proofs.YtolgigaolffenaaGreatDoor

/- FURTHER EAST: standard offsets that are all as much more, in plain words. -/
namespace Go.Proofs.YtolgigaolffenaaGreatDoor
open Go.RowKit

namespace Oc
theorem ins_two {n std save : Int} (hn : InT n) (h1 : IsTime std) (h2 : IsTime save) : (Mo.ins n 2 std save).1 = n := by
  unfold Mo.ins
  unfold IsTime at h1 h2
  rw [if_neg (show ¬ (3 : Int) ≤ 2 by decide), if_pos ⟨hn, by unfold InT; omega, by unfold InT; omega⟩]
  show (if (2 : Int) = 0 then n - save - std else if (2 : Int) = 1 then n - std else n) = n
  rw [if_neg (show ¬ (2 : Int) = 0 by decide), if_neg (show ¬ (2 : Int) = 1 by decide)]
theorem of_two {l : List Ru.R} {lo hi std : Int} {o : E} (hl : ∀ r ∈ l, IsTime r.sv) (hs : IsTime std) (h2 : ∀ r ∈ l, r.c = 2) (ho : o ∈ of l lo hi) : ti std o = o.n := by
  unfold of at ho
  obtain ⟨e, he, rfl⟩ := List.mem_map.1 ho
  have hev : Ev l e := ((mem_ofU e).1 ((mem_isort e _).1 he)).1
  have hc : e.c = 2 := by
    obtain ⟨r, k1, k2, k3⟩ := hev
    rw [k3]
    exact h2 r (List.mem_of_getElem? k1)
  show (Mo.ins e.n e.c std (before l e)).1 = e.n
  rw [hc]
  exact ins_two hev.inT.1 hs (before_is hl hev)
end Oc
namespace Ln
def eastE (m : Int) (e : Er.E) : Er.E := { e with std := e.std + m }
def eastP (m : Int) (p : Sp) : Sp := ⟨p.fr, p.off + m, p.dst⟩
theorem east_alike (m : Int) (a b : Sp) : alike (eastP m a) (eastP m b) = alike a b := by
  rw [Bool.eq_iff_iff, alike_iff, alike_iff]
  unfold eastP
  simp only
  constructor
  · rintro ⟨h, k⟩; exact ⟨by omega, k⟩
  · rintro ⟨h, k⟩; exact ⟨by omega, k⟩
theorem east_cov {f f' : Int → Int × Bool} {m te : Int} (hf : ∀ t, f' t = ((f t).1 + m, (f t).2)) : ∀ {A : List Sp} {c : Int}, Cov f te c A → Cov f' te c (A.map (eastP m))
  | [], c, h => h
  | a :: A, c, ⟨h0, d, h1, h2, h3, h4, h5⟩ => by
    refine ⟨h0, d, h1, h2, fun t k1 k2 => by rw [hf, h3 t k1 k2]; rfl, east_cov hf h4, fun b hb => ?_⟩
    cases A with
    | nil => cases hb
    | cons x A =>
      obtain rfl : eastP m x = b := by simpa using hb
      rw [east_alike]
      exact h5 x rfl
theorem east_occ {rules : List Ru.R} {e : Er.E} {m t : Int} (hr : ∀ r ∈ rules, IsTime r.sv) (h2 : ∀ r ∈ rules, r.c = 2) (h1 : IsTime e.std) (h3 : IsTime (e.std + m)) : occAt rules (eastE m e) t = occAt rules e t := by
  unfold occAt
  show (if e.k = 2 then Oc.lastP (Oc.of (Src.ofName e.ru rules) (yr t - 1) (yr t + 1)) fun o => decide (Oc.ti (e.std + m) o ≤ t) else none) = _
  split
  · unfold Oc.lastP
    congr 1
    refine List.filter_congr fun o ho => ?_
    rw [Oc.of_two (ofName_time hr) h1 (fun r hr' => h2 r (ofName_mem hr')) ho, Oc.of_two (ofName_time hr) h3 (fun r hr' => h2 r (ofName_mem hr')) ho]
  · rfl
theorem east_set {rules : List Ru.R} {e : Er.E} {m t : Int} (hr : ∀ r ∈ rules, IsTime r.sv) (h2 : ∀ r ∈ rules, r.c = 2) (h1 : IsTime e.std) (h3 : IsTime (e.std + m)) : setAt rules (eastE m e) t = ((setAt rules e t).1 + m, (setAt rules e t).2) := by
  have e1 : saveAt rules (eastE m e) t = saveAt rules e t := by
    unfold saveAt
    rw [east_occ hr h2 h1 h3]
    rfl
  unfold setAt
  rw [e1]
  show (e.std + m + saveAt rules e t, _) = _
  rw [show e.std + m + saveAt rules e t = e.std + saveAt rules e t + m by omega]
theorem east_ends {rules : List Ru.R} {eras : List Er.E} {m : Int} (hr : Eg.RulesOk rules) (hz : Eg.ZoneOk eras) (hz' : Eg.ZoneOk (eras.map (eastE m))) (hu : ∀ e ∈ eras, e.en = true → e.u.c = 2) : Eg.ends rules (eras.map (eastE m)) = Eg.ends rules eras := by
  unfold Eg.ends
  rw [← List.map_dropLast, List.map_map]
  refine List.map_congr_left fun e he => ?_
  obtain ⟨i, hi⟩ := List.mem_iff_getElem?.1 he
  have hi2 : i < eras.length - 1 ∧ eras[i]? = some e := by
    rw [List.getElem?_dropLast] at hi
    split at hi
    · rename_i h
      exact ⟨h, hi⟩
    · cases hi
  have hm : e ∈ eras := List.mem_of_getElem? hi2.2
  have hen : e.en = true := by rw [hz.en i e hi2.2, decide_eq_true_eq]; omega
  have hc := hu e hm hen
  obtain ⟨_, hn⟩ := Eg.end_ok hr hz hm hen
  have hsv : IsTime (Eg.saved rules e (Eg.nomU e.u).1) := Eg.saved_time hr.time (Eg.E_time (hz.ok e hm))
  have h1 := (hz.ok e hm).1
  have h3 : IsTime (e.std + m) := (hz'.ok (eastE m e) (List.mem_map_of_mem hm)).1
  show (Mo.ins (Eg.nomU e.u).1 e.u.c (e.std + m) (Eg.saved rules e (Eg.nomU e.u).1)).1 = (Mo.ins (Eg.nomU e.u).1 e.u.c e.std (Eg.saved rules e (Eg.nomU e.u).1)).1
  rw [hc, Oc.ins_two hn h3 hsv, Oc.ins_two hn h1 hsv]
theorem east {s s' : Src.S} {eras : List Er.E} {m lo hi : Int} (hr : Eg.RulesOk s.rules) (h2 : ∀ r ∈ s.rules, r.c = 2) (hz : Eg.ZoneOk eras) (hz' : Eg.ZoneOk (eras.map (eastE m))) (hu : ∀ e ∈ eras, e.en = true → e.u.c = 2) (hs : s'.rules = s.rules) (h : InY lo hi) :
    lineOf s' (eras.map (eastE m)) lo hi = (lineOf s eras lo hi).map (eastP m) := by
  have c1 := lineOf_cov hr hz h
  have c2 := lineOf_cov (s := s') (by rw [hs]; exact hr) hz' h
  rw [hs, east_ends hr hz hz' hu] at c2
  refine c2.one (east_cov (fun t => ?_) c1)
  unfold st
  have hk := hold_le (Eg.ends s.rules eras) t
  rw [Eg.ends_len] at hk
  have hl := hz.len.1
  obtain ⟨e, he⟩ : ∃ e, eras[hold (Eg.ends s.rules eras) t]? = some e := ⟨_, List.getElem?_eq_getElem (by omega)⟩
  have hm : e ∈ eras := List.mem_of_getElem? he
  rw [List.getD_eq_getElem?_getD, List.getD_eq_getElem?_getD, List.getElem?_map, he]
  exact east_set hr.time h2 (hz.ok e hm).1 (hz'.ok (eastE m e) (List.mem_map_of_mem hm)).1
end Ln
end Go.Proofs.YtolgigaolffenaaGreatDoor

/- A source with other eras in one zone. -/
namespace Go.Proofs.YtolgigaolffenaaGreatDoor
open Go.RowKit

namespace Ea
theorem zip_set {α β : Type} : ∀ (l : List α) (m : List β) (k : Nat) (a : α) (b : β), (l.set k a).zip (m.set k b) = (l.zip m).set k (a, b)
  | [], m, k, a, b => by simp
  | x :: l, [], k, a, b => by simp
  | x :: l, y :: m, 0, a, b => rfl
  | x :: l, y :: m, k + 1, a, b => by
    rw [List.set_cons_succ, List.set_cons_succ, List.zip_cons_cons, List.zip_cons_cons, List.set_cons_succ, zip_set l m k a b]
theorem flat_set {α : Type} {enc : α → List Value} (hm : ∀ a, (enc a).length = 2) {a : α} {u0 u1 : Value} (ha : enc a = [u0, u1]) : ∀ (l : List α) (k : Nat), k < l.length → (l.set k a).flatMap enc = ((l.flatMap enc).set (k * 2) u0).set (k * 2 + 1) u1
  | [], k, h => by simp at h
  | x :: l, 0, _ => by
    obtain ⟨p, q, e⟩ := list2 (hm x)
    rw [List.set_cons_zero, List.flatMap_cons, List.flatMap_cons, ha, e]
    rfl
  | x :: l, k + 1, h => by
    have h2 := hm x
    rw [List.set_cons_succ, List.flatMap_cons, List.flatMap_cons, flat_set hm ha l k (by simpa using h), List.set_append_right _ _ (by omega), List.set_append_right _ _ (by omega), h2, show (k + 1) * 2 - 2 = k * 2 by omega, show (k + 1) * 2 + 1 - 2 = k * 2 + 1 by omega]
def put (s : Src.S) (k : Nat) (nm : Src.Txt) (es : List Er.E) : Src.S := ⟨s.rules, s.zones.set k (nm, es), s.links, s.op⟩
theorem src_put {W : World} {B : Nat} {s : Src.S} {rv zv zv' lv ev : Value} {evs : List Value} {k : Nat} {nm : Src.Txt} {es : List Er.E} (h : Src.SrcR W B s rv zv lv evs)
    (hz : Src.RowR W B 13 es.length ev (es.flatMap Er.E.cells)) (hr : Src.RowR W B 2 s.zones.length zv' (((s.zones.zip evs).set k ((nm, es), ev)).flatMap Src.zc)) : Src.SrcR W B (put s k nm es) rv zv' lv (evs.set k ev) := by
  have e : (s.zones.set k (nm, es)).zip (evs.set k ev) = (s.zones.zip evs).set k ((nm, es), ev) := zip_set _ _ _ _ _
  refine ⟨h.rules, ?_, h.links, ?_, ?_⟩
  · show Src.RowR W B 2 (s.zones.set k (nm, es)).length zv' (((s.zones.set k (nm, es)).zip (evs.set k ev)).flatMap Src.zc)
    rw [e, List.length_set]
    exact hr
  · show (evs.set k ev).length = (s.zones.set k (nm, es)).length
    rw [List.length_set, List.length_set]
    exact h.len
  · intro p hp
    have hp : p ∈ (s.zones.set k (nm, es)).zip (evs.set k ev) := hp
    rw [e] at hp
    rcases List.mem_or_eq_of_mem_set hp with hp | hp
    · exact h.eras p hp
    · subst hp
      exact hz
def eastW (m : Int) (e : Er.E) : Er.E := { e with std := IntKind.i64.wrap (e.std + m) }
theorem eastW_ok {m : Int} {es : List Er.E} (h : ∀ e ∈ es, IsTime e.std) (hm : -86400 ≤ m ∧ m ≤ 86400) : es.map (eastW m) = es.map (Ln.eastE m) := by
  refine List.map_congr_left fun e he => ?_
  have := h e he
  unfold IsTime at this
  unfold eastW Ln.eastE
  rw [show IntKind.i64.wrap (e.std + m) = e.std + m by rw [IntKind.wrap_i64]; omega]
theorem put_wide {s : Src.S} {k : Nat} {x : Src.Txt × List Er.E} {m : Int} (hw : Src.Wide s) (hx : x ∈ s.zones) : Src.Wide (put s k x.1 (x.2.map (eastW m))) :=
  ⟨hw.rules, fun y hy => by
    rcases List.mem_or_eq_of_mem_set hy with hy | hy
    · exact hw.zones y hy
    · subst hy
      refine ⟨(hw.zones x hx).1, fun e he => ?_⟩
      obtain ⟨e0, he0, rfl⟩ := List.mem_map.1 he
      exact (hw.zones x hx).2 e0 he0, hw.links, hw.op⟩
theorem put_at {s : Src.S} {k : Nat} {nm : Src.Txt} {es : List Er.E} (h : k < s.zones.length) : Eg.zoneAt (put s k nm es) (k : Int) = some (nm, es) := by
  unfold Eg.zoneAt put
  rw [if_pos (by omega), Int.toNat_natCast]
  simp [h]
theorem out {s : Src.S} {z lo hi : Int} {B : Nat} {e : Ending} {w : World} {x : Src.Txt × List Er.E} (h : Ln.OfRet s z lo hi B e w) (hw : Vd.well s = true) (hx : Eg.zoneAt s z = some x) (hin : ¬ Ln.InY lo hi) : e = .returned (.tuple #[.slice none 0 0, .int .i64 1]) := by
  rcases h with ⟨h, _⟩ | ⟨_, h, _⟩ | ⟨_, _, _, _, h⟩ | ⟨_, _, _, _, h, _⟩
  · rw [hw] at h; cases h
  · rw [hx] at h; cases h
  · exact h
  · exact absurd h hin
theorem off_bd {s : Src.S} {eras : List Er.E} {lo hi : Int} (hr : Eg.RulesOk s.rules) (hz : Eg.ZoneOk eras) (h : Ln.InY lo hi) {k : Nat} {p : Ln.Sp} (hp : (Ln.lineOf s eras lo hi)[k]? = some p) : -1209600 ≤ p.off ∧ p.off ≤ 1209600 := by
  have hf := (Ln.Cov.in_ (Ln.lineOf_cov hr hz h) k p hp).2.2
  unfold Ln.st at hf
  have hk := Ln.hold_le (Eg.ends s.rules eras) p.fr
  rw [Eg.ends_len] at hk
  have hl := hz.len.1
  obtain ⟨e, he⟩ : ∃ e, eras[Ln.hold (Eg.ends s.rules eras) p.fr]? = some e := ⟨_, List.getElem?_eq_getElem (by omega)⟩
  rw [List.getD_eq_getElem?_getD, he] at hf
  have hok := hz.ok e (List.mem_of_getElem? he)
  have hs := (Ln.saved_ok hr (Ln.ok_sv hok) p.fr).1
  rw [Ln.savedAt_one] at hs
  have h1 := hok.1
  unfold Ln.setAt at hf
  injection hf with e1 _
  have e2 : e.std + Ln.saveAt s.rules e p.fr = p.off := e1
  unfold IsTime at hs h1
  omega
theorem at_is {s : Src.S} {k : Nat} {x : Src.Txt × List Er.E} (h : s.zones[k]? = some x) : Eg.zoneAt s (k : Int) = some x := by
  unfold Eg.zoneAt
  rw [if_pos (by omega), Int.toNat_natCast]
  exact h
end Ea
end Go.Proofs.YtolgigaolffenaaGreatDoor
