/- almanac.last: the last event that is sought. -/
import Derived.Test.YtolgigaolffenaaGreatDoorQ14

namespace Go.Proofs.YtolgigaolffenaaGreatDoor
open Go.RowKit

namespace Oc
theorem lastP_cut {x : List E} {P : E → Bool} {r : Nat} (h1 : ∀ i e, i < r → x[i]? = some e → P e = true) (h2 : ∀ i e, r ≤ i → x[i]? = some e → P e = false) : lastP x P = (x.take r).getLast? := by
  unfold lastP
  have e : x.filter P = x.take r := by
    have h := List.take_append_drop r x
    have ha : (x.take r).filter P = x.take r := by
      rw [List.filter_eq_self]
      intro a ha
      obtain ⟨i, hi, rfl⟩ := List.getElem_of_mem ha
      rw [List.length_take] at hi
      exact h1 i _ (by omega) (by rw [List.getElem_take, List.getElem?_eq_getElem])
    have hb : (x.drop r).filter P = [] := by
      rw [List.filter_eq_nil_iff]
      intro a ha
      obtain ⟨i, hi, rfl⟩ := List.getElem_of_mem ha
      rw [List.length_drop] at hi
      rw [h2 (r + i) _ (by omega) (by rw [List.getElem_drop, List.getElem?_eq_getElem])]
      decide
    calc x.filter P = (x.take r ++ x.drop r).filter P := by rw [h]
      _ = x.take r := by rw [List.filter_append, ha, hb, List.append_nil]
  rw [e]
theorem take_last {x : List E} {r : Nat} (h0 : 0 < r) (hr : r ≤ x.length) : ∃ e, x[r - 1]? = some e ∧ (x.take r).getLast? = some e := by
  refine ⟨x[r - 1], List.getElem?_eq_getElem (by omega), ?_⟩
  rw [List.getLast?_eq_getElem?, List.length_take, List.getElem?_take, Nat.min_eq_left hr, if_pos (by omega), List.getElem?_eq_getElem (by omega)]
def Down (l : List Ru.R) (P : E → Bool) : Prop := ∀ a b, Ev l a → Ev l b → lessB a b = true → P b = true → P a = true
theorem year_ev {l : List Ru.R} {y : Int} {e : E} (h : e ∈ year l y) : Ev l e := (mem_year.1 h).1
theorem down_year {l : List Ru.R} {P : E → Bool} (hP : Down l P) {y : Int} {i j : Nat} {a b : E} (hij : i ≤ j) (ha : (year l y)[i]? = some a) (hb : (year l y)[j]? = some b) (h : P b = true) : P a = true := by
  rcases Nat.eq_or_lt_of_le hij with e | e
  · subst e
    rw [ha] at hb
    cases hb
    exact h
  · have hs := srt_year l y
    unfold Srt at hs
    rw [List.pairwise_iff_getElem] at hs
    obtain ⟨h1, h2⟩ := List.getElem?_eq_some_iff.1 ha
    obtain ⟨h3, h4⟩ := List.getElem?_eq_some_iff.1 hb
    have h5 := hs i j h1 h3 e
    rw [h2, h4] at h5
    have hae := year_ev (List.mem_of_getElem? ha)
    have hbe := year_ev (List.mem_of_getElem? hb)
    rcases hae.total hbe with q | q | q
    · exact hP a b hae hbe q h
    · rw [q] at h5; cases h5
    · rw [q]; exact h
theorem ev_cells {x : List E} {w : World} {B n k : Nat} {A : Option Addr} (hn : x.length = n) (h : Reads w B 7 A n (x.flatMap E.cells)) (hk : k < n) :
    ∃ ad e, A = some ad ∧ ad.block < B ∧ x[k]? = some e ∧ w.cell? (ad.add (k * 7)) = some (.int .i64 e.n) ∧ w.cell? ⟨(ad.add (k * 7)).block, (ad.add (k * 7)).off + 1, none⟩ = some (.int .u8 e.c) ∧ w.cell? ⟨(ad.add (k * 7)).block, (ad.add (k * 7)).off + 2, none⟩ = some (.int .i64 e.sv) ∧
      w.cell? ⟨(ad.add (k * 7)).block, (ad.add (k * 7)).off + 3, none⟩ = some (.int .i64 e.bf) ∧ w.cell? ⟨(ad.add (k * 7)).block, (ad.add (k * 7)).off + 4, none⟩ = some (.string e.lt) ∧ w.cell? ⟨(ad.add (k * 7)).block, (ad.add (k * 7)).off + 5, none⟩ = some (.int .i64 e.pl) ∧ w.cell? ⟨(ad.add (k * 7)).block, (ad.add (k * 7)).off + 6, none⟩ = some (.int .i64 e.y) := by
  obtain ⟨ad, e, rfl, hab, Hx, HLc⟩ := Ix.reads_cells (enc := E.cells) (m := 7) (fun _ => rfl) hn h hk
  exact ⟨ad, e, rfl, hab, Hx.out, HLc.out 0 _ rfl, HLc.out 1 _ rfl, HLc.out 2 _ rfl, HLc.out 3 _ rfl, HLc.out 4 _ rfl, HLc.out 5 _ rfl, HLc.out 6 _ rfl⟩
end Oc
set_option maxHeartbeats 4000000 in
set_option maxRecDepth 100000 in
theorem lastC_any (x : List Oc.E) (P : Oc.E → Bool) (A : Option Addr) (n c i h0 h1 : Nat) (F : FuncId) (cb : Array Value) (w : World) (hn : x.length = n) (hi : i < n) (eg : ∀ args w, (callFunc F args).run Tryz.prog w = .ok (.enter F args) w)
    (c0 : w.cell? ⟨h0, 0, none⟩ = some (.func (.func F) #[] cb)) (c1 : w.cell? ⟨h1, 0, none⟩ = some (.slice A n c)) (hR : Reads w w.heap.size 7 A n (x.flatMap Oc.E.cells))
    (hS : ∀ q e, x[i]? = some e → Calls Tryz.prog F (#[e.v] ++ cb) (w.drewN q) fun r w' => r = .returned (.bool (P e)) ∧ Below (w.drewN q).heap.size (w.drewN q) w') :
    Calls Tryz.prog 141 #[.int .i64 (i : Int), .pointer (some ⟨h0, 0, none⟩), .pointer (some ⟨h1, 0, none⟩)] w fun e w' => (∃ a, x[i]? = some a ∧ e = .returned (.bool (!P a))) ∧ Below w.heap.size w w' := by
  obtain ⟨ad, e, rfl, hab, hx, x0, x1, x2, x3, x4, x5, x6⟩ := Oc.ev_cells hn hR hi
  have hC := fun q => hS q e hx
  unfold Oc.E.v at hC
  have HC := Lib.hid hC
  have HX := Lib.hid hx
  have z0 := block_lt_of_cell c0
  have z1 := block_lt_of_cell c1
  have hab2 : (ad.add (i * 7)).block < w.heap.size := by rw [block_of_add]; exact hab
  have q1 : (0 : Int) ≤ (i : Int) := by omega
  have q2 : (i : Int) < (n : Int) := by omega
  clear hS hC hx hR hn
  go_enter Tryz.func141, Tryz.ntmps141
  go_wp2_with fail
  refine wp_region_quiet_tail (C := fun w' => ∃ j, w' = w.drewN j) 5 (by kernel_rfl) (by kernel_rfl) ⟨1, rfl⟩ ?_
  repeat (quiet_step (fail))
  refine wpQuiet_nil ?_
  intro wz hwz
  obtain ⟨nq, rfl⟩ := hwz
  show wpList _ _ _ (_ :: _) _ _
  go_wp2_with fail
  refine (HC.out nq).mono ?_
  rintro r w3 ⟨rfl, hb⟩
  have HB := Lib.hid (show Below w.heap.size w w3 from (below_drewN (Below.refl _ w) nq).trans hb)
  clear hb
  go_wp2
  go_ret
  exact ⟨⟨e, HX.out, rfl⟩, HB.out⟩
end Go.Proofs.YtolgigaolffenaaGreatDoor
