/- link.of: a finder for a source. -/
import Derived.Test.YtolgigaolffenaaGreatDoorQ12
import Derived.Test.YtolgigaolffenaaGreatDoorQ10
import Derived.Deep.RegionHeld3
import Derived.Deep.CutBlock
import Derived.OneCell
import Derived.Test.YtolgigaolffenaaGreatDoorQ11

namespace Go.Proofs.YtolgigaolffenaaGreatDoor
open Go.RowKit

namespace Lk
def zn (s : Src.S) : List ByteArray := s.zones.map fun z => Src.bts z.1
def ln (s : Src.S) : List ByteArray := s.links.map fun k => Src.bts k.2
def tg (s : Src.S) : List ByteArray := s.links.map fun k => Src.bts k.1
end Lk
theorem of1_any (s : Src.S) (rv zv lv : Value) (evs : List Value) (g : Nat) (w : World) (hR : Src.SrcR w w.heap.size s rv zv lv evs) (hA : At w g [rv, zv, lv]) : Lk.Tells 81 #[.pointer (some ⟨g, 0, none⟩)] (Lk.zn s) w := by
  intro W i hold hi
  obtain ⟨A, c, rfl, hn, hc, hr⟩ := hR.zones
  have hlen : (s.zones.zip evs).length = s.zones.length := by rw [List.length_zip, hR.len]; omega
  have hi' : i < s.zones.length := by unfold Lk.zn at hi; simpa using hi
  obtain ⟨ad, x, rfl, hab, Hx, HL⟩ := Ix.reads_cells (enc := Src.zc) (m := 2) (fun _ => rfl) hlen hr hi'
  have hx : (Lk.zn s).getD i ⟨#[]⟩ = Src.bts x.1.1 := by
    have h1 := Hx.out
    rw [List.getElem?_zip_eq_some] at h1
    unfold Lk.zn
    rw [List.getD, List.getElem?_map, h1.1]
    rfl
  rw [hx]
  obtain ⟨b, hb⟩ : ∃ b, Src.bts x.1.1 = b := ⟨_, rfl⟩
  have c0 : W.cell? (ad.add (i * 2)) = some (.string b) := by
    have h1 := HL.out 0 _ rfl
    rw [← hb]
    exact (hold _ (by rw [block_of_add]; exact hab)).trans h1
  have c1 : W.cell? ⟨g, 1, none⟩ = some (.slice (some ad) s.zones.length c) := (hold ⟨g, 1, none⟩ hA.lt).trans (hA.cell 1 _ rfl)
  obtain ⟨n, hn'⟩ : ∃ n, s.zones.length = n := ⟨_, rfl⟩
  rw [hn'] at c1 hi'
  rw [hb]
  have q1 : (0 : Int) ≤ (i : Int) := by omega
  have q2 : (i : Int) < (n : Int) := by omega
  clear hR hA hold hi hn hc hr hlen Hx HL hx hb hn' hab
  show Calls _ _ #[.int .i64 (i : Int), .pointer (some ⟨g, 0, none⟩)] _ _
  go_enter Tryz.func81, Tryz.ntmps81
  go_wp2
  go_ret
  exact ⟨rfl, rfl⟩
theorem of2_any (s : Src.S) (rv zv lv : Value) (evs : List Value) (g : Nat) (w : World) (hR : Src.SrcR w w.heap.size s rv zv lv evs) (hA : At w g [rv, zv, lv]) : Lk.Tells 82 #[.pointer (some ⟨g, 0, none⟩)] (Lk.ln s) w := by
  intro W i hold hi
  obtain ⟨A, c, rfl, hn, hc, hr⟩ := hR.links
  have hi' : i < s.links.length := by unfold Lk.ln at hi; simpa using hi
  obtain ⟨ad, x, rfl, hab, Hx, HL⟩ := Ix.reads_cells (enc := Src.lc) (m := 2) (fun _ => rfl) rfl hr hi'
  have hx : (Lk.ln s).getD i ⟨#[]⟩ = Src.bts x.2 := by
    unfold Lk.ln
    rw [List.getD, List.getElem?_map, Hx.out]
    rfl
  rw [hx]
  obtain ⟨b, hb⟩ : ∃ b, Src.bts x.2 = b := ⟨_, rfl⟩
  have c0 : W.cell? ⟨(ad.add (i * 2)).block, (ad.add (i * 2)).off + 1, none⟩ = some (.string b) := by
    have h1 := HL.out 1 _ rfl
    rw [← hb]
    exact (hold ⟨(ad.add (i * 2)).block, (ad.add (i * 2)).off + 1, none⟩ (by rw [block_of_add]; exact hab)).trans h1
  have c1 : W.cell? ⟨g, 2, none⟩ = some (.slice (some ad) s.links.length c) := (hold ⟨g, 2, none⟩ hA.lt).trans (hA.cell 2 _ rfl)
  obtain ⟨n, hn'⟩ : ∃ n, s.links.length = n := ⟨_, rfl⟩
  rw [hn'] at c1 hi'
  rw [hb]
  have q1 : (0 : Int) ≤ (i : Int) := by omega
  have q2 : (i : Int) < (n : Int) := by omega
  clear hR hA hold hi hn hc hr Hx HL hx hb hn' hab
  show Calls _ _ #[.int .i64 (i : Int), .pointer (some ⟨g, 0, none⟩)] _ _
  go_enter Tryz.func82, Tryz.ntmps82
  go_wp2
  go_ret
  exact ⟨rfl, rfl⟩
structure Lk.Fr (s : Src.S) (lv : Value) (w : World) (g bz bl bk n : Nat) (K : Mp.Fn) : Prop where
  at_ : At w g [lv, .map (some bz), .map (some bl), .map (some bk)]
  z : MapF Tryz.prog 9 w bz s.zones.length (Lk.places (Lk.zn s))
  l : MapF Tryz.prog 9 w bl s.links.length (Lk.places (Lk.ln s))
  k : MapF Tryz.prog 9 w bk n K
  ne1 : bk ≠ bz
  ne2 : bk ≠ bl
def Lk.OfRet (s : Src.S) (lv : Value) (w : World) (e : Ending) (w' : World) : Prop :=
  ∃ g bz bl bk, e = .returned (.pointer (some ⟨g, 0, none⟩)) ∧ Lk.Fr s lv w' g bz bl bk 0 (fun _ => none) ∧ (w.heap.size ≤ g ∧ w.heap.size ≤ bk) ∧ Below w.heap.size w w'
section
variable {w0 W W' : World} {h : Nat} {a b c : Value}
theorem Lk.sw_alloc (hs : W.cell? ⟨h, 0, none⟩ = some a ∧ W.cell? ⟨h, 1, none⟩ = some b ∧ W.cell? ⟨h, 2, none⟩ = some c ∧ Hid (h < w0.heap.size ∧ Below w0.heap.size w0 W)) (o : Obj) :
    (W.alloc o).cell? ⟨h, 0, none⟩ = some a ∧ (W.alloc o).cell? ⟨h, 1, none⟩ = some b ∧ (W.alloc o).cell? ⟨h, 2, none⟩ = some c ∧ Hid (h < w0.heap.size ∧ Below w0.heap.size w0 (W.alloc o)) := by
  obtain ⟨h0, h1, h2, hl, hb⟩ := hs
  have hlt : h < W.heap.size := Nat.lt_of_lt_of_le hl hb.size
  exact ⟨(World.cell?_alloc_lt W o ⟨h, 0, none⟩ hlt).trans h0, (World.cell?_alloc_lt W o ⟨h, 1, none⟩ hlt).trans h1, (World.cell?_alloc_lt W o ⟨h, 2, none⟩ hlt).trans h2, hl, hb.alloc hb.size o⟩
theorem Lk.sw_below (hs : W.cell? ⟨h, 0, none⟩ = some a ∧ W.cell? ⟨h, 1, none⟩ = some b ∧ W.cell? ⟨h, 2, none⟩ = some c ∧ Hid (h < w0.heap.size ∧ Below w0.heap.size w0 W)) (k : Below W.heap.size W W') :
    W'.cell? ⟨h, 0, none⟩ = some a ∧ W'.cell? ⟨h, 1, none⟩ = some b ∧ W'.cell? ⟨h, 2, none⟩ = some c ∧ Hid (h < w0.heap.size ∧ Below w0.heap.size w0 W') := by
  obtain ⟨h0, h1, h2, hl, hb⟩ := hs
  have hlt : h < W.heap.size := Nat.lt_of_lt_of_le hl hb.size
  exact ⟨(k.cell (p := ⟨h, 0, none⟩) hlt).trans h0, (k.cell (p := ⟨h, 1, none⟩) hlt).trans h1, (k.cell (p := ⟨h, 2, none⟩) hlt).trans h2, hl, hb.trans (k.mono hb.size)⟩
end
theorem Lk.of_end {s : Src.S} {lv a b c : Value} {w w0 WX W9 : World} {h g bz bl bk : Nat} (hg : g = WX.heap.size) (hw : Below w.heap.size w w0) (hh : w.heap.size = h) (h9 : W9 = WX.alloc (.cells #[lv, .map (some bz), .map (some bl), .map (some bk)] 185))
    (hS : W9.cell? ⟨h, 0, none⟩ = some a ∧ W9.cell? ⟨h, 1, none⟩ = some b ∧ W9.cell? ⟨h, 2, none⟩ = some c ∧ Hid (h < w0.heap.size ∧ Below w0.heap.size w0 W9))
    (hz : MapF Tryz.prog 9 WX bz (Lk.zn s).length (Lk.places (Lk.zn s))) (hl : MapF Tryz.prog 9 WX bl (Lk.ln s).length (Lk.places (Lk.ln s))) (hk : MapF Tryz.prog 9 WX bk 0 (fun _ => none)) (h1 : bk ≠ bz) (h2 : bk ≠ bl) (h3 : w0.heap.size ≤ bk) :
    Lk.OfRet s lv w (.returned (.pointer (some ⟨g, 0, none⟩))) W9 := by
  subst hg h9
  have ez : (Lk.zn s).length = s.zones.length := by unfold Lk.zn; simp
  have el : (Lk.ln s).length = s.links.length := by unfold Lk.ln; simp
  rw [ez] at hz
  rw [el] at hl
  have hb := hw.trans (hS.2.2.2.2.mono hw.size)
  have hs := hS.2.2.2.2.size
  have hlt := hS.2.2.2.1
  rw [World.size_alloc] at hs
  have hsz := hw.size
  exact ⟨WX.heap.size, bz, bl, bk, rfl, ⟨At.new WX #[lv, .map (some bz), .map (some bl), .map (some bk)] 185, hz.alloc _, hl.alloc _, hk.alloc _, h1, h2⟩, ⟨by omega, by omega⟩, hb⟩
set_option maxRecDepth 100000 in
set_option maxHeartbeats 4000000 in
theorem linkOf_any (s : Src.S) (rv zv lv : Value) (evs : List Value) (w : World) (hR : Src.SrcR w w.heap.size s rv zv lv evs) (hL : s.zones.length ≤ 1000000 ∧ s.links.length ≤ 1000000) (hsz : ∀ x ∈ Lk.zn s, x.size ≤ maxLen) (hsl : ∀ x ∈ Lk.ln s, x.size ≤ maxLen) :
    Calls Tryz.prog 43 #[.agg #[rv, zv, lv]] w (Lk.OfRet s lv w) := by
  have hz := fun (W : World) (h : Nat) (hR : Src.SrcR W W.heap.size s rv zv lv evs) (hA : At W h [rv, zv, lv]) => places_any (Lk.zn s) (by unfold Lk.zn; simpa using hL.1) hsz 81 #[.pointer (some ⟨h, 0, none⟩)] (enters_of Tryz.func81 (by kernel_rfl) rfl) W (of1_any s rv zv lv evs h W hR hA)
  have hl := fun (W : World) (h : Nat) (hR : Src.SrcR W W.heap.size s rv zv lv evs) (hA : At W h [rv, zv, lv]) => places_any (Lk.ln s) (by unfold Lk.ln; simpa using hL.2) hsl 82 #[.pointer (some ⟨h, 0, none⟩)] (enters_of Tryz.func82 (by kernel_rfl) rfl) W (of2_any s rv zv lv evs h W hR hA)
  have ez : (Lk.zn s).length = s.zones.length := by unfold Lk.zn; simp
  have el : (Lk.ln s).length = s.links.length := by unfold Lk.ln; simp
  simp only [ez] at hz
  simp only [el] at hl
  have hA0 := At.new w #[rv, zv, lv] 26
  have hB0 := (Below.refl w.heap.size w).alloc (Nat.le_refl _) (.cells #[rv, zv, lv] 26)
  have hR0 := (hR.below hB0).more hB0.size
  obtain ⟨h, hh⟩ : ∃ h, w.heap.size = h := ⟨_, rfl⟩
  obtain ⟨rA, rc, rfl, _⟩ := hR.rules
  obtain ⟨zA, zc, rfl, _⟩ := hR.zones
  obtain ⟨lA, lc, rfl, _⟩ := hR.links
  obtain ⟨nr, hnr⟩ : ∃ n, s.rules.length = n := ⟨_, rfl⟩
  obtain ⟨nz, hnz⟩ : ∃ n, s.zones.length = n := ⟨_, rfl⟩
  obtain ⟨nl, hnl⟩ : ∃ n, s.links.length = n := ⟨_, rfl⟩
  rw [hh] at hA0
  simp only [hnr, hnz, hnl] at hz hl hA0 hR0 hB0 ⊢
  obtain ⟨w0, hw0⟩ : ∃ x, w.alloc (.cells #[.slice rA nr rc, .slice zA nz zc, .slice lA nl lc] 26) = x := ⟨_, rfl⟩
  rw [hw0] at hA0 hB0 hR0
  have HZ : Hid (∀ W, W.cell? ⟨h, 0, none⟩ = some (.slice rA nr rc) ∧ W.cell? ⟨h, 1, none⟩ = some (.slice zA nz zc) ∧ W.cell? ⟨h, 2, none⟩ = some (.slice lA nl lc) ∧ Hid (h < w0.heap.size ∧ Below w0.heap.size w0 W) →
      Calls Tryz.prog 80 #[.int .i64 (nz : Int), .func (.func 81) #[] #[.pointer (some ⟨h, 0, none⟩)]] W (Lk.PlRet (Lk.zn s) W)) := fun W hs => hz W h (hR0.call hs.2.2.2.2) (hA0.call hs.2.2.2.2)
  have HL : Hid (∀ W, W.cell? ⟨h, 0, none⟩ = some (.slice rA nr rc) ∧ W.cell? ⟨h, 1, none⟩ = some (.slice zA nz zc) ∧ W.cell? ⟨h, 2, none⟩ = some (.slice lA nl lc) ∧ Hid (h < w0.heap.size ∧ Below w0.heap.size w0 W) →
      Calls Tryz.prog 80 #[.int .i64 (nl : Int), .func (.func 82) #[] #[.pointer (some ⟨h, 0, none⟩)]] W (Lk.PlRet (Lk.ln s) W)) := fun W hs => hl W h (hR0.call hs.2.2.2.2) (hA0.call hs.2.2.2.2)
  have S0 : w0.cell? ⟨h, 0, none⟩ = some (.slice rA nr rc) ∧ w0.cell? ⟨h, 1, none⟩ = some (.slice zA nz zc) ∧ w0.cell? ⟨h, 2, none⟩ = some (.slice lA nl lc) ∧ Hid (h < w0.heap.size ∧ Below w0.heap.size w0 w0) :=
    ⟨hA0.cell 0 _ rfl, hA0.cell 1 _ rfl, hA0.cell 2 _ rfl, hA0.lt, Below.refl _ _⟩
  have HW0 := Lib.hid hw0
  have HH := Lib.hid hh
  have HB0 := Lib.hid hB0
  have HE := Lib.hid (And.intro (ez.trans hnz) (And.intro (el.trans hnl) (And.intro hnz hnl)))
  have HS0 := Lib.hid S0
  clear hz hl hA0 hR0 hB0 hw0 hh ez el hnr hnz hnl hR hsz hsl hL S0
  have hmk := @run_makeMap Tryz.prog
  go_enter Tryz.func43, Tryz.ntmps43
  go_wp2_with fail
  rw [HW0.out, HH.out]
  have S1 : w0.drew.cell? ⟨h, 0, none⟩ = some (.slice rA nr rc) ∧ w0.drew.cell? ⟨h, 1, none⟩ = some (.slice zA nz zc) ∧ w0.drew.cell? ⟨h, 2, none⟩ = some (.slice lA nl lc) ∧ Hid (h < w0.heap.size ∧ Below w0.heap.size w0 w0.drew) := ⟨HS0.out.1, HS0.out.2.1, HS0.out.2.2.1, HS0.out.2.2.2.1, (Below.refl _ _).drew⟩
  go_region_held3 (fun w' => w'.cell? ⟨h, 0, none⟩ = some (.slice rA nr rc) ∧ w'.cell? ⟨h, 1, none⟩ = some (.slice zA nz zc) ∧ w'.cell? ⟨h, 2, none⟩ = some (.slice lA nl lc) ∧ Hid (h < w0.heap.size ∧ Below w0.heap.size w0 w')) (first | assumption | exact S1 | exact Lk.sw_alloc (by assumption) _ | exact Lk.sw_below (by assumption) hbq)
    (first | (go_at_call_of 80 nz; refine (HZ.out _ (by assumption)).mono ?_; rintro e wz ⟨bz, rfl, hz0, hMz, hbq⟩; have hbz := hbq) | (go_at_call_of 80 nl; refine (HL.out _ (by assumption)).mono ?_; rintro e wl ⟨bl, rfl, hl0, hMl, hbq⟩; have hbl := hbq))
  all_goals
    go_wp2
    go_ret
    have d0 : w0.drew.heap.size = w0.heap.size := rfl
    have d5 : (w0.alloc (.map #[] 0)).drew.heap.size = w0.heap.size + 1 := by
      show (w0.alloc (.map #[] 0)).heap.size = _
      rw [World.size_alloc]
    have d1 := hMz.lt
    have d2 := hMl.lt
    have d3 := hbz.size
    have d4 := hbl.size
    try simp only [World.size_alloc] at d3
    try simp only [World.size_alloc] at d4
    try simp only [World.size_alloc] at hz0
    try simp only [World.size_alloc] at hl0
    refine Lk.of_end (w0 := w0) (h := h) ?_ HB0.out HH.out rfl (by assumption) ?_ ?_ ?_ ?_ ?_ ?_
    · first | rfl | (simp; done)
    · repeat (first | exact hMz | refine MapF.alloc ?_ _ | refine MapF.below ?_ hbl | refine MapF.below ?_ hbz)
    · repeat (first | exact hMl | refine MapF.alloc ?_ _ | refine MapF.below ?_ hbl | refine MapF.below ?_ hbz)
    · repeat (first | exact MapF.made _ | refine MapF.alloc ?_ _ | refine MapF.below ?_ hbl | refine MapF.below ?_ hbz)
    · omega
    · omega
    · omega
end Go.Proofs.YtolgigaolffenaaGreatDoor

/- finder.find: where a name leads, and by which names that were not known. -/
namespace Go.Proofs.YtolgigaolffenaaGreatDoor
open Go.RowKit

section
variable {a b c : World} {row row' : Option Nat}
theorem gb_then (h : a.grownBy b row) (k : b.grownBy c row') (hr : ∀ j, row' = some j → a.heap.size ≤ j ∨ row = some j) : a.grownBy c row :=
  ⟨k.os.trans h.os, k.tape.trans h.tape, k.output.trans h.output, Nat.le_trans h.size k.size, fun i hi hne => (k.block i (Nat.lt_of_lt_of_le hi h.size) (fun e => by
    rcases hr i e.symm with h1 | h1
    · omega
    · exact hne h1.symm)).trans (h.block i hi hne)⟩
theorem gb_alloc (h : a.grownBy b row) (o : Obj) : a.grownBy (b.alloc o) row := gb_then h (World.grownBy_alloc b o none) (fun j e => by cases e)
theorem gb_drew (h : a.grownBy b row) : a.grownBy b.drew row := ⟨h.os, h.tape, h.output, h.size, h.block⟩
theorem gb_set (h : a.grownBy b row) {p : Addr} (hp : a.heap.size ≤ p.block) (v : Value) : a.grownBy (b.setCell p v) row :=
  ⟨h.os, h.tape, h.output, by rw [heap_set]; exact h.size, fun i hi hne => (Below.heap_setCell b p v i (by omega)).trans (h.block i hi hne)⟩
end
theorem MapF.not_cells {P : Program} {k : TypeId} {w : World} {b n : Nat} {f : Mp.Fn} (h : MapF P k w b n f) : ∃ o : Obj, w.heap[b]? = some o ∧ o.isCells = false := by
  obtain ⟨D, ⟨es, clock, hb, _⟩, _⟩ := h
  exact ⟨_, hb, rfl⟩
theorem MapF.keeps {P : Program} {k : TypeId} {w w' : World} {b n : Nat} {f : Mp.Fn} (h : MapF P k w b n f) (hg : w.grownBy w' (some b)) {p : Addr} {v : Value} (hc : w.cell? p = some v) : w'.cell? p = some v :=
  cell_kept hc hg (fun r e => by cases e; exact h.not_cells)
theorem Reads.beside {P : Program} {k : TypeId} {w w' : World} {b n : Nat} {f : Mp.Fn} {B size m : Nat} {A : Option Addr} {xs : List Value} (hr : Reads w B size A m xs) (h : MapF P k w b n f) (hg : w.grownBy w' (some b)) : Reads w' B size A m xs :=
  ⟨hr.1, fun hn => by
    obtain ⟨ad, e, hb, hc⟩ := hr.2 hn
    exact ⟨ad, e, hb, fun j u hu => h.keeps hg (hc j u hu)⟩⟩
theorem At.ne_map {P : Program} {k : TypeId} {w : World} {b n g : Nat} {f : Mp.Fn} {x : Value} {xs : List Value} (hA : At w g (x :: xs)) (h : MapF P k w b n f) : g ≠ b := by
  intro e
  subst e
  obtain ⟨o, ho, hc⟩ := h.not_cells
  obtain ⟨o', ho', hc'⟩ := cells_of_cell (hA.cell 0 x rfl)
  rw [show (⟨g, 0, none⟩ : Addr).block = g from rfl, ho] at ho'
  cases ho'
  rw [hc] at hc'
  cases hc'
set_option maxRecDepth 100000 in
theorem name_append {ops : Array Oper} {rest : List Oper} {o : Oper} {a : Act} {Q : Exit → Act → World → Prop} (W : World) (B n : Nat) (xs : List Value) (v : Value) (s : ByteArray) (x y : Nat)
    (hO : W.ownsRow B 9 1 v n xs) (hl : n ≤ 2000000) (hB : B ≤ W.heap.size) (hgd : o.guard = none)
    (ho : o.op = .call { callee := .builtin .append, args := #[.tmp x, .tmp y], argTypes := #[35, 35] }) (hs : a.eval (.tmp x) = v) (hx : a.eval (.tmp y) = .slice (some ⟨W.heap.size, 0, none⟩) 1 1)
    (h : ∀ v' w', w'.ownsRow B 9 1 v' (n + 1) (xs ++ [.string s]) → Below B W w' → (∀ g xs, At W g xs → v.ownBlock ≠ some g → At w' g xs ∧ v'.ownBlock ≠ some g) → (W.alloc (.cells #[.string s] 9)).grownBy w' v.ownBlock → wpList Tryz.prog ops Q rest (a.put o.dst v') w') :
    wpList Tryz.prog ops Q (o :: rest) a (W.alloc (.cells #[.string s] 9)) := by
  obtain ⟨i0, hi0, hz0, hz1, hz2⟩ : ∃ i, Tryz.prog.info? 9 = some i ∧ i.zero = some (.string ⟨#[]⟩) ∧ i.size = 1 ∧ i.bytes = 16 := by
    have h : (Tryz.prog.info? 9).map (fun i => (i.zero, i.size, i.bytes)) = some (some (.string ⟨#[]⟩), 1, 16) := by kernel_rfl
    cases hc : Tryz.prog.info? 9 with
    | none => rw [hc] at h; cases h
    | some i =>
      rw [hc] at h
      simp only [Option.map_some, Option.some.injEq, Prod.mk.injEq] at h
      exact ⟨i, rfl, h.1, h.2.1, h.2.2⟩
  have hR : Reads (W.alloc (.cells #[.string s] 9)) (W.heap.size + 1) 1 (some ⟨W.heap.size, 0, none⟩) 1 [.string s] := by
    refine ⟨by simp, fun _ => ⟨_, rfl, Nat.lt_succ_self _, fun j u hu => ?_⟩⟩
    have e : (⟨W.heap.size, 0, none⟩ : Addr).add j = ⟨W.heap.size, j, none⟩ := by
      unfold Addr.add
      split
      · subst_vars; rfl
      · simp
    rw [e]
    exact (At.new W #[.string s] 9).cell j u hu
  refine wpList_append_any (P := Tryz.prog) _ hgd (.tmp x) (.tmp y) 35 ho B 9 i0 _ 1 16 Tryz.underlying35 hi0 hz0 hz1 hz2 rfl (by omega) v n xs hs (hO.alloc _) (W.heap.size + 1) _ 1 1 _ hx hR (by simp [Value.oneCell']) (by unfold maxLen; omega) (by omega) (by rw [World.size_alloc]; omega) ?_
  intro v' w' hown hg hat
  refine h v' w' hown (((Below.refl B W).alloc hB _).grown hg (by rw [World.size_alloc]; omega) (fun g e => (hO.lt g e).1)) ?_ hg
  intro g xs hA hne
  have hA' := hA.allocO (.cells #[.string s] 9)
  refine ⟨⟨Nat.lt_of_lt_of_le hA'.1 hg.size, fun i v hi => ⟨(World.cell?_of_block (a := ⟨g, i, none⟩) (hg.block g hA'.1 (fun e => hne e.symm))).trans (hA'.2 i v hi).1, (World.frozen?_of_block (a := ⟨g, i, none⟩) (hg.block g hA'.1 (fun e => hne e.symm))).trans (hA'.2 i v hi).2⟩⟩, ?_⟩
  rcases hat with e | e
  · rw [e]; exact hne
  · rw [e, World.size_alloc]
    intro e2
    have := hA.lt
    injection e2 with e2
    omega
theorem Lk.at_kept {w w' : World} {g : Nat} {xs : List Value} {row : Option Nat} (h : At w g xs) (hg : w.grownBy w' row) (hne : some g ≠ row) : At w' g xs :=
  ⟨Nat.lt_of_lt_of_le h.1 hg.size, fun i v hi => ⟨(World.cell?_of_block (a := ⟨g, i, none⟩) (hg.block g h.1 hne)).trans (h.2 i v hi).1, (World.frozen?_of_block (a := ⟨g, i, none⟩) (hg.block g h.1 hne)).trans (h.2 i v hi).2⟩⟩
theorem Lk.at_kept2 {P : Program} {k : TypeId} {w w' : World} {g b n : Nat} {x : Value} {xs : List Value} {f : Mp.Fn} (h : At w g (x :: xs)) (hm : MapF P k w b n f) (hg : w.grownBy w' (some b)) : At w' g (x :: xs) :=
  Lk.at_kept h hg (fun e => h.ne_map hm (by injection e))
def nameLen (v : Value) : Nat := match v with | .slice _ n _ => n | _ => 0
structure Lk.FAt (s : Src.S) (w : World) (h bk n : Nat) (K : Lk.Kn) (x : ByteArray) (y v b : Value) (wr : World) : Prop where
  st : ∃ (name : ByteArray) (done : List ByteArray) (f : Nat), y = .string name ∧ name.size ≤ maxLen ∧ f + 1 + done.length = s.links.length + 1 + 1 ∧ done.Nodup ∧ (∀ d ∈ done, d ∈ Lk.ln s) ∧
    wr.ownsRow w.heap.size 9 1 v done.length (done.map Value.string) ∧
    Lk.find (Lk.zn s) (Lk.ln s) (Lk.tg s) (s.links.length + 1) K x = (done ++ (Lk.find (Lk.zn s) (Lk.ln s) (Lk.tg s) f (Lk.marks K done Lk.loop) name).1, (Lk.find (Lk.zn s) (Lk.ln s) (Lk.tg s) f (Lk.marks K done Lk.loop) name).2) ∧
    b = .bool (Lk.marks K done Lk.loop name).isSome ∧
    At wr (h + 1) [.int .i64 ((Lk.marks K done Lk.loop name).getD (0, 0)).1, .int .i64 ((Lk.marks K done Lk.loop name).getD (0, 0)).2] ∧
    MapF Tryz.prog 9 wr bk (n + done.length) (Lk.kf (Lk.marks K done Lk.loop))
  res : At wr h [.int .i64 0, .int .i64 0]
  own : ∀ g, v.ownBlock = some g → g ≠ h ∧ g ≠ h + 1
  gb : w.grownBy wr (some bk)
structure Lk.FEnd (s : Src.S) (w : World) (h bk n : Nat) (K : Lk.Kn) (r : List ByteArray × Lk.Fd) (v : Value) (wr : World) : Prop where
  row : wr.ownsRow w.heap.size 9 1 v r.1.length (r.1.map Value.string)
  end_ : At wr (h + 1) [.int .i64 r.2.1, .int .i64 r.2.2]
  map : MapF Tryz.prog 9 wr bk (n + r.1.length) (Lk.kf (Lk.marks K r.1 Lk.loop))
  res : At wr h [.int .i64 0, .int .i64 0]
  own : ∀ g, v.ownBlock = some g → g ≠ h ∧ g ≠ h + 1
  gb : w.grownBy wr (some bk)
def Lk.FdR (s : Src.S) (lv : Value) (g bz bl bk n : Nat) (K : Lk.Kn) (R : List ByteArray × Lk.Fd) (w : World) (e : Ending) (w' : World) : Prop :=
  (∃ A c, e = .returned (.tuple #[.slice A R.1.length c, .agg #[.int .i64 R.2.1, .int .i64 R.2.2]]) ∧ Reads w' w'.heap.size 1 A R.1.length (R.1.map Value.string)) ∧
  Lk.Fr s lv w' g bz bl bk (n + R.1.length + R.1.length) (Lk.kf (Lk.marks K R.1 R.2)) ∧ w.grownBy w' (some bk)
structure Lk.SAt (s : Src.S) (w : World) (h bk n : Nat) (K : Lk.Kn) (R : List ByteArray × Lk.Fd) (A : Option Addr) (L c : Nat) (i : Value) (wr : World) : Prop where
  st : ∃ k : Nat, k ≤ L ∧ i = .int .i64 k ∧ MapF Tryz.prog 9 wr bk (n + L + k) (Lk.kf (Lk.marks (Lk.marks K R.1 Lk.loop) (R.1.take k) R.2))
  row : wr.ownsRow w.heap.size 9 1 (.slice A L c) L (R.1.map Value.string)
  end_ : At wr (h + 1) [.int .i64 R.2.1, .int .i64 R.2.2]
  res : At wr h [.int .i64 0, .int .i64 0]
  gb : w.grownBy wr (some bk)
theorem Lk.find_len (zn ln tg : List ByteArray) : ∀ (f : Nat) (K : Lk.Kn) (x : ByteArray), (Lk.find zn ln tg f K x).1.length ≤ f
  | 0, _, _ => Nat.le_refl _
  | f + 1, K, x => by
    unfold Lk.find
    split
    · exact Nat.zero_le _
    · split
      · simp
      · split
        · simp
        · have := Lk.find_len zn ln tg f
          simp only [List.length_cons]
          exact Nat.succ_le_succ (this _ _)
theorem Lk.find_size (zn ln tg : List ByteArray) : ∀ (f : Nat) (K : Lk.Kn) (x : ByteArray), x.size ≤ maxLen → (∀ y ∈ tg, y.size ≤ maxLen) → ∀ y ∈ (Lk.find zn ln tg f K x).1, y.size ≤ maxLen
  | 0, _, _, _, _ => fun y hy => by cases hy
  | f + 1, K, x, hx, ht => by
    unfold Lk.find
    split
    · exact fun y hy => by cases hy
    · split
      · intro y hy
        have : y = x := by simpa using hy
        rw [this]; exact hx
      · split
        · intro y hy
          have : y = x := by simpa using hy
          rw [this]; exact hx
        · rename_i j _
          intro y hy
          simp only [List.mem_cons] at hy
          rcases hy with rfl | hy
          · exact hx
          · refine Lk.find_size zn ln tg f _ _ ?_ ht y hy
            rw [List.getD]
            cases hj : tg[j]? with
            | none => exact Nat.zero_le _
            | some z => exact ht z (List.mem_of_getElem? hj)
theorem nameLen_own {w : World} {base : Nat} {e : TypeId} {size n : Nat} {v : Value} {xs : List Value} (h : w.ownsRow base e size v n xs) : nameLen v = n := by
  obtain ⟨A, c, rfl, _⟩ := own_slice h
  rfl
theorem store_run {w : World} {b n : Nat} {K : Lk.Kn} (h : MapF Tryz.prog 9 w b n (Lk.kf K)) {s : ByteArray} (hs : s.size ≤ maxLen) (hn : n < maxLen) (e : Lk.Fd) :
    ∃ w', (Instr.mapUpdate 183 (.map (some b)) (.string s) (.agg #[.int .i64 e.1, .int .i64 e.2])).run Tryz.prog w = .ok () w' ∧ MapF Tryz.prog 9 w' b (n + 1) (Lk.kf (Lk.mark K s e)) ∧ w.grownBy w' (some b) := by
  obtain ⟨D, hD, hf⟩ := h
  obtain ⟨w', hrun, hD', hg'⟩ := hD.update (Maps.string_keyed Tryz.underlying9) Tryz.underlying183 hn (WideMaps.keyOf_string_mk Tryz.underlying9 hs) (val := .agg #[.int .i64 e.1, .int .i64 e.2]) (d := .held (.agg #[.int .i64 e.1, .int .i64 e.2])) (ps := []) rfl
  have := MapF.put_ hD hf hD'
  rw [Lk.kf_put] at this
  exact ⟨w', hrun, this, hg'⟩
theorem Lk.fend {s : Src.S} {w w10 : World} {h bk n : Nat} {K : Lk.Kn} {R : List ByteArray × Lk.Fd} {done : List ByteArray} {name : ByteArray} {e : Lk.Fd} {v9 : Value} {a b : Value} (hh : w.heap.size = h) (hkl : bk < w.heap.size) (hEq : (done ++ [name], e) = R)
    (hOb : w10.ownsRow w.heap.size 9 1 v9 (done.length + 1) (done.map Value.string ++ [.string name])) (hMb : MapF Tryz.prog 9 w10 bk (n + done.length + 1) (Lk.kf (Lk.mark (Lk.marks K done Lk.loop) name Lk.loop)))
    (hEb : At w10 (h + 1) [a, b]) (hRb : At w10 h [.int .i64 0, .int .i64 0]) (hva : v9.ownBlock ≠ some (h + 1)) (hvb : v9.ownBlock ≠ some h) (gbb : w.grownBy w10 (some bk)) :
    Lk.FEnd s w h bk n K R v9 ((w10.setCell ⟨h + 1, 0, none⟩ (.int .i64 e.1)).setCell ⟨h + 1, 1, none⟩ (.int .i64 e.2)) := by
  subst hEq
  refine ⟨?_, ?_, ?_, ?_, ?_, ?_⟩
  · rw [List.length_append, List.map_append]
    exact ownsRow_setCell_other (ownsRow_setCell_other hOb (a := ⟨h + 1, 0, none⟩) hva _) (a := ⟨h + 1, 1, none⟩) hva _
  · exact (hEb.set 0 _).set 1 _
  · rw [Lk.marks_snoc] at hMb
    rw [List.length_append]
    exact (hMb.setCell (a := ⟨h + 1, 0, none⟩) (by show bk ≠ h + 1; omega) _).setCell (a := ⟨h + 1, 1, none⟩) (by show bk ≠ h + 1; omega) _
  · exact (hRb.set_other ⟨h + 1, 0, none⟩ _ (by show h + 1 ≠ h; omega)).set_other ⟨h + 1, 1, none⟩ _ (by show h + 1 ≠ h; omega)
  · intro g' e'
    exact ⟨fun x => hvb (by rw [e', x]), fun x => hva (by rw [e', x])⟩
  · exact gb_set (gb_set gbb (p := ⟨h + 1, 0, none⟩) (by show w.heap.size ≤ h + 1; omega) _) (p := ⟨h + 1, 1, none⟩) (by show w.heap.size ≤ h + 1; omega) _
end Go.Proofs.YtolgigaolffenaaGreatDoor

/- The almanac in memory; almanac.at: the event of a rule in a year. -/
namespace Go.Proofs.YtolgigaolffenaaGreatDoor
open Go.RowKit

namespace Oc
def E.zero : E := ⟨0, 0, 0, 0, ⟨#[]⟩, 0, 0⟩
def Pl (T : Nat → Prop) (A : Option Addr) (n : Nat) : Prop := ∀ ad, A = some ad → 0 < n → T ad.block
def Memo (l : List Ru.R) (w : World) (b : Nat) (T : Nat → Prop) : Prop :=
  ∃ (n : Nat) (f : Mi.Fn) (ks : List Int), MapI Tryz.prog 3 w b n f ∧ ks.Nodup ∧ ks.length = n ∧ (∀ k ∈ ks, 0 ≤ k ∧ k ≤ 10000 ∧ (f k).isSome = true) ∧
    ∀ k v, f k = some v → k ∈ ks ∧ ∃ A c, v = .slice A (year l k).length c ∧ Reads w w.heap.size 7 A (year l k).length ((year l k).flatMap E.cells) ∧ Pl T A (year l k).length
structure Alm (l : List Ru.R) (rA : Option Addr) (rc : Nat) (pA : Option Addr) (pc : Nat) (w : World) (g b : Nat) (T : Nat → Prop) : Prop where
  at_ : At w g [.slice rA l.length rc, .slice pA (pls l 0).length pc, .map (some b)]
  rules : Reads w w.heap.size 11 rA l.length (l.flatMap Ru.R.cells)
  places : Reads w w.heap.size 1 pA (pls l 0).length ((pls l 0).map fun p : Nat => .int .i64 (p : Int))
  memo : Memo l w b T
  gT : T g ∧ T b
  rT : Pl T rA l.length
  pT : Pl T pA (pls l 0).length
section
variable {l : List Ru.R} {rA pA : Option Addr} {rc pc : Nat} {w w' : World} {g b : Nat} {T T' : Nat → Prop}
theorem Pl.mono {A : Option Addr} {n : Nat} (h : Pl T A n) (ht : ∀ k, T k → T' k) : Pl T' A n := fun ad ha hn => ht _ (h ad ha hn)
theorem Pl.old {B size m : Nat} {A : Option Addr} {xs : List Value} (h : Pl T A m) (hr : Reads w B size A m xs) : Pl (fun k => T k ∧ k < B) A m := fun ad ha hn => by
  obtain ⟨ad', e, hb, _⟩ := hr.2 hn
  rw [ha] at e
  cases e
  exact ⟨h ad ha hn, hb⟩
theorem Memo.below (h : Memo l w b T) (hb : Below w.heap.size w w') : Memo l w' b T := by
  obtain ⟨n, f, ks, h1, h2, h3, h4, h5⟩ := h
  refine ⟨n, f, ks, h1.below hb, h2, h3, h4, fun k v hk => ?_⟩
  obtain ⟨k1, A, c, k2, k3, k4⟩ := h5 k v hk
  exact ⟨k1, A, c, k2, (k3.below hb).more hb.size, k4⟩
theorem Alm.below (h : Alm l rA rc pA pc w g b T) (hb : Below w.heap.size w w') : Alm l rA rc pA pc w' g b T :=
  ⟨h.at_.call hb, (h.rules.below hb).more hb.size, (h.places.below hb).more hb.size, h.memo.below hb, h.gT, h.rT, h.pT⟩
theorem reads_besideI {P : Program} {k : TypeId} {n : Nat} {f : Mi.Fn} {B size m : Nat} {A : Option Addr} {xs : List Value} (hr : Reads w B size A m xs) (h : MapI P k w b n f) (hg : w.grownBy w' (some b)) : Reads w' B size A m xs :=
  ⟨hr.1, fun hn => by
    obtain ⟨ad, e, hb, hc⟩ := hr.2 hn
    exact ⟨ad, e, hb, fun j u hu => h.keeps hg (hc j u hu)⟩⟩
theorem at_ne_mapI {P : Program} {k : TypeId} {n : Nat} {f : Mi.Fn} {x : Value} {xs : List Value} (hA : At w g (x :: xs)) (h : MapI P k w b n f) : g ≠ b := by
  intro e
  subst e
  obtain ⟨o, ho, hc⟩ := h.not_cells
  obtain ⟨o', ho', hc'⟩ := cells_of_cell (hA.cell 0 x rfl)
  rw [show (⟨g, 0, none⟩ : Addr).block = g from rfl, ho] at ho'
  cases ho'
  rw [hc] at hc'
  cases hc'
theorem Memo.reads {B size m : Nat} {A : Option Addr} {xs : List Value} (h : Memo l w b T) (hr : Reads w B size A m xs) (hg : w.grownBy w' (some b)) : Reads w' B size A m xs := by
  obtain ⟨n, f, ks, h1, _⟩ := h
  exact reads_besideI hr h1 hg
theorem Memo.at_ {g : Nat} {x : Value} {xs : List Value} (h : Memo l w b T) (hA : At w g (x :: xs)) (hg : w.grownBy w' (some b)) : At w' g (x :: xs) := by
  obtain ⟨n, f, ks, h1, _⟩ := h
  exact Lk.at_kept hA hg (fun e => at_ne_mapI hA h1 (by injection e))
theorem Memo.lt (h : Memo l w b T) : b < w.heap.size := by
  obtain ⟨n, f, ks, h1, _⟩ := h
  exact h1.lt
theorem Alm.grown (h : Alm l rA rc pA pc w g b T) (hg : w.grownBy w' (some b)) (hm : Memo l w' b T) : Alm l rA rc pA pc w' g b T :=
  ⟨h.memo.at_ h.at_ hg, (h.memo.reads h.rules hg).more hg.size, (h.memo.reads h.places hg).more hg.size, hm, h.gT, h.rT, h.pT⟩
theorem Memo.cell {p : Addr} {v : Value} (h : Memo l w b T) (hc : w.cell? p = some v) (hg : w.grownBy w' (some b)) : w'.cell? p = some v := by
  obtain ⟨n, f, ks, h1, _⟩ := h
  exact h1.keeps hg hc
theorem Memo.mono (h : Memo l w b T) (ht : ∀ k, T k → T' k) : Memo l w b T' := by
  obtain ⟨n, f, ks, h1, h2, h3, h4, h5⟩ := h
  refine ⟨n, f, ks, h1, h2, h3, h4, fun k v hk => ?_⟩
  obtain ⟨k1, A, c, k2, k3, k4⟩ := h5 k v hk
  exact ⟨k1, A, c, k2, k3, k4.mono ht⟩
theorem Alm.mono (h : Alm l rA rc pA pc w g b T) (ht : ∀ k, T k → T' k) : Alm l rA rc pA pc w g b T' :=
  ⟨h.at_, h.rules, h.places, h.memo.mono ht, ⟨ht _ h.gT.1, ht _ h.gT.2⟩, h.rT.mono ht, h.pT.mono ht⟩
theorem Alm.old (h : Alm l rA rc pA pc w g b T) : Alm l rA rc pA pc w g b (fun k => T k ∧ k < w.heap.size) := by
  refine ⟨h.at_, h.rules, h.places, ?_, ⟨⟨h.gT.1, h.at_.lt⟩, ⟨h.gT.2, h.memo.lt⟩⟩, h.rT.old h.rules, h.pT.old h.places⟩
  obtain ⟨n, f, ks, h1, h2, h3, h4, h5⟩ := h.memo
  refine ⟨n, f, ks, h1, h2, h3, h4, fun k v hk => ?_⟩
  obtain ⟨k1, A, c, k2, k3, k4⟩ := h5 k v hk
  exact ⟨k1, A, c, k2, k3, k4.old k3⟩
theorem Reads.set {B size m : Nat} {A : Option Addr} {xs : List Value} (hr : Reads w B size A m xs) (hp : Pl T A m) {p : Addr} (ht : ¬ T p.block) (v : Value) : Reads (w.setCell p v) B size A m xs :=
  ⟨hr.1, fun hn => by
    obtain ⟨ad, e, hb, hc⟩ := hr.2 hn
    refine ⟨ad, e, hb, fun j u hu => ?_⟩
    rw [World.cell?_setCell_other w p (ad.add j) v (fun e2 => ht (by rw [e2, block_of_add]; exact hp ad e hn))]
    exact hc j u hu⟩
theorem Alm.set (h : Alm l rA rc pA pc w g b T) {p : Addr} (ht : ¬ T p.block) (v : Value) : Alm l rA rc pA pc (w.setCell p v) g b T := by
  have hs : (w.setCell p v).heap.size = w.heap.size := heap_set w p v
  refine ⟨h.at_.set_other p v (fun e => ht (by rw [e]; exact h.gT.1)), ?_, ?_, ?_, h.gT, h.rT, h.pT⟩
  · rw [hs]; exact Oc.Reads.set h.rules h.rT ht v
  · rw [hs]; exact Oc.Reads.set h.places h.pT ht v
  · obtain ⟨n, f, ks, h1, h2, h3, h4, h5⟩ := h.memo
    refine ⟨n, f, ks, h1.setCell (fun e => ht (by rw [← e]; exact h.gT.2)) v, h2, h3, h4, fun k v' hk => ?_⟩
    obtain ⟨k1, A, c, k2, k3, k4⟩ := h5 k v' hk
    exact ⟨k1, A, c, k2, by rw [hs]; exact Oc.Reads.set k3 k4 ht v, k4⟩
end
theorem keys_le {ks : List Int} (h : ks.Nodup) (hb : ∀ k ∈ ks, 0 ≤ k ∧ k ≤ 10000) : ks.length ≤ 10001 := by
  have := Lk.nodup_len ks ((List.range 10001).map fun n : Nat => (n : Int)) h (fun k hk => by
    obtain ⟨h1, h2⟩ := hb k hk
    refine List.mem_map.2 ⟨k.toNat, List.mem_range.2 (by omega), by omega⟩)
  simpa using this
theorem at_results {tmps : Array Value} {w : World} {g : Nat} {e : E} {t : Bool} (h4 : tmps[6]?.getD undef = .pointer (some ⟨g, 0, none⟩)) (h5 : tmps[7]?.getD undef = .bool t) (hA : At w g e.cells) :
    (results Tryz.f51 tmps).run Tryz.prog w = .ok (.tuple #[e.v, .bool t]) w := by
  have c0 := hA.cell 0 _ rfl
  have c1 := hA.cell 1 _ rfl
  have c2 := hA.cell 2 _ rfl
  have c3 := hA.cell 3 _ rfl
  have c4 := hA.cell 4 _ rfl
  have c5 := hA.cell 5 _ rfl
  have c6 := hA.cell 6 _ rfl
  unfold E.v
  simp [results, Tryz.results51, go_sem, h4, h5, c0, c1, c2, c3, c4, c5, c6]
def atS (l : List Ru.R) (p : Nat) (y : Int) : E := if holds (rl l p) y = true then mk (rl l p) p y else E.zero
end Oc
set_option maxHeartbeats 4000000 in
set_option maxRecDepth 100000 in
theorem ocAt_any (l : List Ru.R) (rA pA : Option Addr) (rc pc g b : Nat) (p : Nat) (y : Int) (w : World) {T : Nat → Prop} (hM : Oc.Alm l rA rc pA pc w g b T) (hW : Wo w) (hp : p < l.length) :
    Calls Tryz.prog 51 #[.pointer (some ⟨g, 0, none⟩), .int .i64 (p : Int), .int .i64 y] w fun e w' => e = .returned (.tuple #[(Oc.atS l p y).v, .bool (Oc.holds (Oc.rl l p) y)]) ∧ Below w.heap.size w w' := by
  have a0 := hM.at_.cell 0 _ rfl
  have za := hM.at_.lt
  obtain ⟨ad, x, rfl, hab, Hx, HLc⟩ := Ix.reads_cells (enc := Ru.R.cells) (m := 11) (fun _ => rfl) rfl hM.rules hp
  have hr : Oc.rl l p = x := Oc.rl_at Hx.out
  unfold Oc.atS
  rw [hr]
  clear hr Hx hM
  obtain ⟨nm, fr, tt, mo, kk, nn, d, sc, cc, sv, lt⟩ := x
  replace HLc := HLc.out
  have x0 : w.cell? (ad.add (p * 11)) = some (.string nm) := HLc 0 _ rfl
  have x1 : w.cell? ⟨(ad.add (p * 11)).block, (ad.add (p * 11)).off + 1, none⟩ = some (.int .i64 fr) := HLc 1 _ rfl
  have x2 : w.cell? ⟨(ad.add (p * 11)).block, (ad.add (p * 11)).off + 2, none⟩ = some (.int .i64 tt) := HLc 2 _ rfl
  have x3 : w.cell? ⟨(ad.add (p * 11)).block, (ad.add (p * 11)).off + 3, none⟩ = some (.int .i64 mo) := HLc 3 _ rfl
  have x4 : w.cell? ⟨(ad.add (p * 11)).block, (ad.add (p * 11)).off + 4, none⟩ = some (.int .u8 kk) := HLc 4 _ rfl
  have x5 : w.cell? ⟨(ad.add (p * 11)).block, (ad.add (p * 11)).off + 5, none⟩ = some (.int .i64 nn) := HLc 5 _ rfl
  have x6 : w.cell? ⟨(ad.add (p * 11)).block, (ad.add (p * 11)).off + 6, none⟩ = some (.int .i64 d) := HLc 6 _ rfl
  have x7 : w.cell? ⟨(ad.add (p * 11)).block, (ad.add (p * 11)).off + 7, none⟩ = some (.int .i64 sc) := HLc 7 _ rfl
  have x8 : w.cell? ⟨(ad.add (p * 11)).block, (ad.add (p * 11)).off + 8, none⟩ = some (.int .u8 cc) := HLc 8 _ rfl
  have x9 : w.cell? ⟨(ad.add (p * 11)).block, (ad.add (p * 11)).off + 9, none⟩ = some (.int .i64 sv) := HLc 9 _ rfl
  have x10 : w.cell? ⟨(ad.add (p * 11)).block, (ad.add (p * 11)).off + 10, none⟩ = some (.string lt) := HLc 10 _ rfl
  have hab2 : (ad.add (p * 11)).block < w.heap.size := by rw [block_of_add]; exact hab
  have q1 : (0 : Int) ≤ (p : Int) := by omega
  have q2 : (p : Int) < (l.length : Int) := by omega
  obtain ⟨n1, hn1⟩ : ∃ n, l.length = n := ⟨_, rfl⟩
  rw [hn1] at a0 q2
  have hNm := Lib.hid fun W hw => nominal_any y mo kk nn d sc cc W hw
  obtain ⟨t1, t2, hnm⟩ : ∃ a b, Mo.nom kk nn d y mo sc cc = (a, b) := ⟨_, _, rfl⟩
  have hh : Oc.holds ⟨nm, fr, tt, mo, kk, nn, d, sc, cc, sv, lt⟩ y = (decide (fr ≤ y) && (decide (y ≤ tt) && decide (t2 = 0))) := by
    unfold Oc.holds Oc.nomOf
    simp only [hnm]
  have hmk : Oc.mk ⟨nm, fr, tt, mo, kk, nn, d, sc, cc, sv, lt⟩ p y = ⟨t1, cc, sv, 0, lt, p, y⟩ := by
    unfold Oc.mk Oc.nomOf
    simp only [hnm]
  rw [hh, hmk]
  rw [hnm] at hNm
  have HW := Lib.hid hW
  obtain ⟨W2, hW2⟩ : ∃ W, (w.alloc (.cells #[.int .i64 0, .int .u8 0, .int .i64 0, .int .i64 0, .string ⟨#[]⟩, .int .i64 0, .int .i64 0] 130)).alloc (.cells #[.string nm, .int .i64 fr, .int .i64 tt, .int .i64 mo, .int .u8 kk, .int .i64 nn, .int .i64 d, .int .i64 sc, .int .u8 cc, .int .i64 sv, .string lt] 75) = W := ⟨_, rfl⟩
  have hz := (At.new w #[.int .i64 0, .int .u8 0, .int .i64 0, .int .i64 0, .string ⟨#[]⟩, .int .i64 0, .int .i64 0] 130).allocO (.cells #[.string nm, .int .i64 fr, .int .i64 tt, .int .i64 mo, .int .u8 kk, .int .i64 nn, .int .i64 d, .int .i64 sc, .int .u8 cc, .int .i64 sv, .string lt] 75)
  have hb0 := ((Below.refl w.heap.size w).alloc (Nat.le_refl _) (.cells #[.int .i64 0, .int .u8 0, .int .i64 0, .int .i64 0, .string ⟨#[]⟩, .int .i64 0, .int .i64 0] 130)).alloc (by simp) (.cells #[.string nm, .int .i64 fr, .int .i64 tt, .int .i64 mo, .int .u8 kk, .int .i64 nn, .int .i64 d, .int .i64 sc, .int .u8 cc, .int .i64 sv, .string lt] 75)
  have hRr := At.new (w.alloc (.cells #[.int .i64 0, .int .u8 0, .int .i64 0, .int .i64 0, .string ⟨#[]⟩, .int .i64 0, .int .i64 0] 130)) #[.string nm, .int .i64 fr, .int .i64 tt, .int .i64 mo, .int .u8 kk, .int .i64 nn, .int .i64 d, .int .i64 sc, .int .u8 cc, .int .i64 sv, .string lt] 75
  rw [World.size_alloc] at hRr
  rw [hW2] at hz hb0 hRr
  have HZ := Lib.hid hz
  have HB := Lib.hid hb0
  have HR := Lib.hid hRr
  have HW2 := Lib.hid hW2
  clear hh hmk hnm hW hW2 hz hb0 hRr hn1 HLc
  by_cases h1 : fr ≤ y
  case neg =>
    have p1 : y < fr := by omega
    rw [decide_eq_false h1, Bool.false_and, if_neg (by decide)]
    go_enter Tryz.func51, Tryz.ntmps51
    go_wp2
    rw [HW2.out]
    exact bodyPost_ret (Oc.at_results (e := Oc.E.zero) rfl rfl HZ.out) rfl ⟨rfl, HB.out⟩
  rw [decide_eq_true h1, Bool.true_and]
  by_cases h2 : y ≤ tt
  case neg =>
    have p1 : ¬ y < fr := by omega
    have p2 : tt < y := by omega
    rw [decide_eq_false h2, Bool.false_and, if_neg (by decide)]
    go_enter Tryz.func51, Tryz.ntmps51
    go_wp2
    rw [HW2.out]
    exact bodyPost_ret (Oc.at_results (e := Oc.E.zero) rfl rfl HZ.out) rfl ⟨rfl, HB.out⟩
  rw [decide_eq_true h2, Bool.true_and]
  have p1 : ¬ y < fr := by omega
  have p2 : ¬ tt < y := by omega
  by_cases ht : t2 = 0
  case neg =>
    have b1 : (t2 != 0) = true := by simpa using ht
    have b2 : (t2 == 0) = false := by simpa using ht
    rw [decide_eq_false ht, if_neg (by decide)]
    go_enter Tryz.func51, Tryz.ntmps51
    go_wp2_with fail
    rw [HW2.out]
    refine (hNm.out _ (HW.out.below HB.out)).mono ?_
    rintro e w3 ⟨rfl, hb⟩
    have hz3 := HZ.out.call hb
    have hr3 := HR.out.call hb
    have HB3 := Lib.hid (below_then HB.out hb)
    obtain ⟨⟨z0, z1, z2, z3, z4, z5, z6⟩, f0, f1, f2, f3, f4, f5, f6⟩ := hz3.seven
    have r5 := hr3.cell 7 _ rfl
    have r6 := hr3.cell 8 _ rfl
    have r7 := hr3.cell 9 _ rfl
    have r8 := hr3.cell 10 _ rfl
    have y1 := hz3.lt
    have y2 := hr3.lt
    have HZ3 := Lib.hid hz3
    clear hb hz3 hr3
    go_wp2
    have hz3 := HZ3.out
    exact bodyPost_ret (Oc.at_results (e := Oc.E.zero) rfl rfl (((((((hz3.set 0 (.int .i64 0)).set 1 (.int .u8 0)).set 2 (.int .i64 0)).set 3 (.int .i64 0)).set 4 (.string ⟨#[]⟩)).set 5 (.int .i64 0)).set 6 (.int .i64 0))) rfl ⟨rfl, (((((((HB3.out.setCell (p := ⟨w.heap.size, 0, none⟩) (Nat.le_refl _) _).setCell (p := ⟨w.heap.size, 1, none⟩) (Nat.le_refl _) _).setCell (p := ⟨w.heap.size, 2, none⟩) (Nat.le_refl _) _).setCell (p := ⟨w.heap.size, 3, none⟩) (Nat.le_refl _) _).setCell (p := ⟨w.heap.size, 4, none⟩) (Nat.le_refl _) _).setCell (p := ⟨w.heap.size, 5, none⟩) (Nat.le_refl _) _).setCell (p := ⟨w.heap.size, 6, none⟩) (Nat.le_refl _) _)⟩
  subst ht
  rw [decide_eq_true rfl, if_pos rfl]
  go_enter Tryz.func51, Tryz.ntmps51
  go_wp2_with fail
  rw [HW2.out]
  refine (hNm.out _ (HW.out.below HB.out)).mono ?_
  rintro e w3 ⟨rfl, hb⟩
  have hz3 := HZ.out.call hb
  have hr3 := HR.out.call hb
  have HB3 := Lib.hid (below_then HB.out hb)
  obtain ⟨⟨z0, z1, z2, z3, z4, z5, z6⟩, f0, f1, f2, f3, f4, f5, f6⟩ := hz3.seven
  have r5 := hr3.cell 7 _ rfl
  have r6 := hr3.cell 8 _ rfl
  have r7 := hr3.cell 9 _ rfl
  have r8 := hr3.cell 10 _ rfl
  have y1 := hz3.lt
  have y2 := hr3.lt
  have HZ3 := Lib.hid hz3
  clear hb hz3 hr3
  go_wp2
  have hz3 := HZ3.out
  have hb3 : Below w.heap.size w (((((((w3.setCell ⟨w.heap.size, 0, none⟩ (.int .i64 t1)).setCell ⟨w.heap.size, 1, none⟩ (.int .u8 cc)).setCell ⟨w.heap.size, 2, none⟩ (.int .i64 sv)).setCell ⟨w.heap.size, 3, none⟩ (.int .i64 0)).setCell ⟨w.heap.size, 4, none⟩ (.string lt)).setCell ⟨w.heap.size, 5, none⟩ (.int .i64 (p : Int))).setCell ⟨w.heap.size, 6, none⟩ (.int .i64 y)) := (((((((HB3.out.setCell (p := ⟨w.heap.size, 0, none⟩) (Nat.le_refl _) _).setCell (p := ⟨w.heap.size, 1, none⟩) (Nat.le_refl _) _).setCell (p := ⟨w.heap.size, 2, none⟩) (Nat.le_refl _) _).setCell (p := ⟨w.heap.size, 3, none⟩) (Nat.le_refl _) _).setCell (p := ⟨w.heap.size, 4, none⟩) (Nat.le_refl _) _).setCell (p := ⟨w.heap.size, 5, none⟩) (Nat.le_refl _) _).setCell (p := ⟨w.heap.size, 6, none⟩) (Nat.le_refl _) _)
  exact bodyPost_ret (Oc.at_results (e := ⟨t1, cc, sv, 0, lt, p, y⟩) rfl rfl ((((((((hz3.set 0 (.int .i64 t1)).set 1 (.int .u8 cc)).set 2 (.int .i64 sv)).set 3 (.int .i64 0)).set 4 (.string lt)).set 5 (.int .i64 (p : Int))).set 6 (.int .i64 y)).allocO _)) rfl ⟨rfl, hb3.alloc hb3.size _⟩
end Go.Proofs.YtolgigaolffenaaGreatDoor
