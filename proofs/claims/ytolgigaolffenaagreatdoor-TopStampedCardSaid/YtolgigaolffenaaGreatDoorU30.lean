/- The contracts of the reference's Num, two, Text. -/
import Derived.Test.YtolgigaolffenaaGreatDoorU29
import Derived.Test.YtolgigaolffenaaGreatDoorU04
import Derived.Lib.ItoaLen
import Derived.Test.YtolgigaolffenaaGreatDoorU10
import Derived.Test.YtolgigaolffenaaGreatDoorU24

namespace Go.Proofs.YtolgigaolffenaaGreatDoor
open Go.RowKit

def mk (l : List UInt8) : ByteArray := ⟨l.toArray⟩
theorem mk_size (l : List UInt8) : (mk l).size = l.length := by simp [mk, ByteArray.size]
theorem mk_app (a b : List UInt8) : mk a ++ mk b = mk (a ++ b) := by
  apply ByteArray.ext
  simp [mk, ByteArray.data_append]
theorem dig_mk (n : Int) : Ck.dig n = mk [UInt8.ofNat (48 + n.toNat)] := rfl
theorem itoa_lo (n : Int) (h0 : 0 ≤ n) (h1 : n < 10) : Lib.itoa n = [UInt8.ofNat (48 + n.toNat)] := by
  unfold Lib.itoa
  rw [if_neg (by omega)]
  unfold Lib.decDigits
  rw [dif_pos (by omega)]
theorem itoa_step (n : Int) (h0 : 10 ≤ n) : Lib.itoa n = Lib.itoa (n / 10) ++ [UInt8.ofNat (48 + (n % 10).toNat)] := by
  unfold Lib.itoa
  rw [if_neg (by omega), if_neg (by omega)]
  rw [Lib.decDigits, dif_neg (by omega)]
  rw [show n.toNat / 10 = (n / 10).toNat by omega, show n.toNat % 10 = (n % 10).toNat by omega]
theorem num_any : ∀ (k : Nat) (n : Int) (w : World), n.toNat = k → 0 ≤ n → n < 100000 →
    Calls Tryz.prog 155 #[.int .i64 n] w fun e w' => e = .returned (.string (mk (Lib.itoa n))) ∧ Below w.heap.size w w' := by
  intro k
  induction k using Nat.strongRecOn with
  | _ k ih =>
    intro n w hk h0 h1
    by_cases hn : n < 10
    · exact calls_str (num_lo n w h0 hn) (by rw [itoa_lo n h0 hn]; rfl)
    · have hl := Lib.itoa_length_le (n / 10) (by omega) (by omega)
      refine calls_str (num_step n (mk (Lib.itoa (n / 10))) w (by omega) h1 (by rw [mk_size]; omega) (fun W => ih (n / 10).toNat (by omega) (n / 10) W rfl (by omega) (by omega))) ?_
      rw [dig_mk, mk_app, itoa_step n (by omega)]

theorem convL (w : World) (g : Nat) (l : List UInt8) (c : Nat) (hc : ∀ j (hj : j < l.length), w.cell? ⟨g, j, none⟩ = some (.int .u8 (l[j].toNat : Int))) :
    Sem.run Tryz.prog (convert 275 9 (.slice (some ⟨g, 0, none⟩) l.length c)) w = .ok (.string (mk l)) w := by
  refine run_convert_bytes_back (P := Tryz.prog) w 275 9 5 ⟨g, 0, none⟩ c l Tryz.underlying275 Tryz.underlying5 Tryz.underlying9 ?_
  intro j hj
  have e : (⟨g, 0, none⟩ : Addr).add j = ⟨g, j, none⟩ := by
    unfold Addr.add
    split
    · subst_vars; rfl
    · simp
  rw [e, hc j hj]
theorem conv2_new (w : World) (n : Int) (h0 : 0 ≤ n) (h1 : n < 100) :
    Sem.run Tryz.prog (convert 275 9 (.slice (some ⟨w.heap.size, 0, none⟩) 2 2)) (w.alloc (.cells #[.int .u8 (48 + n / 10), .int .u8 (48 + n % 10)] 5)) = .ok (.string (mk (Ck.dig2 n))) (w.alloc (.cells #[.int .u8 (48 + n / 10), .int .u8 (48 + n % 10)] 5)) := by
  refine convL _ _ (Ck.dig2 n) 2 ?_
  intro j hj
  rw [cell_of_row _ w.heap.size j _ _ _ (heap_alloc_new w _)]
  obtain ⟨k, rfl⟩ : ∃ k : Nat, n = (k : Int) := ⟨n.toNat, by omega⟩
  have a1 : (48 + k / 10) % 256 = 48 + k / 10 := by omega
  have a2 : (48 + k % 10) % 256 = 48 + k % 10 := by omega
  have hj' : j < 2 := hj
  have : j = 0 ∨ j = 1 := by omega
  rcases this with rfl | rfl
  · simp [Ck.dig2, UInt8.toNat_ofNat, a1]
  · simp [Ck.dig2, UInt8.toNat_ofNat, a2]

set_option maxRecDepth 100000 in
theorem refTwo_any (n : Int) (w : World) (h0 : 0 ≤ n) (h1 : n < 100) :
    Calls Tryz.prog 156 #[.int .i64 n] w fun e w' => e = .returned (.string (mk (Ck.dig2 n))) ∧ Below w.heap.size w w' := by
  have hc := conv2_new w n h0 h1
  go_enter Tryz.func156, Tryz.ntmps156
  go_wp2
  go_ret
  exact ⟨rfl, (Below.refl _ _).alloc (Nat.le_refl _) _⟩
end Go.Proofs.YtolgigaolffenaaGreatDoor

/- The contract of the reference's Text of a time. -/
namespace Go.Proofs.YtolgigaolffenaaGreatDoor
open Go.RowKit

theorem add_mk (a b : List UInt8) (h : a.length + b.length ≤ 1000000) (W : World) : (Op.stringOp .add (mk a) (mk b)).run Tryz.prog W = .ok (.string (mk (a ++ b))) W := by
  rw [← mk_app]
  exact run_string_add_sum W _ _ (by rw [mk_size, mk_size]; omega)
theorem itoa_sz (n : Int) (h0 : 0 ≤ n) (h1 : n < 100000) : (Lib.itoa n).length ≤ 21 := Lib.itoa_length_le n (by omega) (by omega)
set_option maxRecDepth 100000 in
theorem refText_pos (a : Int) (w : World) (h0 : 0 ≤ a) (h1 : a ≤ 604800) :
    Calls Tryz.prog 120 #[.int .i64 a] w fun e w' => e = .returned (.string (mk (Ck.body a))) ∧ Below w.heap.size w w' := by
  have HT := Lib.hid fun W => calls_bool (refTime_any a W) (decide_eq_true (show IsTime a from ⟨by omega, h1⟩))
  have hN := fun W => num_any _ (a / 3600) W rfl (by omega) (by omega)
  have hD := fun W => refTwo_any (a / 60 % 60) W (by omega) (by omega)
  have hE := fun W => refTwo_any (a % 60) W (by omega) (by omega)
  have hl := itoa_sz (a / 3600) (by omega) (by omega)
  have hbody : Ck.body a = Lib.itoa (a / 3600) ++ [58] ++ Ck.dig2 (a / 60 % 60) ++ (if 0 < a % 60 then [58] ++ Ck.dig2 (a % 60) else []) := by
    unfold Ck.body
    rw [Ck.two_dig, Ck.two_dig, show a % 3600 / 60 = a / 60 % 60 by omega, show a % 3600 % 60 = a % 60 by omega]
    simp
  obtain ⟨N, hN'⟩ : ∃ N, Lib.itoa (a / 3600) = N := ⟨_, rfl⟩
  obtain ⟨D, hD'⟩ : ∃ D, Ck.dig2 (a / 60 % 60) = D := ⟨_, rfl⟩
  obtain ⟨E, hE'⟩ : ∃ E, Ck.dig2 (a % 60) = E := ⟨_, rfl⟩
  have lD : D.length = 2 := by rw [← hD']; rfl
  have lE : E.length = 2 := by rw [← hE']; rfl
  rw [hN'] at hl
  rw [hN', hD', hE'] at hbody
  simp only [hN'] at hN
  simp only [hD'] at hD
  simp only [hE'] at hE
  have HN := Lib.hid hN
  have HD := Lib.hid hD
  have HE := Lib.hid hE
  have HB := Lib.hid hbody
  have s1 : ∀ W, (Op.stringOp .add (mk N) { data := #[58] }).run Tryz.prog W = .ok (.string (mk (N ++ [58]))) W := fun W => add_mk N [58] (by simp; omega) W
  have s2 : ∀ W, (Op.stringOp .add (mk (N ++ [58])) (mk D)).run Tryz.prog W = .ok (.string (mk (N ++ [58] ++ D))) W := fun W => add_mk (N ++ [58]) D (by simp; omega) W
  have s3 : ∀ W, (Op.stringOp .add { data := #[58] } (mk E)).run Tryz.prog W = .ok (.string (mk ([58] ++ E))) W := fun W => add_mk [58] E (by simp; omega) W
  have s4 : ∀ W, (Op.stringOp .add (mk (N ++ [58] ++ D)) (mk ([58] ++ E))).run Tryz.prog W = .ok (.string (mk (N ++ [58] ++ D ++ ([58] ++ E)))) W := fun W => add_mk _ _ (by simp; omega) W
  obtain ⟨X1, hX1⟩ : ∃ X, mk (N ++ [58]) = X := ⟨_, rfl⟩
  obtain ⟨X2, hX2⟩ : ∃ X, mk (N ++ [58] ++ D) = X := ⟨_, rfl⟩
  obtain ⟨X3, hX3⟩ : ∃ X, mk ([58] ++ E) = X := ⟨_, rfl⟩
  obtain ⟨X4, hX4⟩ : ∃ X, mk (N ++ [58] ++ D ++ ([58] ++ E)) = X := ⟨_, rfl⟩
  rw [hX1] at s1 s2
  rw [hX2] at s2 s4
  rw [hX3] at s3 s4
  rw [hX4] at s4
  have H2 := Lib.hid hX2
  have H4 := Lib.hid hX4
  clear hN hD hE hbody hN' hD' hE' lD lE hX1 hX2 hX3 hX4
  by_cases hs : 0 < a % 60
  · have HX : Hid (mk (Ck.body a) = X4) := by show mk (Ck.body a) = _; rw [HB.out, if_pos hs, H4.out]
    go_enter Tryz.func120, Tryz.ntmps120
    go_wp2_with fail
    refine (HT.out _).mono ?_
    rintro e w1 ⟨rfl, rfl⟩
    go_wp2_with fail
    refine (HN.out _).mono ?_
    rintro e w2 ⟨rfl, hb2⟩
    go_wp2_with fail
    refine (HD.out _).mono ?_
    rintro e w3 ⟨rfl, hb3⟩
    go_wp2_with fail
    refine (HE.out _).mono ?_
    rintro e w4 ⟨rfl, hb4⟩
    go_wp2
    go_ret
    exact ⟨ret_str (by rw [HX.out]), below_then (below_then hb2 hb3) hb4⟩
  · have HX : Hid (mk (Ck.body a) = X2) := by show mk (Ck.body a) = _; rw [HB.out, if_neg hs, List.append_nil, H2.out]
    go_enter Tryz.func120, Tryz.ntmps120
    go_wp2_with fail
    refine (HT.out _).mono ?_
    rintro e w1 ⟨rfl, rfl⟩
    go_wp2_with fail
    refine (HN.out _).mono ?_
    rintro e w2 ⟨rfl, hb2⟩
    go_wp2_with fail
    refine (HD.out _).mono ?_
    rintro e w3 ⟨rfl, hb3⟩
    go_wp2
    go_ret
    exact ⟨ret_str (by rw [HX.out]), below_then hb2 hb3⟩
set_option maxRecDepth 100000 in
theorem refText_any (s : Int) (w : World) :
    Calls Tryz.prog 120 #[.int .i64 s] w fun e w' => e = .returned (.string (mk (Ck.text s))) ∧ Below w.heap.size w w' := by
  by_cases h : IsTime s
  · by_cases hn : s < 0
    · have HT := Lib.hid fun W => calls_bool (refTime_any s W) (decide_eq_true h)
      have HE : Hid (Ck.text s = [45] ++ Ck.body (-s)) := by show Ck.text s = _; unfold Ck.text Ck.sign; rw [if_pos h, if_pos hn, if_pos hn]
      obtain ⟨h1, h2⟩ := h
      have HP := Lib.hid fun W => refText_pos (-s) W (by omega) (by omega)
      have hl : (Ck.body (-s)).length ≤ 1000 := by
        have := itoa_sz (-s / 3600) (by omega) (by omega)
        unfold Ck.body
        split <;> simp [Ck.two] <;> omega
      obtain ⟨B, hB⟩ : ∃ B, Ck.body (-s) = B := ⟨_, rfl⟩
      rw [hB] at HE hl HP
      have s1 : ∀ W, (Op.stringOp .add { data := #[45] } (mk B)).run Tryz.prog W = .ok (.string (mk ([45] ++ B))) W := fun W => add_mk [45] B (by simp; omega) W
      obtain ⟨X1, hX1⟩ : ∃ X, mk ([45] ++ B) = X := ⟨_, rfl⟩
      rw [hX1] at s1
      have H1 := Lib.hid hX1
      clear hB hl hX1
      go_enter Tryz.func120, Tryz.ntmps120
      go_wp2_with fail
      refine (HT.out _).mono ?_
      rintro e w1 ⟨rfl, rfl⟩
      go_wp2_with fail
      refine (HP.out _).mono ?_
      rintro e w2 ⟨rfl, hb2⟩
      go_wp2
      go_ret
      exact ⟨ret_str (by rw [HE.out, H1.out]), hb2⟩
    · have hE : Ck.text s = Ck.body s := by unfold Ck.text Ck.sign; rw [if_pos h, if_neg hn, if_neg hn]; rfl
      rw [hE]
      exact refText_pos s w (by omega) h.2
  · have HT := Lib.hid fun W => calls_bool (refTime_any s W) (decide_eq_false h)
    have HE : Hid (Ck.text s = []) := by show Ck.text s = []; unfold Ck.text; rw [if_neg h]
    clear h
    go_enter Tryz.func120, Tryz.ntmps120
    go_wp2_with fail
    refine (HT.out _).mono ?_
    rintro e w1 ⟨rfl, rfl⟩
    go_wp2
    go_ret
    exact ⟨ret_str (by rw [HE.out]; rfl), Below.refl _ _⟩
end Go.Proofs.YtolgigaolffenaaGreatDoor

/- The contracts of the reference of package moment: Check, Nominal, Instant. -/
namespace Go.Proofs.YtolgigaolffenaaGreatDoor
open Go.RowKit

theorem refMomCheck_ok (s c : Int) (w : World) (h : Mo.Ok s c) :
    Calls Tryz.prog 119 #[.agg #[.int .i64 s, .int .u8 c]] w fun e w' => e = .returned (.int .i64 0) ∧ Below w.heap.size w w' := by
  have hT := fun W => refText_any s W
  have hne : (mk (Ck.text s)).toList.isEmpty = false := text_ne s h.1
  obtain ⟨X, hX⟩ : ∃ X, mk (Ck.text s) = X := ⟨_, rfl⟩
  simp only [hX] at hT hne
  have HT := Lib.hid hT
  obtain ⟨_, h3⟩ := h
  clear hT hX
  go_enter Tryz.func119, Tryz.ntmps119
  go_wp2_with fail
  refine (HT.out _).mono ?_
  rintro e w1 ⟨rfl, hb1⟩
  obtain ⟨c1, f1⟩ := bcell hb1
  have HB := Lib.hid (below_new (hb1.mono (by simp) : Below (w.heap.size + 1) (w.alloc (.cells #[.int .i64 s, .int .u8 c] 49)) w1))
  clear hb1
  go_wp2
  go_ret
  exact ⟨rfl, HB.out⟩
theorem refMomCheck_bad (s c : Int) (w : World) (h : ¬ Mo.Ok s c) :
    Calls Tryz.prog 119 #[.agg #[.int .i64 s, .int .u8 c]] w fun e w' => e = .returned (.int .i64 2) ∧ Below w.heap.size w w' := by
  by_cases ht : IsTime s
  · have h3 : 3 ≤ c := by unfold Mo.Ok at h; have : ¬ c < 3 := fun x => h ⟨ht, x⟩; omega
    have hT := fun W => refText_any s W
    have hne : (mk (Ck.text s)).toList.isEmpty = false := text_ne s ht
    obtain ⟨X, hX⟩ : ∃ X, mk (Ck.text s) = X := ⟨_, rfl⟩
    simp only [hX] at hT hne
    have HT := Lib.hid hT
    clear hT hX h ht
    go_enter Tryz.func119, Tryz.ntmps119
    go_wp2_with fail
    refine (HT.out _).mono ?_
    rintro e w1 ⟨rfl, hb1⟩
    obtain ⟨c1, f1⟩ := bcell hb1
    have HB := Lib.hid (below_new (hb1.mono (by simp) : Below (w.heap.size + 1) (w.alloc (.cells #[.int .i64 s, .int .u8 c] 49)) w1))
    clear hb1
    go_wp2
    go_ret
    exact ⟨rfl, HB.out⟩
  · have HT := Lib.hid fun W => calls_str (refText_any s W) (show _ = (⟨#[]⟩ : ByteArray) by unfold Ck.text; rw [if_neg ht]; rfl)
    clear h ht
    go_enter Tryz.func119, Tryz.ntmps119
    go_wp2_with fail
    refine (HT.out _).mono ?_
    rintro e w1 ⟨rfl, hb1⟩
    have HB := Lib.hid (below_new (hb1.mono (by simp) : Below (w.heap.size + 1) (w.alloc (.cells #[.int .i64 s, .int .u8 c] 49)) w1))
    clear hb1
    go_wp2
    go_ret
    exact ⟨rfl, HB.out⟩

end Go.Proofs.YtolgigaolffenaaGreatDoor

/- solsticelaw11.Small: 0, or 1 and the source is small. -/
namespace Go.Proofs.YtolgigaolffenaaGreatDoor
open Go.RowKit

namespace Src
def SmE (e : Er.E) : Prop := e.ru.size ≤ 1000 ∧ e.fm.size ≤ 1000
def SmZ (z : Txt × List Er.E) : Prop := z.2.length ≤ 12 ∧ z.1.length ≤ 1000 ∧ ∀ e ∈ z.2, SmE e
def SmR (r : Ru.R) : Prop := r.nm.size ≤ 1000 ∧ r.lt.size ≤ 1000
def SmL (k : Txt × Txt) : Prop := k.1.length ≤ 1000 ∧ k.2.length ≤ 1000
structure Few (s : S) : Prop where
  nr : s.rules.length ≤ 40
  nz : s.zones.length ≤ 12
  nl : s.links.length ≤ 20
  rules : ∀ r ∈ s.rules, SmR r
  zones : ∀ z ∈ s.zones, SmZ z
  links : ∀ k ∈ s.links, SmL k
theorem take_all {α : Type} {P : α → Prop} {l : List α} {k : Nat} {x : α} (h : ∀ a ∈ l.take k, P a) (hx : l[k]? = some x) (hp : P x) : ∀ a ∈ l.take (k + 1), P a := by
  rw [List.take_add_one, hx]
  intro a ha
  rcases List.mem_append.1 ha with ha | ha
  · exact h a ha
  · have e : a = x := by simpa using ha
    rw [e]; exact hp
end Src
def SRel {α : Type} (P : α → Prop) (l : List α) (n : Nat) (w0 : World) (i : Value) (wr : World) : Prop :=
  ∃ k : Nat, k ≤ n ∧ i = .int .i64 k ∧ Hid (∀ a ∈ l.take k, P a) ∧ Hid (Below w0.heap.size w0 wr)
set_option maxHeartbeats 4000000 in
set_option maxRecDepth 100000 in
theorem few_any (s : Src.S) (rv zv lv : Value) (evs : List Value) (w : World) (hR : Src.SrcR w w.heap.size s rv zv lv evs) (hw : Src.Wide s) :
    Calls Tryz.prog 41 #[.agg #[rv, zv, lv]] w fun e w' => (e = .returned (.int .i64 0) ∨ (e = .returned (.int .i64 1) ∧ Src.Few s)) ∧ Below w.heap.size w w' := by
  have hwr := hw.rules
  have hwz := hw.zones
  have hwl := hw.links
  clear hw
  obtain ⟨rules, zones, links, op⟩ := s
  obtain ⟨⟨rA, rc, rfl, hr1, hr2, hr3⟩, ⟨zA, zc, rfl, hz1, hz2, hz3⟩, ⟨lA, lc, rfl, hl1, hl2, hl3⟩, hlen, hers⟩ := hR
  simp only at hr1 hr3 hz1 hz3 hl1 hl3 hlen hers hwr hwz hwl ⊢
  obtain ⟨nr, hnr⟩ : ∃ n, rules.length = n := ⟨_, rfl⟩
  obtain ⟨nz, hnz⟩ : ∃ n, zones.length = n := ⟨_, rfl⟩
  obtain ⟨nl, hnl⟩ : ∃ n, links.length = n := ⟨_, rfl⟩
  have hzl : (zones.zip evs).length = nz := by rw [List.length_zip, hlen, hnz]; omega
  rw [hnr] at hr1 hr3 ⊢
  rw [hnz] at hz1 hz3 ⊢
  rw [hnl] at hl1 hl3 ⊢
  unfold maxLen at hr2 hz2 hl2
  have HNr := Lib.hid hnr
  have HNz := Lib.hid hnz
  have HNl := Lib.hid hnl
  have HZl := Lib.hid hzl
  have HRr := Lib.hid hr3
  have HRz := Lib.hid hz3
  have HRl := Lib.hid hl3
  have HEr := Lib.hid hers
  have HWr := Lib.hid hwr
  have HWz := Lib.hid hwz
  have HWl := Lib.hid hwl
  have HB0 := Lib.hid ((Below.refl w.heap.size w).alloc (Nat.le_refl _) (.cells #[.slice rA nr rc, .slice zA nz zc, .slice lA nl lc] 26))
  have HA0 := Lib.hid (At.new w #[.slice rA nr rc, .slice zA nz zc, .slice lA nl lc] 26)
  obtain ⟨w0, hw0⟩ : ∃ x, w.alloc (.cells #[.slice rA nr rc, .slice zA nz zc, .slice lA nl lc] 26) = x := ⟨_, rfl⟩
  obtain ⟨h, hh⟩ : ∃ h, w.heap.size = h := ⟨_, rfl⟩
  rw [hw0] at HB0 HA0
  have HH := Lib.hid hh
  clear hnr hnz hnl hzl hr3 hz3 hl3 hers hwr hwz hwl hlen
  obtain ⟨c0, c1, c2, _⟩ := (show At w0 h [.slice rA nr rc, .slice zA nz zc, .slice lA nl lc] by rw [← hh]; exact HA0.out).three
  rw [hh] at HA0
  go_enter Tryz.func41, Tryz.ntmps41
  by_cases q1 : (40 : Int) < (nr : Int)
  · go_wp2
    go_ret
    exact ⟨.inl rfl, by first | exact HB0.out | (rw [← hh]; exact HB0.out)⟩
  by_cases q2 : (12 : Int) < (nz : Int)
  · go_wp2
    go_ret
    exact ⟨.inl rfl, by first | exact HB0.out | (rw [← hh]; exact HB0.out)⟩
  by_cases q5 : (20 : Int) < (nl : Int)
  · go_wp2
    go_ret
    exact ⟨.inl rfl, by first | exact HB0.out | (rw [← hh]; exact HB0.out)⟩
  go_wp2
  clear c0 c1 c2
  go_loopw [30] (fun i wr => SRel Src.SmZ zones nz w0 i wr) (fun i _ => nz - (intOf i).toNat)
  case atStart => exact ⟨0, Nat.zero_le _, rfl, (fun a ha => by simp at ha), Below.refl _ _⟩
  case round =>
    obtain ⟨k, hk, rfl, HPk, HB⟩ := hrel
    have HBr := Lib.hid (HB0.out.trans (HB.out.mono HB0.out.size))
    by_cases hlt : k < nz
    · have q3 : (0 : Int) ≤ (k : Int) := by omega
      have q4 : (k : Int) < (nz : Int) := by omega
      obtain ⟨ad, x, rfl, hab, Hx, HL0⟩ := Ix.reads_cells (enc := Src.zc) (m := 2) (fun _ => rfl) HZl.out (HRz.out.below HBr.out) hlt
      obtain ⟨z, ev⟩ := x
      have hxz : zones[k]? = some z := (List.getElem?_zip_eq_some.1 Hx.out).1
      have hwx := HWz.out z (List.mem_of_getElem? hxz)
      obtain ⟨eA, ec, he, hne, hem, hre⟩ := HEr.out (z, ev) (List.mem_of_getElem? Hx.out)
      simp only at he hne hre
      subst he
      obtain ⟨en0, hen⟩ : ∃ n, z.2.length = n := ⟨_, rfl⟩
      obtain ⟨xn, hxn⟩ : ∃ y, Src.bts z.1 = y := ⟨_, rfl⟩
      have hzn : xn.size = z.1.length := by rw [← hxn]; rfl
      have hs1 : xn.size ≤ maxLen := by rw [hzn]; exact hwx.1
      unfold maxLen at hs1 hem
      rw [hen] at hne hre
      have x0 : wr.cell? (ad.add (k * 2)) = some (.string xn) := by rw [← hxn]; exact HL0.out 0 _ rfl
      have x1 : wr.cell? ⟨(ad.add (k * 2)).block, (ad.add (k * 2)).off + 1, none⟩ = some (.slice eA en0 ec) := by rw [← hen]; exact HL0.out 1 _ rfl
      have HXz := Lib.hid hxz
      have HZn := Lib.hid hzn
      have HEn := Lib.hid hen
      have HRe := Lib.hid hre
      have HWe := Lib.hid hwx.2
      obtain ⟨g, hg⟩ : ∃ g, wr.heap.size = g := ⟨_, rfl⟩
      obtain ⟨w3, hw3⟩ : ∃ x, wr.alloc (.cells #[.string xn, .slice eA en0 ec] 56) = x := ⟨_, rfl⟩
      have HT := Lib.hid (show At w3 g [.string xn, .slice eA en0 ec] by rw [← hw3, ← hg]; exact At.new wr #[.string xn, .slice eA en0 ec] 56)
      have HBa := Lib.hid (show Below w0.heap.size w0 w3 by rw [← hw3]; exact HB.out.alloc HB.out.size _)
      replace HBr := Lib.hid (show Below w.heap.size w w3 by rw [← hw3]; exact HBr.out.alloc HBr.out.size _)
      obtain ⟨t0, t1, _⟩ := HT.out.two
      clear hwx hxn hxz hzn hre hen
      by_cases p1 : (12 : Int) < (en0 : Int)
      · go_wp2
        go_ret
        exact ⟨.inl rfl, by first | exact HBr.out | (rw [← hh]; exact HBr.out)⟩
      by_cases p2 : (1000 : Int) < (xn.size : Int)
      · go_wp2
        go_ret
        exact ⟨.inl rfl, by first | exact HBr.out | (rw [← hh]; exact HBr.out)⟩
      go_wp2
      clear t0 t1 x0 x1
      go_loopw [47] (fun i wr => SRel Src.SmE z.2 en0 w0 i wr) (fun i _ => en0 - (intOf i).toNat)
      case atStart => exact ⟨0, Nat.zero_le _, rfl, (fun a ha => by simp at ha), HBa.out⟩
      case round =>
        obtain ⟨j, hk, rfl, HPj, HB⟩ := hrel
        have HBr := Lib.hid (HB0.out.trans (HB.out.mono HB0.out.size))
        by_cases hlt : j < en0
        · have q3 : (0 : Int) ≤ (j : Int) := by omega
          have q4 : (j : Int) < (en0 : Int) := by omega
          obtain ⟨ad2, x, rfl, hab2, Hx2, HL2⟩ := Ix.reads_cells (enc := Er.E.cells) (m := 13) (fun _ => rfl) HEn.out (HRe.out.below HBr.out) hlt
          have hwx := HWe.out x (List.mem_of_getElem? Hx2.out)
          obtain ⟨std, ek, esv, ru, fm, en, ⟨y, m, dk, dn, dd, sc, cc⟩⟩ := x
          have hs1 : ru.size ≤ maxLen := hwx.2.1
          have hs2 : fm.size ≤ maxLen := hwx.2.2
          unfold maxLen at hs1 hs2
          have yy0 : wr.cell? (ad2.add (j * 13)) = some (.int .i64 std) := HL2.out 0 _ rfl
          have yy1 : wr.cell? ⟨(ad2.add (j * 13)).block, (ad2.add (j * 13)).off + 1, none⟩ = some (.int .u8 ek) := HL2.out 1 _ rfl
          have yy2 : wr.cell? ⟨(ad2.add (j * 13)).block, (ad2.add (j * 13)).off + 2, none⟩ = some (.int .i64 esv) := HL2.out 2 _ rfl
          have yy3 : wr.cell? ⟨(ad2.add (j * 13)).block, (ad2.add (j * 13)).off + 3, none⟩ = some (.string ru) := HL2.out 3 _ rfl
          have yy4 : wr.cell? ⟨(ad2.add (j * 13)).block, (ad2.add (j * 13)).off + 4, none⟩ = some (.string fm) := HL2.out 4 _ rfl
          have yy5 : wr.cell? ⟨(ad2.add (j * 13)).block, (ad2.add (j * 13)).off + 5, none⟩ = some (.bool en) := HL2.out 5 _ rfl
          have yy6 : wr.cell? ⟨(ad2.add (j * 13)).block, (ad2.add (j * 13)).off + 6, none⟩ = some (.int .i64 y) := HL2.out 6 _ rfl
          have yy7 : wr.cell? ⟨(ad2.add (j * 13)).block, (ad2.add (j * 13)).off + 7, none⟩ = some (.int .i64 m) := HL2.out 7 _ rfl
          have yy8 : wr.cell? ⟨(ad2.add (j * 13)).block, (ad2.add (j * 13)).off + 8, none⟩ = some (.int .u8 dk) := HL2.out 8 _ rfl
          have yy9 : wr.cell? ⟨(ad2.add (j * 13)).block, (ad2.add (j * 13)).off + 9, none⟩ = some (.int .i64 dn) := HL2.out 9 _ rfl
          have yy10 : wr.cell? ⟨(ad2.add (j * 13)).block, (ad2.add (j * 13)).off + 10, none⟩ = some (.int .i64 dd) := HL2.out 10 _ rfl
          have yy11 : wr.cell? ⟨(ad2.add (j * 13)).block, (ad2.add (j * 13)).off + 11, none⟩ = some (.int .i64 sc) := HL2.out 11 _ rfl
          have yy12 : wr.cell? ⟨(ad2.add (j * 13)).block, (ad2.add (j * 13)).off + 12, none⟩ = some (.int .u8 cc) := HL2.out 12 _ rfl
          have HBa := Lib.hid (HB.out.alloc HB.out.size (.cells #[.int .i64 std, .int .u8 ek, .int .i64 esv, .string ru, .string fm, .bool en, .int .i64 y, .int .i64 m, .int .u8 dk, .int .i64 dn, .int .i64 dd, .int .i64 sc, .int .u8 cc] 53))
          replace HBr := Lib.hid (HBr.out.alloc HBr.out.size (.cells #[.int .i64 std, .int .u8 ek, .int .i64 esv, .string ru, .string fm, .bool en, .int .i64 y, .int .i64 m, .int .u8 dk, .int .i64 dn, .int .i64 dd, .int .i64 sc, .int .u8 cc] 53))
          clear hwx
          by_cases p3 : (1000 : Int) < (ru.size : Int)
          · go_wp2
            go_ret
            exact ⟨.inl rfl, by first | exact HBr.out | (rw [← hh]; exact HBr.out)⟩
          by_cases p4 : (1000 : Int) < (fm.size : Int)
          · go_wp2
            go_ret
            exact ⟨.inl rfl, by first | exact HBr.out | (rw [← hh]; exact HBr.out)⟩
          have HP2 := Lib.hid (Src.take_all HPj.out Hx2.out (show Src.SmE ⟨std, ek, esv, ru, fm, en, ⟨y, m, dk, dn, dd, sc, cc⟩⟩ from ⟨by show ru.size ≤ 1000; omega, by show fm.size ≤ 1000; omega⟩))
          go_wp2
          go_roundw
          case rel => exact ⟨j + 1, by omega, by go_num, HP2.out, HBa.out⟩
          case measure => simp [intOf]; omega
        · have q4 : ¬ (j : Int) < (en0 : Int) := by omega
          have hkn : en0 = j := by omega
          subst hkn
          have hall := HPj.out
          rw [List.take_of_length_le (by rw [HEn.out]; exact Nat.le_refl _)] at hall
          have HP2 := Lib.hid (Src.take_all HPk.out HXz.out (show Src.SmZ z from ⟨by rw [HEn.out]; omega, by rw [← HZn.out]; omega, hall⟩))
          clear hall
          go_wp2
          go_roundw
          case rel => exact ⟨k + 1, by omega, by go_num, HP2.out, HB.out⟩
          case measure => simp [intOf]; omega
    · have q4 : ¬ (k : Int) < (nz : Int) := by omega
      have hkn : nz = k := by omega
      subst hkn
      have hall := HPk.out
      rw [List.take_of_length_le (by rw [HNz.out]; exact Nat.le_refl _)] at hall
      have HAz := Lib.hid hall
      clear hall
      obtain ⟨c0, c1, c2, _⟩ := (HA0.out.below HB.out HA0.out.lt).three
      go_wp2
      clear c0 c1 c2
      go_loopw [66] (fun i wr => SRel Src.SmR rules nr w0 i wr) (fun i _ => nr - (intOf i).toNat)
      case atStart => exact ⟨0, Nat.zero_le _, rfl, (fun a ha => by simp at ha), HB.out⟩
      case round =>
        obtain ⟨k, hk, rfl, HPk, HB⟩ := hrel
        have HBr := Lib.hid (HB0.out.trans (HB.out.mono HB0.out.size))
        by_cases hlt : k < nr
        · have q3 : (0 : Int) ≤ (k : Int) := by omega
          have q4 : (k : Int) < (nr : Int) := by omega
          obtain ⟨ad, x, rfl, hab, Hx, HL0⟩ := Ix.reads_cells (enc := Ru.R.cells) (m := 11) (fun _ => rfl) HNr.out (HRr.out.below HBr.out) hlt
          have hwx := HWr.out x (List.mem_of_getElem? Hx.out)
          obtain ⟨nm, fr, tt, mo, rk, rn, rd, rs, rc0, sv, lt⟩ := x
          have hs1 : nm.size ≤ maxLen := hwx.2.1
          have hs2 : lt.size ≤ maxLen := hwx.2.2
          unfold maxLen at hs1 hs2
          have x0 : wr.cell? (ad.add (k * 11)) = some (.string nm) := HL0.out 0 _ rfl
          have x1 : wr.cell? ⟨(ad.add (k * 11)).block, (ad.add (k * 11)).off + 1, none⟩ = some (.int .i64 fr) := HL0.out 1 _ rfl
          have x2 : wr.cell? ⟨(ad.add (k * 11)).block, (ad.add (k * 11)).off + 2, none⟩ = some (.int .i64 tt) := HL0.out 2 _ rfl
          have x3 : wr.cell? ⟨(ad.add (k * 11)).block, (ad.add (k * 11)).off + 3, none⟩ = some (.int .i64 mo) := HL0.out 3 _ rfl
          have x4 : wr.cell? ⟨(ad.add (k * 11)).block, (ad.add (k * 11)).off + 4, none⟩ = some (.int .u8 rk) := HL0.out 4 _ rfl
          have x5 : wr.cell? ⟨(ad.add (k * 11)).block, (ad.add (k * 11)).off + 5, none⟩ = some (.int .i64 rn) := HL0.out 5 _ rfl
          have x6 : wr.cell? ⟨(ad.add (k * 11)).block, (ad.add (k * 11)).off + 6, none⟩ = some (.int .i64 rd) := HL0.out 6 _ rfl
          have x7 : wr.cell? ⟨(ad.add (k * 11)).block, (ad.add (k * 11)).off + 7, none⟩ = some (.int .i64 rs) := HL0.out 7 _ rfl
          have x8 : wr.cell? ⟨(ad.add (k * 11)).block, (ad.add (k * 11)).off + 8, none⟩ = some (.int .u8 rc0) := HL0.out 8 _ rfl
          have x9 : wr.cell? ⟨(ad.add (k * 11)).block, (ad.add (k * 11)).off + 9, none⟩ = some (.int .i64 sv) := HL0.out 9 _ rfl
          have x10 : wr.cell? ⟨(ad.add (k * 11)).block, (ad.add (k * 11)).off + 10, none⟩ = some (.string lt) := HL0.out 10 _ rfl
          have HT := Lib.hid (At.new wr #[.string nm, .int .i64 fr, .int .i64 tt, .int .i64 mo, .int .u8 rk, .int .i64 rn, .int .i64 rd, .int .i64 rs, .int .u8 rc0, .int .i64 sv, .string lt] 75)
          have HBa := Lib.hid (HB.out.alloc HB.out.size (.cells #[.string nm, .int .i64 fr, .int .i64 tt, .int .i64 mo, .int .u8 rk, .int .i64 rn, .int .i64 rd, .int .i64 rs, .int .u8 rc0, .int .i64 sv, .string lt] 75))
          replace HBr := Lib.hid (HBr.out.alloc HBr.out.size (.cells #[.string nm, .int .i64 fr, .int .i64 tt, .int .i64 mo, .int .u8 rk, .int .i64 rn, .int .i64 rd, .int .i64 rs, .int .u8 rc0, .int .i64 sv, .string lt] 75))
          clear hwx
          by_cases p1 : (1000 : Int) < (nm.size : Int)
          · go_wp2
            go_ret
            exact ⟨.inl rfl, by first | exact HBr.out | (rw [← hh]; exact HBr.out)⟩
          by_cases p2 : (1000 : Int) < (lt.size : Int)
          · go_wp2
            go_ret
            exact ⟨.inl rfl, by first | exact HBr.out | (rw [← hh]; exact HBr.out)⟩
          have HP2 := Lib.hid (Src.take_all HPk.out Hx.out (show Src.SmR ⟨nm, fr, tt, mo, rk, rn, rd, rs, rc0, sv, lt⟩ from ⟨by show nm.size ≤ 1000; omega, by show lt.size ≤ 1000; omega⟩))
          go_wp2
          go_roundw
          case rel => exact ⟨k + 1, by omega, by go_num, HP2.out, HBa.out⟩
          case measure => simp [intOf]; omega
        · have q4 : ¬ (k : Int) < (nr : Int) := by omega
          have hkn : nr = k := by omega
          subst hkn
          have hall := HPk.out
          rw [List.take_of_length_le (by rw [HNr.out]; exact Nat.le_refl _)] at hall
          have HAr := Lib.hid hall
          clear hall
          obtain ⟨c0, c1, c2, _⟩ := (HA0.out.below HB.out HA0.out.lt).three
          go_wp2
          clear c0 c1 c2
          go_loopw [84] (fun i wr => SRel Src.SmL links nl w0 i wr) (fun i _ => nl - (intOf i).toNat)
          case atStart => exact ⟨0, Nat.zero_le _, rfl, (fun a ha => by simp at ha), HB.out⟩
          case round =>
            obtain ⟨k, hk, rfl, HPk, HB⟩ := hrel
            have HBr := Lib.hid (HB0.out.trans (HB.out.mono HB0.out.size))
            by_cases hlt : k < nl
            · have q3 : (0 : Int) ≤ (k : Int) := by omega
              have q4 : (k : Int) < (nl : Int) := by omega
              obtain ⟨ad, x, rfl, hab, Hx, HL0⟩ := Ix.reads_cells (enc := Src.lc) (m := 2) (fun _ => rfl) HNl.out (HRl.out.below HBr.out) hlt
              have hwx := HWl.out x (List.mem_of_getElem? Hx.out)
              obtain ⟨xa, hxa⟩ : ∃ y, Src.bts x.1 = y := ⟨_, rfl⟩
              obtain ⟨xb, hxb⟩ : ∃ y, Src.bts x.2 = y := ⟨_, rfl⟩
              have hza : xa.size = x.1.length := by rw [← hxa]; rfl
              have hzb : xb.size = x.2.length := by rw [← hxb]; rfl
              have hs1 : xa.size ≤ maxLen := by rw [hza]; exact hwx.1
              have hs2 : xb.size ≤ maxLen := by rw [hzb]; exact hwx.2
              unfold maxLen at hs1 hs2
              have x0 : wr.cell? (ad.add (k * 2)) = some (.string xa) := by rw [← hxa]; exact HL0.out 0 _ rfl
              have x1 : wr.cell? ⟨(ad.add (k * 2)).block, (ad.add (k * 2)).off + 1, none⟩ = some (.string xb) := by rw [← hxb]; exact HL0.out 1 _ rfl
              have HBa := Lib.hid (HB.out.alloc HB.out.size (.cells #[.string xa, .string xb] 104))
              replace HBr := Lib.hid (HBr.out.alloc HBr.out.size (.cells #[.string xa, .string xb] 104))
              have HZa := Lib.hid hza
              have HZb := Lib.hid hzb
              clear hwx hxa hxb hza hzb
              by_cases p1 : (1000 : Int) < (xa.size : Int)
              · go_wp2
                go_ret
                exact ⟨.inl rfl, by first | exact HBr.out | (rw [← hh]; exact HBr.out)⟩
              by_cases p2 : (1000 : Int) < (xb.size : Int)
              · go_wp2
                go_ret
                exact ⟨.inl rfl, by first | exact HBr.out | (rw [← hh]; exact HBr.out)⟩
              have HP2 := Lib.hid (Src.take_all HPk.out Hx.out (show Src.SmL x from ⟨by rw [← HZa.out]; omega, by rw [← HZb.out]; omega⟩))
              go_wp2
              go_roundw
              case rel => exact ⟨k + 1, by omega, by go_num, HP2.out, HBa.out⟩
              case measure => simp [intOf]; omega
            · have q4 : ¬ (k : Int) < (nl : Int) := by omega
              have hkn : nl = k := by omega
              subst hkn
              have hall := HPk.out
              rw [List.take_of_length_le (by rw [HNl.out]; exact Nat.le_refl _)] at hall
              have HF := Lib.hid (show Src.Few ⟨rules, zones, links, op⟩ from ⟨by show rules.length ≤ 40; rw [HNr.out]; omega, by show zones.length ≤ 12; rw [HNz.out]; omega, by show links.length ≤ 20; rw [HNl.out]; omega, HAr.out, HAz.out, hall⟩)
              clear hall
              go_wp2
              go_ret
              exact ⟨.inr ⟨rfl, HF.out⟩, by first | exact HBr.out | (rw [← hh]; exact HBr.out)⟩
end Go.Proofs.YtolgigaolffenaaGreatDoor
