/- The statements' own 'lives' of package rule. -/
import Derived.Test.YtokimlfbfbfenaaDoorTexts
import Derived.Test.YtokimlfbfbfenaaDoorRuMath
namespace Go.Proofs.YtokimlfbfbfenaaDoor
open Go.RowKit

instance : DecidableEq Ru.R := fun a b => decidable_of_iff (a.nm = b.nm ∧ a.fr = b.fr ∧ a.tt = b.tt ∧ a.mo = b.mo ∧ a.k = b.k ∧ a.n = b.n ∧ a.d = b.d ∧ a.s = b.s ∧ a.c = b.c ∧ a.sv = b.sv ∧ a.lt = b.lt) (by cases a; cases b; simp)
theorem ruParse_is (A : Option Addr) (n c : Nat) (ss : List ByteArray) (w : World) (hW : Wp w) (hn : n ≤ c) (hc : c ≤ maxLen) (hr : Reads w w.heap.size 1 A n (ss.map Value.string)) (hs : ∀ t ∈ ss, t.size ≤ 1000000) (r : Ru.R) (a b : Int) (h : Ru.parse ss = (r, a, b)) :
    Calls Tryd.prog 19 #[.slice A n c] w fun e w' => e = .returned (.tuple #[r.v, .int .i64 a, .int .i64 b]) ∧ Below w.heap.size w w' := calls_val (ruParse_any A n c ss w hW hn hc hr hs) (by rw [h])
theorem reads_at (w : World) (g : Nat) (l : List ByteArray) (t : TypeId) (hg : g = w.heap.size) : Reads (w.alloc (.cells (strCells l) t)) (w.alloc (.cells (strCells l) t)).heap.size 1 (some ⟨g, 0, none⟩) l.length (l.map Value.string) := by
  subst hg
  exact reads_new w l t
theorem texts_yes (A A' : Option Addr) (n n' c c' : Nat) (ss ts : List ByteArray) (w : World) (hn : n ≤ maxLen) (hn' : n' ≤ maxLen) (hr : Reads w w.heap.size 1 A n (ss.map Value.string)) (hr' : Reads w w.heap.size 1 A' n' (ts.map Value.string)) (h : ss = ts) :
    Calls Tryd.prog 49 #[.slice A n c, .slice A' n' c'] w fun e w' => e = .returned (.bool true) ∧ Below w.heap.size w w' :=
  (calls_bool (refTexts_any A A' n n' c c' ss ts w hn hn' hr hr') (by rw [h]; simp)).mono fun _ _ ⟨a, d⟩ => ⟨a, d.below _⟩
theorem itoa_1981 : Lib.itoa 1981 = [49, 57, 56, 49] := by
  unfold Lib.itoa
  rw [if_neg (by decide)]
  rw [Lib.decDigits, dif_neg (by decide), Lib.decDigits, dif_neg (by decide), Lib.decDigits, dif_neg (by decide), Lib.decDigits, dif_pos (by decide)]
  rfl
def Ru.eu : Ru.R := ⟨⟨#[69, 85]⟩, 1981, 9999, 3, 1, 0, 0, 3600, 2, 3600, ⟨#[83]⟩⟩
def Ru.euL : List ByteArray := [⟨#[69, 85]⟩, ⟨#[49, 57, 56, 49]⟩, ⟨#[109, 97, 120]⟩, ⟨#[45]⟩, ⟨#[77, 97, 114]⟩, ⟨#[108, 97, 115, 116, 83, 117, 110]⟩, ⟨#[49, 58, 48, 48, 117]⟩, ⟨#[49, 58, 48, 48]⟩, ⟨#[83]⟩]
theorem eu_ok : Ru.eu.Ok := ⟨by decide +kernel, ⟨by decide +kernel, by decide +kernel, by decide +kernel⟩, ⟨by decide +kernel, by decide +kernel⟩, by decide +kernel, by decide +kernel, by decide +kernel, by decide +kernel⟩
theorem eu_texts : Ru.eu.texts = Ru.euL := by
  have e1 : (⟨(Mo.text 3600 2).toArray⟩ : ByteArray) = ⟨#[49, 58, 48, 48, 117]⟩ := by unfold Mo.text; rw [text_eq]; decide +kernel
  have e2 : (⟨(Ck.text 3600).toArray⟩ : ByteArray) = ⟨#[49, 58, 48, 48]⟩ := by rw [text_eq]; decide +kernel
  unfold Ru.R.texts Ru.eu
  simp only [itoa_1981, e1, e2]
  decide +kernel

set_option maxHeartbeats 4000000 in
set_option maxRecDepth 100000 in
theorem lives09 (w : World) (hW : Wc w) : Calls Tryd.prog 16 #[] w fun e w' => e = .returned (.bool true) ∧ Below w.heap.size w w' := by
  have HW := Lib.hid hW
  have HB := Lib.hid (Below.refl w.heap.size w)
  clear hW
  go_enter Tryd.func16, Tryd.ntmps16
  go_wp2_with fail
  refine (calls_val (ruParse_is _ 9 9 Ru.euL _ (HW.out.below (HB.out.alloc (by have := HB.out.size; first | exact this | (simp; omega)) _)).p (by decide) (by decide) (reads_at w w.heap.size Ru.euL 9 rfl) (by decide) Ru.eu 0 0 (by decide +kernel)) (show _ = Value.tuple #[.agg #[.string ⟨#[69, 85]⟩, .int .i64 1981, .int .i64 9999, .int .i64 3, .int .u8 1, .int .i64 0, .int .i64 0, .int .i64 3600, .int .u8 2, .int .i64 3600, .string ⟨#[83]⟩], .int .i64 0, .int .i64 0] from rfl)).mono ?_
  rintro e w1 ⟨rfl, hb⟩
  have hbz := below_then (HB.out.alloc (by have := HB.out.size; first | exact this | (simp; omega)) _) hb
  have Rl := Lib.hid ((At.new w #[.string ⟨#[69, 85]⟩, .string ⟨#[49, 57, 56, 49]⟩, .string ⟨#[109, 97, 120]⟩, .string ⟨#[45]⟩, .string ⟨#[77, 97, 114]⟩, .string ⟨#[108, 97, 115, 116, 83, 117, 110]⟩, .string ⟨#[49, 58, 48, 48, 117]⟩, .string ⟨#[49, 58, 48, 48]⟩, .string ⟨#[83]⟩] 9).call hb)
  replace HB := Lib.hid hbz
  clear hb hbz
  have HT := ruText_ok Ru.eu (w1.alloc (.cells #[.string ⟨#[69, 85]⟩, .int .i64 1981, .int .i64 9999, .int .i64 3, .int .u8 1, .int .i64 0, .int .i64 0, .int .i64 3600, .int .u8 2, .int .i64 3600, .string ⟨#[83]⟩] 34)) (HW.out.below (HB.out.alloc (by have := HB.out.size; first | exact this | (simp; omega)) _)) eu_ok (by decide) (by decide) (by decide)
  rw [eu_texts] at HT
  go_wp2_with fail
  refine (HT).mono ?_
  rintro e w2 ⟨AL, cL, hcap, rfl, hrL, hb⟩
  have hbz := below_then (HB.out.alloc (by have := HB.out.size; first | exact this | (simp; omega)) _) hb
  have Rl' := (Rl.out.alloc _ _).call hb
  clear Rl
  have Rl := Lib.hid Rl'
  clear Rl'
  have Ra := Lib.hid ((At.new w1 #[.string ⟨#[69, 85]⟩, .int .i64 1981, .int .i64 9999, .int .i64 3, .int .u8 1, .int .i64 0, .int .i64 0, .int .i64 3600, .int .u8 2, .int .i64 3600, .string ⟨#[83]⟩] 34).call hb)
  replace HB := Lib.hid hbz
  clear hb hbz
  have HRL := Lib.hid hrL
  clear hrL HT
  have HBL := Lib.hid (Below.refl w2.heap.size w2)
  go_wp2_with fail
  refine (calls_val (ruParse_is _ 4 9 (Ru.euL.take 4) _ (HW.out.below HB.out).p (by decide) (by decide) (reads_first (l := Ru.euL) Rl.out Rl.out.lt 4 (by decide)) (by decide) Ru.R.zero 4 5 (by decide +kernel)) (show _ = Value.tuple #[.agg #[.string ⟨#[]⟩, .int .i64 0, .int .i64 0, .int .i64 0, .int .u8 0, .int .i64 0, .int .i64 0, .int .i64 0, .int .u8 0, .int .i64 0, .string ⟨#[]⟩], .int .i64 4, .int .i64 5] from rfl)).mono ?_
  rintro e w3 ⟨rfl, hb⟩
  have hbz := below_then HB.out hb
  have HBLz := below_then HBL.out hb
  have Rl' := Rl.out.call hb
  clear Rl
  have Rl := Lib.hid Rl'
  clear Rl'
  have Ra' := Ra.out.call hb
  clear Ra
  have Ra := Lib.hid Ra'
  clear Ra'
  replace HB := Lib.hid hbz
  clear hb hbz
  replace HBL := Lib.hid HBLz
  clear HBLz
  go_wp2_with fail
  refine (calls_val (ruParse_is _ 3 3 [⟨#[69, 85]⟩, ⟨#[49, 57, 56, 49]⟩, ⟨#[49, 57, 56, 48]⟩] _ (HW.out.below ((HB.out.alloc (by have := HB.out.size; first | exact this | (simp; omega)) _).alloc (by have := HB.out.size; first | exact this | (simp; omega)) _)).p (by decide) (by decide) (reads_at (w3.alloc (.cells #[.string ⟨#[]⟩, .int .i64 0, .int .i64 0, .int .i64 0, .int .u8 0, .int .i64 0, .int .i64 0, .int .i64 0, .int .u8 0, .int .i64 0, .string ⟨#[]⟩] 34)) (w3.heap.size + 1) [⟨#[69, 85]⟩, ⟨#[49, 57, 56, 49]⟩, ⟨#[49, 57, 56, 48]⟩] 9 (by simp)) (by decide) Ru.R.zero 2 10 (by decide +kernel)) (show _ = Value.tuple #[.agg #[.string ⟨#[]⟩, .int .i64 0, .int .i64 0, .int .i64 0, .int .u8 0, .int .i64 0, .int .i64 0, .int .i64 0, .int .u8 0, .int .i64 0, .string ⟨#[]⟩], .int .i64 2, .int .i64 10] from rfl)).mono ?_
  rintro e w4 ⟨rfl, hb⟩
  have hbz := below_then ((HB.out.alloc (by have := HB.out.size; first | exact this | (simp; omega)) _).alloc (by have := HB.out.size; first | exact this | (simp; omega)) _) hb
  have HBLz := below_then ((HBL.out.alloc (by have := HBL.out.size; first | exact this | (simp; omega)) _).alloc (by have := HBL.out.size; first | exact this | (simp; omega)) _) hb
  have Rl' := ((Rl.out.alloc _ _).alloc _ _).call hb
  clear Rl
  have Rl := Lib.hid Rl'
  clear Rl'
  have Ra' := ((Ra.out.alloc _ _).alloc _ _).call hb
  clear Ra
  have Ra := Lib.hid Ra'
  clear Ra'
  replace HB := Lib.hid hbz
  clear hb hbz
  replace HBL := Lib.hid HBLz
  clear HBLz
  go_wp2_with fail
  refine (calls_val (ruParse_is _ 9 9 [⟨#[120]⟩, ⟨#[49]⟩, ⟨#[111]⟩, ⟨#[45]⟩, ⟨#[100]⟩, ⟨#[49]⟩, ⟨#[45]⟩, ⟨#[45]⟩, ⟨#[45]⟩] _ (HW.out.below ((HB.out.alloc (by have := HB.out.size; first | exact this | (simp; omega)) _).alloc (by have := HB.out.size; first | exact this | (simp; omega)) _)).p (by decide) (by decide) (reads_at (w4.alloc (.cells #[.string ⟨#[]⟩, .int .i64 0, .int .i64 0, .int .i64 0, .int .u8 0, .int .i64 0, .int .i64 0, .int .i64 0, .int .u8 0, .int .i64 0, .string ⟨#[]⟩] 34)) (w4.heap.size + 1) [⟨#[120]⟩, ⟨#[49]⟩, ⟨#[111]⟩, ⟨#[45]⟩, ⟨#[100]⟩, ⟨#[49]⟩, ⟨#[45]⟩, ⟨#[45]⟩, ⟨#[45]⟩] 9 (by simp)) (by decide) ⟨⟨#[120]⟩, 1, 1, 12, 0, 1, 0, 0, 0, 0, ⟨#[]⟩⟩ 0 0 (by decide +kernel)) (show _ = Value.tuple #[.agg #[.string ⟨#[120]⟩, .int .i64 1, .int .i64 1, .int .i64 12, .int .u8 0, .int .i64 1, .int .i64 0, .int .i64 0, .int .u8 0, .int .i64 0, .string ⟨#[]⟩], .int .i64 0, .int .i64 0] from rfl)).mono ?_
  rintro e w5 ⟨rfl, hb⟩
  have hbz := below_then ((HB.out.alloc (by have := HB.out.size; first | exact this | (simp; omega)) _).alloc (by have := HB.out.size; first | exact this | (simp; omega)) _) hb
  have HBLz := below_then ((HBL.out.alloc (by have := HBL.out.size; first | exact this | (simp; omega)) _).alloc (by have := HBL.out.size; first | exact this | (simp; omega)) _) hb
  have Rl' := ((Rl.out.alloc _ _).alloc _ _).call hb
  clear Rl
  have Rl := Lib.hid Rl'
  clear Rl'
  have Ra' := ((Ra.out.alloc _ _).alloc _ _).call hb
  clear Ra
  have Ra := Lib.hid Ra'
  clear Ra'
  replace HB := Lib.hid hbz
  clear hb hbz
  replace HBL := Lib.hid HBLz
  clear HBLz
  have zRa := Ra.out.lt
  have Rac0 := Ra.out.cell 0 _ rfl
  have Rac1 := Ra.out.cell 1 _ rfl
  have Rac2 := Ra.out.cell 2 _ rfl
  have Rac3 := Ra.out.cell 3 _ rfl
  have Rac4 := Ra.out.cell 4 _ rfl
  have Rac5 := Ra.out.cell 5 _ rfl
  have Rac6 := Ra.out.cell 6 _ rfl
  have Rac7 := Ra.out.cell 7 _ rfl
  have Rac8 := Ra.out.cell 8 _ rfl
  have Rac9 := Ra.out.cell 9 _ rfl
  have Rac10 := Ra.out.cell 10 _ rfl
  go_wp2_with fail
  refine (texts_yes _ _ 9 9 _ 9 Ru.euL Ru.euL _ (by decide) (by decide) ((HRL.out.below ((HBL.out.alloc (by have := HBL.out.size; first | exact this | (simp; omega)) _).alloc (by have := HBL.out.size; first | exact this | (simp; omega)) _)).more (by have := HBL.out.size; simp; omega)) (reads_first (l := Ru.euL) ((Rl.out.alloc _ _).alloc _ _) (by have := Rl.out.lt; simp; omega) 9 (by decide)) rfl).mono ?_
  rintro e w6 ⟨rfl, hb⟩
  have hbz := below_then ((HB.out.alloc (by have := HB.out.size; first | exact this | (simp; omega)) _).alloc (by have := HB.out.size; first | exact this | (simp; omega)) _) hb
  have HBLz := below_then ((HBL.out.alloc (by have := HBL.out.size; first | exact this | (simp; omega)) _).alloc (by have := HBL.out.size; first | exact this | (simp; omega)) _) hb
  have Rl' := ((Rl.out.alloc _ _).alloc _ _).call hb
  clear Rl
  have Rl := Lib.hid Rl'
  clear Rl'
  have Ra' := ((Ra.out.alloc _ _).alloc _ _).call hb
  clear Ra
  have Ra := Lib.hid Ra'
  clear Ra'
  have Rb := Lib.hid (((At.new w5 #[.string ⟨#[120]⟩, .int .i64 1, .int .i64 1, .int .i64 12, .int .u8 0, .int .i64 1, .int .i64 0, .int .i64 0, .int .u8 0, .int .i64 0, .string ⟨#[]⟩] 34).alloc _ _).call hb)
  have Rw' := (At.new (w5.alloc (.cells #[.string ⟨#[120]⟩, .int .i64 1, .int .i64 1, .int .i64 12, .int .u8 0, .int .i64 1, .int .i64 0, .int .i64 0, .int .u8 0, .int .i64 0, .string ⟨#[]⟩] 34)) #[.string ⟨#[69, 85]⟩, .int .i64 1981, .int .i64 9999, .int .i64 3, .int .u8 1, .int .i64 0, .int .i64 0, .int .i64 3600, .int .u8 2, .int .i64 3600, .string ⟨#[83]⟩] 34).call hb
  simp only [World.size_alloc] at Rw'
  have Rw := Lib.hid Rw'
  clear Rw'
  replace HB := Lib.hid hbz
  clear hb hbz
  replace HBL := Lib.hid HBLz
  clear HBLz
  clear zRa Rac0 Rac1 Rac2 Rac3 Rac4 Rac5 Rac6 Rac7 Rac8 Rac9 Rac10
  have zRa := Ra.out.lt
  have Rac0 := Ra.out.cell 0 _ rfl
  have Rac1 := Ra.out.cell 1 _ rfl
  have Rac2 := Ra.out.cell 2 _ rfl
  have Rac3 := Ra.out.cell 3 _ rfl
  have Rac4 := Ra.out.cell 4 _ rfl
  have Rac5 := Ra.out.cell 5 _ rfl
  have Rac6 := Ra.out.cell 6 _ rfl
  have Rac7 := Ra.out.cell 7 _ rfl
  have Rac8 := Ra.out.cell 8 _ rfl
  have Rac9 := Ra.out.cell 9 _ rfl
  have Rac10 := Ra.out.cell 10 _ rfl
  clear zRa Rac0 Rac1 Rac2 Rac3 Rac4 Rac5 Rac6 Rac7 Rac8 Rac9 Rac10
  have zRb := Rb.out.lt
  have Rbc0 := Rb.out.cell 0 _ rfl
  have Rbc1 := Rb.out.cell 1 _ rfl
  have Rbc2 := Rb.out.cell 2 _ rfl
  have Rbc3 := Rb.out.cell 3 _ rfl
  have Rbc4 := Rb.out.cell 4 _ rfl
  have Rbc5 := Rb.out.cell 5 _ rfl
  have Rbc6 := Rb.out.cell 6 _ rfl
  have Rbc7 := Rb.out.cell 7 _ rfl
  have Rbc8 := Rb.out.cell 8 _ rfl
  have Rbc9 := Rb.out.cell 9 _ rfl
  have Rbc10 := Rb.out.cell 10 _ rfl
  have zRw := Rw.out.lt
  have Rwc0 := Rw.out.cell 0 _ rfl
  have Rwc1 := Rw.out.cell 1 _ rfl
  have Rwc2 := Rw.out.cell 2 _ rfl
  have Rwc3 := Rw.out.cell 3 _ rfl
  have Rwc4 := Rw.out.cell 4 _ rfl
  have Rwc5 := Rw.out.cell 5 _ rfl
  have Rwc6 := Rw.out.cell 6 _ rfl
  have Rwc7 := Rw.out.cell 7 _ rfl
  have Rwc8 := Rw.out.cell 8 _ rfl
  have Rwc9 := Rw.out.cell 9 _ rfl
  have Rwc10 := Rw.out.cell 10 _ rfl
  go_wp2_with fail
  refine (calls_bool (name_any ⟨#[65, 95, 98, 47, 99, 45, 49, 43, 50]⟩ _ (by decide)) (show _ = true by decide +kernel)).mono ?_
  rintro e w7 ⟨rfl, hb⟩
  have hbz := below_then HB.out hb
  have HBLz := below_then HBL.out hb
  have Rl' := Rl.out.call hb
  clear Rl
  have Rl := Lib.hid Rl'
  clear Rl'
  have Ra' := Ra.out.call hb
  clear Ra
  have Ra := Lib.hid Ra'
  clear Ra'
  have Rb' := Rb.out.call hb
  clear Rb
  have Rb := Lib.hid Rb'
  clear Rb'
  have Rw' := Rw.out.call hb
  clear Rw
  have Rw := Lib.hid Rw'
  clear Rw'
  replace HB := Lib.hid hbz
  clear hb hbz
  replace HBL := Lib.hid HBLz
  clear HBLz
  clear zRb Rbc0 Rbc1 Rbc2 Rbc3 Rbc4 Rbc5 Rbc6 Rbc7 Rbc8 Rbc9 Rbc10
  have zRb := Rb.out.lt
  have Rbc0 := Rb.out.cell 0 _ rfl
  have Rbc1 := Rb.out.cell 1 _ rfl
  have Rbc2 := Rb.out.cell 2 _ rfl
  have Rbc3 := Rb.out.cell 3 _ rfl
  have Rbc4 := Rb.out.cell 4 _ rfl
  have Rbc5 := Rb.out.cell 5 _ rfl
  have Rbc6 := Rb.out.cell 6 _ rfl
  have Rbc7 := Rb.out.cell 7 _ rfl
  have Rbc8 := Rb.out.cell 8 _ rfl
  have Rbc9 := Rb.out.cell 9 _ rfl
  have Rbc10 := Rb.out.cell 10 _ rfl
  clear zRw Rwc0 Rwc1 Rwc2 Rwc3 Rwc4 Rwc5 Rwc6 Rwc7 Rwc8 Rwc9 Rwc10
  have zRw := Rw.out.lt
  have Rwc0 := Rw.out.cell 0 _ rfl
  have Rwc1 := Rw.out.cell 1 _ rfl
  have Rwc2 := Rw.out.cell 2 _ rfl
  have Rwc3 := Rw.out.cell 3 _ rfl
  have Rwc4 := Rw.out.cell 4 _ rfl
  have Rwc5 := Rw.out.cell 5 _ rfl
  have Rwc6 := Rw.out.cell 6 _ rfl
  have Rwc7 := Rw.out.cell 7 _ rfl
  have Rwc8 := Rw.out.cell 8 _ rfl
  have Rwc9 := Rw.out.cell 9 _ rfl
  have Rwc10 := Rw.out.cell 10 _ rfl
  go_wp2_with fail
  refine (calls_bool (name_any ⟨#[49, 97]⟩ _ (by decide)) (show _ = false by decide +kernel)).mono ?_
  rintro e w8 ⟨rfl, hb⟩
  have hbz := below_then HB.out hb
  have HBLz := below_then HBL.out hb
  have Rl' := Rl.out.call hb
  clear Rl
  have Rl := Lib.hid Rl'
  clear Rl'
  have Ra' := Ra.out.call hb
  clear Ra
  have Ra := Lib.hid Ra'
  clear Ra'
  have Rb' := Rb.out.call hb
  clear Rb
  have Rb := Lib.hid Rb'
  clear Rb'
  have Rw' := Rw.out.call hb
  clear Rw
  have Rw := Lib.hid Rw'
  clear Rw'
  replace HB := Lib.hid hbz
  clear hb hbz
  replace HBL := Lib.hid HBLz
  clear HBLz
  clear zRb Rbc0 Rbc1 Rbc2 Rbc3 Rbc4 Rbc5 Rbc6 Rbc7 Rbc8 Rbc9 Rbc10
  have zRb := Rb.out.lt
  have Rbc0 := Rb.out.cell 0 _ rfl
  have Rbc1 := Rb.out.cell 1 _ rfl
  have Rbc2 := Rb.out.cell 2 _ rfl
  have Rbc3 := Rb.out.cell 3 _ rfl
  have Rbc4 := Rb.out.cell 4 _ rfl
  have Rbc5 := Rb.out.cell 5 _ rfl
  have Rbc6 := Rb.out.cell 6 _ rfl
  have Rbc7 := Rb.out.cell 7 _ rfl
  have Rbc8 := Rb.out.cell 8 _ rfl
  have Rbc9 := Rb.out.cell 9 _ rfl
  have Rbc10 := Rb.out.cell 10 _ rfl
  clear zRw Rwc0 Rwc1 Rwc2 Rwc3 Rwc4 Rwc5 Rwc6 Rwc7 Rwc8 Rwc9 Rwc10
  have zRw := Rw.out.lt
  have Rwc0 := Rw.out.cell 0 _ rfl
  have Rwc1 := Rw.out.cell 1 _ rfl
  have Rwc2 := Rw.out.cell 2 _ rfl
  have Rwc3 := Rw.out.cell 3 _ rfl
  have Rwc4 := Rw.out.cell 4 _ rfl
  have Rwc5 := Rw.out.cell 5 _ rfl
  have Rwc6 := Rw.out.cell 6 _ rfl
  have Rwc7 := Rw.out.cell 7 _ rfl
  have Rwc8 := Rw.out.cell 8 _ rfl
  have Rwc9 := Rw.out.cell 9 _ rfl
  have Rwc10 := Rw.out.cell 10 _ rfl
  go_wp2_with fail
  refine (calls_bool (name_any ⟨#[]⟩ _ (by decide)) (show _ = false by decide +kernel)).mono ?_
  rintro e w9 ⟨rfl, hb⟩
  have hbz := below_then HB.out hb
  have HBLz := below_then HBL.out hb
  have Rl' := Rl.out.call hb
  clear Rl
  have Rl := Lib.hid Rl'
  clear Rl'
  have Ra' := Ra.out.call hb
  clear Ra
  have Ra := Lib.hid Ra'
  clear Ra'
  have Rb' := Rb.out.call hb
  clear Rb
  have Rb := Lib.hid Rb'
  clear Rb'
  have Rw' := Rw.out.call hb
  clear Rw
  have Rw := Lib.hid Rw'
  clear Rw'
  replace HB := Lib.hid hbz
  clear hb hbz
  replace HBL := Lib.hid HBLz
  clear HBLz
  clear zRb Rbc0 Rbc1 Rbc2 Rbc3 Rbc4 Rbc5 Rbc6 Rbc7 Rbc8 Rbc9 Rbc10
  have zRb := Rb.out.lt
  have Rbc0 := Rb.out.cell 0 _ rfl
  have Rbc1 := Rb.out.cell 1 _ rfl
  have Rbc2 := Rb.out.cell 2 _ rfl
  have Rbc3 := Rb.out.cell 3 _ rfl
  have Rbc4 := Rb.out.cell 4 _ rfl
  have Rbc5 := Rb.out.cell 5 _ rfl
  have Rbc6 := Rb.out.cell 6 _ rfl
  have Rbc7 := Rb.out.cell 7 _ rfl
  have Rbc8 := Rb.out.cell 8 _ rfl
  have Rbc9 := Rb.out.cell 9 _ rfl
  have Rbc10 := Rb.out.cell 10 _ rfl
  clear zRw Rwc0 Rwc1 Rwc2 Rwc3 Rwc4 Rwc5 Rwc6 Rwc7 Rwc8 Rwc9 Rwc10
  have zRw := Rw.out.lt
  have Rwc0 := Rw.out.cell 0 _ rfl
  have Rwc1 := Rw.out.cell 1 _ rfl
  have Rwc2 := Rw.out.cell 2 _ rfl
  have Rwc3 := Rw.out.cell 3 _ rfl
  have Rwc4 := Rw.out.cell 4 _ rfl
  have Rwc5 := Rw.out.cell 5 _ rfl
  have Rwc6 := Rw.out.cell 6 _ rfl
  have Rwc7 := Rw.out.cell 7 _ rfl
  have Rwc8 := Rw.out.cell 8 _ rfl
  have Rwc9 := Rw.out.cell 9 _ rfl
  have Rwc10 := Rw.out.cell 10 _ rfl
  go_wp2_with fail
  refine (ruleCheck_ok Ru.eu _ eu_ok (by decide) (by decide)).mono ?_
  rintro e w10 ⟨rfl, hb⟩
  have hbz := below_then HB.out hb
  have HBLz := below_then HBL.out hb
  have Rl' := Rl.out.call hb
  clear Rl
  have Rl := Lib.hid Rl'
  clear Rl'
  have Ra' := Ra.out.call hb
  clear Ra
  have Ra := Lib.hid Ra'
  clear Ra'
  have Rb' := Rb.out.call hb
  clear Rb
  have Rb := Lib.hid Rb'
  clear Rb'
  have Rw' := Rw.out.call hb
  clear Rw
  have Rw := Lib.hid Rw'
  clear Rw'
  replace HB := Lib.hid hbz
  clear hb hbz
  replace HBL := Lib.hid HBLz
  clear HBLz
  clear zRb Rbc0 Rbc1 Rbc2 Rbc3 Rbc4 Rbc5 Rbc6 Rbc7 Rbc8 Rbc9 Rbc10
  have zRb := Rb.out.lt
  have Rbc0 := Rb.out.cell 0 _ rfl
  have Rbc1 := Rb.out.cell 1 _ rfl
  have Rbc2 := Rb.out.cell 2 _ rfl
  have Rbc3 := Rb.out.cell 3 _ rfl
  have Rbc4 := Rb.out.cell 4 _ rfl
  have Rbc5 := Rb.out.cell 5 _ rfl
  have Rbc6 := Rb.out.cell 6 _ rfl
  have Rbc7 := Rb.out.cell 7 _ rfl
  have Rbc8 := Rb.out.cell 8 _ rfl
  have Rbc9 := Rb.out.cell 9 _ rfl
  have Rbc10 := Rb.out.cell 10 _ rfl
  clear zRw Rwc0 Rwc1 Rwc2 Rwc3 Rwc4 Rwc5 Rwc6 Rwc7 Rwc8 Rwc9 Rwc10
  have zRw := Rw.out.lt
  have Rwc0 := Rw.out.cell 0 _ rfl
  have Rwc1 := Rw.out.cell 1 _ rfl
  have Rwc2 := Rw.out.cell 2 _ rfl
  have Rwc3 := Rw.out.cell 3 _ rfl
  have Rwc4 := Rw.out.cell 4 _ rfl
  have Rwc5 := Rw.out.cell 5 _ rfl
  have Rwc6 := Rw.out.cell 6 _ rfl
  have Rwc7 := Rw.out.cell 7 _ rfl
  have Rwc8 := Rw.out.cell 8 _ rfl
  have Rwc9 := Rw.out.cell 9 _ rfl
  have Rwc10 := Rw.out.cell 10 _ rfl
  go_wp2_with fail
  refine (ruleCheck_bad Ru.R.zero _ (fun h => absurd h.1 (by decide +kernel)) (by decide) (by decide)).mono ?_
  rintro e w11 ⟨rfl, hb⟩
  have hbz := below_then HB.out hb
  have HBLz := below_then HBL.out hb
  have Rl' := Rl.out.call hb
  clear Rl
  have Rl := Lib.hid Rl'
  clear Rl'
  have Ra' := Ra.out.call hb
  clear Ra
  have Ra := Lib.hid Ra'
  clear Ra'
  have Rb' := Rb.out.call hb
  clear Rb
  have Rb := Lib.hid Rb'
  clear Rb'
  have Rw' := Rw.out.call hb
  clear Rw
  have Rw := Lib.hid Rw'
  clear Rw'
  replace HB := Lib.hid hbz
  clear hb hbz
  replace HBL := Lib.hid HBLz
  clear HBLz
  clear zRb Rbc0 Rbc1 Rbc2 Rbc3 Rbc4 Rbc5 Rbc6 Rbc7 Rbc8 Rbc9 Rbc10
  have zRb := Rb.out.lt
  have Rbc0 := Rb.out.cell 0 _ rfl
  have Rbc1 := Rb.out.cell 1 _ rfl
  have Rbc2 := Rb.out.cell 2 _ rfl
  have Rbc3 := Rb.out.cell 3 _ rfl
  have Rbc4 := Rb.out.cell 4 _ rfl
  have Rbc5 := Rb.out.cell 5 _ rfl
  have Rbc6 := Rb.out.cell 6 _ rfl
  have Rbc7 := Rb.out.cell 7 _ rfl
  have Rbc8 := Rb.out.cell 8 _ rfl
  have Rbc9 := Rb.out.cell 9 _ rfl
  have Rbc10 := Rb.out.cell 10 _ rfl
  clear zRw Rwc0 Rwc1 Rwc2 Rwc3 Rwc4 Rwc5 Rwc6 Rwc7 Rwc8 Rwc9 Rwc10
  have zRw := Rw.out.lt
  have Rwc0 := Rw.out.cell 0 _ rfl
  have Rwc1 := Rw.out.cell 1 _ rfl
  have Rwc2 := Rw.out.cell 2 _ rfl
  have Rwc3 := Rw.out.cell 3 _ rfl
  have Rwc4 := Rw.out.cell 4 _ rfl
  have Rwc5 := Rw.out.cell 5 _ rfl
  have Rwc6 := Rw.out.cell 6 _ rfl
  have Rwc7 := Rw.out.cell 7 _ rfl
  have Rwc8 := Rw.out.cell 8 _ rfl
  have Rwc9 := Rw.out.cell 9 _ rfl
  have Rwc10 := Rw.out.cell 10 _ rfl
  go_wp2
  go_ret
  exact ⟨rfl, HB.out⟩
end Go.Proofs.YtokimlfbfbfenaaDoor
