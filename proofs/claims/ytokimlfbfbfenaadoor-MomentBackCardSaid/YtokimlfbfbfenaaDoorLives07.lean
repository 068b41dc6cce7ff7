/- The statements' own 'lives' of package moment. -/
import Derived.Test.YtokimlfbfbfenaaDoorTexts
import Derived.Test.YtokimlfbfbfenaaDoorMom
namespace Go.Proofs.YtokimlfbfbfenaaDoor
open Go.RowKit

instance : DecidableEq Mo.U := fun a b => decidable_of_iff (a.y = b.y ∧ a.m = b.m ∧ a.k = b.k ∧ a.n = b.n ∧ a.d = b.d ∧ a.s = b.s ∧ a.c = b.c) (by cases a; cases b; simp)
theorem momParse_is (s : ByteArray) (w : World) (hW : Wp w) (hs : s.size ≤ 1000000) (a b d : Int) (h : Mo.parse s = ((a, b), d)) :
    Calls Tryd.prog 23 #[.string s] w fun e w' => e = .returned (.tuple #[.agg #[.int .i64 a, .int .u8 b], .int .i64 d]) ∧ Below w.heap.size w w' := calls_val (momParse_any s w hW hs) (by rw [h])
theorem parseUntil_is (A : Option Addr) (n c : Nat) (ss : List ByteArray) (w : World) (hW : Wp w) (hn : n ≤ maxLen) (hr : Reads w w.heap.size 1 A n (ss.map Value.string)) (hs : ∀ t ∈ ss, t.size ≤ 1000000) (u : Mo.U) (a b : Int) (h : Mo.uParse ss = (u, a, b)) :
    Calls Tryd.prog 25 #[.slice A n c] w fun e w' => e = .returned (.tuple #[u.v, .int .i64 a, .int .i64 b]) ∧ Below w.heap.size w w' := calls_val (parseUntil_any A n c ss w hW hn hr hs) (by rw [h])
theorem itoa_1999 : Lib.itoa 1999 = [49, 57, 57, 57] := by
  unfold Lib.itoa
  rw [if_neg (by decide)]
  rw [Lib.decDigits, dif_neg (by decide), Lib.decDigits, dif_neg (by decide), Lib.decDigits, dif_neg (by decide), Lib.decDigits, dif_pos (by decide)]
  rfl
def Mo.uOct : Mo.U := ⟨1999, 10, 0, 1, 0, 0, 0⟩
theorem oct_ok : Mo.uOct.Ok := ⟨⟨by decide +kernel, by decide +kernel, by decide +kernel, by decide +kernel⟩, by decide +kernel, by decide +kernel⟩
theorem texts_oct : Mo.uOct.texts = [⟨#[49, 57, 57, 57]⟩, ⟨#[79, 99, 116]⟩] := by
  have e1 : (⟨(Mo.text 0 0).toArray⟩ : ByteArray) = Mo.u3 := by unfold Mo.text; rw [text_eq]; decide +kernel
  have e2 : (⟨(Dy.text 0 1 0).toArray⟩ : ByteArray) = Mo.u2 := by decide +kernel
  have e3 : ¬ textOf Months (10 - 1) = Mo.u1 := by decide +kernel
  have hc : Mo.uOct.count = 2 := by
    unfold Mo.U.count Mo.uOct
    rw [if_pos e1, if_pos e2, if_neg e3]
  unfold Mo.U.texts
  rw [hc]
  unfold Mo.U.full Mo.uOct
  simp only [itoa_1999]
  decide +kernel
theorem reads_at (w : World) (g : Nat) (l : List ByteArray) (t : TypeId) (hg : g = w.heap.size) : Reads (w.alloc (.cells (strCells l) t)) (w.alloc (.cells (strCells l) t)).heap.size 1 (some ⟨g, 0, none⟩) l.length (l.map Value.string) := by
  subst hg
  exact reads_new w l t
theorem texts_yes (A A' : Option Addr) (n n' c c' : Nat) (ss ts : List ByteArray) (w : World) (hn : n ≤ maxLen) (hn' : n' ≤ maxLen) (hr : Reads w w.heap.size 1 A n (ss.map Value.string)) (hr' : Reads w w.heap.size 1 A' n' (ts.map Value.string)) (h : ss = ts) :
    Calls Tryd.prog 49 #[.slice A n c, .slice A' n' c'] w fun e w' => e = .returned (.bool true) ∧ Below w.heap.size w w' :=
  (calls_bool (refTexts_any A A' n n' c c' ss ts w hn hn' hr hr') (by rw [h]; simp)).mono fun _ _ ⟨a, d⟩ => ⟨a, d.below _⟩

set_option maxHeartbeats 4000000 in
set_option maxRecDepth 100000 in
theorem lives07 (w : World) (hW : Wm w) : Calls Tryd.prog 20 #[] w fun e w' => e = .returned (.bool true) ∧ Below w.heap.size w w' := by
  have HW := Lib.hid hW
  have HB := Lib.hid (Below.refl w.heap.size w)
  clear hW
  go_enter Tryd.func20, Tryd.ntmps20
  go_wp2_with fail
  refine (momParse_is ⟨#[50, 58, 48, 48, 83]⟩ _ (HW.out.below HB.out).c.p (by decide) 7200 1 0 (by decide +kernel)).mono ?_
  rintro e w1 ⟨rfl, hb⟩
  have hbz := below_then HB.out hb
  replace HB := Lib.hid hbz
  clear hb hbz
  go_wp2_with fail
  refine (momParse_is ⟨#[45]⟩ _ (HW.out.below (HB.out.alloc (by have := HB.out.size; first | exact this | (simp; omega)) _)).c.p (by decide) 0 0 0 (by decide +kernel)).mono ?_
  rintro e w2 ⟨rfl, hb⟩
  have hbz := below_then (HB.out.alloc (by have := HB.out.size; first | exact this | (simp; omega)) _) hb
  have Ra := Lib.hid ((At.new w1 #[.int .i64 7200, .int .u8 1] 32).call hb)
  replace HB := Lib.hid hbz
  clear hb hbz
  go_wp2_with fail
  refine (momParse_is ⟨#[45, 49, 58, 51, 48, 122]⟩ _ (HW.out.below (HB.out.alloc (by have := HB.out.size; first | exact this | (simp; omega)) _)).c.p (by decide) (-5400) 2 0 (by decide +kernel)).mono ?_
  rintro e w3 ⟨rfl, hb⟩
  have hbz := below_then (HB.out.alloc (by have := HB.out.size; first | exact this | (simp; omega)) _) hb
  have Ra' := (Ra.out.alloc _ _).call hb
  clear Ra
  have Ra := Lib.hid Ra'
  clear Ra'
  have Rb := Lib.hid ((At.new w2 #[.int .i64 0, .int .u8 0] 32).call hb)
  replace HB := Lib.hid hbz
  clear hb hbz
  go_wp2_with fail
  refine (momParse_is ⟨#[50, 58, 48, 48, 120]⟩ _ (HW.out.below (HB.out.alloc (by have := HB.out.size; first | exact this | (simp; omega)) _)).c.p (by decide) 0 0 4 (by decide +kernel)).mono ?_
  rintro e w4 ⟨rfl, hb⟩
  have hbz := below_then (HB.out.alloc (by have := HB.out.size; first | exact this | (simp; omega)) _) hb
  have Ra' := (Ra.out.alloc _ _).call hb
  clear Ra
  have Ra := Lib.hid Ra'
  clear Ra'
  have Rb' := (Rb.out.alloc _ _).call hb
  clear Rb
  have Rb := Lib.hid Rb'
  clear Rb'
  have Rc := Lib.hid ((At.new w3 #[.int .i64 (-5400), .int .u8 2] 32).call hb)
  replace HB := Lib.hid hbz
  clear hb hbz
  go_wp2_with fail
  refine (momParse_is ⟨#[49, 54, 57, 119]⟩ _ (HW.out.below (HB.out.alloc (by have := HB.out.size; first | exact this | (simp; omega)) _)).c.p (by decide) 0 0 1 (by decide +kernel)).mono ?_
  rintro e w5 ⟨rfl, hb⟩
  have hbz := below_then (HB.out.alloc (by have := HB.out.size; first | exact this | (simp; omega)) _) hb
  have Ra' := (Ra.out.alloc _ _).call hb
  clear Ra
  have Ra := Lib.hid Ra'
  clear Ra'
  have Rb' := (Rb.out.alloc _ _).call hb
  clear Rb
  have Rb := Lib.hid Rb'
  clear Rb'
  have Rc' := (Rc.out.alloc _ _).call hb
  clear Rc
  have Rc := Lib.hid Rc'
  clear Rc'
  replace HB := Lib.hid hbz
  clear hb hbz
  go_wp2_with fail
  refine (calls_val (momText_ok 7200 2 _ (HW.out.below (HB.out.alloc (by have := HB.out.size; first | exact this | (simp; omega)) _)).c (by decide) (by decide)) (show _ = Value.tuple #[.string ⟨#[50, 58, 48, 48, 117]⟩, .int .i64 0] by unfold Mo.text; rw [text_eq]; rfl)).mono ?_
  rintro e w6 ⟨rfl, hb⟩
  have hbz := below_then (HB.out.alloc (by have := HB.out.size; first | exact this | (simp; omega)) _) hb
  have Ra' := (Ra.out.alloc _ _).call hb
  clear Ra
  have Ra := Lib.hid Ra'
  clear Ra'
  have Rb' := (Rb.out.alloc _ _).call hb
  clear Rb
  have Rb := Lib.hid Rb'
  clear Rb'
  have Rc' := (Rc.out.alloc _ _).call hb
  clear Rc
  have Rc := Lib.hid Rc'
  clear Rc'
  replace HB := Lib.hid hbz
  clear hb hbz
  go_wp2_with fail
  refine (calls_val (nominal_any 1970 1 0 2 0 (-1) 0 _ (HW.out.below HB.out).o) (show _ = Value.tuple #[.int .i64 86399, .int .i64 0] by rw [show Mo.nom 0 2 0 1970 1 (-1) 0 = (86399, 0) by decide +kernel])).mono ?_
  rintro e w7 ⟨rfl, hb⟩
  have hbz := below_then HB.out hb
  have Ra' := Ra.out.call hb
  clear Ra
  have Ra := Lib.hid Ra'
  clear Ra'
  have Rb' := Rb.out.call hb
  clear Rb
  have Rb := Lib.hid Rb'
  clear Rb'
  have Rc' := Rc.out.call hb
  clear Rc
  have Rc := Lib.hid Rc'
  clear Rc'
  replace HB := Lib.hid hbz
  clear hb hbz
  go_wp2_with fail
  refine (calls_val (instant_any 1000 0 300 60 _ (by decide)) (show _ = Value.tuple #[.int .i64 640, .int .i64 0] from rfl)).mono ?_
  rintro e w8 ⟨rfl, rfl⟩
  go_wp2_with fail
  refine (calls_val (instant_any 1000 1 300 60 _ (by decide)) (show _ = Value.tuple #[.int .i64 700, .int .i64 0] from rfl)).mono ?_
  rintro e w8 ⟨rfl, rfl⟩
  go_wp2_with fail
  refine (calls_val (parseUntil_is _ 2 2 [⟨#[49, 57, 57, 57]⟩, ⟨#[111, 99, 116]⟩] _ (HW.out.below (HB.out.alloc (by have := HB.out.size; first | exact this | (simp; omega)) _)).c.p (by decide) (reads_at w7 w7.heap.size [⟨#[49, 57, 57, 57]⟩, ⟨#[111, 99, 116]⟩] 9 rfl) (by decide) Mo.uOct 0 0 (by decide +kernel)) (show _ = Value.tuple #[.agg #[.int .i64 1999, .int .i64 10, .int .u8 0, .int .i64 1, .int .i64 0, .int .i64 0, .int .u8 0], .int .i64 0, .int .i64 0] from rfl)).mono ?_
  rintro e w8 ⟨rfl, hb⟩
  have hbz := below_then (HB.out.alloc (by have := HB.out.size; first | exact this | (simp; omega)) _) hb
  have Ra' := (Ra.out.alloc _ _).call hb
  clear Ra
  have Ra := Lib.hid Ra'
  clear Ra'
  have Rb' := (Rb.out.alloc _ _).call hb
  clear Rb
  have Rb := Lib.hid Rb'
  clear Rb'
  have Rc' := (Rc.out.alloc _ _).call hb
  clear Rc
  have Rc := Lib.hid Rc'
  clear Rc'
  replace HB := Lib.hid hbz
  clear hb hbz
  go_wp2_with fail
  refine (calls_val (parseUntil_is _ 3 3 [⟨#[49, 57, 57, 57]⟩, ⟨#[79, 99, 116]⟩, ⟨#[51, 49, 120]⟩] _ (HW.out.below ((HB.out.alloc (by have := HB.out.size; first | exact this | (simp; omega)) _).alloc (by have := HB.out.size; first | exact this | (simp; omega)) _)).c.p (by decide) (reads_at (w8.alloc (.cells #[.int .i64 1999, .int .i64 10, .int .u8 0, .int .i64 1, .int .i64 0, .int .i64 0, .int .u8 0] 48)) (w8.heap.size + 1) [⟨#[49, 57, 57, 57]⟩, ⟨#[79, 99, 116]⟩, ⟨#[51, 49, 120]⟩] 9 (by simp)) (by decide) Mo.U.zero 2 4 (by decide +kernel)) (show _ = Value.tuple #[.agg #[.int .i64 0, .int .i64 0, .int .u8 0, .int .i64 0, .int .i64 0, .int .i64 0, .int .u8 0], .int .i64 2, .int .i64 4] from rfl)).mono ?_
  rintro e w9 ⟨rfl, hb⟩
  have hbz := below_then ((HB.out.alloc (by have := HB.out.size; first | exact this | (simp; omega)) _).alloc (by have := HB.out.size; first | exact this | (simp; omega)) _) hb
  have Ra' := ((Ra.out.alloc _ _).alloc _ _).call hb
  clear Ra
  have Ra := Lib.hid Ra'
  clear Ra'
  have Rb' := ((Rb.out.alloc _ _).alloc _ _).call hb
  clear Rb
  have Rb := Lib.hid Rb'
  clear Rb'
  have Rc' := ((Rc.out.alloc _ _).alloc _ _).call hb
  clear Rc
  have Rc := Lib.hid Rc'
  clear Rc'
  have Ru := Lib.hid (((At.new w8 #[.int .i64 1999, .int .i64 10, .int .u8 0, .int .i64 1, .int .i64 0, .int .i64 0, .int .u8 0] 48).alloc _ _).call hb)
  replace HB := Lib.hid hbz
  clear hb hbz
  have HT := textUntil_ok Mo.uOct (w9.alloc (.cells #[.int .i64 0, .int .i64 0, .int .u8 0, .int .i64 0, .int .i64 0, .int .i64 0, .int .u8 0] 48)) (HW.out.below (HB.out.alloc (by have := HB.out.size; first | exact this | (simp; omega)) _)).c oct_ok (by decide +kernel)
  rw [texts_oct] at HT
  go_wp2_with fail
  refine (HT).mono ?_
  rintro e w10 ⟨AL, cL, _, rfl, hrL, hb⟩
  have hbz := below_then (HB.out.alloc (by have := HB.out.size; first | exact this | (simp; omega)) _) hb
  have Ra' := (Ra.out.alloc _ _).call hb
  clear Ra
  have Ra := Lib.hid Ra'
  clear Ra'
  have Rb' := (Rb.out.alloc _ _).call hb
  clear Rb
  have Rb := Lib.hid Rb'
  clear Rb'
  have Rc' := (Rc.out.alloc _ _).call hb
  clear Rc
  have Rc := Lib.hid Rc'
  clear Rc'
  have Ru' := (Ru.out.alloc _ _).call hb
  clear Ru
  have Ru := Lib.hid Ru'
  clear Ru'
  replace HB := Lib.hid hbz
  clear hb hbz
  have HRL := Lib.hid hrL
  clear hrL HT
  have zRa := Ra.out.lt
  have Rac0 := Ra.out.cell 0 _ rfl
  have Rac1 := Ra.out.cell 1 _ rfl
  have zRb := Rb.out.lt
  have Rbc0 := Rb.out.cell 0 _ rfl
  have Rbc1 := Rb.out.cell 1 _ rfl
  have zRc := Rc.out.lt
  have Rcc0 := Rc.out.cell 0 _ rfl
  have Rcc1 := Rc.out.cell 1 _ rfl
  have zRu := Ru.out.lt
  have Ruc0 := Ru.out.cell 0 _ rfl
  have Ruc1 := Ru.out.cell 1 _ rfl
  have Ruc2 := Ru.out.cell 2 _ rfl
  have Ruc3 := Ru.out.cell 3 _ rfl
  have Ruc4 := Ru.out.cell 4 _ rfl
  have Ruc5 := Ru.out.cell 5 _ rfl
  have Ruc6 := Ru.out.cell 6 _ rfl
  go_wp2_with fail
  refine (texts_yes _ _ 2 2 _ 2 [⟨#[49, 57, 57, 57]⟩, ⟨#[79, 99, 116]⟩] [⟨#[49, 57, 57, 57]⟩, ⟨#[79, 99, 116]⟩] _ (by decide) (by decide) ((HRL.out.alloc (Nat.le_refl _) _).more (by simp)) (reads_at w10 w10.heap.size [⟨#[49, 57, 57, 57]⟩, ⟨#[79, 99, 116]⟩] 9 rfl) rfl).mono ?_
  rintro e w11 ⟨rfl, hb⟩
  have hbz := below_then (HB.out.alloc (by have := HB.out.size; first | exact this | (simp; omega)) _) hb
  have Ra' := (Ra.out.alloc _ _).call hb
  clear Ra
  have Ra := Lib.hid Ra'
  clear Ra'
  have Rb' := (Rb.out.alloc _ _).call hb
  clear Rb
  have Rb := Lib.hid Rb'
  clear Rb'
  have Rc' := (Rc.out.alloc _ _).call hb
  clear Rc
  have Rc := Lib.hid Rc'
  clear Rc'
  have Ru' := (Ru.out.alloc _ _).call hb
  clear Ru
  have Ru := Lib.hid Ru'
  clear Ru'
  replace HB := Lib.hid hbz
  clear hb hbz
  clear zRa Rac0 Rac1
  have zRa := Ra.out.lt
  have Rac0 := Ra.out.cell 0 _ rfl
  have Rac1 := Ra.out.cell 1 _ rfl
  clear zRb Rbc0 Rbc1
  have zRb := Rb.out.lt
  have Rbc0 := Rb.out.cell 0 _ rfl
  have Rbc1 := Rb.out.cell 1 _ rfl
  clear zRc Rcc0 Rcc1
  have zRc := Rc.out.lt
  have Rcc0 := Rc.out.cell 0 _ rfl
  have Rcc1 := Rc.out.cell 1 _ rfl
  clear zRu Ruc0 Ruc1 Ruc2 Ruc3 Ruc4 Ruc5 Ruc6
  have zRu := Ru.out.lt
  have Ruc0 := Ru.out.cell 0 _ rfl
  have Ruc1 := Ru.out.cell 1 _ rfl
  have Ruc2 := Ru.out.cell 2 _ rfl
  have Ruc3 := Ru.out.cell 3 _ rfl
  have Ruc4 := Ru.out.cell 4 _ rfl
  have Ruc5 := Ru.out.cell 5 _ rfl
  have Ruc6 := Ru.out.cell 6 _ rfl
  clear zRa Rac0 Rac1
  clear zRb Rbc0 Rbc1
  clear zRc Rcc0 Rcc1
  clear zRu Ruc0 Ruc1 Ruc2 Ruc3 Ruc4 Ruc5 Ruc6
  go_wp2_with fail
  refine (momCheck_bad 0 3 _ (by decide)).mono ?_
  rintro e w12 ⟨rfl, hb⟩
  have hbz := below_then HB.out hb
  have Ra' := Ra.out.call hb
  clear Ra
  have Ra := Lib.hid Ra'
  clear Ra'
  have Rb' := Rb.out.call hb
  clear Rb
  have Rb := Lib.hid Rb'
  clear Rb'
  have Rc' := Rc.out.call hb
  clear Rc
  have Rc := Lib.hid Rc'
  clear Rc'
  have Ru' := Ru.out.call hb
  clear Ru
  have Ru := Lib.hid Ru'
  clear Ru'
  replace HB := Lib.hid hbz
  clear hb hbz
  have zRu := Ru.out.lt
  have Ruc0 := Ru.out.cell 0 _ rfl
  have Ruc1 := Ru.out.cell 1 _ rfl
  have Ruc2 := Ru.out.cell 2 _ rfl
  have Ruc3 := Ru.out.cell 3 _ rfl
  have Ruc4 := Ru.out.cell 4 _ rfl
  have Ruc5 := Ru.out.cell 5 _ rfl
  have Ruc6 := Ru.out.cell 6 _ rfl
  go_wp2_with fail
  refine (checkUntil_ok Mo.uOct _ oct_ok).mono ?_
  rintro e w13 ⟨rfl, hb⟩
  have hbz := below_then HB.out hb
  have Ra' := Ra.out.call hb
  clear Ra
  have Ra := Lib.hid Ra'
  clear Ra'
  have Rb' := Rb.out.call hb
  clear Rb
  have Rb := Lib.hid Rb'
  clear Rb'
  have Rc' := Rc.out.call hb
  clear Rc
  have Rc := Lib.hid Rc'
  clear Rc'
  have Ru' := Ru.out.call hb
  clear Ru
  have Ru := Lib.hid Ru'
  clear Ru'
  replace HB := Lib.hid hbz
  clear hb hbz
  clear zRu Ruc0 Ruc1 Ruc2 Ruc3 Ruc4 Ruc5 Ruc6
  have zRu := Ru.out.lt
  have Ruc0 := Ru.out.cell 0 _ rfl
  have Ruc1 := Ru.out.cell 1 _ rfl
  have Ruc2 := Ru.out.cell 2 _ rfl
  have Ruc3 := Ru.out.cell 3 _ rfl
  have Ruc4 := Ru.out.cell 4 _ rfl
  have Ruc5 := Ru.out.cell 5 _ rfl
  have Ruc6 := Ru.out.cell 6 _ rfl
  go_wp2
  go_ret
  exact ⟨rfl, HB.out⟩
end Go.Proofs.YtokimlfbfbfenaaDoor
