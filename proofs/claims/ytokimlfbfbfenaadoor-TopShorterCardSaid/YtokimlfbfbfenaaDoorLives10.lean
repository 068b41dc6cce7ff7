/- The statements' own 'lives' of package era. -/
import Derived.Test.YtokimlfbfbfenaaDoorErText
import Derived.Test.YtokimlfbfbfenaaDoorErParse
import Derived.Test.YtokimlfbfbfenaaDoorLives09
namespace Go.Proofs.YtokimlfbfbfenaaDoor
open Go.RowKit

theorem erParse_is (A : Option Addr) (n c : Nat) (ss : List ByteArray) (w : World) (hW : Wp w) (hWa : Wa w) (hn : n ≤ c) (hc : c ≤ maxLen) (hr : Reads w w.heap.size 1 A n (ss.map Value.string)) (hs : ∀ t ∈ ss, t.size ≤ 1000000) (r : Er.E) (a b : Int) (h : Er.parse ss = (r, a, b)) :
    Calls Tryd.prog 33 #[.slice A n c] w fun e w' => e = .returned (.tuple #[r.v, .int .i64 a, .int .i64 b]) ∧ Below w.heap.size w w' := calls_val (erParse_any A n c ss w hW hWa hn hc hr hs) (by rw [h])
theorem itoa_2007 : Lib.itoa 2007 = [50, 48, 48, 55] := by
  unfold Lib.itoa
  rw [if_neg (by decide)]
  rw [Lib.decDigits, dif_neg (by decide), Lib.decDigits, dif_neg (by decide), Lib.decDigits, dif_neg (by decide), Lib.decDigits, dif_pos (by decide)]
  rfl
theorem reads_drew {w : World} {B size n : Nat} {A : Option Addr} {xs : List Value} (h : Reads w B size A n xs) : Reads w.drew B size A n xs := h
theorem h1_strs (l : List ByteArray) : ∀ u ∈ l.map Value.string, u.oneCell' = true := by
  intro u hu
  rw [List.mem_map] at hu
  obtain ⟨t, _, rfl⟩ := hu
  rfl
def Er.us : Er.E := ⟨-18000, 2, 0, ⟨#[85, 83]⟩, ⟨#[69, 37, 115, 84]⟩, true, ⟨2007, 3, 2, 8, 0, 7200, 1⟩⟩
def Er.usL : List ByteArray := [⟨#[45, 53, 58, 48, 48]⟩, ⟨#[85, 83]⟩, ⟨#[69, 37, 115, 84]⟩, ⟨#[50, 48, 48, 55]⟩, ⟨#[77, 97, 114]⟩, ⟨#[83, 117, 110, 62, 61, 56]⟩, ⟨#[50, 58, 48, 48, 115]⟩]
def Er.usL8 : List ByteArray := [⟨#[45, 53, 58, 48, 48]⟩, ⟨#[85, 83]⟩, ⟨#[69, 37, 115, 84]⟩, ⟨#[50, 48, 48, 55]⟩, ⟨#[77, 97, 114]⟩, ⟨#[83, 117, 110, 62, 61, 56]⟩, ⟨#[50, 58, 48, 48, 115]⟩, ⟨#[120]⟩]
theorem us_ok : Er.us.Ok := ⟨by decide +kernel, by decide +kernel, .inr (.inr ⟨rfl, rfl, by decide +kernel⟩), fun _ => ⟨⟨by decide +kernel, by decide +kernel, by decide +kernel, by decide +kernel⟩, by decide +kernel, by decide +kernel⟩, fun h => by cases h⟩
theorem us_texts : Er.us.texts = Er.usL := by
  have e1 : (⟨(Ck.text (-18000)).toArray⟩ : ByteArray) = ⟨#[45, 53, 58, 48, 48]⟩ := by rw [text_eq]; decide +kernel
  have e2 : (⟨(Mo.text 7200 1).toArray⟩ : ByteArray) = ⟨#[50, 58, 48, 48, 115]⟩ := by unfold Mo.text; rw [text_eq]; decide +kernel
  have e3 : ¬ (⟨(Mo.text 7200 1).toArray⟩ : ByteArray) = Mo.u3 := by rw [e2]; decide +kernel
  have hc : Er.us.u.count = 4 := by
    unfold Mo.U.count Er.us
    simp only
    rw [if_neg e3]
  unfold Er.E.texts Er.E.front Er.E.mid Mo.U.texts
  rw [hc]
  unfold Mo.U.full Er.us
  simp only [itoa_2007, e1, e2]
  decide +kernel

set_option maxHeartbeats 4000000 in
set_option maxRecDepth 100000 in
theorem lives10 (w : World) (hW : Wc w) (hWa : Wa w) : Calls Tryd.prog 30 #[] w fun e w' => e = .returned (.bool true) ∧ Below w.heap.size w w' := by
  have HW := Lib.hid hW
  have HWa := Lib.hid hWa
  have HB := Lib.hid (Below.refl w.heap.size w)
  obtain ⟨i0, hi0, hz0, hz1, hz2⟩ := info_parts str_info
  have HI := Lib.hid (And.intro hi0 (And.intro hz0 (And.intro hz1 hz2)))
  clear hW hWa hi0 hz0 hz1 hz2
  go_enter Tryd.func30, Tryd.ntmps30
  go_wp2_with fail
  refine (calls_val (erParse_is _ 7 7 Er.usL _ (HW.out.below (HB.out.alloc (by have := HB.out.size; first | exact this | (simp; omega)) _)).p (HWa.out.below (HB.out.alloc (by have := HB.out.size; first | exact this | (simp; omega)) _)) (by decide) (by decide) (reads_at w w.heap.size Er.usL 9 rfl) (by decide) Er.us 0 0 (by decide +kernel)) (show _ = Value.tuple #[.agg #[.int .i64 (-18000), .int .u8 2, .int .i64 0, .string ⟨#[85, 83]⟩, .string ⟨#[69, 37, 115, 84]⟩, .bool true, .int .i64 2007, .int .i64 3, .int .u8 2, .int .i64 8, .int .i64 0, .int .i64 7200, .int .u8 1], .int .i64 0, .int .i64 0] from rfl)).mono ?_
  rintro e w1 ⟨rfl, hb⟩
  have hbz := below_then (HB.out.alloc (by have := HB.out.size; first | exact this | (simp; omega)) _) hb
  have Rl := Lib.hid ((At.new w #[.string ⟨#[45, 53, 58, 48, 48]⟩, .string ⟨#[85, 83]⟩, .string ⟨#[69, 37, 115, 84]⟩, .string ⟨#[50, 48, 48, 55]⟩, .string ⟨#[77, 97, 114]⟩, .string ⟨#[83, 117, 110, 62, 61, 56]⟩, .string ⟨#[50, 58, 48, 48, 115]⟩] 9).call hb)
  replace HB := Lib.hid hbz
  clear hb hbz
  have HT := erText_ok Er.us (w1.alloc (.cells #[.int .i64 (-18000), .int .u8 2, .int .i64 0, .string ⟨#[85, 83]⟩, .string ⟨#[69, 37, 115, 84]⟩, .bool true, .int .i64 2007, .int .i64 3, .int .u8 2, .int .i64 8, .int .i64 0, .int .i64 7200, .int .u8 1] 50)) (HW.out.below (HB.out.alloc (by have := HB.out.size; first | exact this | (simp; omega)) _)) (HWa.out.below (HB.out.alloc (by have := HB.out.size; first | exact this | (simp; omega)) _)) us_ok (by decide) (by decide) (by decide)
  rw [us_texts] at HT
  go_wp2_with fail
  refine (HT).mono ?_
  rintro e w2 ⟨AL, cL, hcap, rfl, hrL, hb⟩
  have hbz := below_then (HB.out.alloc (by have := HB.out.size; first | exact this | (simp; omega)) _) hb
  have Rl' := (Rl.out.alloc _ _).call hb
  clear Rl
  have Rl := Lib.hid Rl'
  clear Rl'
  have Ra := Lib.hid ((At.new w1 #[.int .i64 (-18000), .int .u8 2, .int .i64 0, .string ⟨#[85, 83]⟩, .string ⟨#[69, 37, 115, 84]⟩, .bool true, .int .i64 2007, .int .i64 3, .int .u8 2, .int .i64 8, .int .i64 0, .int .i64 7200, .int .u8 1] 50).call hb)
  replace HB := Lib.hid hbz
  clear hb hbz
  have HRL := Lib.hid hrL
  clear hrL HT hcap
  have HBL := Lib.hid (Below.refl w2.heap.size w2)
  go_wp2_with fail
  refine (calls_val (erParse_is _ 3 3 [⟨#[45]⟩, ⟨#[45, 48, 58, 50, 48]⟩, ⟨#[120]⟩] _ (HW.out.below (HB.out.alloc (by have := HB.out.size; first | exact this | (simp; omega)) _)).p (HWa.out.below (HB.out.alloc (by have := HB.out.size; first | exact this | (simp; omega)) _)) (by decide) (by decide) (reads_at w2 w2.heap.size [⟨#[45]⟩, ⟨#[45, 48, 58, 50, 48]⟩, ⟨#[120]⟩] 9 rfl) (by decide) ⟨0, 1, -1200, ⟨#[]⟩, ⟨#[120]⟩, false, ⟨0, 0, 0, 0, 0, 0, 0⟩⟩ 0 0 (by decide +kernel)) (show _ = Value.tuple #[.agg #[.int .i64 0, .int .u8 1, .int .i64 (-1200), .string ⟨#[]⟩, .string ⟨#[120]⟩, .bool false, .int .i64 0, .int .i64 0, .int .u8 0, .int .i64 0, .int .i64 0, .int .i64 0, .int .u8 0], .int .i64 0, .int .i64 0] from rfl)).mono ?_
  rintro e w3 ⟨rfl, hb⟩
  have hbz := below_then (HB.out.alloc (by have := HB.out.size; first | exact this | (simp; omega)) _) hb
  have HBLz := below_then (HBL.out.alloc (by have := HBL.out.size; first | exact this | (simp; omega)) _) hb
  have Rl' := (Rl.out.alloc _ _).call hb
  clear Rl
  have Rl := Lib.hid Rl'
  clear Rl'
  have Ra' := (Ra.out.alloc _ _).call hb
  clear Ra
  have Ra := Lib.hid Ra'
  clear Ra'
  replace HB := Lib.hid hbz
  clear hb hbz
  replace HBL := Lib.hid HBLz
  clear HBLz
  have HX := Lib.hid (At.new w3 #[.int .i64 0, .int .u8 1, .int .i64 (-1200), .string ⟨#[]⟩, .string ⟨#[120]⟩, .bool false, .int .i64 0, .int .i64 0, .int .u8 0, .int .i64 0, .int .i64 0, .int .i64 0, .int .u8 0] 50)
  have HB1 := Lib.hid (HB.out.alloc HB.out.size (.cells #[.int .i64 0, .int .u8 1, .int .i64 (-1200), .string ⟨#[]⟩, .string ⟨#[120]⟩, .bool false, .int .i64 0, .int .i64 0, .int .u8 0, .int .i64 0, .int .i64 0, .int .i64 0, .int .u8 0] 50))
  have HL1 := Lib.hid (HBL.out.alloc HBL.out.size (.cells #[.int .i64 0, .int .u8 1, .int .i64 (-1200), .string ⟨#[]⟩, .string ⟨#[120]⟩, .bool false, .int .i64 0, .int .i64 0, .int .u8 0, .int .i64 0, .int .i64 0, .int .i64 0, .int .u8 0] 50))
  have hO1 := World.ownsRow_lit (base := w3.heap.size) (e := 9) (size := 1) (w3.alloc (.cells #[.int .i64 0, .int .u8 1, .int .i64 (-1200), .string ⟨#[]⟩, .string ⟨#[120]⟩, .bool false, .int .i64 0, .int .i64 0, .int .u8 0, .int .i64 0, .int .i64 0, .int .i64 0, .int .u8 0] 50)) #[] 0 (by simp) (by decide) (by simp)
  simp only [World.size_alloc] at hO1
  have HO1 := Lib.hid hO1
  clear hO1
  have HRl := Lib.hid (reads_first (l := Er.usL) ((Rl.out.alloc #[.int .i64 0, .int .u8 1, .int .i64 (-1200), .string ⟨#[]⟩, .string ⟨#[120]⟩, .bool false, .int .i64 0, .int .i64 0, .int .u8 0, .int .i64 0, .int .i64 0, .int .i64 0, .int .u8 0] 50).alloc #[] 9) (B := w3.heap.size) Rl.out.lt 7 (by decide))
  have HApA := fun {ops : Array Oper} {rest : List Oper} {o : Oper} {a : Act} {Q : Exit → Act → World → Prop} (hgd : o.guard = none) (ho : o.op = .call { callee := .builtin .append, args := #[.tmp 39, .tmp 40], argTypes := #[41, 41] }) (hs : a.eval (.tmp 39) = .slice (some ⟨w3.heap.size + 1, 0, none⟩) 0 0) (hx : a.eval (.tmp 40) = .slice (some ⟨w.heap.size, 0, none⟩) 7 7) h => wpList_append_any (P := Tryd.prog) (ops := ops) (rest := rest) (o := o) (a := a) (Q := Q) ((w3.alloc (.cells #[.int .i64 0, .int .u8 1, .int .i64 (-1200), .string ⟨#[]⟩, .string ⟨#[120]⟩, .bool false, .int .i64 0, .int .i64 0, .int .u8 0, .int .i64 0, .int .i64 0, .int .i64 0, .int .u8 0] 50)).alloc (.cells #[] 9)) hgd (.tmp 39) (.tmp 40) 41 ho w3.heap.size 9 i0 _ 1 16 Tryd.underlying41 HI.out.1 HI.out.2.1 HI.out.2.2.1 HI.out.2.2.2 rfl (by omega) _ 0 [] hs HO1.out w3.heap.size _ 7 7 _ hx HRl.out (h1_strs _) (by decide) (by decide) (by show _ ≤ (World.alloc (World.alloc _ _) _).heap.size; simp; omega) h
  go_wp2_with (first | (at_builtin; refine HApA rfl rfl rfl rfl ?_; intro vA wA hownA hgA hatA) | (at_builtin; refine wpList_append_any _ rfl (.tmp 41) (.tmp 42) _ rfl w3.heap.size 9 i0 _ 1 16 Tryd.underlying41 HI.out.1 HI.out.2.1 HI.out.2.2.1 HI.out.2.2.2 rfl ?_ _ _ _ rfl (hownA.alloc _) _ _ _ _ _ rfl (er_reads wA wA.heap.size [⟨#[120]⟩] 9 rfl) ?_ ?_ ?_ ?_ ?_; (· omega); (· exact h1_strs _); (· decide); (· decide); (· have := hgA.size; simp at this ⊢; omega); intro vB wB hownB hgB hatB))
  have hgA' : ((w3.alloc (.cells #[.int .i64 0, .int .u8 1, .int .i64 (-1200), .string ⟨#[]⟩, .string ⟨#[120]⟩, .bool false, .int .i64 0, .int .i64 0, .int .u8 0, .int .i64 0, .int .i64 0, .int .i64 0, .int .u8 0] 50)).alloc (.cells #[] 9)).grownBy wA (some (w3.heap.size + 1)) := hgA
  have hgB' : (wA.alloc (.cells #[.string ⟨#[120]⟩] 9)).grownBy wB vA.ownBlock := hgB
  have hatA' : vA.ownBlock = some (w3.heap.size + 1) ∨ vA.ownBlock = some (w3.heap.size + 2) := by
    rcases hatA with h | h
    · exact .inl h
    · right; rw [h]; simp
  have hAl : w3.heap.size + 2 ≤ wA.heap.size := by have := hgA'.size; simpa using this
  have hbb : Below (w3.heap.size + 1) (w3.alloc (.cells #[.int .i64 0, .int .u8 1, .int .i64 (-1200), .string ⟨#[]⟩, .string ⟨#[120]⟩, .bool false, .int .i64 0, .int .i64 0, .int .u8 0, .int .i64 0, .int .i64 0, .int .i64 0, .int .u8 0] 50)) wB := by
    have a1 := (Below.refl (w3.heap.size + 1) (w3.alloc (.cells #[.int .i64 0, .int .u8 1, .int .i64 (-1200), .string ⟨#[]⟩, .string ⟨#[120]⟩, .bool false, .int .i64 0, .int .i64 0, .int .u8 0, .int .i64 0, .int .i64 0, .int .i64 0, .int .u8 0] 50))).alloc (by simp) (.cells #[] 9)
    have a2 := a1.grown hgA' (by simp) (fun k hk => by have hk' : w3.heap.size + 1 = k := Option.some.inj hk; omega)
    have a3 := a2.alloc (by omega) (.cells #[.string ⟨#[120]⟩] 9)
    refine a3.grown hgB' (by simp; omega) (fun k hk => ?_)
    rcases hatA' with h | h
    · have hk' : w3.heap.size + 1 = k := Option.some.inj (h.symm.trans hk); omega
    · have hk' : w3.heap.size + 2 = k := Option.some.inj (h.symm.trans hk); omega
  have hb : Below w3.heap.size w3 wB := ((Below.refl w3.heap.size w3).alloc (Nat.le_refl _) _).trans (hbb.mono (by omega))
  have Rb := Lib.hid ((At.new w3 #[.int .i64 0, .int .u8 1, .int .i64 (-1200), .string ⟨#[]⟩, .string ⟨#[120]⟩, .bool false, .int .i64 0, .int .i64 0, .int .u8 0, .int .i64 0, .int .i64 0, .int .i64 0, .int .u8 0] 50).below hbb (by omega))
  have Rl' := Lib.hid (Rl.out.call hb)
  have Ra' := Lib.hid (Ra.out.call hb)
  replace HB := Lib.hid (below_then HB.out hb)
  replace HBL := Lib.hid (below_then HBL.out hb)
  obtain ⟨AB, cB, hvB, hnB, hcB⟩ := own_slice_cap hownB
  have hown8 : wB.ownsRow w3.heap.size 9 1 (.slice AB 8 cB) 8 (Er.usL8.map Value.string) := by rw [← hvB]; exact hownB
  have HRB := Lib.hid (Reads.of_own hown8)
  rw [hvB]
  clear hgA hgB hgA' hgB' hatA hatA' hatB hAl hbb hb hownA hownB hown8 hvB HX HB1 HL1 HO1 HRl HApA Rl Ra
  have Rl := Rl'
  have Ra := Ra'
  clear Rl' Ra' 
  go_wp2_with fail
  refine (calls_val (erParse_is AB 8 cB Er.usL8 _ (HW.out.below HB.out).p (HWa.out.below HB.out) hnB hcB HRB.out (by decide) Er.E.zero 7 6 (by decide +kernel)) (show _ = Value.tuple #[.agg #[.int .i64 0, .int .u8 0, .int .i64 0, .string ⟨#[]⟩, .string ⟨#[]⟩, .bool false, .int .i64 0, .int .i64 0, .int .u8 0, .int .i64 0, .int .i64 0, .int .i64 0, .int .u8 0], .int .i64 7, .int .i64 6] from rfl)).mono ?_
  rintro e w4 ⟨rfl, hb⟩
  have hbz := below_then HB.out hb
  have HBLz := below_then HBL.out hb
  have Rl' := Rl.out.call hb
  clear Rl
  have Rl := Lib.hid Rl'
  clear Rl'
  have Ra' := Ra.out.call hb
  clear Ra
  have Ra := Lib.hid Ra'
  clear Ra'
  have Rb' := Rb.out.call hb
  clear Rb
  have Rb := Lib.hid Rb'
  clear Rb'
  replace HB := Lib.hid hbz
  clear hb hbz
  replace HBL := Lib.hid HBLz
  clear HBLz
  go_wp2_with fail
  refine (calls_val (erParse_is _ 3 3 [⟨#[49, 58, 48, 48]⟩, ⟨#[45, 120]⟩, ⟨#[121]⟩] _ (HW.out.below ((HB.out.alloc (by have := HB.out.size; first | exact this | (simp; omega)) _).alloc (by have := HB.out.size; first | exact this | (simp; omega)) _)).p (HWa.out.below ((HB.out.alloc (by have := HB.out.size; first | exact this | (simp; omega)) _).alloc (by have := HB.out.size; first | exact this | (simp; omega)) _)) (by decide) (by decide) (reads_at (w4.alloc (.cells #[.int .i64 0, .int .u8 0, .int .i64 0, .string ⟨#[]⟩, .string ⟨#[]⟩, .bool false, .int .i64 0, .int .i64 0, .int .u8 0, .int .i64 0, .int .i64 0, .int .i64 0, .int .u8 0] 50)) (w4.heap.size + 1) [⟨#[49, 58, 48, 48]⟩, ⟨#[45, 120]⟩, ⟨#[121]⟩] 9 (by simp)) (by decide) Er.E.zero 1 7 (by decide +kernel)) (show _ = Value.tuple #[.agg #[.int .i64 0, .int .u8 0, .int .i64 0, .string ⟨#[]⟩, .string ⟨#[]⟩, .bool false, .int .i64 0, .int .i64 0, .int .u8 0, .int .i64 0, .int .i64 0, .int .i64 0, .int .u8 0], .int .i64 1, .int .i64 7] from rfl)).mono ?_
  rintro e w5 ⟨rfl, hb⟩
  have hbz := below_then ((HB.out.alloc (by have := HB.out.size; first | exact this | (simp; omega)) _).alloc (by have := HB.out.size; first | exact this | (simp; omega)) _) hb
  have HBLz := below_then ((HBL.out.alloc (by have := HBL.out.size; first | exact this | (simp; omega)) _).alloc (by have := HBL.out.size; first | exact this | (simp; omega)) _) hb
  have Rl' := ((Rl.out.alloc _ _).alloc _ _).call hb
  clear Rl
  have Rl := Lib.hid Rl'
  clear Rl'
  have Ra' := ((Ra.out.alloc _ _).alloc _ _).call hb
  clear Ra
  have Ra := Lib.hid Ra'
  clear Ra'
  have Rb' := ((Rb.out.alloc _ _).alloc _ _).call hb
  clear Rb
  have Rb := Lib.hid Rb'
  clear Rb'
  replace HB := Lib.hid hbz
  clear hb hbz
  replace HBL := Lib.hid HBLz
  clear HBLz
  go_wp2_with fail
  refine (calls_val (erParse_is _ 2 7 (Er.usL.take 2) _ (HW.out.below (HB.out.alloc (by have := HB.out.size; first | exact this | (simp; omega)) _)).p (HWa.out.below (HB.out.alloc (by have := HB.out.size; first | exact this | (simp; omega)) _)) (by decide) (by decide) (reads_first (l := Er.usL) (Rl.out.alloc _ _) (by have := Rl.out.lt; simp; omega) 2 (by decide)) (by decide) Er.E.zero 2 5 (by decide +kernel)) (show _ = Value.tuple #[.agg #[.int .i64 0, .int .u8 0, .int .i64 0, .string ⟨#[]⟩, .string ⟨#[]⟩, .bool false, .int .i64 0, .int .i64 0, .int .u8 0, .int .i64 0, .int .i64 0, .int .i64 0, .int .u8 0], .int .i64 2, .int .i64 5] from rfl)).mono ?_
  rintro e w6 ⟨rfl, hb⟩
  have hbz := below_then (HB.out.alloc (by have := HB.out.size; first | exact this | (simp; omega)) _) hb
  have HBLz := below_then (HBL.out.alloc (by have := HBL.out.size; first | exact this | (simp; omega)) _) hb
  have Rl' := (Rl.out.alloc _ _).call hb
  clear Rl
  have Rl := Lib.hid Rl'
  clear Rl'
  have Ra' := (Ra.out.alloc _ _).call hb
  clear Ra
  have Ra := Lib.hid Ra'
  clear Ra'
  have Rb' := (Rb.out.alloc _ _).call hb
  clear Rb
  have Rb := Lib.hid Rb'
  clear Rb'
  replace HB := Lib.hid hbz
  clear hb hbz
  replace HBL := Lib.hid HBLz
  clear HBLz
  have zRa := Ra.out.lt
  have Rac0 := Ra.out.cell 0 _ rfl
  have Rac1 := Ra.out.cell 1 _ rfl
  have Rac2 := Ra.out.cell 2 _ rfl
  have Rac3 := Ra.out.cell 3 _ rfl
  have Rac4 := Ra.out.cell 4 _ rfl
  have Rac5 := Ra.out.cell 5 _ rfl
  have Rac6 := Ra.out.cell 6 _ rfl
  have Rac7 := Ra.out.cell 7 _ rfl
  have Rac8 := Ra.out.cell 8 _ rfl
  have Rac9 := Ra.out.cell 9 _ rfl
  have Rac10 := Ra.out.cell 10 _ rfl
  have Rac11 := Ra.out.cell 11 _ rfl
  have Rac12 := Ra.out.cell 12 _ rfl
  go_wp2_with fail
  refine (texts_yes _ _ 7 7 _ 7 Er.usL Er.usL _ (by decide) (by decide) ((HRL.out.below ((HBL.out.alloc (by have := HBL.out.size; first | exact this | (simp; omega)) _).alloc (by have := HBL.out.size; first | exact this | (simp; omega)) _)).more (by have := HBL.out.size; simp; omega)) (reads_first (l := Er.usL) ((Rl.out.alloc _ _).alloc _ _) (by have := Rl.out.lt; simp; omega) 7 (by decide)) rfl).mono ?_
  rintro e w7 ⟨rfl, hb⟩
  have hbz := below_then ((HB.out.alloc (by have := HB.out.size; first | exact this | (simp; omega)) _).alloc (by have := HB.out.size; first | exact this | (simp; omega)) _) hb
  have HBLz := below_then ((HBL.out.alloc (by have := HBL.out.size; first | exact this | (simp; omega)) _).alloc (by have := HBL.out.size; first | exact this | (simp; omega)) _) hb
  have Rl' := ((Rl.out.alloc _ _).alloc _ _).call hb
  clear Rl
  have Rl := Lib.hid Rl'
  clear Rl'
  have Ra' := ((Ra.out.alloc _ _).alloc _ _).call hb
  clear Ra
  have Ra := Lib.hid Ra'
  clear Ra'
  have Rb' := ((Rb.out.alloc _ _).alloc _ _).call hb
  clear Rb
  have Rb := Lib.hid Rb'
  clear Rb'
  have Rw' := (At.new (w6.alloc (.cells #[.int .i64 0, .int .u8 0, .int .i64 0, .string ⟨#[]⟩, .string ⟨#[]⟩, .bool false, .int .i64 0, .int .i64 0, .int .u8 0, .int .i64 0, .int .i64 0, .int .i64 0, .int .u8 0] 50)) #[.int .i64 (-18000), .int .u8 2, .int .i64 0, .string ⟨#[85, 83]⟩, .string ⟨#[69, 37, 115, 84]⟩, .bool true, .int .i64 2007, .int .i64 3, .int .u8 2, .int .i64 8, .int .i64 0, .int .i64 7200, .int .u8 1] 50).call hb
  simp only [World.size_alloc] at Rw'
  have Rw := Lib.hid Rw'
  clear Rw'
  replace HB := Lib.hid hbz
  clear hb hbz
  replace HBL := Lib.hid HBLz
  clear HBLz
  clear zRa Rac0 Rac1 Rac2 Rac3 Rac4 Rac5 Rac6 Rac7 Rac8 Rac9 Rac10 Rac11 Rac12
  have zRa := Ra.out.lt
  have Rac0 := Ra.out.cell 0 _ rfl
  have Rac1 := Ra.out.cell 1 _ rfl
  have Rac2 := Ra.out.cell 2 _ rfl
  have Rac3 := Ra.out.cell 3 _ rfl
  have Rac4 := Ra.out.cell 4 _ rfl
  have Rac5 := Ra.out.cell 5 _ rfl
  have Rac6 := Ra.out.cell 6 _ rfl
  have Rac7 := Ra.out.cell 7 _ rfl
  have Rac8 := Ra.out.cell 8 _ rfl
  have Rac9 := Ra.out.cell 9 _ rfl
  have Rac10 := Ra.out.cell 10 _ rfl
  have Rac11 := Ra.out.cell 11 _ rfl
  have Rac12 := Ra.out.cell 12 _ rfl
  clear zRa Rac0 Rac1 Rac2 Rac3 Rac4 Rac5 Rac6 Rac7 Rac8 Rac9 Rac10 Rac11 Rac12
  have zRb := Rb.out.lt
  have Rbc0 := Rb.out.cell 0 _ rfl
  have Rbc1 := Rb.out.cell 1 _ rfl
  have Rbc2 := Rb.out.cell 2 _ rfl
  have Rbc3 := Rb.out.cell 3 _ rfl
  have Rbc4 := Rb.out.cell 4 _ rfl
  have Rbc5 := Rb.out.cell 5 _ rfl
  have Rbc6 := Rb.out.cell 6 _ rfl
  have Rbc7 := Rb.out.cell 7 _ rfl
  have Rbc8 := Rb.out.cell 8 _ rfl
  have Rbc9 := Rb.out.cell 9 _ rfl
  have Rbc10 := Rb.out.cell 10 _ rfl
  have Rbc11 := Rb.out.cell 11 _ rfl
  have Rbc12 := Rb.out.cell 12 _ rfl
  have zRw := Rw.out.lt
  have Rwc0 := Rw.out.cell 0 _ rfl
  have Rwc1 := Rw.out.cell 1 _ rfl
  have Rwc2 := Rw.out.cell 2 _ rfl
  have Rwc3 := Rw.out.cell 3 _ rfl
  have Rwc4 := Rw.out.cell 4 _ rfl
  have Rwc5 := Rw.out.cell 5 _ rfl
  have Rwc6 := Rw.out.cell 6 _ rfl
  have Rwc7 := Rw.out.cell 7 _ rfl
  have Rwc8 := Rw.out.cell 8 _ rfl
  have Rwc9 := Rw.out.cell 9 _ rfl
  have Rwc10 := Rw.out.cell 10 _ rfl
  have Rwc11 := Rw.out.cell 11 _ rfl
  have Rwc12 := Rw.out.cell 12 _ rfl
  go_wp2_with fail
  refine (eraCheck_ok Er.us _ (HWa.out.below HB.out) us_ok (by decide) (by decide)).mono ?_
  rintro e w8 ⟨rfl, hb⟩
  have hbz := below_then HB.out hb
  have HBLz := below_then HBL.out hb
  have Rl' := Rl.out.call hb
  clear Rl
  have Rl := Lib.hid Rl'
  clear Rl'
  have Ra' := Ra.out.call hb
  clear Ra
  have Ra := Lib.hid Ra'
  clear Ra'
  have Rb' := Rb.out.call hb
  clear Rb
  have Rb := Lib.hid Rb'
  clear Rb'
  have Rw' := Rw.out.call hb
  clear Rw
  have Rw := Lib.hid Rw'
  clear Rw'
  replace HB := Lib.hid hbz
  clear hb hbz
  replace HBL := Lib.hid HBLz
  clear HBLz
  clear zRb Rbc0 Rbc1 Rbc2 Rbc3 Rbc4 Rbc5 Rbc6 Rbc7 Rbc8 Rbc9 Rbc10 Rbc11 Rbc12
  have zRb := Rb.out.lt
  have Rbc0 := Rb.out.cell 0 _ rfl
  have Rbc1 := Rb.out.cell 1 _ rfl
  have Rbc2 := Rb.out.cell 2 _ rfl
  have Rbc3 := Rb.out.cell 3 _ rfl
  have Rbc4 := Rb.out.cell 4 _ rfl
  have Rbc5 := Rb.out.cell 5 _ rfl
  have Rbc6 := Rb.out.cell 6 _ rfl
  have Rbc7 := Rb.out.cell 7 _ rfl
  have Rbc8 := Rb.out.cell 8 _ rfl
  have Rbc9 := Rb.out.cell 9 _ rfl
  have Rbc10 := Rb.out.cell 10 _ rfl
  have Rbc11 := Rb.out.cell 11 _ rfl
  have Rbc12 := Rb.out.cell 12 _ rfl
  clear zRw Rwc0 Rwc1 Rwc2 Rwc3 Rwc4 Rwc5 Rwc6 Rwc7 Rwc8 Rwc9 Rwc10 Rwc11 Rwc12
  have zRw := Rw.out.lt
  have Rwc0 := Rw.out.cell 0 _ rfl
  have Rwc1 := Rw.out.cell 1 _ rfl
  have Rwc2 := Rw.out.cell 2 _ rfl
  have Rwc3 := Rw.out.cell 3 _ rfl
  have Rwc4 := Rw.out.cell 4 _ rfl
  have Rwc5 := Rw.out.cell 5 _ rfl
  have Rwc6 := Rw.out.cell 6 _ rfl
  have Rwc7 := Rw.out.cell 7 _ rfl
  have Rwc8 := Rw.out.cell 8 _ rfl
  have Rwc9 := Rw.out.cell 9 _ rfl
  have Rwc10 := Rw.out.cell 10 _ rfl
  have Rwc11 := Rw.out.cell 11 _ rfl
  have Rwc12 := Rw.out.cell 12 _ rfl
  go_wp2_with fail
  refine (eraCheck_bad Er.E.zero _ (HWa.out.below HB.out) (fun h => absurd h.2.1 (by decide +kernel)) (by decide) (by decide)).mono ?_
  rintro e w9 ⟨rfl, hb⟩
  have hbz := below_then HB.out hb
  have HBLz := below_then HBL.out hb
  have Rl' := Rl.out.call hb
  clear Rl
  have Rl := Lib.hid Rl'
  clear Rl'
  have Ra' := Ra.out.call hb
  clear Ra
  have Ra := Lib.hid Ra'
  clear Ra'
  have Rb' := Rb.out.call hb
  clear Rb
  have Rb := Lib.hid Rb'
  clear Rb'
  have Rw' := Rw.out.call hb
  clear Rw
  have Rw := Lib.hid Rw'
  clear Rw'
  replace HB := Lib.hid hbz
  clear hb hbz
  replace HBL := Lib.hid HBLz
  clear HBLz
  clear zRb Rbc0 Rbc1 Rbc2 Rbc3 Rbc4 Rbc5 Rbc6 Rbc7 Rbc8 Rbc9 Rbc10 Rbc11 Rbc12
  have zRb := Rb.out.lt
  have Rbc0 := Rb.out.cell 0 _ rfl
  have Rbc1 := Rb.out.cell 1 _ rfl
  have Rbc2 := Rb.out.cell 2 _ rfl
  have Rbc3 := Rb.out.cell 3 _ rfl
  have Rbc4 := Rb.out.cell 4 _ rfl
  have Rbc5 := Rb.out.cell 5 _ rfl
  have Rbc6 := Rb.out.cell 6 _ rfl
  have Rbc7 := Rb.out.cell 7 _ rfl
  have Rbc8 := Rb.out.cell 8 _ rfl
  have Rbc9 := Rb.out.cell 9 _ rfl
  have Rbc10 := Rb.out.cell 10 _ rfl
  have Rbc11 := Rb.out.cell 11 _ rfl
  have Rbc12 := Rb.out.cell 12 _ rfl
  clear zRw Rwc0 Rwc1 Rwc2 Rwc3 Rwc4 Rwc5 Rwc6 Rwc7 Rwc8 Rwc9 Rwc10 Rwc11 Rwc12
  have zRw := Rw.out.lt
  have Rwc0 := Rw.out.cell 0 _ rfl
  have Rwc1 := Rw.out.cell 1 _ rfl
  have Rwc2 := Rw.out.cell 2 _ rfl
  have Rwc3 := Rw.out.cell 3 _ rfl
  have Rwc4 := Rw.out.cell 4 _ rfl
  have Rwc5 := Rw.out.cell 5 _ rfl
  have Rwc6 := Rw.out.cell 6 _ rfl
  have Rwc7 := Rw.out.cell 7 _ rfl
  have Rwc8 := Rw.out.cell 8 _ rfl
  have Rwc9 := Rw.out.cell 9 _ rfl
  have Rwc10 := Rw.out.cell 10 _ rfl
  have Rwc11 := Rw.out.cell 11 _ rfl
  have Rwc12 := Rw.out.cell 12 _ rfl
  go_wp2
  go_ret
  exact ⟨rfl, HB.out⟩
end Go.Proofs.YtokimlfbfbfenaaDoor
