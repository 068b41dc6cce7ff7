/- A region that draws its order: calls that only make memory, and at its end operations in one order (a slice that is built of their results, or a store). One walk, in the order of the text. -/
import Derived.StillTail
import Derived.Lib.QuietBelow
import Derived.Test.YtjobhjemnmleaaaGreatDoorQ08
set_option maxRecDepth 100000
set_option maxHeartbeats 2000000
namespace Go.Proofs.YtjobhjemnmleaaaGreatDoor
open Go.RowKit Go.Sort
section
variable {P : Program} {ops : Array Oper} {md : Region.Mode} {C : World → Prop}
def headAll (P : Program) (md : Region.Mode) (ops : Array Oper) (C : World → Prop) (n : Nat) (L : Array Bool → Act → Prop) : Nat → Array Bool → Act → Prop
 | 0, s, a => L s a
 | f + 1, s, a => Region.ready md ops s ≠ [] ∧ ∀ i ∈ Region.ready md ops s, i < n ∧ qOp P ops C i (headAll P md ops C n L f (s.setIfInBounds i true)) a
theorem any_of_head {n g : Nat} {L : Array Bool → Act → Prop} {Q : Exit → Act → World → Prop} (hL : ∀ s a w, C w → L s a → wpAny P md ops Q g s a w) :
  ∀ (f : Nat) (s : Array Bool) (a : Act) (w : World), C w → headAll P md ops C n L f s a → wpAny P md ops Q (f + g) s a w
 | 0, s, a, w, hw, h => by rw [Nat.zero_add]; exact hL _ _ _ hw h
 | f + 1, s, a, w, hw, h => by
  rw [show f + 1 + g = (f + g) + 1 by omega];exact ⟨fun h0 => absurd h0 h.1, fun i hi => wpOp_of_qOp hw (fun a' w' hw' h' => any_of_head hL f _ a' w' hw' h') (h.2 i hi).2⟩
theorem head_first {n i : Nat} {oi : Oper} {v : Value} {L : Array Bool → Act → Prop} (hi : ops[i]? = some oi) (hsel : ∀ (j : Nat) (o : Oper) cs b, ops[j]? = some o → o.op ≠ .select cs b)
  (hs : Region.sinkB md ops n = true) (hc : Region.chainB md ops n = true) (hn : n < ops.size) (hin : i < n) (hdone : ∀ s a, L s a → ∀ j ∈ Region.ready md ops s, n ≤ j) :
  ∀ (f : Nat) (s : Array Bool) (a : Act), HeadInv md ops n s →
   (∀ j oj, ops[j]? = some oj → j ≠ i → s.getD j true = false → (∀ e ∈ oj.after, Region.binds md e = true → e.on ≠ i) → oi.apart ops oj = true) →
   i ∈ Region.ready md ops s → YieldsIn P ops C oi v a →
   headAll P md ops C n L f (s.setIfInBounds i true) (a.put oi.dst v) → headAll P md ops C n L (f + 1) s a := by
 intro f
 induction f with
 | zero =>
  intro s a inv _ hr hy H;have hun := (mem_ready.1 hr).1;refine ⟨fun h => (by rw [h] at hr; cases hr), fun j hj => ?_⟩;have hjn : j < n := by
   rcases Nat.lt_or_ge j n with h | h
   ·exact h
   ·exact absurd hj (tail_waits hs hc hn inv _ i rfl hin hun j h)
  refine ⟨hjn, ?_⟩
  by_cases hji : j = i
  ·subst hji; exact hy.qOp hi H
  ·have := hdone _ _ H j (ready_mono hj hji);omega
 | succ f ih =>
  intro s a inv hfree hr hy H;have hun := (mem_ready.1 hr).1;refine ⟨fun h => (by rw [h] at hr; cases hr), fun j hj => ?_⟩;have hjn : j < n := by
   rcases Nat.lt_or_ge j n with h | h
   ·exact h
   ·exact absurd hj (tail_waits hs hc hn inv _ i rfl hin hun j h)
  refine ⟨hjn, ?_⟩
  by_cases hji : j = i
  ·subst hji; exact hy.qOp hi H
  ·have h1 := (H.2 j (ready_mono hj hji)).2;obtain ⟨hjun, oj, hoj, hall⟩ := mem_ready.1 hj;have hnot : ∀ e ∈ oj.after, Region.binds md e = true → e.on ≠ i := fun e he hb heq => by
    have h1 := hall e he hb;rw [heq, getD_both hun] at h1;cases h1
   have h2 := qOp_put hoj (hfree j oj hoj hji hjun hnot) (fun cs b => hsel i oi cs b hi) (fun cs b => hsel j oj cs b hoj) hy h1;have hfree' : ∀ k ok, ops[k]? = some ok → k ≠ i → (s.setIfInBounds j true).getD k true = false →
     (∀ e ∈ ok.after, Region.binds md e = true → e.on ≠ i) → oi.apart ops ok = true := fun k ok hk hki hu hno => by
    refine hfree k ok hk hki ?_ hno
    by_cases hjk : j = k
    ·subst hjk; exact hjun
    ·rw [getD_set_ne true hjk] at hu; exact hu
   refine qOp_mono (fun a' h3 => ih (s.setIfInBounds j true) a' (inv.set hj hjn) hfree' (ready_mono hr (Ne.symm hji)) h3.1 ?_) h2;rw [Array.setIfInBounds_comm _ _ hji];exact h3.2
theorem head_lex {n g : Nat} {Lq : Act → Prop} (hsel : Region.noSelect ops = true) (hs : Region.sinkB md ops n = true) (hc : Region.chainB md ops n = true) (hn : n < ops.size) :
  ∀ (l : List Oper) (k : Nat) (s : Array Bool) (a : Act), (∀ j, j < l.length → l[j]? = ops[k + j]?) → k + l.length = n → HeadInv md ops n s →
  Region.lexHead md ops g l.length k s = true → wpQuiet P ops C Lq l a →
  headAll P md ops C n (fun s' a' => Region.seqB md ops g n s' = true ∧ Lq a') l.length s a
 | [], k, s, a, _, hk, _, hB, h => by
  have : k = n := by simpa using hk
  subst this;exact ⟨by simpa [Region.lexHead] using hB, h⟩
 | o :: l, k, s, a, hl, hk, inv, hB, h => by
  have h0 : ops[k]? = some o := by simpa using (hl 0 (by simp)).symm
  simp only [List.length_cons, Region.lexHead, Bool.and_eq_true] at hB;obtain ⟨⟨hr, hf⟩, hB'⟩ := hB;have hkn : k < n := by simp only [List.length_cons] at hk; omega
  have hr' : k ∈ Region.ready md ops s := by simpa using hr
  have hst : qOp P ops C k (wpQuiet P ops C Lq l) a := by unfold qOp; simp only [h0]; exact h
  obtain ⟨v, hy, hK⟩ := yieldsIn_of_qOp h0 hst;exact head_first h0 (Region.noSelect_spec hsel) hs hc hn hkn (fun s' a' hL => seqB_ready hL.1) l.length s a inv (Region.free_spec h0 hf) hr' hy
   (head_lex hsel hs hc hn l (k + 1) _ _ (fun j hj => by have := hl (j + 1) (by simp; omega); simpa [Nat.add_assoc, Nat.add_comm 1 j] using this) (by simp only [List.length_cons] at hk; omega) (inv.set hr' hkn) hB' hK)
theorem wp_region_quiet_tail {id : Nat} {Q : Exit → Act → World → Prop} {a : Act} {w : World} {l : List Oper} (n : Nat) (hm : P.follows .mixedOrders = true) (hB : Region.lexTailB .any l.toArray n = true) (hC : C { w with drawn := w.drawn + 1 })
  (h : wpQuiet P l.toArray C (fun a' => ∀ w', C w' → wpList P l.toArray Q (l.drop n) a' w') (l.take n) a) : (Code.region id l.toArray true).wp P Q a w := by
 simp only [Region.lexTailB, Bool.and_eq_true, decide_eq_true_eq] at hB;obtain ⟨⟨⟨⟨hsel, hn⟩, hs⟩, hc⟩, hlex⟩ := hB;have hn' : n < l.length := by simpa using hn
 have htl : (l.take n).length = n := by simp; omega
 have hdl : (l.drop n).length = l.toArray.size - n := by simp
 have inv0 : HeadInv .any l.toArray n (Array.replicate l.toArray.size false) :=
  ⟨by simp, fun j oj _ hl => (by rw [getD_replicate_false] at hl; cases hl), fun t _ ht => getD_in (by simpa using ht) (getD_replicate_false _ _)⟩
 have H := head_lex (md := .any) (g := l.toArray.size - n) hsel hs hc hn (l.take n) 0 _ a (fun j hj => by
  have hj' : j < n := by rw [htl] at hj; exact hj
  simp [hj']) (by simpa using htl) inv0 (by rw [htl]; exact hlex) h
 refine wp_region_any hm ?_;have := any_of_head (Q := Q) (g := l.toArray.size - n) (fun s a' w' hw' hL => by
  have := wpAny_of_seq (md := .any) (Q' := Q) (l.drop n) n s a' w' (fun j => by simp [List.getElem?_drop]) (by rw [hdl]; exact hL.1) (hL.2 w' hw')
  rwa [hdl] at this) _ _ _ _ hC H
 rw [htl, show n + (l.toArray.size - n) = l.toArray.size by omega] at this;exact this
theorem wp_region_tail {id : Nat} {Q : Exit → Act → World → Prop} {a : Act} {w : World} {l : List Oper} (n : Nat) (hm : P.follows .mixedOrders = true) (hB : Region.lexTailB .any l.toArray n = true)
  (h : wpQuiet P l.toArray (fun w' => ∃ p : Regrown, w' = grow (redrawn w p.d) p.os) (fun a' => ∀ w', (∃ p : Regrown, w' = grow (redrawn w p.d) p.os) → wpList P l.toArray Q (l.drop n) a' w') (l.take n) a) : (Code.region id l.toArray true).wp P Q a w :=
 wp_region_quiet_tail (C := fun w' => ∃ p : Regrown, w' = grow (redrawn w p.d) p.os) n hm hB ⟨⟨w.drawn + 1, #[]⟩, by rw [grow_empty]; rfl⟩ h
end
end Go.Proofs.YtjobhjemnmleaaaGreatDoor
namespace Go.Proofs.YtjobhjemnmleaaaGreatDoor
open Go.RowKit Go.Sort
namespace Ru
end Ru
theorem empty_no (s : ByteArray) (h : ¬ s = ⟨#[]⟩) : s.toList.isEmpty = false := by
 rw [ByteArray.toList_eq];cases e : s.data.toList with
 | nil =>
  exfalso
  apply h;apply ByteArray.ext;apply Array.ext';rw [e]
 | cons a l => rfl
end Go.Proofs.YtjobhjemnmleaaaGreatDoor
namespace Go.Proofs.YtjobhjemnmleaaaGreatDoor
open Go.RowKit
namespace Ab
def b0 : ByteArray := ⟨#[]⟩
def pS : ByteArray := ⟨#[37, 115]⟩
def pZ : ByteArray := ⟨#[37, 122]⟩
def pE : ByteArray := ⟨#[47]⟩
def ahd (f p : ByteArray) : ByteArray := ⟨(Lib.cut f.data.toList p.data.toList).1.toArray⟩
def bhd (f p : ByteArray) : ByteArray := ⟨(Lib.cut f.data.toList p.data.toList).2.1.toArray⟩
def has (f p : ByteArray) : Bool := (Lib.cut f.data.toList p.data.toList).2.2
def cutf (f : ByteArray) : ByteArray × ByteArray × ByteArray × Bool :=
 if f.size < 1 ∨ 32 < f.size then (b0, b0, b0, false)
 else if has f pS = true then (ahd f pS, pS, bhd f pS, all [ahd f pS, bhd f pS])
 else if has f pZ = true then (ahd f pZ, pZ, bhd f pZ, all [ahd f pZ, bhd f pZ])
 else if has f pE = true then (ahd f pE, pE, bhd f pE, !decide (ahd f pE = b0) && (!decide (bhd f pE = b0) && all [ahd f pE, bhd f pE]))
 else (f, b0, b0, all [f])
def fmt (f : ByteArray) : Bool := (cutf f).2.2.2
end Ab
instance decU : DecidableEq Mo.U := fun a b => decidable_of_iff (a.y = b.y ∧ a.m = b.m ∧ a.k = b.k ∧ a.n = b.n ∧ a.d = b.d ∧ a.s = b.s ∧ a.c = b.c) (by cases a; cases b; simp)
namespace Er
structure E where
 std : Int
 k : Int
 sv : Int
 ru : ByteArray
 fm : ByteArray
 en : Bool
 u : Mo.U
instance decE : DecidableEq E := fun a b => decidable_of_iff (a.std = b.std ∧ a.k = b.k ∧ a.sv = b.sv ∧ a.ru = b.ru ∧ a.fm = b.fm ∧ a.en = b.en ∧ a.u = b.u) (by cases a; cases b; simp)
def E.v (e : E) : Value := .agg #[.int .i64 e.std, .int .u8 e.k, .int .i64 e.sv, .string e.ru, .string e.fm, .bool e.en, .int .i64 e.u.y, .int .i64 e.u.m, .int .u8 e.u.k, .int .i64 e.u.n, .int .i64 e.u.d, .int .i64 e.u.s, .int .u8 e.u.c]
def E.cells (e : E) : List Value := [.int .i64 e.std, .int .u8 e.k, .int .i64 e.sv, .string e.ru, .string e.fm, .bool e.en, .int .i64 e.u.y, .int .i64 e.u.m, .int .u8 e.u.k, .int .i64 e.u.n, .int .i64 e.u.d, .int .i64 e.u.s, .int .u8 e.u.c]
def E.zero : E := ⟨0, 0, 0, ⟨#[]⟩, ⟨#[]⟩, false, Mo.U.zero⟩
def E.Kind (e : E) : Prop := (e.k = 0 ∧ e.sv = 0 ∧ e.ru = ⟨#[]⟩) ∨ (e.k = 1 ∧ IsTime e.sv ∧ e.ru = ⟨#[]⟩) ∨ (e.k = 2 ∧ e.sv = 0 ∧ Ru.name (tl e.ru) = true)
def E.Ok (e : E) : Prop := IsTime e.std ∧ Ab.fmt e.fm = true ∧ e.Kind ∧ (e.en = true → e.u.Ok) ∧ (e.en = false → e.u = Mo.U.zero)
end Er
end Go.Proofs.YtjobhjemnmleaaaGreatDoor
namespace Go.Proofs.YtjobhjemnmleaaaGreatDoor
open Go.RowKit
structure Wa (w : World) : Prop where
 a0 : w.cell? ⟨1, 0, none⟩ = some (.string ⟨#[37, 115]⟩)
 a1 : w.cell? ⟨1, 1, none⟩ = some (.string ⟨#[37, 122]⟩)
 maxl : ∃ m, w.cell? ⟨2, 0, none⟩ = some (.int .i64 m)
theorem Wa.below {w w' : World} (h : Wa w) (hb : Below w.heap.size w w') : Wa w' := by
 obtain ⟨m, hm⟩ := h.maxl;have hl : 1 < w.heap.size := block_lt_of_cell h.a0;exact ⟨(hb.cell (p := ⟨_, 0, none⟩) hl).trans h.a0, (hb.cell (p := ⟨_, 1, none⟩) hl).trans h.a1, ⟨m, (hb.cell (p := ⟨_, 0, none⟩) (block_lt_of_cell hm)).trans hm⟩⟩
theorem cut_is (f p : ByteArray) (w : World) (hW : Wa w) (hs : f.size ≤ 1000000) (a b : ByteArray) (c : Bool) (ha : Ab.ahd f p = a) (hb : Ab.bhd f p = b) (hc : Ab.has f p = c) :
  Calls Tryz.prog 201 #[.string f, .string p] w fun e w' => e = .returned (.tuple #[.string a, .string b, .bool c]) ∧ Drew w w' := by
 obtain ⟨m, hm⟩ := hW.maxl;subst ha hb hc;exact Tryz.strings_Cut f p m w (by omega) hm
theorem cut_parts (f p : ByteArray) : (Ab.ahd f p).size ≤ f.size ∧ (Ab.bhd f p).size ≤ f.size := by
 have := cut_len f.data.toList p.data.toList;have e : f.data.toList.length = f.size := tl_length f;rw [e] at this;exact this
theorem reads_pair (w : World) (a b : ByteArray) (t : TypeId) : Reads (w.alloc (.cells #[.string a, .string b] t)) (w.alloc (.cells #[.string a, .string b] t)).heap.size 1 (some ⟨w.heap.size, 0, none⟩) 2 ([a, b].map Value.string) := reads_new w [a, b] t
theorem signs_two (a b : ByteArray) (w : World) (ha : a.size ≤ 1000000) (hb : b.size ≤ 1000000) :
  Calls Tryz.prog 164 #[.slice (some ⟨w.heap.size, 0, none⟩) 2 2] (w.alloc (.cells #[.string a, .string b] 9)) fun e w' => e = .returned (.bool (Ab.all [a, b])) ∧ (w.alloc (.cells #[.string a, .string b] 9)) = w' :=
 signs_any _ 2 2 [a, b] _ (by decide) (reads_pair w a b _) (by intro t ht; simp at ht; rcases ht with rfl | rfl <;> assumption)
theorem signs_one (a : ByteArray) (w : World) (ha : a.size ≤ 1000000) :
  Calls Tryz.prog 164 #[.slice (some ⟨w.heap.size, 0, none⟩) 1 1] (w.alloc (.cells #[.string a] 9)) fun e w' => e = .returned (.bool (Ab.all [a])) ∧ (w.alloc (.cells #[.string a] 9)) = w' :=
 signs_any _ 1 1 [a] _ (by decide) (reads_one w a _) (by intro t ht; simp at ht; subst ht; exact ha)
def Ab.Ret (c : ByteArray × ByteArray × ByteArray × Bool) (w : World) (e : Ending) (w' : World) : Prop :=
 e = .returned (.tuple #[.string c.1, .string c.2.1, .string c.2.2.1, .bool c.2.2.2]) ∧ Below w.heap.size w w'
def Ab.Rel (w : World) (K : Nat) (i : Value) (wr : World) : Prop := ∃ k : Nat, k ≤ K ∧ i = .int .i64 k ∧ Hid (Drew w wr)
theorem abbrCut_S (f : ByteArray) (w : World) (hW : Wa w) (h1 : 1 ≤ f.size) (h32 : f.size ≤ 32) (hS : Ab.has f ⟨#[37, 115]⟩ = true) :
  Calls Tryz.prog 170 #[.string f] w (Ab.Ret (Ab.ahd f ⟨#[37, 115]⟩, ⟨#[37, 115]⟩, Ab.bhd f ⟨#[37, 115]⟩, Ab.all [Ab.ahd f ⟨#[37, 115]⟩, Ab.bhd f ⟨#[37, 115]⟩]) w) := by
 have i0 : ∀ W, (Instr.index 336 (.agg #[.string ⟨#[37, 115]⟩, .string ⟨#[37, 122]⟩]) (.int .i64 0)).run Tryz.prog W = .ok (.string ⟨#[37, 115]⟩) W := fun _ => by kernel_rfl
 have i1 : ∀ W, (Instr.index 336 (.agg #[.string ⟨#[37, 115]⟩, .string ⟨#[37, 122]⟩]) (.int .i64 1)).run Tryz.prog W = .ok (.string ⟨#[37, 122]⟩) W := fun _ => by kernel_rfl
 have a0 := hW.a0;have a1 := hW.a1;have q1 : ¬ (f.size : Int) < 1 := by omega
 have q2 : ¬ (32 : Int) < (f.size : Int) := by omega
 have HW := Lib.hid hW;obtain ⟨aS, haS⟩ : ∃ a, Ab.ahd f ⟨#[37, 115]⟩ = a := ⟨_, rfl⟩
 obtain ⟨bS, hbS⟩ : ∃ b, Ab.bhd f ⟨#[37, 115]⟩ = b := ⟨_, rfl⟩
 have sS := cut_parts f ⟨#[37, 115]⟩;rw [haS, hbS] at sS;have HCS := Lib.hid fun W hw => cut_is f ⟨#[37, 115]⟩ W hw (by omega) aS bS true haS hbS hS
 clear hW;go_enter Tryz.func170, Tryz.ntmps170
 go_wp2;go_loopw [23] (Ab.Rel w 0) (fun i _ => 2 - (intOf i).toNat)
 case atStart => exact ⟨0, by omega, rfl, Drew.refl w⟩
 case round =>
  obtain ⟨k, hk, rfl, HD⟩ := hrel;have e0 := (HD.out.cell ⟨1, 0, none⟩).trans a0;have e1 := (HD.out.cell ⟨1, 1, none⟩).trans a1;have hkk : k = 0 := by omega
  subst hkk
  ·skip
   go_wp2_with fail
   refine (HCS.out _ (HW.out.below (HD.out.below _))).mono ?_;rintro e w1 ⟨rfl, hd⟩;have HS := Lib.hid fun W => signs_two aS bS W (by omega) (by omega)
   go_wp2_with fail
   refine (HS.out _).mono ?_;rintro e w3 ⟨rfl, rfl⟩;go_wp2;refine bodyPost_ret (v := .tuple #[.string aS, .string ⟨#[37, 115]⟩, .string bS, .bool (Ab.all [aS, bS])]) (by simp [results, Tryz.results170, go_sem]) rfl ⟨?_, ?_⟩
   ·rw [← haS, ← hbS]
   ·exact ((HD.out.trans hd).below _).alloc ((HD.out.trans hd).below w.heap.size).size _
theorem abbrCut_Z (f : ByteArray) (w : World) (hW : Wa w) (h1 : 1 ≤ f.size) (h32 : f.size ≤ 32) (hS : Ab.has f ⟨#[37, 115]⟩ = false) (hZ : Ab.has f ⟨#[37, 122]⟩ = true) :
  Calls Tryz.prog 170 #[.string f] w (Ab.Ret (Ab.ahd f ⟨#[37, 122]⟩, ⟨#[37, 122]⟩, Ab.bhd f ⟨#[37, 122]⟩, Ab.all [Ab.ahd f ⟨#[37, 122]⟩, Ab.bhd f ⟨#[37, 122]⟩]) w) := by
 have i0 : ∀ W, (Instr.index 336 (.agg #[.string ⟨#[37, 115]⟩, .string ⟨#[37, 122]⟩]) (.int .i64 0)).run Tryz.prog W = .ok (.string ⟨#[37, 115]⟩) W := fun _ => by kernel_rfl
 have i1 : ∀ W, (Instr.index 336 (.agg #[.string ⟨#[37, 115]⟩, .string ⟨#[37, 122]⟩]) (.int .i64 1)).run Tryz.prog W = .ok (.string ⟨#[37, 122]⟩) W := fun _ => by kernel_rfl
 have a0 := hW.a0;have a1 := hW.a1;have q1 : ¬ (f.size : Int) < 1 := by omega
 have q2 : ¬ (32 : Int) < (f.size : Int) := by omega
 have HW := Lib.hid hW;obtain ⟨aS, haS⟩ : ∃ a, Ab.ahd f ⟨#[37, 115]⟩ = a := ⟨_, rfl⟩
 obtain ⟨bS, hbS⟩ : ∃ b, Ab.bhd f ⟨#[37, 115]⟩ = b := ⟨_, rfl⟩
 have sS := cut_parts f ⟨#[37, 115]⟩;rw [haS, hbS] at sS;have HCS := Lib.hid fun W hw => cut_is f ⟨#[37, 115]⟩ W hw (by omega) aS bS false haS hbS hS
 obtain ⟨aZ, haZ⟩ : ∃ a, Ab.ahd f ⟨#[37, 122]⟩ = a := ⟨_, rfl⟩
 obtain ⟨bZ, hbZ⟩ : ∃ b, Ab.bhd f ⟨#[37, 122]⟩ = b := ⟨_, rfl⟩
 have sZ := cut_parts f ⟨#[37, 122]⟩;rw [haZ, hbZ] at sZ;have HCZ := Lib.hid fun W hw => cut_is f ⟨#[37, 122]⟩ W hw (by omega) aZ bZ true haZ hbZ hZ
 clear hW;go_enter Tryz.func170, Tryz.ntmps170
 go_wp2;go_loopw [23] (Ab.Rel w 1) (fun i _ => 2 - (intOf i).toNat)
 case atStart => exact ⟨0, by omega, rfl, Drew.refl w⟩
 case round =>
  obtain ⟨k, hk, rfl, HD⟩ := hrel;have e0 := (HD.out.cell ⟨1, 0, none⟩).trans a0;have e1 := (HD.out.cell ⟨1, 1, none⟩).trans a1;have hkk : k = 0 ∨ k = 1 := by omega
  rcases hkk with rfl | rfl
  ·skip
   go_wp2_with fail
   refine (HCS.out _ (HW.out.below (HD.out.below _))).mono ?_;rintro e w1 ⟨rfl, hd⟩;go_wp2;go_roundw
   case rel => exact ⟨1, by omega, rfl, HD.out.trans hd⟩
   case measure => (first | (simp [intOf]; done) | (simp [intOf]; omega))
  ·skip
   go_wp2_with fail
   refine (HCZ.out _ (HW.out.below (HD.out.below _))).mono ?_;rintro e w1 ⟨rfl, hd⟩;have HS := Lib.hid fun W => signs_two aZ bZ W (by omega) (by omega)
   go_wp2_with fail
   refine (HS.out _).mono ?_;rintro e w3 ⟨rfl, rfl⟩;go_wp2;refine bodyPost_ret (v := .tuple #[.string aZ, .string ⟨#[37, 122]⟩, .string bZ, .bool (Ab.all [aZ, bZ])]) (by simp [results, Tryz.results170, go_sem]) rfl ⟨?_, ?_⟩
   ·rw [← haZ, ← hbZ]
   ·exact ((HD.out.trans hd).below _).alloc ((HD.out.trans hd).below w.heap.size).size _
theorem abbrCut_E (f : ByteArray) (w : World) (hW : Wa w) (h1 : 1 ≤ f.size) (h32 : f.size ≤ 32) (hS : Ab.has f ⟨#[37, 115]⟩ = false) (hZ : Ab.has f ⟨#[37, 122]⟩ = false) (hE : Ab.has f ⟨#[47]⟩ = true) :
  Calls Tryz.prog 170 #[.string f] w (Ab.Ret (Ab.ahd f ⟨#[47]⟩, ⟨#[47]⟩, Ab.bhd f ⟨#[47]⟩, !decide (Ab.ahd f ⟨#[47]⟩ = Ab.b0) && (!decide (Ab.bhd f ⟨#[47]⟩ = Ab.b0) && Ab.all [Ab.ahd f ⟨#[47]⟩, Ab.bhd f ⟨#[47]⟩])) w) := by
 have i0 : ∀ W, (Instr.index 336 (.agg #[.string ⟨#[37, 115]⟩, .string ⟨#[37, 122]⟩]) (.int .i64 0)).run Tryz.prog W = .ok (.string ⟨#[37, 115]⟩) W := fun _ => by kernel_rfl
 have i1 : ∀ W, (Instr.index 336 (.agg #[.string ⟨#[37, 115]⟩, .string ⟨#[37, 122]⟩]) (.int .i64 1)).run Tryz.prog W = .ok (.string ⟨#[37, 122]⟩) W := fun _ => by kernel_rfl
 have a0 := hW.a0;have a1 := hW.a1;have q1 : ¬ (f.size : Int) < 1 := by omega
 have q2 : ¬ (32 : Int) < (f.size : Int) := by omega
 have HW := Lib.hid hW;obtain ⟨aS, haS⟩ : ∃ a, Ab.ahd f ⟨#[37, 115]⟩ = a := ⟨_, rfl⟩
 obtain ⟨bS, hbS⟩ : ∃ b, Ab.bhd f ⟨#[37, 115]⟩ = b := ⟨_, rfl⟩
 have sS := cut_parts f ⟨#[37, 115]⟩;rw [haS, hbS] at sS;have HCS := Lib.hid fun W hw => cut_is f ⟨#[37, 115]⟩ W hw (by omega) aS bS false haS hbS hS
 obtain ⟨aZ, haZ⟩ : ∃ a, Ab.ahd f ⟨#[37, 122]⟩ = a := ⟨_, rfl⟩
 obtain ⟨bZ, hbZ⟩ : ∃ b, Ab.bhd f ⟨#[37, 122]⟩ = b := ⟨_, rfl⟩
 have sZ := cut_parts f ⟨#[37, 122]⟩;rw [haZ, hbZ] at sZ;have HCZ := Lib.hid fun W hw => cut_is f ⟨#[37, 122]⟩ W hw (by omega) aZ bZ false haZ hbZ hZ
 obtain ⟨aE, haE⟩ : ∃ a, Ab.ahd f ⟨#[47]⟩ = a := ⟨_, rfl⟩
 obtain ⟨bE, hbE⟩ : ∃ b, Ab.bhd f ⟨#[47]⟩ = b := ⟨_, rfl⟩
 have sE := cut_parts f ⟨#[47]⟩;rw [haE, hbE] at sE;have HCE := Lib.hid fun W hw => cut_is f ⟨#[47]⟩ W hw (by omega) aE bE true haE hbE hE
 clear hW;go_enter Tryz.func170, Tryz.ntmps170
 go_wp2;go_loopw [23] (Ab.Rel w 2) (fun i _ => 2 - (intOf i).toNat)
 case atStart => exact ⟨0, by omega, rfl, Drew.refl w⟩
 case round =>
  obtain ⟨k, hk, rfl, HD⟩ := hrel;have e0 := (HD.out.cell ⟨1, 0, none⟩).trans a0;have e1 := (HD.out.cell ⟨1, 1, none⟩).trans a1;have hkk : k = 0 ∨ k = 1 ∨ k = 2 := by omega
  rcases hkk with rfl | rfl | rfl
  ·skip
   go_wp2_with fail
   refine (HCS.out _ (HW.out.below (HD.out.below _))).mono ?_;rintro e w1 ⟨rfl, hd⟩;go_wp2;go_roundw
   case rel => exact ⟨1, by omega, rfl, HD.out.trans hd⟩
   case measure => (first | (simp [intOf]; done) | (simp [intOf]; omega))
  ·skip
   go_wp2_with fail
   refine (HCZ.out _ (HW.out.below (HD.out.below _))).mono ?_;rintro e w1 ⟨rfl, hd⟩;go_wp2;go_roundw
   case rel => exact ⟨2, by omega, rfl, HD.out.trans hd⟩
   case measure => (first | (simp [intOf]; done) | (simp [intOf]; omega))
  ·skip
   go_wp2_with fail
   refine (HCE.out _ (HW.out.below (HD.out.below _))).mono ?_;rintro e w1 ⟨rfl, hd⟩
   by_cases ea : aE = ⟨#[]⟩
   ·have p1 : aE.toList.isEmpty = true := by rw [ea, ByteArray.toList_eq]; rfl
    have Ea := Lib.hid ea;clear ea;go_wp2;refine bodyPost_ret (v := .tuple #[.string aE, .string ⟨#[47]⟩, .string bE, .bool false]) (by simp [results, Tryz.results170, go_sem]) rfl ⟨?_, ?_⟩
    ·rw [haE, hbE, decide_eq_true (show aE = Ab.b0 from Ea.out)]; rfl
    ·exact (HD.out.trans hd).below w.heap.size
   have p1 : aE.toList.isEmpty = false := empty_no aE ea;have Ea := Lib.hid ea;clear ea
   by_cases eb : bE = ⟨#[]⟩
   ·have p2 : bE.toList.isEmpty = true := by rw [eb, ByteArray.toList_eq]; rfl
    have Eb := Lib.hid eb;clear eb;go_wp2;refine bodyPost_ret (v := .tuple #[.string aE, .string ⟨#[47]⟩, .string bE, .bool false]) (by simp [results, Tryz.results170, go_sem]) rfl ⟨?_, ?_⟩
    ·rw [haE, hbE, decide_eq_false (show ¬ aE = Ab.b0 from Ea.out), decide_eq_true (show bE = Ab.b0 from Eb.out)]; rfl
    ·exact (HD.out.trans hd).below w.heap.size
   have p2 : bE.toList.isEmpty = false := empty_no bE eb;have Eb := Lib.hid eb;clear eb;have HS := Lib.hid fun W => signs_two aE bE W (by omega) (by omega)
   go_wp2_with fail
   refine (HS.out _).mono ?_;rintro e w3 ⟨rfl, rfl⟩;go_wp2;refine bodyPost_ret (v := .tuple #[.string aE, .string ⟨#[47]⟩, .string bE, .bool (Ab.all [aE, bE])]) (by simp [results, Tryz.results170, go_sem]) rfl ⟨?_, ?_⟩
   ·rw [haE, hbE, decide_eq_false (show ¬ aE = Ab.b0 from Ea.out), decide_eq_false (show ¬ bE = Ab.b0 from Eb.out)]; rfl
   ·exact ((HD.out.trans hd).below w.heap.size).alloc ((HD.out.trans hd).below w.heap.size).size _
theorem abbrCut_N (f : ByteArray) (w : World) (hW : Wa w) (h1 : 1 ≤ f.size) (h32 : f.size ≤ 32) (hS : Ab.has f ⟨#[37, 115]⟩ = false) (hZ : Ab.has f ⟨#[37, 122]⟩ = false) (hE : Ab.has f ⟨#[47]⟩ = false) :
  Calls Tryz.prog 170 #[.string f] w (Ab.Ret (f, Ab.b0, Ab.b0, Ab.all [f]) w) := by
 have i0 : ∀ W, (Instr.index 336 (.agg #[.string ⟨#[37, 115]⟩, .string ⟨#[37, 122]⟩]) (.int .i64 0)).run Tryz.prog W = .ok (.string ⟨#[37, 115]⟩) W := fun _ => by kernel_rfl
 have i1 : ∀ W, (Instr.index 336 (.agg #[.string ⟨#[37, 115]⟩, .string ⟨#[37, 122]⟩]) (.int .i64 1)).run Tryz.prog W = .ok (.string ⟨#[37, 122]⟩) W := fun _ => by kernel_rfl
 have a0 := hW.a0;have a1 := hW.a1;have q1 : ¬ (f.size : Int) < 1 := by omega
 have q2 : ¬ (32 : Int) < (f.size : Int) := by omega
 have HW := Lib.hid hW;obtain ⟨aS, haS⟩ : ∃ a, Ab.ahd f ⟨#[37, 115]⟩ = a := ⟨_, rfl⟩
 obtain ⟨bS, hbS⟩ : ∃ b, Ab.bhd f ⟨#[37, 115]⟩ = b := ⟨_, rfl⟩
 have sS := cut_parts f ⟨#[37, 115]⟩;rw [haS, hbS] at sS;have HCS := Lib.hid fun W hw => cut_is f ⟨#[37, 115]⟩ W hw (by omega) aS bS false haS hbS hS
 obtain ⟨aZ, haZ⟩ : ∃ a, Ab.ahd f ⟨#[37, 122]⟩ = a := ⟨_, rfl⟩
 obtain ⟨bZ, hbZ⟩ : ∃ b, Ab.bhd f ⟨#[37, 122]⟩ = b := ⟨_, rfl⟩
 have sZ := cut_parts f ⟨#[37, 122]⟩;rw [haZ, hbZ] at sZ;have HCZ := Lib.hid fun W hw => cut_is f ⟨#[37, 122]⟩ W hw (by omega) aZ bZ false haZ hbZ hZ
 obtain ⟨aE, haE⟩ : ∃ a, Ab.ahd f ⟨#[47]⟩ = a := ⟨_, rfl⟩
 obtain ⟨bE, hbE⟩ : ∃ b, Ab.bhd f ⟨#[47]⟩ = b := ⟨_, rfl⟩
 have sE := cut_parts f ⟨#[47]⟩;rw [haE, hbE] at sE;have HCE := Lib.hid fun W hw => cut_is f ⟨#[47]⟩ W hw (by omega) aE bE false haE hbE hE
 clear hW;go_enter Tryz.func170, Tryz.ntmps170
 go_wp2;go_loopw [23] (Ab.Rel w 2) (fun i _ => 2 - (intOf i).toNat)
 case atStart => exact ⟨0, by omega, rfl, Drew.refl w⟩
 case round =>
  obtain ⟨k, hk, rfl, HD⟩ := hrel;have e0 := (HD.out.cell ⟨1, 0, none⟩).trans a0;have e1 := (HD.out.cell ⟨1, 1, none⟩).trans a1;have hkk : k = 0 ∨ k = 1 ∨ k = 2 := by omega
  rcases hkk with rfl | rfl | rfl
  ·skip
   go_wp2_with fail
   refine (HCS.out _ (HW.out.below (HD.out.below _))).mono ?_;rintro e w1 ⟨rfl, hd⟩;go_wp2;go_roundw
   case rel => exact ⟨1, by omega, rfl, HD.out.trans hd⟩
   case measure => (first | (simp [intOf]; done) | (simp [intOf]; omega))
  ·skip
   go_wp2_with fail
   refine (HCZ.out _ (HW.out.below (HD.out.below _))).mono ?_;rintro e w1 ⟨rfl, hd⟩;go_wp2;go_roundw
   case rel => exact ⟨2, by omega, rfl, HD.out.trans hd⟩
   case measure => (first | (simp [intOf]; done) | (simp [intOf]; omega))
  ·skip
   go_wp2_with fail
   refine (HCE.out _ (HW.out.below (HD.out.below _))).mono ?_;rintro e w1 ⟨rfl, hd⟩;have HS := Lib.hid fun W => signs_one f W (by omega)
   go_wp2_with fail
   refine (HS.out _).mono ?_;rintro e w3 ⟨rfl, rfl⟩;go_wp2;refine bodyPost_ret (v := .tuple #[.string f, .string ⟨#[]⟩, .string ⟨#[]⟩, .bool (Ab.all [f])]) (by simp [results, Tryz.results170, go_sem]) rfl ⟨?_, ?_⟩
   ·rfl
   ·exact ((HD.out.trans hd).below w.heap.size).alloc ((HD.out.trans hd).below w.heap.size).size _
theorem abbrCut_any (f : ByteArray) (w : World) (hW : Wa w) (_hs : f.size ≤ maxLen) : Calls Tryz.prog 170 #[.string f] w (Ab.Ret (Ab.cutf f) w) := by
 by_cases hb : f.size < 1 ∨ 32 < f.size
 ·have e : Ab.cutf f = (Ab.b0, Ab.b0, Ab.b0, false) := by unfold Ab.cutf; rw [if_pos hb]
  rw [e];clear e hW
  by_cases h1 : f.size < 1
  ·have q1 : (f.size : Int) < 1 := by omega
   go_enter Tryz.func170, Tryz.ntmps170
   go_wp2;refine bodyPost_ret (v := .tuple #[.string ⟨#[]⟩, .string ⟨#[]⟩, .string ⟨#[]⟩, .bool false]) (by simp [results, Tryz.results170, go_sem]) rfl ⟨?_, ?_⟩
   ·rfl
   ·exact Below.refl _ _
  ·have q1 : ¬ (f.size : Int) < 1 := by omega
   have q2 : (32 : Int) < (f.size : Int) := by omega
   go_enter Tryz.func170, Tryz.ntmps170
   go_wp2;refine bodyPost_ret (v := .tuple #[.string ⟨#[]⟩, .string ⟨#[]⟩, .string ⟨#[]⟩, .bool false]) (by simp [results, Tryz.results170, go_sem]) rfl ⟨?_, ?_⟩
   ·rfl
   ·exact Below.refl _ _
 ·have h1 : 1 ≤ f.size := by omega
  have h2 : f.size ≤ 32 := by omega
  unfold Ab.cutf;rw [if_neg hb];cases hS : Ab.has f Ab.pS
  ·rw [if_neg (by decide)];cases hZ : Ab.has f Ab.pZ
   ·rw [if_neg (by decide)];cases hE : Ab.has f Ab.pE
    ·rw [if_neg (by decide)];exact abbrCut_N f w hW h1 h2 hS hZ hE
    ·rw [if_pos rfl];exact abbrCut_E f w hW h1 h2 hS hZ hE
   ·rw [if_pos rfl];exact abbrCut_Z f w hW h1 h2 hS hZ
  ·rw [if_pos rfl];exact abbrCut_S f w hW h1 h2 hS
theorem abbrCheck_all (f : ByteArray) (w : World) (hW : Wa w) (hs : f.size ≤ maxLen) (b : Bool) (h : Ab.fmt f = b) :
  Calls Tryz.prog 166 #[.string f] w fun e w' => e = .returned (.int .i64 (if b = true then 0 else 2)) ∧ Below w.heap.size w w' := by
 have HC := Lib.hid (abbrCut_any f w hW hs);unfold Ab.fmt at h;obtain ⟨a1, a2, a3, a4, e⟩ : ∃ a b c d, Ab.cutf f = (a, b, c, d) := ⟨_, _, _, _, rfl⟩
 rw [e] at HC h;unfold Ab.Ret at HC;simp only at HC h;subst h;clear e hW hs;cases a4
 ·go_enter Tryz.func166, Tryz.ntmps166
  go_wp2_with fail
  refine HC.out.mono ?_;rintro e w1 ⟨rfl, hb⟩;go_wp2;go_ret
  exact ⟨rfl, hb⟩
 ·go_enter Tryz.func166, Tryz.ntmps166
  go_wp2_with fail
  refine HC.out.mono ?_;rintro e w1 ⟨rfl, hb⟩;go_wp2;go_ret
  exact ⟨rfl, hb⟩
theorem name_all (s : ByteArray) (w : World) (hs : s.size ≤ maxLen) :
  Calls Tryz.prog 92 #[.string s] w fun e w' => e = .returned (.bool (Ru.name (tl s))) ∧ Below w.heap.size w w' := by
 by_cases hl : s.size ≤ 1000000
 ·exact name_any s w hl
 ·unfold maxLen at hs;have HRs := Lib.hid fun W => calls_bool (rising3_any 1 (s.size : Int) 64 W) (show _ = false by simp; omega)
  have HX : Hid (Ru.name (tl s) = false) := by
   show Ru.name (tl s) = false
   unfold Ru.name;rw [tl_length, decide_eq_false (by omega), Bool.false_and]
  go_enter Tryz.func92, Tryz.ntmps92
  go_wp2_with fail
  refine (HRs.out _).mono ?_;rintro e w1 ⟨rfl, hb⟩;go_wp2;go_ret
  exact ⟨ret_bool (by rw [HX.out]), hb⟩
end Go.Proofs.YtjobhjemnmleaaaGreatDoor
