/- emit.parts: as many bytes as stand in a line at once, by a range over a function. -/
import Derived.Test.YteacncdpjbcinaaDoorEmPlain
import Derived.RangeFuncNested
import Derived.RangeFuncBound
import Derived.RangeFuncCalls
import Derived.RangeFuncLeaves
import Derived.Shelf.Abstract
import Derived.Shelf.AbstractIn
import Derived.Shelf.RegionOpen
import Derived.OwnWalkIn
import Derived.TacticsInMore
import Derived.LoopNIn
import Derived.LoopIn
namespace Go.Proofs.YteacncdpjbcinaaDoor
open Go.RowKit Go.Shelf
attribute [local go_sem] Oper.semAt_some

namespace Em
theorem parts_more (f : Nat) (l : Txt) (h : 20 < l.length) (hf : l.length ≤ f) : ∃ g, (l.drop 20).length ≤ g ∧ parts f l = l.take 20 :: parts g (l.drop 20) := by
  obtain ⟨g, rfl⟩ : ∃ g, f = g + 1 := ⟨f - 1, by omega⟩
  refine ⟨g, by rw [List.length_drop]; omega, ?_⟩
  rw [parts, if_pos h]
theorem parts_last (f : Nat) (l : Txt) (h : ¬ 20 < l.length) (hf : l.length ≤ f) : parts f l = if l = [] then [] else [l] := by
  cases f with
  | zero =>
    have : l = [] := List.eq_nil_of_length_eq_zero (by omega)
    subst this
    rfl
  | succ g => rw [parts, if_neg h]
/-- All parts of a text. -/
def pts (s : ByteArray) : List Txt := parts (tl s).length (tl s)
def enc (p : Txt) : Array Value := #[.string (bts (p.take 20))]
def PtRet (s : ByteArray) (JY JX : List Txt → World → Prop) (e : Ending) (W' : World) : Prop :=
  (∃ v, e = .returned v) ∧ ((∃ ys, ys = pts s ∧ JY ys W') ∨ (∃ pre : List Txt, True ∧ JX pre W'))
/-- Where the iterator stands. -/
def PtAt (s : ByteArray) (JY : List Txt → World → Prop) (v : Value) (W : World) : Prop :=
  ∃ (r : ByteArray) (f : Nat) (pre : List Txt), v = .string r ∧ (tl r).length ≤ f ∧ pre ++ parts f (tl r) = pts s ∧ JY pre W
def strSize (v : Value) : Nat := match v with | .string s => s.size | _ => 0
theorem tl_ext (r : ByteArray) (a b : Nat) : tl (r.extract a b) = ((tl r).take b).drop a := by
  unfold tl
  rw [ByteArray.data_extract, Array.toList_extract]
  simp [List.extract, List.drop_take]
theorem tl_rest (r : ByteArray) : tl (r.extract 20 r.size) = (tl r).drop 20 := by
  rw [tl_ext, List.take_of_length_le (by rw [tl_length]; exact Nat.le_refl _)]
theorem bts_ext (r : ByteArray) : bts ((tl r).take 20) = r.extract 0 20 := by
  apply ByteArray.ext
  unfold bts tl
  apply Array.toList_inj.1
  rw [ByteArray.data_extract, Array.toList_extract]
  simp [List.extract]
end Em
theorem parts_any (s : ByteArray) (w : World) :
    Calls Tryd.prog 26 #[.string s] w fun e w' => e = .returned (.func (.func 34) #[] #[.pointer (some ⟨w.heap.size, 0, none⟩)]) ∧ w.alloc (.cells #[.string s] 9) = w' := by
  go_enter Tryd.func26, Tryd.ntmps26
  go_wp2
  go_ret
  exact ⟨rfl, rfl⟩
set_option maxRecDepth 100000 in
set_option maxHeartbeats 4000000 in
theorem parts1_in (n : Nat) (hn : 1 ≤ n) (l bs : Nat) (s : ByteArray) (hs : s.size ≤ maxLen) (JY JX : List Em.Txt → World → Prop)
    (hY : ∀ pre (p : Em.Txt) W, JY pre W → pre.length < (Em.pts s).length → YieldAt Fence.wide (n - 1) Tryd.prog l (Em.enc p) W fun e W' =>
      (e = .returned (.bool true) ∧ JY (pre ++ [p]) W' ∧ True) ∨ (e = .returned (.bool false) ∧ JX (pre ++ [p]) W'))
    (W : World) (hc : W.cell? ⟨bs, 0, none⟩ = some (.string s)) (h0 : JY [] W) :
    CallsIn Fence.wide n Tryd.prog 34 #[.func (.yield l) #[] #[], .pointer (some ⟨bs, 0, none⟩)] W (Em.PtRet s JY JX) := by
  unfold maxLen at hs
  refine callsIn_of_wp Tryd.func34 rfl trivial ?_ rfl
  simp only [Tryd.ntmps34, List.size_toArray, List.length_cons, List.length_nil, Nat.reduceAdd, Nat.reduceSub, Array.replicate_succ, Array.replicate_zero, List.push_toArray, List.append_toArray, List.nil_append, List.cons_append]
  gi_wp2
  clear hc
  gi_loopw [3] (fun v wr => Em.PtAt s JY v wr ∧ Em.strSize v ≤ s.size) (fun v _ => Em.strSize v)
  case atStart => exact ⟨⟨s, (tl s).length, [], rfl, Nat.le_refl _, rfl, h0⟩, Nat.le_refl _⟩
  case round =>
    obtain ⟨⟨r, f, pre, rfl, hf, hp, hJ⟩, hsz⟩ := hrel
    unfold Em.strSize at hsz
    simp only at hsz
    have hsz : r.size ≤ s.size := hsz
    have hrl := tl_length r
    by_cases h20 : 20 < r.size
    · have q1 : (20 : Int) < (r.size : Int) := by omega
      have q2 : (20 : Int) ≤ (r.size : Int) := by omega
      obtain ⟨g, hg, hpm⟩ := Em.parts_more f (tl r) (by omega) hf
      have hlt : pre.length < (Em.pts s).length := by rw [← hp, hpm, List.length_append, List.length_cons]; omega
      obtain ⟨fn, tmps, assign, body, hy, hR⟩ := hY pre ((tl r).take 20) wr hJ hlt
      unfold Em.enc at hy
      rw [show (((tl r).take 20).take 20) = (tl r).take 20 by rw [List.take_take]; rfl, Em.bts_ext] at hy
      have hp2 : (pre ++ [(tl r).take 20]) ++ Em.parts g (tl (r.extract 20 r.size)) = Em.pts s := by
        rw [Em.tl_rest, List.append_assoc, ← hp, hpm]
        rfl
      have hg2 : (tl (r.extract 20 r.size)).length ≤ g := by
        rw [Em.tl_rest]
        exact hg
      have HP := Lib.hid hp2
      have HG := Lib.hid hg2
      clear hp hpm hg hlt hp2 hg2 hrl
      gi_wp2
      refine hR.mono ?_
      rintro e W3 (⟨rfl, hJ3, _⟩ | ⟨rfl, hJx3⟩)
      · have HJ3 := Lib.hid hJ3
        clear hJ3
        gi_wp2
        go_roundw
        case rel => exact ⟨⟨_, g, _, rfl, HG.out, HP.out, HJ3.out⟩, by unfold Em.strSize; simp only; rw [ByteArray.size_extract]; omega⟩
        case measure => unfold Em.strSize; simp only; rw [ByteArray.size_extract]; omega
      · have HX := Lib.hid hJx3
        clear hJx3
        gi_wp2
        refine bodyPost_ret (results_none rfl _ _ _) rfl ?_
        exact ⟨⟨_, rfl⟩, .inr ⟨_, trivial, HX.out⟩⟩
    · have q1 : ¬ (20 : Int) < (r.size : Int) := by omega
      have hpl := Em.parts_last f (tl r) (by omega) hf
      rw [hpl] at hp
      by_cases h0e : tl r = []
      · rw [if_pos h0e, List.append_nil] at hp
        have he : r.toList = [] := by rw [ByteArray.toList_eq]; exact h0e
        have he2 : (!r.toList.isEmpty) = false := by rw [he]; rfl
        have HP := Lib.hid hp
        have HJ := Lib.hid hJ
        clear hp hpl h0e he hJ
        gi_wp2
        go_end0
        exact ⟨⟨_, rfl⟩, .inl ⟨_, HP.out, HJ.out⟩⟩
      · rw [if_neg h0e] at hp
        have he : r.toList.isEmpty = false := by
          rw [ByteArray.toList_eq]
          cases e : r.data.toList with
          | nil => exact absurd e h0e
          | cons _ _ => rfl
        have hlt : pre.length < (Em.pts s).length := by rw [← hp, List.length_append]; simp
        obtain ⟨fn, tmps, assign, body, hy, hR⟩ := hY pre (tl r) wr hJ hlt
        unfold Em.enc at hy
        rw [List.take_of_length_le (by omega), Em.bts_tl] at hy
        have HP := Lib.hid hp
        clear hp hpl h0e hlt
        gi_wp2
        refine hR.mono ?_
        rintro e W3 (⟨rfl, hJ3, _⟩ | ⟨rfl, hJx3⟩)
        · have HJ3 := Lib.hid hJ3
          clear hJ3
          gi_wp2
          go_end0
          exact ⟨⟨_, rfl⟩, .inl ⟨_, HP.out, HJ3.out⟩⟩
        · have HX := Lib.hid hJx3
          clear hJx3
          gi_wp2
          go_end0
          exact ⟨⟨_, rfl⟩, .inr ⟨_, trivial, HX.out⟩⟩
end Go.Proofs.YteacncdpjbcinaaDoor
