/- solsticetop.begins17. -/
import Derived.Test.YtajcgoinhpengaaDoorP32
import Derived.Test.YtajcgoinhpengaaDoorP28
import Derived.Test.YtajcgoinhpengaaDoorP30

namespace Go.Proofs.YtajcgoinhpengaaDoor
open Go.RowKit

set_option maxHeartbeats 2000000 in
set_option maxRecDepth 100000 in
theorem hvUnder_b (w : World) (hW : Wl w) (g c : Nat) (A : Option Addr) (hA : At w g [.string ⟨#[65, 92, 98]⟩, .slice A 0 0]) : Calls Tryd.prog 42 #[.agg #[.slice (some ⟨g, 0, none⟩) 1 c], .string ⟨#[65]⟩] w
    fun e w' => (∃ v, e = .returned v ∧ w'.ownsRow w.heap.size 9 1 v 1 [.string ⟨#[98]⟩]) ∧ Below w.heap.size w w' := by
  have HC : Hid (∀ W, Calls Tryd.prog 65 #[.string ⟨#[65, 92, 98]⟩, .string ⟨#[65, 92]⟩] W fun e w' => e = .returned (.tuple #[.string ⟨#[98]⟩, .bool true]) ∧ w' = W) := fun W => Tryd.strings_CutPrefix ⟨#[65, 92, 98]⟩ ⟨#[65, 92]⟩ W
  have HN : Hid (∀ W, Below w.heap.size w W → Calls Tryd.prog 66 #[.string ⟨#[98]⟩, .string ⟨#[92]⟩] W fun e w' => e = .returned (.bool false) ∧ w' = W) := by
    intro W hb
    obtain ⟨m, hm⟩ := (hW.below hb).maxl
    exact Tryd.strings_Contains ⟨#[98]⟩ ⟨#[92]⟩ m W (by decide) hm
  have hs : ∀ W, (Op.stringOp .add ⟨#[65]⟩ ⟨#[92]⟩).run Tryd.prog W = .ok (.string ⟨#[65, 92]⟩) W := fun W => run_string_add_sum W _ _ (by decide)
  obtain ⟨i0, hi0, hz0, hz1, hz2⟩ := info_parts str_info
  have HI := Lib.hid (And.intro hi0 (And.intro hz0 (And.intro hz1 hz2)))
  obtain ⟨p, hp⟩ : ∃ p : ByteArray, (⟨#[65, 92, 98]⟩ : ByteArray) = p := ⟨_, rfl⟩
  obtain ⟨q, hq⟩ : ∃ p : ByteArray, (⟨#[98]⟩ : ByteArray) = p := ⟨_, rfl⟩
  have hqe : q.toList.isEmpty = false := by rw [← hq, ByteArray.toList_eq]; rfl
  rw [hp] at hA HC
  rw [hq] at HC HN ⊢
  have HA := Lib.hid hA
  have HB0 := Lib.hid (bal1 w (.cells #[.slice (some ⟨g, 0, none⟩) 1 c] 97))
  clear hA hW hp hq hi0 hz0 hz1 hz2
  go_enter Tryd.func42, Tryd.ntmps42
  go_wp2_with fail
  go_loopw [5, 13] (fun v i wr => ∃ k : Nat, k ≤ 1 ∧ i = .int .i64 (k : Int) ∧ Hid (Below w.heap.size w wr) ∧ Hid (wr.ownsRow w.heap.size 9 1 v k (([q].take k).map Value.string))) (fun _ i _ => 1 - (intOf i).toNat)
  case atStart => exact ⟨0, by omega, rfl, HB0.out, World.ownsRow_nil _ _ _ _⟩
  case round =>
    obtain ⟨k, hk, rfl, HB, HO⟩ := hrel
    by_cases hlt : k < 1
    · have hk0 : k = 0 := by omega
      subst hk0
      obtain ⟨a0, a1, _⟩ := (HA.out.call HB.out).two
      obtain ⟨vA, vc, rfl, _⟩ := own_slice HO.out
      have e0 : ((0 : Nat) : Int) = 0 := rfl
      have HBe := Lib.hid (bal HB.out (.cells #[.string p, .slice A 0 0] 130))
      have HOe := Lib.hid (HO.out.alloc (.cells #[.string p, .slice A 0 0] 130))
      obtain ⟨W1, hW1⟩ : ∃ W, wr.alloc (.cells #[.string p, .slice A 0 0] 130) = W := ⟨_, rfl⟩
      rw [hW1] at HBe HOe
      have HW1 := Lib.hid hW1
      have HSz := Lib.hid HBe.out.size
      clear hW1
      have HAp := Lib.hid fun (_ : True) {ops : Array Oper} {rest : List Oper} {o : Oper} {a : Act} {Q : Exit → Act → World → Prop} (hgd : o.guard = none) (ho : o.op = .call { callee := .builtin .append, args := #[.tmp 35, .tmp 37], argTypes := #[34, 34] }) (hs : a.eval (.tmp 35) = .slice vA 0 vc) (hx : a.eval (.tmp 37) = .slice (some ⟨W1.heap.size, 0, none⟩) 1 1) h => wpList_append_any (P := Tryd.prog) (ops := ops) (rest := rest) (o := o) (a := a) (Q := Q) (W1.alloc (.cells #[.string q] 9)) hgd (.tmp 35) (.tmp 37) 34 ho w.heap.size 9 i0 _ 1 16 Tryd.underlying34 HI.out.1 HI.out.2.1 HI.out.2.2.1 HI.out.2.2.2 rfl (by decide) _ 0 _ hs (HOe.out.alloc _) _ _ 1 1 _ hx (reads_one W1 q 9) (by intro u hu; simp only [List.map_cons, List.map_nil, List.mem_singleton] at hu; subst hu; rfl) (by unfold maxLen; omega) (by omega) (by rw [World.size_alloc]; have := HSz.out; omega) h
      go_wp2_with (first | (go_at_call 65; rw [HW1.out]; refine (HC.out _).mono ?_; rintro e w2 ⟨rfl, rfl⟩) | (go_at_call 66; refine (HN.out _ HBe.out).mono ?_; rintro e w3 ⟨rfl, rfl⟩) | (at_builtin; refine HAp.out trivial rfl rfl rfl rfl ?_; intro v9 w9 hown9 hg9 _; have HB9 := Lib.hid ((bal HBe.out (.cells #[.string q] 9)).grown hg9 (bal HBe.out (.cells #[.string q] 9)).size (fun j e => (HOe.out.lt j e).1)); have HO9 := Lib.hid hown9; clear hown9 hg9))
      go_roundw
      case rel => exact ⟨1, by omega, by go_num, HB9.out, HO9.out⟩
      case measure => simp [intOf]
    · have hk1 : k = 1 := by omega
      subst hk1
      have HOf : Hid (wr.ownsRow w.heap.size 9 1 _ 1 [.string q]) := HO
      go_wp2
      go_ret
      exact ⟨⟨_, rfl, HOf.out⟩, HB.out⟩
set_option maxHeartbeats 2000000 in
set_option maxRecDepth 100000 in
theorem begins17_any (w : World) (hA : Wa w) : Calls Tryd.prog 16 #[] w fun e w' => e = .returned (.bool true) ∧ Below w.heap.size w w' := by
  have hW : Wl w := ⟨hA.maxl⟩
  have hp : Hv.path ⟨#[65, 92, 98]⟩ = true := by decide +kernel
  have HP := Lib.hid (hvPut_one ⟨#[65, 92, 98]⟩ hp w hW)
  have HW := Lib.hid hW
  clear hp hW
  go_enter Tryd.func16, Tryd.ntmps16
  go_wp2_with fail
  refine HP.out.mono ?_
  rintro e w1 ⟨⟨g, c, A, rfl, hc1, hc2, hA1⟩, hb1⟩
  have HB1 := Lib.hid (bal hb1 (.cells #[.slice (some ⟨g, 0, none⟩) 1 c] 97))
  have HA1 := Lib.hid (hA1.allocO (.cells #[.slice (some ⟨g, 0, none⟩) 1 c] 97))
  obtain ⟨W1, hW1⟩ : ∃ W, w1.alloc (.cells #[.slice (some ⟨g, 0, none⟩) 1 c] 97) = W := ⟨_, rfl⟩
  rw [hW1] at HB1 HA1
  have HU := Lib.hid (hvUnder_b W1 (HW.out.below HB1.out) g c A HA1.out)
  have HW1 := Lib.hid hW1
  have HM := Lib.hid fun (W : World) => caMissing_any [] none 0 0 [] ⟨[], [], [], false⟩ (.slice none 0 0) (.slice none 0 0) (.slice none 0 0) [] W ⟨⟨none, 0, rfl, Nat.le_refl _, by unfold maxLen; omega, Reads.none_⟩, rfl, fun p hp => (by cases hp)⟩ rfl ⟨by decide, fun e he => (by cases he)⟩ (by decide) ⟨⟨none, 0, rfl, Nat.le_refl _, by unfold maxLen; omega, Reads.none_⟩, ⟨none, 0, rfl, Nat.le_refl _, by unfold maxLen; omega, Reads.none_⟩, ⟨none, 0, rfl, Nat.le_refl _, by unfold maxLen; omega, Reads.none_⟩, rfl, fun p hp => (by cases hp)⟩ ⟨by decide, by decide, by decide⟩ ⟨by decide, by decide, fun z hz => (by cases hz), fun k hk => (by cases hk)⟩ (fun x hx => (by cases hx))
  clear hc1 hc2 hb1 hA1 hW1
  have HM : Hid (∀ W : World, Calls Tryd.prog 10 #[.slice none 0 0, .agg #[.slice none 0 0, .slice none 0 0, .slice none 0 0]] W fun e w' => (∃ v, e = .returned v ∧ w'.ownsRow W.heap.size 9 1 v 0 []) ∧ Below W.heap.size W w') := fun W => HM.out W
  go_wp2_with fail
  rw [HW1.out]
  refine HU.out.mono ?_
  rintro e w2 ⟨⟨v, rfl, ho2⟩, hb2⟩
  obtain ⟨A2, c2, rfl, _⟩ := own_slice ho2
  obtain ⟨W3, hW3⟩ : ∃ W, w2.alloc (.cells #[.string ⟨#[98]⟩] 9) = W := ⟨_, rfl⟩
  have HB3 : Hid (Below w.heap.size w W3) := by show Below _ _ _; rw [← hW3]; exact bal (below_then HB1.out hb2) _
  have hr3 : Reads W3 W3.heap.size 1 A2 1 ([⟨#[98]⟩].map Value.string) := by
    rw [← hW3]
    exact ((Reads.of_own ho2).below (bal1 w2 _)).more (bal1 w2 _).size
  have hs3 : Reads W3 W3.heap.size 1 (some ⟨w2.heap.size, 0, none⟩) 1 ([⟨#[98]⟩].map Value.string) := by
    rw [← hW3]
    exact reads_one w2 ⟨#[98]⟩ 9
  have HT := Lib.hid (refTexts_any A2 (some ⟨w2.heap.size, 0, none⟩) 1 1 c2 1 [⟨#[98]⟩] [⟨#[98]⟩] W3 (by decide) (by decide) hr3 hs3)
  rw [decide_eq_true rfl] at HT
  have HW3 := Lib.hid hW3
  clear ho2 hb2 hr3 hs3 hW3
  go_wp2_with fail
  rw [HW3.out]
  refine HT.out.mono ?_
  rintro e w4 ⟨rfl, hd⟩
  have HB4 := Lib.hid (below_drew HB3.out hd)
  clear hd
  go_wp2_with fail
  refine (HM.out _).mono ?_
  rintro e w5 ⟨⟨v5, rfl, ho5⟩, hb5⟩
  obtain ⟨A5, c5, rfl, _⟩ := own_slice ho5
  have HB5 := Lib.hid (below_then HB4.out hb5)
  clear ho5 hb5
  go_wp2
  go_ret
  exact ⟨rfl, HB5.out⟩
end Go.Proofs.YtajcgoinhpengaaDoor

/- A drawn region whose operations lay one slot each: what is in the slots is kept, slot by slot, from world to world. -/
namespace Go.Proofs.YtajcgoinhpengaaDoor
open Go.RowKit

namespace Rg
open Od
/-- Of n operations those that are done have laid what P says of them, in the slots that sl says; all other slots are as they were. -/
structure J (n : Nat) (sl : Nat → Nat) (P : Nat → Value → World → Prop) (w0 : World) (u0 : Nat → Value) (b : Nat → Bool) (u : Nat → Value) (w : World) : Prop where
  below : Below w0.heap.size w0 w
  old : ∀ j, (∀ k, k < n → sl k ≠ j) → u j = u0 j
  val : ∀ k, k < n → b k = true → P k (u (sl k)) w
section
variable {n : Nat} {sl : Nat → Nat} {P : Nat → Value → World → Prop} {w0 w w' : World} {u0 u : Nat → Value} {b : Nat → Bool}
theorem J.start (w0 w : World) (u0 : Nat → Value) (hb : Below w0.heap.size w0 w) : J n sl P w0 u0 (fun _ => false) u0 w := ⟨hb, fun _ _ => rfl, fun _ _ e => (by cases e)⟩
theorem J.step (h : J n sl P w0 u0 b u w) (hm : ∀ k v W W', P k v W → Below W.heap.size W W' → P k v W') (hi : ∀ j, j < n → ∀ k, k < n → sl j = sl k → j = k) {k : Nat} (hk : k < n) {v : Value} (hb : Below w.heap.size w w') (hv : P k v w') : J n sl P w0 u0 (upd b k true) (upd u (sl k) v) w' := by
  refine ⟨below_then h.below hb, fun j hj => ?_, fun j hj hbj => ?_⟩
  · unfold upd
    rw [if_neg (fun e => hj k hk e.symm)]
    exact h.old j hj
  · by_cases hjk : j = k
    · subst hjk
      unfold upd
      rw [if_pos rfl]
      exact hv
    · have e1 : b j = true := by
        unfold upd at hbj
        rwa [if_neg hjk] at hbj
      unfold upd
      rw [if_neg (fun e => hjk (hi j hj k hk e))]
      exact hm _ _ _ _ (h.val j hj e1) hb
/-- The operation has run in the world as it is. -/
theorem J.put (h : J n sl P w0 u0 b u w) (hm : ∀ k v W W', P k v W → Below W.heap.size W W' → P k v W') (hi : ∀ j, j < n → ∀ k, k < n → sl j = sl k → j = k) {k : Nat} (hk : k < n) {v : Value} (hv : P k v w) : J n sl P w0 u0 (upd b k true) (upd u (sl k) v) w := h.step hm hi hk (Below.refl _ _) hv
end
theorem getD_bool {tm : Array Value} {k : Nat} {x : Bool} (h : tm.getD k undef = .bool x) : tm[k]? = some (.bool x) := by
  rw [Array.getD_eq_getD_getElem?] at h
  cases e : tm[k]? with
  | none => rw [e] at h; cases h
  | some v => rw [e] at h; rw [← h]; rfl
/-- A guarded operation is wanted. -/
theorem want {ops : Array Oper} {tm : Array Value} {o : Oper} {j t : Nat} {x : Bool} (hg : o.guard = some (j, x)) (hd : (ops[j]?).bind (·.dst) = some t) (hv : tm.getD t undef = .bool x) : Region.wanted o (yielded ops tm) = true := by
  unfold Region.wanted
  rw [hg]
  unfold yielded
  simp only [hd, Option.bind_some, getD_bool hv, beq_self_eq_true]
end Rg
end Go.Proofs.YtajcgoinhpengaaDoor
