/- A region that draws its order: calls that only make memory, and at its end operations in one order (a slice that is built of their results, or a store). One walk, in the order of the text. -/
import Derived.StillTail
import Derived.Lib.QuietBelow
import Derived.WalkKit
import Derived.Test.YthmhadgbhakdlaaGreatDoorK01
import Derived.Deep.QuietTactic
import Derived.BigQuiet
import Derived.StillTailTactics
import Derived.Deep.DeepCutAuto
import Derived.Lib.UnsafeStr
import Derived.IntWalk
import Derived.Deep.RegionLaw
import Derived.Deep.AppendLies
import Derived.ScopeJumps
import Derived.WalkMore

namespace Go.Proofs.YthmhadgbhakdlaaGreatDoor
open Go.RowKit Go.Sort

section
variable {P : Program} {ops : Array Oper} {md : Region.Mode} {C : World → Prop}

/-- The first n operations in whatever order, each quiet in the class; behind them L. -/
def headAll (P : Program) (md : Region.Mode) (ops : Array Oper) (C : World → Prop) (n : Nat) (L : Array Bool → Act → Prop) : Nat → Array Bool → Act → Prop
  | 0, s, a => L s a
  | f + 1, s, a => Region.ready md ops s ≠ [] ∧ ∀ i ∈ Region.ready md ops s, i < n ∧ qOp P ops C i (headAll P md ops C n L f (s.setIfInBounds i true)) a

theorem any_of_head {n g : Nat} {L : Array Bool → Act → Prop} {Q : Exit → Act → World → Prop} (hL : ∀ s a w, C w → L s a → wpAny P md ops Q g s a w) :
    ∀ (f : Nat) (s : Array Bool) (a : Act) (w : World), C w → headAll P md ops C n L f s a → wpAny P md ops Q (f + g) s a w
  | 0, s, a, w, hw, h => by rw [Nat.zero_add]; exact hL _ _ _ hw h
  | f + 1, s, a, w, hw, h => by
    rw [show f + 1 + g = (f + g) + 1 by omega]
    exact ⟨fun h0 => absurd h0 h.1, fun i hi => wpOp_of_qOp hw (fun a' w' hw' h' => any_of_head hL f _ a' w' hw' h') (h.2 i hi).2⟩

theorem head_first {n i : Nat} {oi : Oper} {v : Value} {L : Array Bool → Act → Prop} (hi : ops[i]? = some oi) (hsel : ∀ (j : Nat) (o : Oper) cs b, ops[j]? = some o → o.op ≠ .select cs b)
    (hs : Region.sinkB md ops n = true) (hc : Region.chainB md ops n = true) (hn : n < ops.size) (hin : i < n) (hdone : ∀ s a, L s a → ∀ j ∈ Region.ready md ops s, n ≤ j) :
    ∀ (f : Nat) (s : Array Bool) (a : Act), HeadInv md ops n s →
      (∀ j oj, ops[j]? = some oj → j ≠ i → s.getD j true = false → (∀ e ∈ oj.after, Region.binds md e = true → e.on ≠ i) → oi.apart ops oj = true) →
      i ∈ Region.ready md ops s → YieldsIn P ops C oi v a →
      headAll P md ops C n L f (s.setIfInBounds i true) (a.put oi.dst v) → headAll P md ops C n L (f + 1) s a := by
  intro f
  induction f with
  | zero =>
    intro s a inv _ hr hy H
    have hun := (mem_ready.1 hr).1
    refine ⟨fun h => (by rw [h] at hr; cases hr), fun j hj => ?_⟩
    have hjn : j < n := by
      rcases Nat.lt_or_ge j n with h | h
      · exact h
      · exact absurd hj (tail_waits hs hc hn inv _ i rfl hin hun j h)
    refine ⟨hjn, ?_⟩
    by_cases hji : j = i
    · subst hji; exact hy.qOp hi H
    · have := hdone _ _ H j (ready_mono hj hji)
      omega
  | succ f ih =>
    intro s a inv hfree hr hy H
    have hun := (mem_ready.1 hr).1
    refine ⟨fun h => (by rw [h] at hr; cases hr), fun j hj => ?_⟩
    have hjn : j < n := by
      rcases Nat.lt_or_ge j n with h | h
      · exact h
      · exact absurd hj (tail_waits hs hc hn inv _ i rfl hin hun j h)
    refine ⟨hjn, ?_⟩
    by_cases hji : j = i
    · subst hji; exact hy.qOp hi H
    · have h1 := (H.2 j (ready_mono hj hji)).2
      obtain ⟨hjun, oj, hoj, hall⟩ := mem_ready.1 hj
      have hnot : ∀ e ∈ oj.after, Region.binds md e = true → e.on ≠ i := fun e he hb heq => by
        have h1 := hall e he hb
        rw [heq, getD_both hun] at h1
        cases h1
      have h2 := qOp_put hoj (hfree j oj hoj hji hjun hnot) (fun cs b => hsel i oi cs b hi) (fun cs b => hsel j oj cs b hoj) hy h1
      have hfree' : ∀ k ok, ops[k]? = some ok → k ≠ i → (s.setIfInBounds j true).getD k true = false →
          (∀ e ∈ ok.after, Region.binds md e = true → e.on ≠ i) → oi.apart ops ok = true := fun k ok hk hki hu hno => by
        refine hfree k ok hk hki ?_ hno
        by_cases hjk : j = k
        · subst hjk; exact hjun
        · rw [getD_set_ne true hjk] at hu; exact hu
      refine qOp_mono (fun a' h3 => ih (s.setIfInBounds j true) a' (inv.set hj hjn) hfree' (ready_mono hr (Ne.symm hji)) h3.1 ?_) h2
      rw [Array.setIfInBounds_comm _ _ hji]
      exact h3.2

theorem head_lex {n g : Nat} {Lq : Act → Prop} (hsel : Region.noSelect ops = true) (hs : Region.sinkB md ops n = true) (hc : Region.chainB md ops n = true) (hn : n < ops.size) :
    ∀ (l : List Oper) (k : Nat) (s : Array Bool) (a : Act), (∀ j, j < l.length → l[j]? = ops[k + j]?) → k + l.length = n → HeadInv md ops n s →
    Region.lexHead md ops g l.length k s = true → wpQuiet P ops C Lq l a →
    headAll P md ops C n (fun s' a' => Region.seqB md ops g n s' = true ∧ Lq a') l.length s a
  | [], k, s, a, _, hk, _, hB, h => by
    have : k = n := by simpa using hk
    subst this
    exact ⟨by simpa [Region.lexHead] using hB, h⟩
  | o :: l, k, s, a, hl, hk, inv, hB, h => by
    have h0 : ops[k]? = some o := by simpa using (hl 0 (by simp)).symm
    simp only [List.length_cons, Region.lexHead, Bool.and_eq_true] at hB
    obtain ⟨⟨hr, hf⟩, hB'⟩ := hB
    have hkn : k < n := by simp only [List.length_cons] at hk; omega
    have hr' : k ∈ Region.ready md ops s := by simpa using hr
    have hst : qOp P ops C k (wpQuiet P ops C Lq l) a := by unfold qOp; simp only [h0]; exact h
    obtain ⟨v, hy, hK⟩ := yieldsIn_of_qOp h0 hst
    exact head_first h0 (Region.noSelect_spec hsel) hs hc hn hkn (fun s' a' hL => seqB_ready hL.1) l.length s a inv (Region.free_spec h0 hf) hr' hy
      (head_lex hsel hs hc hn l (k + 1) _ _ (fun j hj => by have := hl (j + 1) (by simp; omega); simpa [Nat.add_assoc, Nat.add_comm 1 j] using this) (by simp only [List.length_cons] at hk; omega) (inv.set hr' hkn) hB' hK)

/-- The region, n operations of it quiet in the class, the others in their order behind them. -/
theorem wp_region_quiet_tail {id : Nat} {Q : Exit → Act → World → Prop} {a : Act} {w : World} {l : List Oper} (n : Nat) (hm : P.follows .mixedOrders = true) (hB : Region.lexTailB .any l.toArray n = true) (hC : C { w with drawn := w.drawn + 1 })
    (h : wpQuiet P l.toArray C (fun a' => ∀ w', C w' → wpList P l.toArray Q (l.drop n) a' w') (l.take n) a) : (Code.region id l.toArray true).wp P Q a w := by
  simp only [Region.lexTailB, Bool.and_eq_true, decide_eq_true_eq] at hB
  obtain ⟨⟨⟨⟨hsel, hn⟩, hs⟩, hc⟩, hlex⟩ := hB
  have hn' : n < l.length := by simpa using hn
  have htl : (l.take n).length = n := by simp; omega
  have hdl : (l.drop n).length = l.toArray.size - n := by simp
  have inv0 : HeadInv .any l.toArray n (Array.replicate l.toArray.size false) :=
    ⟨by simp, fun j oj _ hl => (by rw [getD_replicate_false] at hl; cases hl), fun t _ ht => getD_in (by simpa using ht) (getD_replicate_false _ _)⟩
  have H := head_lex (md := .any) (g := l.toArray.size - n) hsel hs hc hn (l.take n) 0 _ a (fun j hj => by
    have hj' : j < n := by rw [htl] at hj; exact hj
    simp [hj']) (by simpa using htl) inv0 (by rw [htl]; exact hlex) h
  refine wp_region_any hm ?_
  have := any_of_head (Q := Q) (g := l.toArray.size - n) (fun s a' w' hw' hL => by
    have := wpAny_of_seq (md := .any) (Q' := Q) (l.drop n) n s a' w' (fun j => by simp [List.getElem?_drop]) (by rw [hdl]; exact hL.1) (hL.2 w' hw')
    rwa [hdl] at this) _ _ _ _ hC H
  rw [htl, show n + (l.toArray.size - n) = l.toArray.size by omega] at this
  exact this
/-- The same at the class of the worlds that have some blocks more. -/
theorem wp_region_tail {id : Nat} {Q : Exit → Act → World → Prop} {a : Act} {w : World} {l : List Oper} (n : Nat) (hm : P.follows .mixedOrders = true) (hB : Region.lexTailB .any l.toArray n = true)
    (h : wpQuiet P l.toArray (fun w' => ∃ p : Regrown, w' = grow (redrawn w p.d) p.os) (fun a' => ∀ w', (∃ p : Regrown, w' = grow (redrawn w p.d) p.os) → wpList P l.toArray Q (l.drop n) a' w') (l.take n) a) : (Code.region id l.toArray true).wp P Q a w :=
  wp_region_quiet_tail (C := fun w' => ∃ p : Regrown, w' = grow (redrawn w p.d) p.os) n hm hB ⟨⟨w.drawn + 1, #[]⟩, by rw [grow_empty]; rfl⟩ h
end
end Go.Proofs.YthmhadgbhakdlaaGreatDoor

/- little.Hex: bytes as digits, parted by commas. -/
namespace Go.Proofs.YthmhadgbhakdlaaGreatDoor
open Go.RowKit

theorem u8_info : (Tryz.prog.info? 5).map (fun i => (i.zero, i.size, i.bytes)) = some (some (.int .u8 0), 1, 1) := by kernel_rfl
namespace Em
theorem own_below {w w' : World} {base : Nat} {e : TypeId} {size : Nat} {v : Value} {n : Nat} {xs : List Value} (h : w.ownsRow base e size v n xs) (hb : Below w.heap.size w w') : w'.ownsRow base e size v n xs := by
  refine ⟨h.1, ?_⟩
  rcases h.2 with hn | ⟨g, cap, cur, hv, hbase, hg, rest⟩
  · exact .inl hn
  · have hl : g < w.heap.size := (Array.getElem?_eq_some_iff.1 hg).1
    exact .inr ⟨g, cap, cur, hv, hbase, (hb.block g hl).trans hg, rest⟩
theorem own_draw {w : World} {base : Nat} {e : TypeId} {size : Nat} {v : Value} {n : Nat} {xs : List Value} (h : w.ownsRow base e size v n xs) : w.drew.ownsRow base e size v n xs := h
theorem cells_new (w : World) (cs : Array Value) (t : TypeId) : ∀ j u, cs.toList[j]? = some u → (w.alloc (.cells cs t)).cell? ((⟨w.heap.size, 0, none⟩ : Addr).add j) = some u := fun j u hu => by
  have hadd : (⟨w.heap.size, 0, none⟩ : Addr).add j = ⟨w.heap.size, j, none⟩ := by unfold Addr.add; split <;> simp_all
  rw [hadd]
  exact (At.new w cs t).cell j u hu
theorem cells_app (a b : Txt) : Lib.byteCells (a ++ b) = Lib.byteCells a ++ Lib.byteCells b := by unfold Lib.byteCells; rw [List.map_append]
theorem cells_len' (l : Txt) : (Lib.byteCells l).length = l.length := by unfold Lib.byteCells; rw [List.length_map]
theorem byte_at (s : ByteArray) (k : Nat) (h : k < s.size) (b : UInt8) (hb : s[k] = b) : (tl s)[k]? = some b := by
  unfold tl
  rw [← hb, List.getElem?_eq_getElem (by simpa using h)]
  rfl
theorem below_drew {a w : World} (h : Below a.heap.size a w) : Below a.heap.size a w.drew := h.trans ((show Drew w w.drew from ⟨1, rfl⟩).below _)
/-- The bytes of a slice that is owned, as a text. -/
theorem bytes_back {w : World} {base n c : Nat} {A : Option Addr} {xs : List Value} {l : Txt} (h : w.ownsRow base 5 1 (.slice A n c) n xs) (hn : n = l.length) (hx : xs = Lib.byteCells l) :
    (convert 58 9 (.slice A n c)).run Tryz.prog w = .ok (.string (bts l)) w := by
  subst hn
  subst hx
  have hr := Reads.of_own h
  by_cases h0 : 0 < l.length
  · obtain ⟨ad, rfl, _, hc⟩ := hr.2 h0
    exact run_convert_bytes_back (P := Tryz.prog) w 58 9 5 ad c l Tryz.underlying58 Tryz.underlying5 Tryz.underlying9 fun j hj => hc j _ (by unfold Lib.byteCells; rw [List.getElem?_map, List.getElem?_eq_getElem hj]; rfl)
  · have : l = [] := List.eq_nil_of_length_eq_zero (by omega)
    subst this
    show (convert 58 9 (.slice A 0 c)).run Tryz.prog w = _
    rw [run_convert_bytes_string w 58 9 5 A 0 c Tryz.underlying58 Tryz.underlying5 Tryz.underlying9]
    cases A with
    | none => rfl
    | some a => exact run_bytesToString (P := Tryz.prog) w a 0 c [] (by rfl)
theorem and15u8 (m : Nat) (h : m < 256) : bits .and .u8 (m : Int) 15 = ((m % 16 : Nat) : Int) := by
  have e : (BitVec.ofInt 8 (m : Int) &&& BitVec.ofInt 8 (15 : Int)).toNat = m % 16 := by
    rw [BitVec.toNat_and]
    have e1 : (BitVec.ofInt 8 (m : Int)).toNat = m := by rw [BitVec.toNat_ofInt]; omega
    have e2 : (BitVec.ofInt 8 (15 : Int)).toNat = 2 ^ 4 - 1 := by decide
    rw [e1, e2, Nat.and_two_pow_sub_one_eq_mod]
  show IntKind.u8.wrap (((BitVec.ofInt 8 (m : Int) &&& BitVec.ofInt 8 (15 : Int)).toNat : Nat) : Int) = _
  rw [e]
  exact IntWalk.u8_in _ (by omega)
def dg16 : ByteArray := ⟨#[48, 49, 50, 51, 52, 53, 54, 55, 56, 57, 97, 98, 99, 100, 101, 102]⟩
theorem dg16_hex (x : Nat) (h : x < 16) (h' : x < dg16.size) : (dg16[x]'h') = hexd x := by
  have : ∀ x : Fin 16, dg16.data[x.val]? = some (hexd x.val) := by decide +kernel
  have h2 := this ⟨x, h⟩
  have h3 : dg16.data[x]? = some (dg16[x]'h') := by
    show _ = some (dg16.data[x]'h')
    exact Array.getElem?_eq_getElem h'
  rw [h3] at h2
  exact Option.some.inj h2
def sep (k : Nat) : Txt := if k = 0 then [] else [44]
theorem hexs_take (l : Txt) (k : Nat) (b : UInt8) (h : l[k]? = some b) : hexs (l.take (k + 1)) = hexs (l.take k) ++ sep k ++ hexb b := by
  have hk : k < l.length := (List.getElem?_eq_some_iff.1 h).1
  rw [List.take_add_one, h]
  show hexs (l.take k ++ [b]) = _
  rw [hexs_snoc]
  unfold sep
  by_cases h0 : k = 0
  · subst h0; simp
  · rw [if_neg h0, if_neg (by rw [List.take_eq_nil_iff]; intro q; rcases q with q | q; exact h0 q; rw [q] at hk; simp at hk)]
    simp
def HexC (w : World) (s : ByteArray) (k : Nat) (v : Value) (wx : World) : Prop :=
  (∃ n xs, wx.ownsRow w.heap.size 5 1 v n xs ∧ xs = Lib.byteCells (hexs ((tl s).take k) ++ sep k) ∧ n = xs.length) ∧ Below w.heap.size w wx
def HexAt (w : World) (s : ByteArray) (v i : Value) (wr : World) : Prop :=
  ∃ k : Nat, k ≤ s.size ∧ i = .int .i64 (k : Int) ∧ Hid (∃ n xs, wr.ownsRow w.heap.size 5 1 v n xs ∧ xs = Lib.byteCells (hexs ((tl s).take k)) ∧ n = xs.length) ∧ Hid (Below w.heap.size w wr)
end Em
theorem wpList_append_bytes {i0 : TypeInfo} (hi : Tryz.prog.info? 5 = some i0 ∧ i0.zero = some (.int .u8 0) ∧ i0.size = 1 ∧ i0.bytes = 1) (w : World) {ops : Array Oper} {rest : List Oper} {o : Oper} {a : Act} {Q : Exit → Act → World → Prop} (hgd : o.guard = none) (s x : Operand)
    (ho : o.op = .call { callee := .builtin .append, args := #[s, x], argTypes := #[58, 58] }) (base : Nat) (v : Value) (n : Nat) (xs : List Value) (hs : a.eval s = v) (hown : w.ownsRow base 5 1 v n xs)
    (B : Nat) (A : Option Addr) (m c : Nat) (news : List Value) (hx : a.eval x = .slice A m c) (hr : Reads w B 1 A m news) (h1 : ∀ u ∈ news, u.oneCell' = true) (hbytes : n + m ≤ 140737488355328) (hbase : base ≤ w.heap.size)
    (h : ∀ v' w', w'.ownsRow base 5 1 v' (n + m) (xs ++ news) → w.grownBy w' v.ownBlock → wpList Tryz.prog ops Q rest (a.put o.dst v') w') : wpList Tryz.prog ops Q (o :: rest) a w :=
  wpList_append_any w hgd s x 58 ho base 5 i0 (.int .u8 0) 1 1 Tryz.underlying58 hi.1 hi.2.1 hi.2.2.1 hi.2.2.2 rfl (by decide) v n xs hs hown B A m c news hx hr h1 (by unfold maxLen; omega) (by omega) hbase (fun v' w' h2 h3 _ => h v' w' h2 h3)
theorem reads_lit (w : World) (cs : Array Value) (t : TypeId) : Reads (w.alloc (.cells cs t)) (w.heap.size + 1) 1 (some ⟨w.heap.size, 0, none⟩) cs.size cs.toList := by
  refine ⟨by simp, fun _ => ⟨_, rfl, Nat.lt_succ_self _, fun j u hu => ?_⟩⟩
  have e : (⟨w.heap.size, 0, none⟩ : Addr).add j = ⟨w.heap.size, j, none⟩ := by
    unfold Addr.add
    split
    · subst_vars; rfl
    · simp
  rw [e]
  exact (At.new w cs t).cell j u hu
set_option maxHeartbeats 4000000 in
set_option maxRecDepth 100000 in
theorem hex_any (s : ByteArray) (hs : s.size ≤ 1000000) (w : World) :
    Calls Tryz.prog 42 #[.string s] w fun e w' => e = .returned (.string (Em.bts (Em.hexs (tl s)))) ∧ Below w.heap.size w w' := by
  obtain ⟨i0, hi0, hz0, hz1, hz2⟩ := info_parts u8_info
  have hmk := fun W : World => run_make (P := Tryz.prog) W 58 5 i0 _ Tryz.underlying58 hi0 hz0 .i64 .i64 0 (3 * (s.size : Int)) (by omega) (by omega) (by rw [hz2]; omega) (by omega)
  rw [hz1] at hmk
  obtain ⟨MC, hMC⟩ : ∃ x, madeCells (Value.int .u8 0).cells ((3 * (s.size : Int)).toNat * 1) = x := ⟨_, rfl⟩
  rw [hMC] at hmk
  have hMs : MC.size = (3 * (s.size : Int)).toNat * 1 := by rw [← hMC, size_madeCells]
  obtain ⟨cp, hcp⟩ : ∃ c, (3 * (s.size : Int)).toNat = c := ⟨_, rfl⟩
  rw [hcp] at hmk hMs
  have hcm : cp ≤ maxLen := by unfold maxLen; omega
  have HI := Lib.hid (And.intro hi0 (And.intro hz0 (And.intro hz1 hz2)))
  have HMs := Lib.hid hMs
  have HCm := Lib.hid hcm
  have p3 : wrap64 (3 * (s.size : Int)) = 3 * (s.size : Int) := by unfold wrap64; omega
  clear hMC hi0 hz0 hz1 hz2 hMs hcp hcm
  go_enter Tryz.func42, Tryz.ntmps42
  go_wp2_with fail
  clear hmk
  go_loopw [3, 11] (fun v i wr => Em.HexAt w s v i wr) (fun _ i _ => s.size - (intOf i).toNat)
  case atStart =>
    refine ⟨0, Nat.zero_le _, rfl, ⟨0, [], World.ownsRow_made w MC cp (Nat.le_refl _) HCm.out HMs.out, rfl, rfl⟩, ?_⟩
    exact Hv.bl1 _ _
  case round =>
    obtain ⟨k, hk, rfl, HO, HB⟩ := hrel
    by_cases hlt : k < s.size
    · have q1 : (0 : Int) ≤ (k : Int) := by omega
      have q2 : (k : Int) < (s.size : Int) := by omega
      obtain ⟨n, xs, hO, hxs, hn⟩ := HO.out
      obtain ⟨A, c, rfl, hcm⟩ := own_slice hO
      have HX := Lib.hid hxs
      have HO1 := Lib.hid hO
      have HN := Lib.hid hn
      clear hO hxs hn
      go_upto_if 15 with fail
      go_cut [3] (fun v wx => Em.HexC w s k v wx)
      case first =>
        by_cases h0 : k = 0
        · have hk0 : ¬ (0 : Int) < (k : Int) := by omega
          have H0 := Lib.hid h0
          clear h0
          go_wp2
          go_meet
          exact ⟨⟨n, xs, HO1.out, by rw [HX.out, Em.sep, if_pos H0.out, List.append_nil], HN.out⟩, HB.out⟩
        · have hk0 : (0 : Int) < (k : Int) := by omega
          have H0 := Lib.hid h0
          have hl : (Em.hexs ((tl s).take k)).length ≤ 3000000 := by have := Em.hexs_len ((tl s).take k); rw [List.length_take, tl_length] at this; omega
          have hnl : n ≤ 3000000 := by rw [HN.out, HX.out]; unfold Lib.byteCells; rw [List.length_map]; exact hl
          clear h0 hl
          go_wp2_with (at_builtin; refine wpList_append_bytes HI.out _ rfl (.tmp 16) (.tmp 17) rfl w.heap.size _ n xs rfl (HO1.out.alloc _) _ _ _ _ _ rfl (reads_lit wr #[.int .u8 44] 5) (by intro u hu; cases hu with | head => rfl | tail _ h => cases h) (by show n + 1 ≤ _; omega) (by rw [World.size_alloc]; have := HB.out.size; omega) ?_; intro v9 w9 hown9 hg9; have HO9 := Lib.hid hown9; have HG9 := Lib.hid hg9; clear hown9 hg9)
          go_meet
          refine ⟨⟨n + 1, _, HO9.out, ?_, ?_⟩, ?_⟩
          · rw [HX.out, Em.sep, if_neg H0.out]; unfold Lib.byteCells; rw [List.map_append]; rfl
          · rw [List.length_append, HN.out]; rfl
          · have hb := Hv.bl HB.out (.cells #[.int .u8 44] 5)
            exact hb.grown HG9.out hb.size (fun j e => by have := (HO1.out.lt j e).1; omega)
      case rest =>
        obtain ⟨⟨n1, ys, hO2, hys, hn2⟩, hB2⟩ := hcut
        obtain ⟨A1, c1, rfl, hcm1⟩ := own_slice hO2
        have HY := Lib.hid hys
        have HO2 := Lib.hid hO2
        have HN2 := Lib.hid hn2
        have HB2 := Lib.hid hB2
        obtain ⟨b, hb⟩ : ∃ b, s[k]'hlt = b := ⟨_, rfl⟩
        have b1 : b.toNat < 256 := b.toNat_lt
        have hand := Em.and15u8 b.toNat b1
        obtain ⟨x, hx⟩ : ∃ x, b.toNat / 16 = x := ⟨_, rfl⟩
        obtain ⟨y, hy⟩ : ∃ y, b.toNat % 16 = y := ⟨_, rfl⟩
        have e1 : (b.toNat : Int) / 16 = (x : Int) := by omega
        rw [hy] at hand
        have x0 : (0 : Int) ≤ (x : Int) := by omega
        have x1 : (x : Int) < 16 := by omega
        have x2 : x < 16 := by omega
        have y0 : (0 : Int) ≤ (y : Int) := by omega
        have y1 : (y : Int) < 16 := by omega
        have y2 : y < 16 := by omega
        have HXx := Lib.hid hx
        have HYy := Lib.hid hy
        have HBb := Lib.hid hb
        clear hO2 hys hn2 hB2 hx hy
        go_wp2_with fail
        have hl : (Em.hexs ((tl s).take k)).length ≤ 3000000 := by have := Em.hexs_len ((tl s).take k); rw [List.length_take, tl_length] at this; omega
        have hls : (Em.sep k).length ≤ 1 := by unfold Em.sep; split <;> simp
        have hnl : n1 ≤ 3000001 := by rw [HN2.out, HY.out]; unfold Lib.byteCells; rw [List.length_map, List.length_append]; omega
        have HNl := Lib.hid hnl
        have HCn := Lib.hid (fun (W : World) (a b : Value) => Em.cells_new W #[a, b] 5)
        clear hl hls hnl HX HO1 HN HO HB
        go_region_law ((refine step_append_lies _ (by rfl) (.tmp 19) (.tmp 30) 58 (by rfl) w.heap.size 5 i0 _ 1 1 Tryz.underlying58 HI.out.1 HI.out.2.1 HI.out.2.2.1 HI.out.2.2.2 (by rfl) (by decide) _ n1 _ (by rfl) ((Em.own_draw HO2.out).alloc _) _ 2 2 _ (by rfl) (by rfl) (HCn.out _ _ _) (by simp [Value.oneCell']) (by decide) (by have := HNl.out; unfold maxLen; omega) (by have := HNl.out; omega) (by have := HB2.out.size; simp; omega) _ rfl ?_; intro g9 cp9 w9 hown9 hg9 hat9 hlt9))
        all_goals (have HF := Lib.hid hown9; have HG := Lib.hid hg9; clear hown9 hg9 hat9)
        all_goals go_wp2
        all_goals
          go_roundw
          case rel =>
            refine ⟨k + 1, by omega, by go_num, ⟨n1 + 2, _, HF.out, ?_, ?_⟩, ?_⟩
            · rw [HY.out, Em.hexs_take (tl s) k b (Em.byte_at s k hlt b HBb.out), Em.cells_app _ (Em.hexb b), Em.hexb, HXx.out, HYy.out, ← Em.dg16_hex x x2 x2, ← Em.dg16_hex y y2 y2]
              rfl
            · rw [List.length_append, HN2.out]; rfl
            · have hb := Hv.bl (Em.below_drew HB2.out) (.cells #[.int .u8 ((Em.dg16[x]'x2).toNat : Int), .int .u8 ((Em.dg16[y]'y2).toNat : Int)] 5)
              exact hb.grown HG.out hb.size (fun j e => by have := (HO2.out.lt j e).1; omega)
          case measure => simp [intOf]; omega
    · have hke : k = s.size := by omega
      have q2 : ¬ (k : Int) < (s.size : Int) := by omega
      obtain ⟨n, xs, hO, hxs, hn⟩ := HO.out
      obtain ⟨A, c, rfl, hcm⟩ := own_slice hO
      have hT : (tl s).take k = tl s := List.take_of_length_le (by rw [tl_length]; omega)
      rw [hT] at hxs
      have hcv := Em.bytes_back hO (by rw [hn, hxs, Em.cells_len']) hxs
      have HCv := Lib.hid hcv
      clear hO hxs hn hT hcv
      have hcv := HCv.out
      go_wp2
      go_ret
      exact ⟨rfl, HB.out⟩
end Go.Proofs.YthmhadgbhakdlaaGreatDoor

/- A scope in which the run jumps back to several labels: what holds at every jump to each, and a measure that every pass lowers. -/
namespace Go.Proofs.YthmhadgbhakdlaaGreatDoor
open Go Go.RowKit

/-- As Q; by a goto to label l: J l. -/
def Exit.jumps (J : Nat → Act → World → Prop) (Q : Exit → Act → World → Prop) : Exit → Act → World → Prop
  | .goto l, a, w => J l a w
  | e, a, w => Q e a w
theorem wp_scope_labels {P : Program} {a : Act} {w : World} {Q : Exit → Act → World → Prop} {c : Code} (J : Nat → Act → World → Prop) (μ : Nat → Act → World → Nat)
    (first : c.wp P (Exit.jumps J Q) a w)
    (pass : ∀ l a w, J l a w → ∃ rest, findLabel c l = some rest ∧ rest.wp P (Exit.jumps (fun l' a' w' => J l' a' w' ∧ μ l' a' w' < μ l a w) Q) a w) : (Code.scope c).wp P Q a w := by
  intro b k cs
  have key : ∀ n l a w, μ l a w = n → J l a w → ∃ rest, findLabel c l = some rest ∧ ∃ e a' w', Q e a' w' ∧ Arrives P (lone (b.at a (.code rest :: .inScope c :: k)) cs w) b k cs e a' w' := by
    intro n
    induction n using Nat.strongRecOn with
    | _ n ih =>
      intro l a w hn hJ
      obtain ⟨rest, hf, hp⟩ := pass l a w hJ
      refine ⟨rest, hf, ?_⟩
      obtain ⟨e, a₁, w₁, hq, harr⟩ := hp b (.inScope c :: k) cs
      cases e with
      | normal => exact ⟨.normal, a₁, w₁, hq, Steps.trans harr (.one step_inScope)⟩
      | exit id => exact ⟨.exit id, a₁, w₁, hq, fun k' hk => harr k' (by simp [exitTo, hk])⟩
      | goto l' =>
        obtain ⟨hJ', hlt⟩ := hq
        obtain ⟨rest2, hf2, e₂, a₂, w₂, hq₂, harr₂⟩ := ih _ (by omega) l' a₁ w₁ rfl hJ'
        have hg : gotoIn l' (.inScope c :: k) = some (.code rest2 :: .inScope c :: k) := by simp [gotoIn, hf2]
        exact ⟨e₂, a₂, w₂, hq₂, .of_steps (harr _ hg) harr₂⟩
      | ret => exact ⟨_, a₁, w₁, hq, harr⟩
      | panic ch => exact ⟨_, a₁, w₁, hq, harr⟩
      | outgrown => exact ⟨_, a₁, w₁, hq, harr⟩
  obtain ⟨e, a₁, w₁, hq, harr⟩ := first b (.inScope c :: k) cs
  cases e with
  | normal => exact ⟨.normal, a₁, w₁, hq, .head step_scope (Steps.trans harr (.one step_inScope))⟩
  | exit id => exact ⟨.exit id, a₁, w₁, hq, fun k' hk => .head step_scope (harr k' (by simp [exitTo, hk]))⟩
  | goto l' =>
    obtain ⟨rest2, hf2, e₂, a₂, w₂, hq₂, harr₂⟩ := key _ l' a₁ w₁ rfl hq
    have hg : gotoIn l' (.inScope c :: k) = some (.code rest2 :: .inScope c :: k) := by simp [gotoIn, hf2]
    exact ⟨e₂, a₂, w₂, hq₂, .of_steps (.head step_scope (harr _ hg)) harr₂⟩
  | ret => exact ⟨_, a₁, w₁, hq, .of_steps (.one step_scope) harr⟩
  | panic ch => exact ⟨_, a₁, w₁, hq, .of_steps (.one step_scope) harr⟩
  | outgrown => exact ⟨_, a₁, w₁, hq, .of_steps (.one step_scope) harr⟩
/-- The same; where the scope's own beginning comes to a label, what holds there serves. -/
theorem wp_scope_labels2 {P : Program} {a : Act} {w : World} {Q : Exit → Act → World → Prop} {c : Code} (J : Nat → Act → World → Prop) (μ : Nat → Act → World → Nat)
    (pass : ∀ l a w, J l a w → ∃ rest, findLabel c l = some rest ∧ rest.wp P (Exit.jumps (fun l' a' w' => J l' a' w' ∧ μ l' a' w' < μ l a w) Q) a w)
    (first : (∀ l rest a w, findLabel c l = some rest → J l a w → rest.wp P (Exit.jumps J Q) a w) → c.wp P (Exit.jumps J Q) a w) : (Code.scope c).wp P Q a w := by
  refine wp_scope_labels J μ (first fun l rest a w hf hJ => ?_) pass
  obtain ⟨rest', hf', hp⟩ := pass l a w hJ
  obtain rfl : rest' = rest := Option.some.inj (hf'.symm.trans hf)
  refine wp_mono hp fun e a' w' h => ?_
  cases e with
  | goto l' => exact h.1
  | normal => exact h
  | exit id => exact h
  | ret => exact h
  | panic ch => exact h
  | outgrown => exact h
/-- The same, at labels that stand as statements of the scope's own sequence. -/
theorem wp_scope_labels3 {P : Program} {a : Act} {w : World} {Q : Exit → Act → World → Prop} {c : Code} (J : Nat → Act → World → Prop) (μ : Nat → Act → World → Nat)
    (pass : ∀ l a w, J l a w → ∃ rest, findLabel c l = some (.seq .skip rest) ∧ rest.wp P (Exit.jumps (fun l' a' w' => J l' a' w' ∧ μ l' a' w' < μ l a w) Q) a w)
    (first : (∀ l rest a w, findLabel c l = some (.seq .skip rest) → J l a w → rest.wp P (Exit.jumps J Q) a w) → c.wp P (Exit.jumps J Q) a w) : (Code.scope c).wp P Q a w := by
  refine wp_scope_labels J μ (first fun l rest a w hf hJ => ?_) fun l a w hJ => ?_
  · obtain ⟨rest', hf', hp⟩ := pass l a w hJ
    have e := Option.some.inj (hf'.symm.trans hf)
    injection e with _ e
    subst e
    refine wp_mono hp fun e a' w' h => ?_
    cases e with
    | goto l' => exact h.1
    | normal => exact h
    | exit id => exact h
    | ret => exact h
    | panic ch => exact h
    | outgrown => exact h
  · obtain ⟨rest, hf, hp⟩ := pass l a w hJ
    exact ⟨_, hf, wp_seq (wp_skip hp)⟩
end Go.Proofs.YthmhadgbhakdlaaGreatDoor
