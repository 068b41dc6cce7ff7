/- intake.Value of a right value's line. -/
import Derived.Test.YtmnolcjmnddbnaaGreatDoorP06
import Derived.Test.YtmnolcjmnddbnaaGreatDoorP01
import Derived.Orders
import Derived.RegionTactic
import Derived.Deep.AppendLies
import Derived.Deep.RegionLaw

namespace Go.Proofs.YtmnolcjmnddbnaaGreatDoor
open Go.RowKit

namespace Ink
open Em
theorem digs_low : ∀ (f n : Nat) (acc : Txt), n < 16 ^ (f + 1) → ∀ c ∈ digs f n acc, c ∈ acc ∨ lowhex c
  | 0, n, acc, h, c, hc => by
    have hn : n < 16 := by simpa using h
    rcases List.mem_cons.1 hc with rfl | hc
    · exact .inr (hexd_low n hn)
    · exact .inl hc
  | f + 1, n, acc, h, c, hc => by
    unfold digs at hc
    split at hc
    · have h2 : n / 16 < 16 ^ (f + 1) := by
        rw [Nat.div_lt_iff_lt_mul (by omega)]
        rw [Nat.pow_succ] at h
        exact h
      rcases digs_low f (n / 16) (hexd (n % 16) :: acc) h2 c hc with hc | hc
      · rcases List.mem_cons.1 hc with rfl | hc
        · exact .inr (hexd_low (n % 16) (by omega))
        · exact .inl hc
      · exact .inr hc
    · rcases List.mem_cons.1 hc with rfl | hc
      · exact .inr (hexd_low n (by omega))
      · exact .inl hc
theorem num_low (n : Nat) (h : n < 4294967296) : ∀ c ∈ num n, lowhex c := by
  intro c hc
  unfold num at hc
  rcases List.mem_append.1 hc with hc | hc
  · rw [(List.mem_replicate.1 hc).2]
    exact .inl ⟨by decide, by decide⟩
  · rcases digs_low 7 n [] h c hc with h2 | h2
    · cases h2
    · exact h2
/-- What stands behind a value's =. -/
def restM (m : Bool) (v : Hv.V) : Txt := if v.kind = 3 then bytP ++ hexsM m (tl v.bytes) else rest v
theorem vlineM_rest (m : Bool) (v : Hv.V) : vlineM m v = quote (tl v.name) ++ 61 :: restM m v := by
  unfold vlineM restM
  split
  · unfold bpre bytP
    simp
  · rfl
theorem val_more {v : Hv.V} (h : Hv.valB v = true) : (v.kind = 1 ∧ v.num = 0 ∧ v.bytes.size = 0) ∨ (v.kind = 2 ∧ v.text.size = 0 ∧ v.bytes.size = 0) ∨ (v.kind = 3 ∧ v.text.size = 0 ∧ v.num = 0) := by
  unfold Hv.valB Hv.kindB at h
  rw [Bool.and_eq_true] at h
  have h4 := h.2
  split at h4
  · rename_i hk
    simp only [Bool.and_eq_true, decide_eq_true_eq] at h4
    exact .inl ⟨hk, h4.2.2.1, h4.2.2.2⟩
  · split at h4
    · rename_i hk
      simp only [Bool.and_eq_true, decide_eq_true_eq] at h4
      exact .inr (.inl ⟨hk, h4.1, h4.2⟩)
    · split at h4
      · rename_i hk
        simp only [Bool.and_eq_true, decide_eq_true_eq] at h4
        exact .inr (.inr ⟨hk, h4.2.1, h4.2.2⟩)
      · cases h4
theorem empty_of {s : ByteArray} (h : s.size = 0) : s = ⟨#[]⟩ := by
  apply ByteArray.ext
  exact Array.eq_empty_of_size_eq_zero h
theorem restM_len {v : Hv.V} (m : Bool) (h : Hv.valB v = true) : (restM m v).length ≤ 100000 := by
  have hs := val_small h
  have h2 := quote_len (tl v.text)
  have h4 := num_len v.num.toNat
  have h5 := hexsM_len m (tl v.bytes)
  rw [tl_length] at h2 h5
  unfold restM rest
  split
  · rw [List.length_append]
    show 6 + _ ≤ _
    omega
  · split
    · omega
    · split
      · rw [List.length_append, h4]
        show 7 + 8 ≤ _
        omega
      · simp
end Ink
theorem told_val (m : Bool) (nm : ByteArray) (kd : Int) (tx : ByteArray) (nu : Int) (by_ : ByteArray) (hv : Hv.valB ⟨nm, kd, tx, nu, by_⟩ = true) (ho : Hv.V.Ok ⟨nm, kd, tx, nu, by_⟩) (w : World) :
    Calls Tryz.prog 20 #[.string (Em.bts (Ink.restM m ⟨nm, kd, tx, nu, by_⟩))] w fun e w' => e = .returned (.tuple #[.agg #[.string ⟨#[]⟩, .int .u8 kd, .string tx, .int .u32 nu, .string by_], .bool true]) ∧ Below w.heap.size w w' := by
  have hl := Ink.restM_len m hv
  rcases Ink.val_more hv with ⟨h1, h2, h3⟩ | ⟨h1, h2, h3⟩ | ⟨h1, h2, h3⟩
  · simp only at h1 h2 h3
    subst h1 h2
    rw [Ink.empty_of h3] at hl ⊢
    have h := told_text (Em.bts (Ink.restM m ⟨nm, 1, tx, 0, ⟨#[]⟩⟩)) (tl tx) (by rw [Em.bts_size]; omega) (by
      rw [Em.tl_bts]
      have := Ink.uq_quote (tl tx) []
      rw [List.append_nil] at this
      exact this) w
    rw [Em.bts_tl] at h
    exact h
  · simp only at h1 h2 h3
    subst h1
    have hn0 := ho.n0
    have hn1 := ho.n1
    simp only at hn0 hn1
    rw [Ink.empty_of h3, Ink.empty_of h2] at hl ⊢
    have h := told_num (Em.bts (Ink.restM m ⟨nm, 2, ⟨#[]⟩, nu, ⟨#[]⟩⟩)) (Em.num nu.toNat) (by rw [Em.tl_bts]; rfl) (by rw [Em.num_len]; omega) (by rw [Em.num_len]; omega) (Ink.num_low _ (by omega)) w
    rw [(Ink.num_val _ (by omega)).1, Int.toNat_of_nonneg hn0] at h
    exact h
  · simp only at h1 h2 h3
    subst h1 h3
    rw [Ink.empty_of h2] at hl ⊢
    have hlen := Ink.hexsM_len m (tl by_)
    rw [tl_length] at hlen
    have hle : (Ink.hexsM m (tl by_)).length ≤ 1000000 := by
      have := (Em.val_small hv).2.2.1
      simp only at this
      omega
    have h := told_bytes (Em.bts (Ink.restM m ⟨nm, 3, ⟨#[]⟩, 0, by_⟩)) (Ink.hexsM m (tl by_)) (tl by_) (by rw [Em.tl_bts]; rfl) hle (by
      by_cases h0 : by_.size = 0
      · have : tl by_ = [] := List.eq_nil_of_length_eq_zero (by rw [tl_length]; exact h0)
        rw [this]
        exact .inl ⟨rfl, rfl⟩
      · exact .inr ⟨by omega, Ink.unh_hexs m _⟩) w
    rw [Em.bts_tl] at h
    exact h
set_option maxHeartbeats 4000000 in
set_option maxRecDepth 100000 in
theorem inValue_any (m : Bool) (nm : ByteArray) (kd : Int) (tx : ByteArray) (nu : Int) (by_ : ByteArray) (hv : Hv.valB ⟨nm, kd, tx, nu, by_⟩ = true) (ho : Hv.V.Ok ⟨nm, kd, tx, nu, by_⟩) (w : World) :
    Calls Tryz.prog 7 #[.string (Em.bts (Ink.vlineM m ⟨nm, kd, tx, nu, by_⟩))] w fun e w' => e = .returned (.tuple #[.agg #[.string nm, .int .u8 kd, .string tx, .int .u32 nu, .string by_], .int .i64 0, .int .i64 0]) ∧ Below w.heap.size w w' := by
  have hT := told_val m nm kd tx nu by_ hv ho
  have hl := Ink.restM_len m hv
  have hnl := (Em.val_small hv).1
  simp only at hnl
  have hql := Em.quote_len (tl nm)
  rw [tl_length] at hql
  rw [Ink.vlineM_rest]
  simp only
  have hV := fun W => hvValue_any ⟨nm, kd, tx, nu, by_⟩ ho W
  rw [hv] at hV
  have HV : Hid (∀ W, Calls Tryz.prog 14 #[.agg #[.string nm, .int .u8 kd, .string tx, .int .u32 nu, .string by_]] W fun e w' => e = .returned (.int .i64 0) ∧ Below W.heap.size W w') := hV
  obtain ⟨R, hR⟩ : ∃ R, Ink.restM m ⟨nm, kd, tx, nu, by_⟩ = R := ⟨_, rfl⟩
  rw [hR] at hT hl ⊢
  have HT := Lib.hid hT
  obtain ⟨S, hS⟩ : ∃ S, Em.bts (Em.quote (tl nm) ++ 61 :: R) = S := ⟨_, rfl⟩
  have hSs : S.size ≤ 100000000 := by rw [← hS, Em.bts_size, List.length_append, List.length_cons]; omega
  have HU : Hid (∀ W, Calls Tryz.prog 18 #[.string S] W fun e w' => e = .returned (.tuple #[.string nm, .string (Em.bts (61 :: R)), .bool true]) ∧ Below W.heap.size W w') := fun W => by
    have h := unquote_any S hSs W
    rw [← hS, Em.tl_bts, Ink.uq_quote] at h
    rw [← hS]
    exact h
  have hx : (Em.bts (61 :: R)).extract 1 (Em.bts (61 :: R)).size = Em.bts R := by
    have := Ink.tl_from' (Em.bts (61 :: R)) 1
    rw [Em.tl_bts] at this
    exact this.symm
  have HP : Hid (∀ W, Calls Tryz.prog 19 #[.string (Em.bts (61 :: R)), .string ⟨#[61]⟩] W fun e w' => e = .returned (.bool true) ∧ w' = W) := fun W => by
    have h := Tryz.strings_HasPrefix (Em.bts (61 :: R)) ⟨#[61]⟩ W
    have e : Lib.hasPrefix (Em.bts (61 :: R)).data.toList (⟨#[61]⟩ : ByteArray).data.toList = true := rfl
    rw [e] at h
    exact h
  obtain ⟨E, hE⟩ : ∃ E, Em.bts (61 :: R) = E := ⟨_, rfl⟩
  have hEs : 1 ≤ (E.size : Int) := by rw [← hE, Em.bts_size, List.length_cons]; omega
  obtain ⟨RB, hRB⟩ : ∃ X, Em.bts R = X := ⟨_, rfl⟩
  rw [hE, hRB] at hx
  rw [hE] at HU HP
  rw [hRB] at HT
  rw [hS]
  have HZ0 : Hid (At (w.alloc (.cells #[.string ⟨#[]⟩, .int .u8 0, .string ⟨#[]⟩, .int .u32 0, .string ⟨#[]⟩] 25)) w.heap.size Ink.zval) := At.new _ _ _
  have HB0 := Lib.hid (Hv.bl1 w (.cells #[.string ⟨#[]⟩, .int .u8 0, .string ⟨#[]⟩, .int .u32 0, .string ⟨#[]⟩] 25))
  clear hT hl hnl hql hV hR hS hSs hE hRB hv ho
  go_enter Tryz.func7, Tryz.ntmps7
  go_wp2_with fail
  refine (HU.out _).mono ?_
  rintro e w1 ⟨rfl, hb⟩
  have HB1 := Lib.hid (below_then HB0.out hb)
  have HZ1 := Lib.hid (HZ0.out.call hb)
  clear hb
  go_wp2_with fail
  refine (HP.out _).mono ?_
  rintro e w2 ⟨rfl, rfl⟩
  go_wp2_with fail
  refine (HT.out _).mono ?_
  rintro e w3 ⟨rfl, hb⟩
  have HB3 := Lib.hid (below_then HB1.out hb)
  have HZ3 := Lib.hid (HZ1.out.call hb)
  clear hb
  go_wp2_with fail
  refine (HV.out _).mono ?_
  rintro e w4 ⟨rfl, hb⟩
  have hX := (At.new w3 #[.string nm, .int .u8 kd, .string tx, .int .u32 nu, .string by_] 25).call hb
  have hA := (HZ3.out.allocO (.cells #[.string nm, .int .u8 kd, .string tx, .int .u32 nu, .string by_] 25)).call hb
  have HB4 := Lib.hid (below_then (HB3.out.alloc HB3.out.size (.cells #[.string nm, .int .u8 kd, .string tx, .int .u32 nu, .string by_] 25)) hb)
  obtain ⟨c0, c1, c2, c3, c4, f0, f1, f2, f3, f4⟩ := Ink.At.fiveI hA
  obtain ⟨d0, d1, d2, d3, d4, _⟩ := Ink.At.fiveI hX
  have hz := hA.lt
  have hz2 := hX.lt
  clear hb hA hX
  go_wp2
  refine bodyPost_ret (v := .tuple #[.agg #[.string nm, .int .u8 kd, .string tx, .int .u32 nu, .string by_], .int .i64 0, .int .i64 0]) (by simp [results, Tryz.results7, go_sem, *]) rfl ⟨rfl, Ink.tup3_set HB4.out _ _ _ _ _⟩
end Go.Proofs.YtmnolcjmnddbnaaGreatDoor

/- A region that draws its order, by an invariant: what is done, what the slots hold, the world. -/
namespace Go.Proofs.YtmnolcjmnddbnaaGreatDoor
open Go.RowKit

namespace Od
def slots (a : Act) : Nat → Value := fun k => a.tmps.getD k undef
def upd {α : Type} (f : Nat → α) (i : Nat) (v : α) : Nat → α := fun j => if j = i then v else f j
def updo (u : Nat → Value) (d : Option Tmp) (v : Value) : Nat → Value := match d with
  | some k => upd u k v
  | none => u
theorem slots_put {a : Act} {d : Option Tmp} {v : Value} (h : ∀ k, d = some k → k < a.tmps.size) : slots (a.put d v) = updo (slots a) d v := by
  cases d with
  | none => rfl
  | some k =>
    have hk := h k rfl
    funext j
    show (a.tmps.setIfInBounds k v).getD j undef = if j = k then v else a.tmps.getD j undef
    by_cases e : j = k
    · subst e
      rw [if_pos rfl]
      simp [Array.getD, hk]
    · rw [if_neg e]
      simp only [Array.getD_eq_getD_getElem?, Array.getElem?_setIfInBounds, if_neg (Ne.symm e)]
theorem size_put {a : Act} {d : Option Tmp} {v : Value} : (a.put d v).tmps.size = a.tmps.size := by
  cases d with
  | none => rfl
  | some k => show (a.tmps.setIfInBounds k v).size = _; simp
theorem defers_put {a : Act} {d : Option Tmp} {v : Value} : (a.put d v).defers = a.defers := by cases d <;> rfl
theorem count_set : ∀ (l : List Bool) (i : Nat), l[i]? = some false → (l.set i true).count false + 1 = l.count false
  | [], i, h => by simp at h
  | x :: l, 0, h => by
    simp at h
    subst h
    simp
  | x :: l, i + 1, h => by
    have := count_set l i (by simpa using h)
    simp only [List.set_cons_succ, List.count_cons]
    omega
theorem all_true : ∀ (l : List Bool), l.count false = 0 → ∀ x ∈ l, x = true
  | [], _, x, hx => by cases hx
  | y :: l, h, x, hx => by
    simp only [List.count_cons] at h
    have h1 : l.count false = 0 := by omega
    have h2 : y = true := by
      cases y
      · simp at h
      · rfl
    rcases List.mem_cons.1 hx with rfl | hx
    · exact h2
    · exact all_true l h1 x hx
theorem ord_of {ops : Array Oper} (h : ((List.range ops.size).all fun j => match ops[j]? with
    | some o => o.after.toList.all fun e => !Region.binds .any e || decide (e.on < j)
    | none => true) = true) : ∀ (j : Nat) o, ops[j]? = some o → ∀ e ∈ o.after, Region.binds .any e = true → e.on < j := by
  intro j o hj e he hbi
  have h1 := List.all_eq_true.1 h j (List.mem_range.2 (Array.getElem?_eq_some_iff.1 hj).1)
  rw [hj] at h1
  have h2 := List.all_eq_true.1 h1 e (Array.mem_toList_iff.2 he)
  rw [hbi] at h2
  exact of_decide_eq_true (by simpa using h2)
theorem dst_of {ops : Array Oper} {N : Nat} (h : ((List.range ops.size).all fun j => match ops[j]? with
    | some o => (match o.dst with
      | some d => decide (d < N)
      | none => true)
    | none => true) = true) : ∀ (j : Nat) o d, ops[j]? = some o → o.dst = some d → d < N := by
  intro j o d hj hd
  have h1 := List.all_eq_true.1 h j (List.mem_range.2 (Array.getElem?_eq_some_iff.1 hj).1)
  rw [hj] at h1
  simp only [hd] at h1
  exact of_decide_eq_true h1
section
variable {P : Program} {ops : Array Oper} {Q : Exit → Act → World → Prop}
theorem ready_nil_all {s : Array Bool} (hs : s.size = ops.size) (hord : ∀ (j : Nat) o, ops[j]? = some o → ∀ e ∈ o.after, Region.binds .any e = true → e.on < j) (h : Region.ready .any ops s = []) : ∀ j, j < ops.size → s.getD j false = true := by
  intro j
  induction j using Nat.strongRecOn with
  | ind j ih =>
    intro hj
    cases hb : s.getD j false with
    | true => rfl
    | false =>
      exfalso
      have hb' : s.getD j true = false := by
        have : j < s.size := by omega
        simp [Array.getD, this] at hb ⊢
        exact hb
      have : j ∈ Region.ready .any ops s := mem_ready.2 ⟨hb', ops[j], Array.getElem?_eq_getElem hj, fun e he hbi => ih e.on (hord j _ (Array.getElem?_eq_getElem hj) e he hbi) (by have := hord j _ (Array.getElem?_eq_getElem hj) e he hbi; omega)⟩
      rw [h] at this
      cases this
theorem wpAny_inv (N : Nat) (hord : ∀ (j : Nat) o, ops[j]? = some o → ∀ e ∈ o.after, Region.binds .any e = true → e.on < j) (hdst : ∀ (j : Nat) o d, ops[j]? = some o → o.dst = some d → d < N)
    (J : (Nat → Bool) → (Nat → Value) → World → Prop)
    (hstep : ∀ i o, ops[i]? = some o → ∀ (b : Nat → Bool) (a : Act) (w : World), J b (slots a) w → b i = false → (∀ e ∈ o.after, Region.binds .any e = true → b e.on = true) → a.defers = [] →
      ∀ K : Act → World → Prop, (∀ v w', J (upd b i true) (updo (slots a) o.dst v) w' → K (a.put o.dst v) w') → if Region.wanted o (yielded ops a.tmps) = true then Oper.wp P o a w K Q else K (a.put o.dst undef) w)
    (hend : ∀ (a : Act) (w : World), J (fun j => decide (j < ops.size)) (slots a) w → a.tmps.size = N → a.defers = [] → Q .normal a w) :
    ∀ (g : Nat) (s : Array Bool) (a : Act) (w : World), s.size = ops.size → s.toList.count false ≤ g → a.tmps.size = N → a.defers = [] → J (fun j => s.getD j false) (slots a) w → wpAny P .any ops Q g s a w := by
  have fin : ∀ (s : Array Bool) (a : Act) (w : World), s.size = ops.size → (∀ j, j < ops.size → s.getD j false = true) → a.tmps.size = N → a.defers = [] → J (fun j => s.getD j false) (slots a) w → Q .normal a w := by
    intro s a w hs hall hN hd hJ
    refine hend a w ?_ hN hd
    have : (fun j => s.getD j false) = fun j => decide (j < ops.size) := by
      funext j
      by_cases hj : j < ops.size
      · rw [hall j hj, decide_eq_true hj]
      · rw [decide_eq_false hj]
        simp [Array.getD, hs, hj]
    rw [this] at hJ
    exact hJ
  intro g
  induction g with
  | zero =>
    intro s a w hs hc hN hd hJ
    have hall : ∀ j, j < ops.size → s.getD j false = true := by
      intro j hj
      have hj' : j < s.size := by omega
      have := all_true s.toList (by omega) s[j] (by simp)
      simp [Array.getD, hj', this]
    have hr : Region.ready .any ops s = [] := by
      cases e : Region.ready .any ops s with
      | nil => rfl
      | cons i l =>
        exfalso
        obtain ⟨h1, o, ho, _⟩ := mem_ready.1 (show i ∈ Region.ready .any ops s by rw [e]; exact List.mem_cons_self)
        have hi : i < ops.size := (Array.getElem?_eq_some_iff.1 ho).1
        have h2 := hall i hi
        have hi' : i < s.size := by omega
        simp [Array.getD, hi'] at h1 h2
        rw [h1] at h2
        cases h2
    exact ⟨hr, fin s a w hs hall hN hd hJ⟩
  | succ g ih =>
    intro s a w hs hc hN hd hJ
    refine ⟨fun hr => fin s a w hs (ready_nil_all hs hord hr) hN hd hJ, fun i hi => ?_⟩
    obtain ⟨h1, o, ho, hdep⟩ := mem_ready.1 hi
    have hio : i < ops.size := (Array.getElem?_eq_some_iff.1 ho).1
    have hi' : i < s.size := by omega
    have hsi : s[i] = false := by simpa [Array.getD, hi'] using h1
    refine wpOp_step ho fun K hK => hstep i o ho (fun j => s.getD j false) a w hJ (by simp [Array.getD, hi', hsi]) hdep hd K fun v w' hJ' => hK _ _ (ih _ _ _ (by simp [hs]) ?_ (by rw [size_put]; exact hN) (by rw [defers_put]; exact hd) ?_)
    · have := count_set s.toList i (by simp [hi', hsi])
      rw [Array.toList_setIfInBounds]
      omega
    · rw [slots_put (fun k hk => by rw [hN]; exact hdst i o k ho hk)]
      have : (fun j => (s.setIfInBounds i true).getD j false) = upd (fun j => s.getD j false) i true := by
        funext j
        unfold upd
        by_cases e : j = i
        · subst e
          rw [if_pos rfl]
          simp [Array.getD, hi']
        · rw [if_neg e]
          simp only [Array.getD_eq_getD_getElem?, Array.getElem?_setIfInBounds, if_neg (Ne.symm e)]
      rw [this]
      exact hJ'
/-- The region. -/
theorem wp_region_inv {id : Nat} {a : Act} {w : World} (N : Nat) (hm : P.follows .mixedOrders = true) (hN : a.tmps.size = N) (hd : a.defers = []) (hord : ∀ (j : Nat) o, ops[j]? = some o → ∀ e ∈ o.after, Region.binds .any e = true → e.on < j) (hdst : ∀ (j : Nat) o d, ops[j]? = some o → o.dst = some d → d < N)
    (J : (Nat → Bool) → (Nat → Value) → World → Prop) (h0 : J (fun _ => false) (slots a) w.drew)
    (hstep : ∀ i o, ops[i]? = some o → ∀ (b : Nat → Bool) (a : Act) (w : World), J b (slots a) w → b i = false → (∀ e ∈ o.after, Region.binds .any e = true → b e.on = true) → a.defers = [] →
      ∀ K : Act → World → Prop, (∀ v w', J (upd b i true) (updo (slots a) o.dst v) w' → K (a.put o.dst v) w') → if Region.wanted o (yielded ops a.tmps) = true then Oper.wp P o a w K Q else K (a.put o.dst undef) w)
    (hend : ∀ (a : Act) (w : World), J (fun j => decide (j < ops.size)) (slots a) w → a.tmps.size = N → a.defers = [] → Q .normal a w) : (Code.region id ops true).wp P Q a w := by
  refine wp_region_any hm ?_
  refine wpAny_inv N hord hdst J hstep hend ops.size _ a _ (by simp) (by simp) hN hd ?_
  have : (fun j => (Array.replicate ops.size false).getD j false) = fun _ => false := by
    funext j
    simp [Array.getD]
  rw [this]
  exact h0
end
end Od
end Go.Proofs.YtmnolcjmnddbnaaGreatDoor

/- A drawn region whose operations lay one slot each: what is in the slots is kept, slot by slot, from world to world. -/
namespace Go.Proofs.YtmnolcjmnddbnaaGreatDoor
open Go.RowKit

namespace Rg
open Od
/-- Of n operations those that are done have laid what P says of them, in the slots that sl says; all other slots are as they were. -/
structure J (n : Nat) (sl : Nat → Nat) (P : Nat → Value → World → Prop) (w0 : World) (u0 : Nat → Value) (b : Nat → Bool) (u : Nat → Value) (w : World) : Prop where
  below : Below w0.heap.size w0 w
  old : ∀ j, (∀ k, k < n → sl k ≠ j) → u j = u0 j
  val : ∀ k, k < n → b k = true → P k (u (sl k)) w
section
variable {n : Nat} {sl : Nat → Nat} {P : Nat → Value → World → Prop} {w0 w w' : World} {u0 u : Nat → Value} {b : Nat → Bool}
theorem J.start (w0 w : World) (u0 : Nat → Value) (hb : Below w0.heap.size w0 w) : J n sl P w0 u0 (fun _ => false) u0 w := ⟨hb, fun _ _ => rfl, fun _ _ e => (by cases e)⟩
theorem J.step (h : J n sl P w0 u0 b u w) (hm : ∀ k v W W', P k v W → Below W.heap.size W W' → P k v W') (hi : ∀ j, j < n → ∀ k, k < n → sl j = sl k → j = k) {k : Nat} (hk : k < n) {v : Value} (hb : Below w.heap.size w w') (hv : P k v w') : J n sl P w0 u0 (upd b k true) (upd u (sl k) v) w' := by
  refine ⟨below_then h.below hb, fun j hj => ?_, fun j hj hbj => ?_⟩
  · unfold upd
    rw [if_neg (fun e => hj k hk e.symm)]
    exact h.old j hj
  · by_cases hjk : j = k
    · subst hjk
      unfold upd
      rw [if_pos rfl]
      exact hv
    · have e1 : b j = true := by
        unfold upd at hbj
        rwa [if_neg hjk] at hbj
      unfold upd
      rw [if_neg (fun e => hjk (hi j hj k hk e))]
      exact hm _ _ _ _ (h.val j hj e1) hb
/-- The operation has run in the world as it is. -/
theorem J.put (h : J n sl P w0 u0 b u w) (hm : ∀ k v W W', P k v W → Below W.heap.size W W' → P k v W') (hi : ∀ j, j < n → ∀ k, k < n → sl j = sl k → j = k) {k : Nat} (hk : k < n) {v : Value} (hv : P k v w) : J n sl P w0 u0 (upd b k true) (upd u (sl k) v) w := h.step hm hi hk (Below.refl _ _) hv
end
theorem getD_bool {tm : Array Value} {k : Nat} {x : Bool} (h : tm.getD k undef = .bool x) : tm[k]? = some (.bool x) := by
  rw [Array.getD_eq_getD_getElem?] at h
  cases e : tm[k]? with
  | none => rw [e] at h; cases h
  | some v => rw [e] at h; rw [← h]; rfl
/-- A guarded operation is wanted. -/
theorem want {ops : Array Oper} {tm : Array Value} {o : Oper} {j t : Nat} {x : Bool} (hg : o.guard = some (j, x)) (hd : (ops[j]?).bind (·.dst) = some t) (hv : tm.getD t undef = .bool x) : Region.wanted o (yielded ops tm) = true := by
  unfold Region.wanted
  rw [hg]
  unfold yielded
  simp only [hd, Option.bind_some, getD_bool hv, beq_self_eq_true]
end Rg
end Go.Proofs.YtmnolcjmnddbnaaGreatDoor

/- intake: (*reader).value of a right value's line. -/
namespace Go.Proofs.YtmnolcjmnddbnaaGreatDoor
open Go.RowKit
open Go.Maps Go.WideShapes Go.ChangeShapes Go.WideMaps

namespace Ink
open Em
theorem add_at (g j : Nat) : ((⟨g, 0, none⟩ : Addr).add j).block = g ∧ ((⟨g, 0, none⟩ : Addr).add j).off = j := by
  unfold Addr.add
  split
  · subst_vars; exact ⟨rfl, rfl⟩
  · simp
/-- The last key's values, where their slice lies. -/
theorem Rd.last {w : World} {b pm np gk ck : Nat} {Ps : List ByteArray} {nmv : Value} {st0 : List Hv.K} {k : Hv.K} {evs0 : List Value} {ev : Value} (h : Rd w b pm np Ps nmv (st0 ++ [k]) (.slice (some ⟨gk, 0, none⟩) (st0.length + 1) ck) (evs0 ++ [ev])) :
    w.cell? ⟨gk, st0.length * 2 + 1, none⟩ = some ev ∧ w.frozen? ⟨gk, st0.length * 2 + 1, none⟩ = false ∧ gk < w.heap.size ∧ w.ownsRow (b + 1) 25 5 ev k.vals.length (k.vals.flatMap Hv.V.cells) := by
  have hl : evs0.length = st0.length := by have := h.len; rw [List.length_append, List.length_append] at this; simpa using this
  have hz : (st0 ++ [k]).zip (evs0 ++ [ev]) = st0.zip evs0 ++ [(k, ev)] := by rw [List.zip_append hl.symm]; rfl
  have hk := h.keys
  rw [List.length_append, List.length_singleton, hz, List.flatMap_append] at hk
  have hr := Reads.of_own hk
  obtain ⟨ad, e, hb, hc⟩ := hr.2 (by omega)
  have e2 : (⟨gk, 0, none⟩ : Addr) = ad := Option.some.inj e
  subst e2
  have h1 := hc (st0.length * 2 + 1) ev (by
    rw [List.getElem?_append_right (by rw [kc_len, List.length_zip, hl]; omega), kc_len, List.length_zip, hl, Nat.min_self, Nat.add_sub_cancel_left]
    rfl)
  have hadd : (⟨gk, 0, none⟩ : Addr).add (st0.length * 2 + 1) = ⟨gk, st0.length * 2 + 1, none⟩ := by unfold Addr.add; rw [if_neg (by omega)]; simp
  rw [hadd] at h1
  exact ⟨h1, hk.frozenAt _, hb, h.vals (k, ev) (by rw [hz]; exact List.mem_append_right _ (List.mem_singleton.2 rfl))⟩
/-- A look into a map. -/
theorem run_look0 {P : Program} {k t e : TypeId} {w : World} {b n : Nat} {f : Mp.Fn} {s : ByteArray} {z : Value} (hk : P.underlying k = some .string) (ht : P.underlying t = some (.map k e)) (hz : (zeroValue e).run P w = .ok z w) (hs : s.size ≤ maxLen) (h : MapF P k w b n f) :
    (Instr.lookup t (.map (some b)) (.string s) true).run P w = .ok (.tuple #[(f s).getD z, .bool (f s).isSome]) w := by
  obtain ⟨D, hD, hf⟩ := h
  obtain ⟨v, ps, hrun, hv⟩ := hD.look_ok (string_keyed hk) ht hz (zd := .held z) (zp := []) rfl (keyOf_string_mk hk hs)
  have hv' : Mp.rv v = some (D.atKey (Mp.kl s) (.held z), ps) := hv
  rw [(hf s).2 z] at hv'
  have e1 : v = (f s).getD z := by
    unfold Mp.rv at hv'
    injection hv' with hv1
    injection hv1 with hv1 _
    injection hv1
  have e2 : Maps.has D (Mp.kl s) = (f s).isSome := (hf s).1
  have hrun' : (Instr.lookup t (.map (some b)) (.string s) true).run P w = .ok (.tuple #[v, .bool (Maps.has D (Mp.kl s))]) w := hrun
  rw [hrun', e1, e2]
theorem run_look {w : World} {b n : Nat} {l : List ByteArray} {s : ByteArray} (hs : s.size ≤ maxLen) (h : MapF Tryz.prog 9 w b n (Hv.sf l)) {q : Bool} (hq : Hv.has l s = q) : (Instr.lookup 67 (.map (some b)) (.string s) true).run Tryz.prog w = .ok (.tuple #[.agg #[], .bool q]) w := by
  have h1 := run_look0 Tryz.underlying9 Tryz.underlying67 (Hv.zero_unit w) hs h
  rw [(Hv.sf_get l s).1, (Hv.sf_get l s).2, hq] at h1
  exact h1
/-- What (*reader).value leaves, where all is right. -/
def VRet (b pm np nm nn gk ck : Nat) (Ps : List ByteArray) (st0 : List Hv.K) (k : Hv.K) (evs0 : List Value) (v : Hv.V) (w w' : World) : Prop :=
  (∃ ev', Rd w' b pm np Ps (.map (some nm)) (st0 ++ [⟨k.path, k.vals ++ [v]⟩]) (.slice (some ⟨gk, 0, none⟩) (st0.length + 1) ck) (evs0 ++ [ev']) ∧ MapF Tryz.prog 9 w' nm (nn + 1) (Hv.sf (Hv.names (k.vals ++ [v])))) ∧ Below (b - 1) w w'
theorem val_info : (Tryz.prog.info? 25).map (fun i => (i.zero, i.size, i.bytes)) = some (some (.agg #[.string ⟨#[]⟩, .int .u8 0, .string ⟨#[]⟩, .int .u32 0, .string ⟨#[]⟩]), 5, 64) := by kernel_rfl
end Ink
namespace Ink
/-- The slots of the look into the names. -/
def sl7 : Nat → Nat
  | 0 => 43
  | 1 => 44
  | 2 => 45
  | 3 => 46
  | 4 => 47
  | 5 => 48
  | 6 => 49
  | 7 => 42
  | 8 => 50
  | 9 => 51
  | 10 => 10
  | 11 => 1000
  | _ => 11
def Q7 (b nm bv : Nat) (vn : ByteArray) : Nat → Value → World → Prop
  | 0, v, _ => v = .pointer (some ⟨b, 0, none⟩)
  | 1, v, _ => v = .pointer (some ⟨b, 0, none⟩)
  | 2, v, _ => v = .pointer (some ⟨b, 2, none⟩)
  | 3, v, _ => v = .map (some nm)
  | 4, v, _ => v = .pointer (some ⟨bv, 0, none⟩)
  | 5, v, _ => v = .string vn
  | 6, v, _ => v = .tuple #[.agg #[], .bool false]
  | 7, v, _ => v = .tuple #[.agg #[], .bool false]
  | 8, v, _ => v = .agg #[]
  | 9, v, _ => v = .bool false
  | 10, v, w => ∃ g, v = .pointer (some ⟨g, 0, none⟩) ∧ g < w.heap.size
  | 11, _, _ => True
  | _, v, _ => v = .bool false
theorem Q7_mono {b nm bv : Nat} {vn : ByteArray} : ∀ k v W W', Q7 b nm bv vn k v W → Below W.heap.size W W' → Q7 b nm bv vn k v W' := by
  intro k v W W' h hb
  unfold Q7 at h ⊢
  split at h
  all_goals first | exact h | (obtain ⟨g, h1, h2⟩ := h; exact ⟨g, h1, Nat.lt_of_lt_of_le h2 hb.size⟩)
end Ink
namespace Rg
open Od
/-- An operation without a slot of its own has run. -/
theorem J.same {n : Nat} {sl : Nat → Nat} {P : Nat → Value → World → Prop} {w0 w w' : World} {u0 u : Nat → Value} {b : Nat → Bool} (h : J n sl P w0 u0 b u w) (hm : ∀ k v W W', P k v W → Below W.heap.size W W' → P k v W') {k : Nat} (hb : Below w.heap.size w w') (hv : ∀ v, P k v w') : J n sl P w0 u0 (upd b k true) u w' := by
  refine ⟨below_then h.below hb, h.old, fun j hj hbj => ?_⟩
  by_cases hjk : j = k
  · subst hjk; exact hv _
  · have e1 : b j = true := by
      unfold upd at hbj
      rwa [if_neg hjk] at hbj
    exact hm _ _ _ _ (h.val j hj e1) hb
end Rg
set_option maxHeartbeats 16000000 in
set_option maxRecDepth 200000 in
theorem inValue_ok (m : Bool) (vn : ByteArray) (kd : Int) (tx : ByteArray) (nu : Int) (by_ : ByteArray) (hv : Hv.valB ⟨vn, kd, tx, nu, by_⟩ = true) (ho : Hv.V.Ok ⟨vn, kd, tx, nu, by_⟩) (w : World) (b pm np nm nn gk ck : Nat) (Ps : List ByteArray) (st0 : List Hv.K) (k : Hv.K) (evs0 : List Value) (ev : Value)
    (hR : Ink.Rd w b pm np Ps (.map (some nm)) (st0 ++ [k]) (.slice (some ⟨gk, 0, none⟩) (st0.length + 1) ck) (evs0 ++ [ev])) (hM : MapF Tryz.prog 9 w nm nn (Hv.sf (Hv.names k.vals))) (hnp : nm ≠ pm) (hnb : b < nm) (hnn : nn ≤ 100000) (hh : Hv.has (Hv.names k.vals) vn = false) (hkl : k.vals.length < 512) (hst : st0.length ≤ 100000) :
    Calls Tryz.prog 46 #[.pointer (some ⟨b, 0, none⟩), .string (Em.bts (Ink.vlineM m ⟨vn, kd, tx, nu, by_⟩))] w fun e w' => e = .returned (.tuple #[.int .i64 0, .int .i64 0]) ∧ Ink.VRet b pm np nm nn gk ck Ps st0 k evs0 ⟨vn, kd, tx, nu, by_⟩ w w' := by
  have HV := Lib.hid (inValue_any m vn kd tx nu by_ hv ho w)
  obtain ⟨LN, hLN⟩ : ∃ L, Em.bts (Ink.vlineM m ⟨vn, kd, tx, nu, by_⟩) = L := ⟨_, rfl⟩
  have hvs : vn.size ≤ maxLen := ho.name
  have hnn2 : nn < maxLen := by unfold maxLen; omega
  rw [hLN] at HV ⊢
  obtain ⟨n0, hn0⟩ : ∃ n, st0.length = n := ⟨_, rfl⟩
  have HN0 := Lib.hid hn0
  obtain ⟨ad, had⟩ : ∃ ad : Addr, (⟨gk, 0, none⟩ : Addr) = ad := ⟨_, rfl⟩
  have HAd := Lib.hid had
  rw [hn0] at hR hst
  have hRa := hR
  rw [had] at hRa
  have HR := Lib.hid hR
  have HM := Lib.hid hM
  have HH := Lib.hid hh
  have HKl := Lib.hid hkl
  have HBb := Lib.hid (Ink.b1 hR.lt)
  have HBl := Lib.hid hR.lt
  have c0 := hRa.at_.cell 0 _ rfl
  have z1 := hRa.lt
  have q0 : (((n0 : Int) + 1) == 0) = false := by rw [beq_eq_false_iff_ne]; omega
  have q1 : IntKind.i64.wrap ((n0 : Int) + 1 - 1) = (n0 : Int) := by rw [IntKind.wrap_i64]; omega
  have q2 : (0 : Int) ≤ (n0 : Int) := by omega
  have q3 : (n0 : Int) < (n0 : Int) + 1 := by omega
  clear hLN hn0 had hR hM hh hkl hRa hv ho
  go_enter Tryz.func46, Tryz.ntmps46
  go_wp2_with fail
  refine HV.out.mono ?_
  rintro e w2 ⟨rfl, hb⟩
  have HR3 := Lib.hid ((HR.out.call hb).call (Hv.bl1 w2 (.cells #[.string vn, .int .u8 kd, .string tx, .int .u32 nu, .string by_] 25)))
  have HM3 := Lib.hid ((HM.out.below hb).below (Hv.bl1 w2 (.cells #[.string vn, .int .u8 kd, .string tx, .int .u32 nu, .string by_] 25)))
  have HA3 : Hid (At (w2.alloc (.cells #[.string vn, .int .u8 kd, .string tx, .int .u32 nu, .string by_] 25)) w2.heap.size [.string vn, .int .u8 kd, .string tx, .int .u32 nu, .string by_]) := At.new _ _ _
  have HB3 : Hid (Below (b - 1) w (w2.alloc (.cells #[.string vn, .int .u8 kd, .string tx, .int .u32 nu, .string by_] 25))) := (hb.mono (Nat.le_of_lt HBb.out)).alloc (Ink.bs (hb.mono (Nat.le_of_lt HBb.out)) HBb.out) _
  have hbl : b < w2.heap.size := Nat.lt_of_lt_of_le HBl.out hb.size
  have HBv := Lib.hid hbl
  have c0' : w2.cell? ⟨b, 0, none⟩ = some (.slice (some ad) (n0 + 1) ck) := by
    have := (HR.out.call hb).at_.cell 0 _ rfl
    rw [HAd.out] at this
    exact this
  clear hb c0 z1
  go_upto_region 6 with fail
  obtain ⟨bv, hbv⟩ : ∃ x, w2.heap.size = x := ⟨_, rfl⟩
  obtain ⟨W3, hW3⟩ : ∃ W, w2.alloc (.cells #[.string vn, .int .u8 kd, .string tx, .int .u32 nu, .string by_] 25) = W := ⟨_, rfl⟩
  rw [hW3, hbv] at HA3
  rw [hW3] at HR3 HM3 HB3 ⊢
  rw [hbv] at HBv hbl ⊢
  have c0 : W3.cell? ⟨b, 0, none⟩ = some (.slice (some ad) (n0 + 1) ck) := by
    have := HR3.out.at_.cell 0 _ rfl
    rw [HAd.out] at this
    exact this
  clear hW3 hbv c0'
  go_quiet (fail)
  obtain ⟨W4, hW4⟩ : ∃ W, W3.drewN nq = W := ⟨_, rfl⟩
  have HR4 : Hid (Ink.Rd W4 b pm np Ps (.map (some nm)) (st0 ++ [k]) (.slice (some ⟨gk, 0, none⟩) (n0 + 1) ck) (evs0 ++ [ev])) := by rw [← hW4]; exact ⟨HR3.out.at_.drew ⟨nq, rfl⟩, HR3.out.keys, HR3.out.len, HR3.out.vals, HR3.out.apart, HR3.out.pair, HR3.out.map.drewN nq, HR3.out.pmb⟩
  have HM4 : Hid (MapF Tryz.prog 9 W4 nm nn (Hv.sf (Hv.names k.vals))) := by rw [← hW4]; exact HM3.out.drewN nq
  have HA4 : Hid (At W4 bv [.string vn, .int .u8 kd, .string tx, .int .u32 nu, .string by_]) := by rw [← hW4]; exact HA3.out.drew ⟨nq, rfl⟩
  have HB4 : Hid (Below (b - 1) w W4) := by rw [← hW4]; exact below_drewN HB3.out nq
  rw [hW4]
  clear hW4 c0
  have c2 := HR4.out.at_.cell 2 _ rfl
  have a0 := HA4.out.cell 0 _ rfl
  have za := HA4.out.lt
  have zb := HR4.out.lt
  have hlk : ∀ j, (Instr.lookup 67 (.map (some nm)) (.string vn) true).run Tryz.prog (W4.drewN j) = .ok (.tuple #[.agg #[], .bool false]) (W4.drewN j) := fun j => Ink.run_look hvs (HM4.out.drewN j) HH.out
  go_upto_region 7 with fail
  have hinj : ∀ j, j < 13 → ∀ k, k < 13 → Ink.sl7 j = Ink.sl7 k → j = k := by decide
  have hno : ∀ j, j < 10 → j ≠ 10 → j ≠ 11 → ∀ k, k < 13 → Ink.sl7 k ≠ j := by decide
  refine Od.wp_region_inv 76 (by kernel_rfl) (by rfl) (by rfl) (Od.ord_of (by kernel_rfl)) (Od.dst_of (by kernel_rfl)) (Rg.J 13 Ink.sl7 (Ink.Q7 b nm bv vn) W4 (Od.slots _)) (Rg.J.start _ _ _ (Below.refl _ _).drew) ?stepR ?finR
  case stepR =>
    intro i o hi b' a' wv hJ hb hdep hdf K hK
    obtain ⟨tm, df⟩ := a'
    simp only at hdf
    subst hdf
    have hi13 : i < 13 := (Array.getElem?_eq_some_iff.1 hi).1
    have hsplit : i = 0 ∨ i = 1 ∨ i = 2 ∨ i = 3 ∨ i = 4 ∨ i = 5 ∨ i = 6 ∨ i = 7 ∨ i = 8 ∨ i = 9 ∨ i = 10 ∨ i = 11 ∨ i = 12 := by omega
    rcases hsplit with rfl | rfl | rfl | rfl | rfl | rfl | rfl | rfl | rfl | rfl | rfl | rfl | rfl
    · have e := Option.some.inj (show some _ = some o from hi)
      subst e
      rw [if_pos (show Region.wanted _ _ = true from rfl)]
      have v0 : tm.getD 0 undef = .pointer (some ⟨b, 0, none⟩) := (hJ.old 0 (hno 0 (by omega) (by omega) (by omega))).trans rfl
      have v0' : tm[0]?.getD undef = .pointer (some ⟨b, 0, none⟩) := by rw [← Array.getD_eq_getD_getElem?]; exact v0
      go_simp
      exact hK _ _ (hJ.put Ink.Q7_mono hinj (by omega) rfl)
    · have e := Option.some.inj (show some _ = some o from hi)
      subst e
      rw [if_pos (show Region.wanted _ _ = true from rfl)]
      have v0 : tm.getD 43 undef = .pointer (some ⟨b, 0, none⟩) := hJ.val 0 (by omega) (hdep ⟨0, .data⟩ (by simp) rfl)
      have v0' : tm[43]?.getD undef = .pointer (some ⟨b, 0, none⟩) := by rw [← Array.getD_eq_getD_getElem?]; exact v0
      go_simp
      exact hK _ _ (hJ.put Ink.Q7_mono hinj (by omega) rfl)
    · have e := Option.some.inj (show some _ = some o from hi)
      subst e
      rw [if_pos (show Region.wanted _ _ = true from rfl)]
      have v1 : tm.getD 44 undef = .pointer (some ⟨b, 0, none⟩) := hJ.val 1 (by omega) (hdep ⟨1, .data⟩ (by simp) rfl)
      have v1' : tm[44]?.getD undef = .pointer (some ⟨b, 0, none⟩) := by rw [← Array.getD_eq_getD_getElem?]; exact v1
      go_simp
      exact hK _ _ (hJ.put Ink.Q7_mono hinj (by omega) rfl)
    · have e := Option.some.inj (show some _ = some o from hi)
      subst e
      rw [if_pos (show Region.wanted _ _ = true from rfl)]
      have v2 : tm.getD 45 undef = .pointer (some ⟨b, 2, none⟩) := hJ.val 2 (by omega) (hdep ⟨2, .data⟩ (by simp) rfl)
      have v2' : tm[45]?.getD undef = .pointer (some ⟨b, 2, none⟩) := by rw [← Array.getD_eq_getD_getElem?]; exact v2
      have c2' := (HR4.out.call hJ.below).at_.cell 2 _ rfl
      go_simp
      exact hK _ _ (hJ.put Ink.Q7_mono hinj (by omega) rfl)
    · have e := Option.some.inj (show some _ = some o from hi)
      subst e
      rw [if_pos (show Region.wanted _ _ = true from rfl)]
      have v0 : tm.getD 6 undef = .pointer (some ⟨bv, 0, none⟩) := (hJ.old 6 (hno 6 (by omega) (by omega) (by omega))).trans rfl
      have v0' : tm[6]?.getD undef = .pointer (some ⟨bv, 0, none⟩) := by rw [← Array.getD_eq_getD_getElem?]; exact v0
      go_simp
      exact hK _ _ (hJ.put Ink.Q7_mono hinj (by omega) rfl)
    · have e := Option.some.inj (show some _ = some o from hi)
      subst e
      rw [if_pos (show Region.wanted _ _ = true from rfl)]
      have v4 : tm.getD 47 undef = .pointer (some ⟨bv, 0, none⟩) := hJ.val 4 (by omega) (hdep ⟨4, .data⟩ (by simp) rfl)
      have v4' : tm[47]?.getD undef = .pointer (some ⟨bv, 0, none⟩) := by rw [← Array.getD_eq_getD_getElem?]; exact v4
      have a0' := (HA4.out.call hJ.below).cell 0 _ rfl
      go_simp
      exact hK _ _ (hJ.put Ink.Q7_mono hinj (by omega) rfl)
    · have e := Option.some.inj (show some _ = some o from hi)
      subst e
      rw [if_pos (show Region.wanted _ _ = true from rfl)]
      have v3 : tm.getD 46 undef = .map (some nm) := hJ.val 3 (by omega) (hdep ⟨3, .data⟩ (by simp) rfl)
      have v3' : tm[46]?.getD undef = .map (some nm) := by rw [← Array.getD_eq_getD_getElem?]; exact v3
      have v5 : tm.getD 48 undef = .string vn := hJ.val 5 (by omega) (hdep ⟨5, .data⟩ (by simp) rfl)
      have v5' : tm[48]?.getD undef = .string vn := by rw [← Array.getD_eq_getD_getElem?]; exact v5
      have hlk := Ink.run_look hvs (HM4.out.below hJ.below) HH.out
      go_simp
      exact hK _ _ (hJ.put Ink.Q7_mono hinj (by omega) rfl)
    · have e := Option.some.inj (show some _ = some o from hi)
      subst e
      rw [if_pos (show Region.wanted _ _ = true from rfl)]
      have v6 : tm.getD 49 undef = .tuple #[.agg #[], .bool false] := hJ.val 6 (by omega) (hdep ⟨6, .data⟩ (by simp) rfl)
      have v6' : tm[49]?.getD undef = .tuple #[.agg #[], .bool false] := by rw [← Array.getD_eq_getD_getElem?]; exact v6
      go_simp
      exact hK _ _ (hJ.put Ink.Q7_mono hinj (by omega) rfl)
    · have e := Option.some.inj (show some _ = some o from hi)
      subst e
      rw [if_pos (show Region.wanted _ _ = true from rfl)]
      have v7 : tm.getD 42 undef = .tuple #[.agg #[], .bool false] := hJ.val 7 (by omega) (hdep ⟨7, .data⟩ (by simp) rfl)
      have v7' : tm[42]?.getD undef = .tuple #[.agg #[], .bool false] := by rw [← Array.getD_eq_getD_getElem?]; exact v7
      go_simp
      exact hK _ _ (hJ.put Ink.Q7_mono hinj (by omega) rfl)
    · have e := Option.some.inj (show some _ = some o from hi)
      subst e
      rw [if_pos (show Region.wanted _ _ = true from rfl)]
      have v7 : tm.getD 42 undef = .tuple #[.agg #[], .bool false] := hJ.val 7 (by omega) (hdep ⟨7, .data⟩ (by simp) rfl)
      have v7' : tm[42]?.getD undef = .tuple #[.agg #[], .bool false] := by rw [← Array.getD_eq_getD_getElem?]; exact v7
      go_simp
      exact hK _ _ (hJ.put Ink.Q7_mono hinj (by omega) rfl)
    · have e := Option.some.inj (show some _ = some o from hi)
      subst e
      rw [if_pos (show Region.wanted _ _ = true from rfl)]
      go_simp
      exact hK _ _ (hJ.step Ink.Q7_mono hinj (by omega) (Hv.bl1 wv _) ⟨wv.heap.size, rfl, by rw [World.size_alloc]; omega⟩)
    · have e := Option.some.inj (show some _ = some o from hi)
      subst e
      rw [if_pos (show Region.wanted _ _ = true from rfl)]
      obtain ⟨g, v10, hg⟩ : ∃ g, tm.getD 10 undef = .pointer (some ⟨g, 0, none⟩) ∧ g < wv.heap.size := hJ.val 10 (by omega) (hdep ⟨10, .data⟩ (by simp) rfl)
      have v10' : tm[10]?.getD undef = .pointer (some ⟨g, 0, none⟩) := by rw [← Array.getD_eq_getD_getElem?]; exact v10
      have v8 : tm.getD 50 undef = .agg #[] := hJ.val 8 (by omega) (hdep ⟨8, .data⟩ (by simp) rfl)
      have v8' : tm[50]?.getD undef = .agg #[] := by rw [← Array.getD_eq_getD_getElem?]; exact v8
      go_simp
      exact hK undef wv (hJ.same Ink.Q7_mono (Below.refl _ _) (fun _ => trivial))
    · have e := Option.some.inj (show some _ = some o from hi)
      subst e
      rw [if_pos (show Region.wanted _ _ = true from rfl)]
      have v9 : tm.getD 51 undef = .bool false := hJ.val 9 (by omega) (hdep ⟨9, .data⟩ (by simp) rfl)
      have v9' : tm[51]?.getD undef = .bool false := by rw [← Array.getD_eq_getD_getElem?]; exact v9
      go_simp
      exact hK _ _ (hJ.put Ink.Q7_mono hinj (by omega) rfl)
  case finR =>
    intro a' W5 hJ hN hdf
    have s0 : a'.tmps.getD 0 undef = .pointer (some ⟨b, 0, none⟩) := (hJ.old 0 (hno 0 (by omega) (by omega) (by omega))).trans rfl
    have s6 : a'.tmps.getD 6 undef = .pointer (some ⟨bv, 0, none⟩) := (hJ.old 6 (hno 6 (by omega) (by omega) (by omega))).trans rfl
    have s9 : a'.tmps.getD 9 undef = .pointer (some (ad.add (n0 * 2))) := (hJ.old 9 (hno 9 (by omega) (by omega) (by omega))).trans rfl
    have s11 : a'.tmps.getD 11 undef = .bool false := hJ.val 12 (by omega) (by rfl)
    have HR5 := Lib.hid (HR4.out.call hJ.below)
    have HM5 := Lib.hid (HM4.out.below hJ.below)
    have HA5 := Lib.hid (HA4.out.call hJ.below)
    have HB5 : Hid (Below (b - 1) w W5) := HB4.out.trans (hJ.below.mono (by omega))
    have ef : a' = { tmps := ((List.range 76).map fun i => a'.tmps.getD i undef).toArray, defers := [] } := Ink.frame_of 76 a' hN hdf
    obtain ⟨u, hu⟩ : ∃ u : Nat → Value, (fun i => a'.tmps.getD i undef) = u := ⟨_, rfl⟩
    rw [hu] at ef
    have e0 : u 0 = .pointer (some ⟨b, 0, none⟩) := by rw [← hu]; exact s0
    have e6 : u 6 = .pointer (some ⟨bv, 0, none⟩) := by rw [← hu]; exact s6
    have e9 : u 9 = .pointer (some (ad.add (n0 * 2))) := by rw [← hu]; exact s9
    have e11 : u 11 = .bool false := by rw [← hu]; exact s11
    have ef2 : a' = { tmps := #[u 0, u 1, u 2, u 3, u 4, u 5, u 6, u 7, u 8, u 9, u 10, u 11, u 12, u 13, u 14, u 15, u 16, u 17, u 18, u 19, u 20, u 21, u 22, u 23, u 24, u 25, u 26, u 27, u 28, u 29, u 30, u 31, u 32, u 33, u 34, u 35, u 36, u 37, u 38, u 39, u 40, u 41, u 42, u 43, u 44, u 45, u 46, u 47, u 48, u 49, u 50, u 51, u 52, u 53, u 54, u 55, u 56, u 57, u 58, u 59, u 60, u 61, u 62, u 63, u 64, u 65, u 66, u 67, u 68, u 69, u 70, u 71, u 72, u 73, u 74, u 75], defers := [] } := ef
    rw [e0, e6, e9, e11] at ef2
    rw [ef2]
    clear hJ hN hdf ef ef2 hu e0 e6 e9 e11 s0 s6 s9 s11 c2 a0 za zb hlk hinj hno
    have hl5 := Ink.Rd.last (st0 := st0) (by have h := HR5.out; rw [← HN0.out] at h; exact h)
    rw [HN0.out] at hl5
    obtain ⟨p1, p2, p3, p4⟩ := hl5
    have hev : ∃ eA ec, ev = .slice eA k.vals.length ec := by
      obtain ⟨A, c, e, _⟩ := own_slice p4
      exact ⟨A, c, e⟩
    obtain ⟨eA, ec, rfl⟩ := hev
    have haddr := Ink.add_at gk (n0 * 2)
    rw [HAd.out] at haddr
    have p1' : W5.cell? ⟨(ad.add (n0 * 2)).block, (ad.add (n0 * 2)).off + 1, none⟩ = some (.slice eA k.vals.length ec) := by rw [haddr.1, haddr.2]; exact p1
    have p3' : (ad.add (n0 * 2)).block < W5.heap.size := by rw [haddr.1]; exact p3
    obtain ⟨ke, hke⟩ : ∃ x, k.vals.length = x := ⟨_, rfl⟩
    have HKe := Lib.hid hke
    have hk5 : ke < 512 := by rw [← hke]; exact HKl.out
    rw [hke] at p1' p4
    have r1 : ¬ (512 : Int) ≤ (ke : Int) := by omega
    have r2 : decide (512 ≤ ke) = false := by rw [decide_eq_false_iff_not]; omega
    have HAdr := Lib.hid haddr
    have HP4 := Lib.hid p4
    have c2 := HR5.out.at_.cell 2 _ rfl
    have a0 := HA5.out.cell 0 _ rfl
    have za := HA5.out.lt
    have zb := HR5.out.lt
    clear p1 p2 p3 haddr hke p4
    go_upto_region 12 with fail
    refine wp_region_quiet_tail (C := fun w' => ∃ j, w' = W5.drewN j) 7 (by kernel_rfl) (by kernel_rfl) ⟨1, rfl⟩ ?_
    repeat (quiet_step (fail))
    refine wpQuiet_nil ?_
    intro wz hwz
    obtain ⟨nq2, rfl⟩ := hwz
    show wpList _ _ _ (_ :: _) _ _
    refine Hv.store_set _ rfl _ _ _ nm nn (Hv.names k.vals) vn hvs hnn2 rfl rfl rfl rfl (HM5.out.drewN nq2) ?_
    intro W6 hM6 hg6
    have hR5d : Ink.Rd (W5.drewN nq2) b pm np Ps (.map (some nm)) (st0 ++ [k]) (.slice (some ⟨gk, 0, none⟩) (n0 + 1) ck) (evs0 ++ [.slice eA k.vals.length ec]) := HR5.out.call ((show Drew W5 (W5.drewN nq2) from ⟨nq2, rfl⟩).below _)
    have HR6 := Lib.hid (hR5d.mapG (HM5.out.drewN nq2) hg6 (hR5d.map.kept hg6 (fun e => hnp (Option.some.inj e).symm)))
    have HM6 := Lib.hid hM6
    have HA6 : Hid (At W6 bv [.string vn, .int .u8 kd, .string tx, .int .u32 nu, .string by_]) := Ink.at_grown (w := W5.drewN nq2) (HA5.out.drew ⟨nq2, rfl⟩) hg6 (fun e => Ink.at_ne_map (HA5.out.drew ⟨nq2, rfl⟩) (HM5.out.drewN nq2) (Option.some.inj e).symm)
    have HB6 : Hid (Below (b - 1) w W6) := (below_drewN HB5.out nq2).grown hg6 (by show b - 1 ≤ W5.heap.size; omega) (fun j e => by have := Option.some.inj e; omega)
    clear hM6 hg6 hR5d c2 a0 za zb p1' p3'
    have hl6 := Ink.Rd.last (st0 := st0) (by have h := HR6.out; rw [← HN0.out] at h; exact h)
    rw [HN0.out] at hl6
    obtain ⟨p1, p2, p3, p4⟩ := hl6
    have p1' : W6.cell? ⟨(ad.add (n0 * 2)).block, (ad.add (n0 * 2)).off + 1, none⟩ = some (.slice eA ke ec) := by rw [HAdr.out.1, HAdr.out.2, ← HKe.out]; exact p1
    have p3' : (ad.add (n0 * 2)).block < W6.heap.size := by rw [HAdr.out.1]; exact p3
    rw [HKe.out] at p4
    obtain ⟨a0, a1, a2, a3, a4, _⟩ := Ink.At.fiveI HA6.out
    have za := HA6.out.lt
    have zb := HR6.out.lt
    have HR7 := Lib.hid (HR6.out.call (Hv.bl1 W6 (.cells #[.string vn, .int .u8 kd, .string tx, .int .u32 nu, .string by_] 25)))
    have hl7 := Ink.Rd.last (st0 := st0) (by have h := HR7.out; rw [← HN0.out] at h; exact h)
    rw [HN0.out] at hl7
    obtain ⟨l1, l2, l3, l4⟩ := hl7
    rw [HKe.out] at l4
    have HO : Hid (((W6.alloc (.cells #[.string vn, .int .u8 kd, .string tx, .int .u32 nu, .string by_] 25)).drewN 1).ownsRow (b + 1) 25 5 (.slice eA ke ec) ke (k.vals.flatMap Hv.V.cells)) := by
      have h := l4
      show World.ownsRow _ _ _ _ _ _ _
      first | exact h | (rw [HKe.out] at h; exact h)
    have HNw := Lib.hid (Em.cells_new W6 #[.string vn, .int .u8 kd, .string tx, .int .u32 nu, .string by_] 25)
    have HL1 : Hid (((W6.alloc (.cells #[.string vn, .int .u8 kd, .string tx, .int .u32 nu, .string by_] 25)).drewN 1).cell? ⟨gk, n0 * 2 + 1, none⟩ = some (.slice eA ke ec)) := by
      show _ = _
      rw [← HKe.out]
      exact l1
    have HL2 : Hid (((W6.alloc (.cells #[.string vn, .int .u8 kd, .string tx, .int .u32 nu, .string by_] 25)).drewN 1).frozen? ⟨gk, n0 * 2 + 1, none⟩ = false) := l2
    have hevk : ∀ g, (Value.slice eA ke ec).ownBlock = some g → g ≠ gk := by
      intro g q e
      subst e
      rw [← HKe.out] at q
      exact HR6.out.apart _ (List.mem_append_right _ (List.mem_singleton.2 rfl)) _ q rfl
    have HEvk := Lib.hid hevk
    obtain ⟨i0, hi0, hz0, hz1, hz2⟩ := info_parts Ink.val_info
    have HI := Lib.hid (And.intro hi0 (And.intro hz0 (And.intro hz1 hz2)))
    have HGl := Lib.hid l3
    clear p1 p2 p3 p4 l1 l2 l3 l4 hevk hi0 hz0 hz1 hz2
    have hKe5 : ke < 512 := hk5
    go_upto_region 13 with fail
    go_region_law ((refine step_append_lies _ (by rfl) (.tmp 70) (.tmp 72) 42 (by rfl) (b + 1) 25 i0 _ 5 64 Tryz.underlying42 HI.out.1 HI.out.2.1 HI.out.2.2.1 HI.out.2.2.2 (by rfl) (by decide) _ ke _ (by rfl) HO.out _ 1 1 _ (by rfl) (by rfl) HNw.out (by simp [Value.oneCell']) (by decide) (by unfold maxLen; omega) (by omega) (by simp; omega) _ rfl ?_; intro g9 cp9 w9 hown9 hg9 hat9 hlt9; have c9 : w9.cell? ⟨(ad.add (n0 * 2)).block, (ad.add (n0 * 2)).off + 1, none⟩ = some (.slice eA ke ec) := (by rw [HAdr.out.1, HAdr.out.2]; exact (World.cell?_of_block (a := ⟨gk, n0 * 2 + 1, none⟩) (hg9.block gk HGl.out (fun e => HEvk.out gk e.symm rfl))).trans HL1.out); have f9 : w9.frozen? ⟨(ad.add (n0 * 2)).block, (ad.add (n0 * 2)).off + 1, none⟩ = false := (by rw [HAdr.out.1, HAdr.out.2]; exact (World.frozen?_of_block (a := ⟨gk, n0 * 2 + 1, none⟩) (hg9.block gk HGl.out (fun e => HEvk.out gk e.symm rfl))).trans HL2.out)))
    all_goals (have HF := Lib.hid hown9; have HG := Lib.hid hg9; have HT := Lib.hid hat9; clear hown9 hg9 hat9 c9 f9)
    all_goals go_wp2
    all_goals go_ret2
    all_goals
      have hRd : Ink.Rd ((W6.alloc (.cells #[.string vn, .int .u8 kd, .string tx, .int .u32 nu, .string by_] 25)).drewN 1) b pm np Ps (.map (some nm)) (st0 ++ [k]) (.slice (some ⟨gk, 0, none⟩) (n0 + 1) ck) (evs0 ++ [.slice eA k.vals.length ec]) := HR7.out.call ((show Drew _ _ from ⟨1, rfl⟩).below _)
      have hMd : MapF Tryz.prog 9 ((W6.alloc (.cells #[.string vn, .int .u8 kd, .string tx, .int .u32 nu, .string by_] 25)).drewN 1) nm (nn + 1) (Hv.sf (Hv.names k.vals ++ [vn])) := (HM6.out.alloc _).drewN 1
      have hgk : gk ≠ nm := fun e => Ink.own_ne_map hRd.keys hMd (by rw [← e]; rfl)
      have hnmv : Hv.names (k.vals ++ [⟨vn, kd, tx, nu, by_⟩]) = Hv.names k.vals ++ [vn] := Ink.names_app _ _
      have hevo := Ink.Rd.last (st0 := st0) (by have h := hRd; rw [← HN0.out] at h; exact h)
      have hGf : ((W6.alloc (.cells #[.string vn, .int .u8 kd, .string tx, .int .u32 nu, .string by_] 25)).drewN 1).grownBy w9 (Value.slice eA k.vals.length ec).ownBlock := by rw [HKe.out]; exact HG.out
      refine ⟨rfl, ?_⟩
      unfold Ink.VRet
      refine ⟨⟨.slice (some ⟨g9, 0, none⟩) (ke + 1) cp9, ?_, ?_⟩, ?_⟩
      · have h1 := Ink.Rd.pushVal (st0 := st0) (v := ⟨vn, kd, tx, nu, by_⟩) (ev' := .slice (some ⟨g9, 0, none⟩) (ke + 1) cp9) (by have h := hRd; rw [← HN0.out] at h; exact h) hGf (by rw [HKe.out]; exact HF.out) (by
          intro g hg q e
          have e2 : g9 = g := Option.some.inj e
          subst e2
          rcases HT.out with h | h
          · rw [HKe.out] at q
            exact absurd h q
          · rw [h] at hg
            exact absurd hg (Nat.lt_irrefl _))
        rw [HAdr.out.1, HAdr.out.2, ← HN0.out]
        exact h1
      · rw [hnmv, HAdr.out.1, HAdr.out.2]
        exact (hMd.kept hGf (fun e => Ink.own_ne_map hevo.2.2.2 hMd e.symm)).setCell (a := ⟨gk, n0 * 2 + 1, none⟩) (fun e => hgk e.symm) _
      · rw [HAdr.out.1, HAdr.out.2]
        refine ((below_drewN (HB6.out.alloc (Ink.bs HB6.out HBb.out) _) 1).grown hGf ?_ (fun g e => ?_)).setCell (p := ⟨gk, n0 * 2 + 1, none⟩) ?_ _
        · show b - 1 ≤ (W6.alloc _).heap.size
          rw [World.size_alloc]
          have := Ink.bs HB6.out HBb.out
          omega
        · have := (hevo.2.2.2.lt g e).1
          omega
        · have := (hRd.keys.lt gk rfl).1
          show b - 1 ≤ gk
          omega
end Go.Proofs.YtmnolcjmnddbnaaGreatDoor
