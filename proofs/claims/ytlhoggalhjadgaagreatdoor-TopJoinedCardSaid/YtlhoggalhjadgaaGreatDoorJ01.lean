/- Two sources' texts one behind the other; what stage 6 begins with. -/
import Derived.Test.YtlhoggalhjadgaaGreatDoorK37
import Derived.Test.YtlhoggalhjadgaaGreatDoorK35
import Derived.Test.YtlhoggalhjadgaaGreatDoorK32
import Derived.Test.YtlhoggalhjadgaaGreatDoorK23
import Derived.Orders
import Derived.RegionTactic
import Derived.Test.YtlhoggalhjadgaaGreatDoorK25

namespace Go.Proofs.YtlhoggalhjadgaaGreatDoor
open Go.RowKit

namespace Pr
open Go.Proofs.YtlhoggalhjadgaaGreatDoor.Src
theorem text_two (a b : S) : text a ++ text b = (lns a ++ lns b).flatMap ltn := by
  unfold text
  rw [List.flatMap_append]
/-- Two right sources' texts, one behind the other, are read as both together. -/
theorem parse_two (a b : S) (ha : Rk a) (hb : Rk b) (oa : a.op = false) (ob : b.op = false) (h1 : a.rules.length + b.rules.length ≤ 4096) (h2 : a.zones.length + b.zones.length ≤ 1024) (h3 : a.links.length + b.links.length ≤ 4096)
    (hz : (text a ++ text b).length ≤ 1048576) : parse own (text a ++ text b) = .ok (app a b) := by
  have hok : ∀ l ∈ lns a ++ lns b, LineOk l := fun l hl => by
    rcases List.mem_append.1 hl with hl | hl
    · exact lns_ok ha oa l hl
    · exact lns_ok hb ob l hl
  have hsp : Sc.splitNl (text a ++ text b) = (lns a ++ lns b).map lt ++ [[]] := by
    have h1 := splitNl_lines ((lns a ++ lns b).map lt) [] (fun t ht => by
      rw [List.mem_map] at ht
      obtain ⟨l, hl, rfl⟩ := ht
      exact (hok l hl).nl)
    rw [List.append_nil, List.flatMap_map] at h1
    rw [text_two]
    exact h1
  refine parse_words _ _ hz ?_ ?_ ob
  · rw [hsp]
    intro x hx
    rcases List.mem_append.1 hx with hx | hx
    · rw [List.mem_map] at hx
      obtain ⟨l, hl, rfl⟩ := hx
      exact (hok l hl).read.1
    · rw [List.mem_singleton] at hx
      rw [hx]
      exact fine_nil
  · rw [hsp, List.flatMap_append, flat_words _ hok, show ([[]] : List Txt).flatMap wordsOf = [] from rfl, List.append_nil, List.map_append]
    have e1 := read_lns a St.none_ ha oa rfl (by simpa [St.none_] using ha.rules.1) (by simpa [St.none_] using ha.zones.1) (by simpa [St.none_] using ha.links.1)
    have e0 : app (St.none_ : S) a = a := by
      cases a
      rfl
    rw [e0] at e1
    rw [readW_app _ _ _ _ e1]
    exact read_lns b a hb ob oa h1 h2 h3
theorem rk_app {a b : S} (ha : Rk a) (hb : Rk b) (oa : a.op = false) (ob : b.op = false) (h1 : a.rules.length + b.rules.length ≤ 4096) (h2 : a.zones.length + b.zones.length ≤ 1024) (h3 : a.links.length + b.links.length ≤ 4096) : Rk (app a b) := by
  have za := ha.zones.2
  have zb := hb.zones.2
  rw [oa] at za
  rw [ob] at zb
  refine ⟨⟨by show (a.rules ++ b.rules).length ≤ 4096; rw [List.length_append]; exact h1, fun r hr => ?_⟩, ⟨by show (a.zones ++ b.zones).length ≤ 1024; rw [List.length_append]; exact h2, ?_⟩, ⟨by show (a.links ++ b.links).length ≤ 4096; rw [List.length_append]; exact h3, fun k hk => ?_⟩⟩
  · rcases List.mem_append.1 (show r ∈ a.rules ++ b.rules from hr) with hr | hr
    · exact ha.rules.2 r hr
    · exact hb.rules.2 r hr
  · show ZonesOk own RkE b.op (a.zones ++ b.zones)
    rw [ob]
    refine zones_of _ fun z hz => ?_
    rcases List.mem_append.1 hz with hz | hz
    · exact zones_done _ za z hz
    · exact zones_done _ zb z hz
  · rcases List.mem_append.1 (show k ∈ a.links ++ b.links from hk) with hk | hk
    · exact ha.links.2 k hk
    · exact hb.links.2 k hk
theorem text_len (s : S) : (text s).length = ((s.rules.map ofRule).flatMap ltn).length + ((s.zones.flatMap ofZone).flatMap ltn).length + ((s.links.map ofLink).flatMap ltn).length := by
  unfold text lns
  rw [List.flatMap_append, List.flatMap_append, List.length_append, List.length_append]
  omega
theorem text_app (a b : S) : (text (app a b)).length = (text a).length + (text b).length := by
  rw [text_len, text_len, text_len]
  unfold app
  simp only [List.map_append, List.flatMap_append, List.length_append]
  omega
theorem bts_two (a b : S) : bts (text a) ++ bts (text b) = bts (text a ++ text b) := by
  unfold bts
  apply ByteArray.ext
  simp
end Pr
namespace Lv
def s6 : Src.S := ⟨[], [], [([65], [66])], false⟩
theorem p6 : Src.parse Src.own (tl ⟨#[76, 105, 110, 107, 32, 65, 32, 66]⟩) = .ok s6 := by kernel_rfl
theorem text_6 : Src.bts (Pr.text s6) = ⟨#[76, 105, 110, 107, 32, 65, 32, 66, 10]⟩ := by decide +kernel
theorem s6_rk : Pr.Rk s6 := by
  refine ⟨⟨by decide, fun r hr => (by cases hr)⟩, ⟨by decide, rfl⟩, ⟨by decide, fun k hk => ?_⟩⟩
  rw [show s6.links = [([65], [66])] from rfl, List.mem_singleton] at hk
  subst hk
  exact ⟨by decide +kernel, by decide +kernel⟩
end Lv
set_option maxHeartbeats 4000000 in
set_option maxRecDepth 100000 in
theorem begins6_any (w : World) (hW : We w) : Calls Tryz.prog 12 #[] w fun e w' => e = .returned (.bool true) ∧ Below w.heap.size w w' := by
  have HP := Lib.hid fun W hw => Lv.call_ok Lv.p6 W hw (by decide)
  have hT := fun rv zv lv evs W hw hr => prText_ok Lv.s6 rv zv lv evs W hw hr Lv.s6_rk rfl (by
    have h1 := congrArg ByteArray.size Lv.text_6
    have h2 : (Src.bts (Pr.text Lv.s6)).size = (Pr.text Lv.s6).length := rfl
    rw [h2] at h1
    rw [h1]
    decide)
  rw [Lv.text_6] at hT
  have HT := Lib.hid hT
  have HW := Lib.hid hW
  clear hW hT
  go_enter Tryz.func12, Tryz.ntmps12
  go_wp2_with fail
  refine (HP.out _ ⟨HW.out.c.p, HW.out.a⟩).mono ?_
  rintro e w1 ⟨hb, rv, zv, lv, evs, rfl, hR⟩
  obtain ⟨A1, c1, rfl, _⟩ := hR.rules
  obtain ⟨A2, c2, rfl, _⟩ := hR.zones
  obtain ⟨A3, c3, rfl, _⟩ := hR.links
  have HBx1 := Lib.hid (((Below.refl w1.heap.size w1).alloc (Nat.le_refl _) (.cells #[.slice A1 Lv.s6.rules.length c1, .slice A2 Lv.s6.zones.length c2, .slice A3 Lv.s6.links.length c3] 26)).alloc (by simp) (.cells #[.int .i64 0, .int .i64 0, .int .i64 0] 34))
  have HT1 := Lib.hid ((At.new w1 #[.slice A1 Lv.s6.rules.length c1, .slice A2 Lv.s6.zones.length c2, .slice A3 Lv.s6.links.length c3] 26).allocO (.cells #[.int .i64 0, .int .i64 0, .int .i64 0] 34))
  have HF1 := Lib.hid (show At ((w1.alloc (.cells #[.slice A1 Lv.s6.rules.length c1, .slice A2 Lv.s6.zones.length c2, .slice A3 Lv.s6.links.length c3] 26)).alloc (.cells #[.int .i64 0, .int .i64 0, .int .i64 0] 34)) (w1.heap.size + 1) [.int .i64 0, .int .i64 0, .int .i64 0] by have := At.new (w1.alloc (.cells #[.slice A1 Lv.s6.rules.length c1, .slice A2 Lv.s6.zones.length c2, .slice A3 Lv.s6.links.length c3] 26)) #[.int .i64 0, .int .i64 0, .int .i64 0] 34; simpa using this)
  have HR1 := Lib.hid (hR.call HBx1.out)
  have HB1 := Lib.hid (below_then hb HBx1.out)
  clear hb hR
  obtain ⟨t0, t1, t2, _⟩ := HT1.out.three
  go_wp2_with fail
  refine (HT.out _ _ _ _ _ (HW.out.below HB1.out) HR1.out).mono ?_
  rintro e w2 ⟨rfl, hb⟩
  have HF2 := Lib.hid (HF1.out.call hb)
  have HB2 := Lib.hid (below_then HB1.out hb)
  clear hb t0 t1 t2 HT1 HF1 HR1 HB1 HBx1
  obtain ⟨f0, f1, f2, _⟩ := HF2.out.three
  go_wp2
  go_ret
  exact ⟨rfl, HB2.out⟩
end Go.Proofs.YtlhoggalhjadgaaGreatDoor

/- A region that draws its order, by an invariant: what is done, what the slots hold, the world. -/
namespace Go.Proofs.YtlhoggalhjadgaaGreatDoor
open Go.RowKit

namespace Od
def slots (a : Act) : Nat → Value := fun k => a.tmps.getD k undef
def upd {α : Type} (f : Nat → α) (i : Nat) (v : α) : Nat → α := fun j => if j = i then v else f j
def updo (u : Nat → Value) (d : Option Tmp) (v : Value) : Nat → Value := match d with
  | some k => upd u k v
  | none => u
theorem slots_put {a : Act} {d : Option Tmp} {v : Value} (h : ∀ k, d = some k → k < a.tmps.size) : slots (a.put d v) = updo (slots a) d v := by
  cases d with
  | none => rfl
  | some k =>
    have hk := h k rfl
    funext j
    show (a.tmps.setIfInBounds k v).getD j undef = if j = k then v else a.tmps.getD j undef
    by_cases e : j = k
    · subst e
      rw [if_pos rfl]
      simp [Array.getD, hk]
    · rw [if_neg e]
      simp only [Array.getD_eq_getD_getElem?, Array.getElem?_setIfInBounds, if_neg (Ne.symm e)]
theorem size_put {a : Act} {d : Option Tmp} {v : Value} : (a.put d v).tmps.size = a.tmps.size := by
  cases d with
  | none => rfl
  | some k => show (a.tmps.setIfInBounds k v).size = _; simp
theorem defers_put {a : Act} {d : Option Tmp} {v : Value} : (a.put d v).defers = a.defers := by cases d <;> rfl
theorem count_set : ∀ (l : List Bool) (i : Nat), l[i]? = some false → (l.set i true).count false + 1 = l.count false
  | [], i, h => by simp at h
  | x :: l, 0, h => by
    simp at h
    subst h
    simp
  | x :: l, i + 1, h => by
    have := count_set l i (by simpa using h)
    simp only [List.set_cons_succ, List.count_cons]
    omega
theorem all_true : ∀ (l : List Bool), l.count false = 0 → ∀ x ∈ l, x = true
  | [], _, x, hx => by cases hx
  | y :: l, h, x, hx => by
    simp only [List.count_cons] at h
    have h1 : l.count false = 0 := by omega
    have h2 : y = true := by
      cases y
      · simp at h
      · rfl
    rcases List.mem_cons.1 hx with rfl | hx
    · exact h2
    · exact all_true l h1 x hx
theorem ord_of {ops : Array Oper} (h : ((List.range ops.size).all fun j => match ops[j]? with
    | some o => o.after.toList.all fun e => decide (e.on < j)
    | none => true) = true) : ∀ (j : Nat) o, ops[j]? = some o → ∀ e ∈ o.after, e.on < j := by
  intro j o hj e he
  have h1 := List.all_eq_true.1 h j (List.mem_range.2 (Array.getElem?_eq_some_iff.1 hj).1)
  rw [hj] at h1
  exact of_decide_eq_true (List.all_eq_true.1 h1 e (Array.mem_toList_iff.2 he))
theorem dst_of {ops : Array Oper} {N : Nat} (h : ((List.range ops.size).all fun j => match ops[j]? with
    | some o => (match o.dst with
      | some d => decide (d < N)
      | none => true)
    | none => true) = true) : ∀ (j : Nat) o d, ops[j]? = some o → o.dst = some d → d < N := by
  intro j o d hj hd
  have h1 := List.all_eq_true.1 h j (List.mem_range.2 (Array.getElem?_eq_some_iff.1 hj).1)
  rw [hj] at h1
  simp only [hd] at h1
  exact of_decide_eq_true h1
section
variable {P : Program} {ops : Array Oper} {Q : Exit → Act → World → Prop}
theorem ready_nil_all {s : Array Bool} (hs : s.size = ops.size) (hord : ∀ (j : Nat) o, ops[j]? = some o → ∀ e ∈ o.after, e.on < j) (h : Region.ready .any ops s = []) : ∀ j, j < ops.size → s.getD j false = true := by
  intro j
  induction j using Nat.strongRecOn with
  | ind j ih =>
    intro hj
    cases hb : s.getD j false with
    | true => rfl
    | false =>
      exfalso
      have hb' : s.getD j true = false := by
        have : j < s.size := by omega
        simp [Array.getD, this] at hb ⊢
        exact hb
      have : j ∈ Region.ready .any ops s := mem_ready.2 ⟨hb', ops[j], Array.getElem?_eq_getElem hj, fun e he _ => ih e.on (hord j _ (Array.getElem?_eq_getElem hj) e he) (by have := hord j _ (Array.getElem?_eq_getElem hj) e he; omega)⟩
      rw [h] at this
      cases this
theorem wpAny_inv (N : Nat) (hord : ∀ (j : Nat) o, ops[j]? = some o → ∀ e ∈ o.after, e.on < j) (hdst : ∀ (j : Nat) o d, ops[j]? = some o → o.dst = some d → d < N)
    (J : (Nat → Bool) → (Nat → Value) → World → Prop)
    (hstep : ∀ i o, ops[i]? = some o → ∀ (b : Nat → Bool) (a : Act) (w : World), J b (slots a) w → b i = false → (∀ e ∈ o.after, Region.binds .any e = true → b e.on = true) → a.defers = [] →
      ∀ K : Act → World → Prop, (∀ v w', J (upd b i true) (updo (slots a) o.dst v) w' → K (a.put o.dst v) w') → if Region.wanted o (yielded ops a.tmps) = true then Oper.wp P o a w K Q else K (a.put o.dst undef) w)
    (hend : ∀ (a : Act) (w : World), J (fun j => decide (j < ops.size)) (slots a) w → a.tmps.size = N → a.defers = [] → Q .normal a w) :
    ∀ (g : Nat) (s : Array Bool) (a : Act) (w : World), s.size = ops.size → s.toList.count false ≤ g → a.tmps.size = N → a.defers = [] → J (fun j => s.getD j false) (slots a) w → wpAny P .any ops Q g s a w := by
  have fin : ∀ (s : Array Bool) (a : Act) (w : World), s.size = ops.size → (∀ j, j < ops.size → s.getD j false = true) → a.tmps.size = N → a.defers = [] → J (fun j => s.getD j false) (slots a) w → Q .normal a w := by
    intro s a w hs hall hN hd hJ
    refine hend a w ?_ hN hd
    have : (fun j => s.getD j false) = fun j => decide (j < ops.size) := by
      funext j
      by_cases hj : j < ops.size
      · rw [hall j hj, decide_eq_true hj]
      · rw [decide_eq_false hj]
        simp [Array.getD, hs, hj]
    rw [this] at hJ
    exact hJ
  intro g
  induction g with
  | zero =>
    intro s a w hs hc hN hd hJ
    have hall : ∀ j, j < ops.size → s.getD j false = true := by
      intro j hj
      have hj' : j < s.size := by omega
      have := all_true s.toList (by omega) s[j] (by simp)
      simp [Array.getD, hj', this]
    have hr : Region.ready .any ops s = [] := by
      cases e : Region.ready .any ops s with
      | nil => rfl
      | cons i l =>
        exfalso
        obtain ⟨h1, o, ho, _⟩ := mem_ready.1 (show i ∈ Region.ready .any ops s by rw [e]; exact List.mem_cons_self)
        have hi : i < ops.size := (Array.getElem?_eq_some_iff.1 ho).1
        have h2 := hall i hi
        have hi' : i < s.size := by omega
        simp [Array.getD, hi'] at h1 h2
        rw [h1] at h2
        cases h2
    exact ⟨hr, fin s a w hs hall hN hd hJ⟩
  | succ g ih =>
    intro s a w hs hc hN hd hJ
    refine ⟨fun hr => fin s a w hs (ready_nil_all hs hord hr) hN hd hJ, fun i hi => ?_⟩
    obtain ⟨h1, o, ho, hdep⟩ := mem_ready.1 hi
    have hio : i < ops.size := (Array.getElem?_eq_some_iff.1 ho).1
    have hi' : i < s.size := by omega
    have hsi : s[i] = false := by simpa [Array.getD, hi'] using h1
    refine wpOp_step ho fun K hK => hstep i o ho (fun j => s.getD j false) a w hJ (by simp [Array.getD, hi', hsi]) hdep hd K fun v w' hJ' => hK _ _ (ih _ _ _ (by simp [hs]) ?_ (by rw [size_put]; exact hN) (by rw [defers_put]; exact hd) ?_)
    · have := count_set s.toList i (by simp [hi', hsi])
      rw [Array.toList_setIfInBounds]
      omega
    · rw [slots_put (fun k hk => by rw [hN]; exact hdst i o k ho hk)]
      have : (fun j => (s.setIfInBounds i true).getD j false) = upd (fun j => s.getD j false) i true := by
        funext j
        unfold upd
        by_cases e : j = i
        · subst e
          rw [if_pos rfl]
          simp [Array.getD, hi']
        · rw [if_neg e]
          simp only [Array.getD_eq_getD_getElem?, Array.getElem?_setIfInBounds, if_neg (Ne.symm e)]
      rw [this]
      exact hJ'
/-- The region. -/
theorem wp_region_inv {id : Nat} {a : Act} {w : World} (N : Nat) (hm : P.follows .mixedOrders = true) (hN : a.tmps.size = N) (hd : a.defers = []) (hord : ∀ (j : Nat) o, ops[j]? = some o → ∀ e ∈ o.after, e.on < j) (hdst : ∀ (j : Nat) o d, ops[j]? = some o → o.dst = some d → d < N)
    (J : (Nat → Bool) → (Nat → Value) → World → Prop) (h0 : J (fun _ => false) (slots a) w.drew)
    (hstep : ∀ i o, ops[i]? = some o → ∀ (b : Nat → Bool) (a : Act) (w : World), J b (slots a) w → b i = false → (∀ e ∈ o.after, Region.binds .any e = true → b e.on = true) → a.defers = [] →
      ∀ K : Act → World → Prop, (∀ v w', J (upd b i true) (updo (slots a) o.dst v) w' → K (a.put o.dst v) w') → if Region.wanted o (yielded ops a.tmps) = true then Oper.wp P o a w K Q else K (a.put o.dst undef) w)
    (hend : ∀ (a : Act) (w : World), J (fun j => decide (j < ops.size)) (slots a) w → a.tmps.size = N → a.defers = [] → Q .normal a w) : (Code.region id ops true).wp P Q a w := by
  refine wp_region_any hm ?_
  refine wpAny_inv N hord hdst J hstep hend ops.size _ a _ (by simp) (by simp) hN hd ?_
  have : (fun j => (Array.replicate ops.size false).getD j false) = fun _ => false := by
    funext j
    simp [Array.getD]
  rw [this]
  exact h0
end
end Od
end Go.Proofs.YtlhoggalhjadgaaGreatDoor

/- Three chains of appends in one region that draws its order: the invariant. -/
namespace Go.Proofs.YtlhoggalhjadgaaGreatDoor
open Go.RowKit

namespace Aj
open Od
/-- A chain: what its elements are; the two slices that are put behind one another. -/
structure Ch where
  e : TypeId
  size : Nat
  X : Value
  Y : Value
  nx : Nat
  ny : Nat
  xs : List Value
  ys : List Value
def cur (c : Ch) (i : Nat) (b : Nat → Bool) (u : Nat → Value) : Row :=
  if b (i + 6) = true then ⟨c.e, c.size, u (79 + i), c.nx + c.ny, c.xs ++ c.ys⟩ else if b (i + 3) = true then ⟨c.e, c.size, u (76 + i), c.nx, c.xs⟩ else if b i = true then ⟨c.e, c.size, u (73 + i), 0, []⟩ else ⟨c.e, c.size, .slice none 0 0, 0, []⟩
/-- What is known of a chain's loads. -/
structure Ld (c : Ch) (i f b5 b7 : Nat) (b : Nat → Bool) (u : Nat → Value) : Prop where
  p : b (i + 1) = true → u (74 + i) = .pointer (some ⟨b5, f, none⟩)
  x : b (i + 2) = true → u (75 + i) = c.X
  q : b (i + 4) = true → u (77 + i) = .pointer (some ⟨b7, f, none⟩)
  y : b (i + 5) = true → u (78 + i) = c.Y
  d6 : b (i + 6) = true → b (i + 3) = true
  d3 : b (i + 3) = true → b i = true
structure J (w0 : World) (u0 : Nat → Value) (b5 b7 : Nat) (c0 c1 c2 : Ch) (b : Nat → Bool) (u : Nat → Value) (w : World) : Prop where
  below : Below w0.heap.size w0 w
  old : ∀ k, k < 73 → k ≠ 15 → u k = u0 k
  l0 : Ld c0 0 0 b5 b7 b u
  l1 : Ld c1 7 1 b5 b7 b u
  l2 : Ld c2 14 2 b5 b7 b u
  many : Many w0.heap.size w [cur c0 0 b u, cur c1 7 b u, cur c2 14 b u]
  bd : b 21 = true → (b 6 = true ∧ b 13 = true ∧ b 20 = true) ∧ u 94 = .agg #[u 79, u 86, u 93]
  st : b 23 = true → b 21 = true ∧ b 22 = true
  al : b 22 = true → ∃ g, u 15 = .pointer (some ⟨g, 0, none⟩) ∧ w0.heap.size ≤ g ∧ At w g (if b 23 = true then [u 79, u 86, u 93] else [.slice none 0 0, .slice none 0 0, .slice none 0 0]) ∧ ∀ r ∈ [cur c0 0 b u, cur c1 7 b u, cur c2 14 b u], r.v.ownBlock ≠ some g
section
variable {w0 w w' : World} {u0 u : Nat → Value} {b5 b7 : Nat} {c0 c1 c2 : Ch} {b : Nat → Bool}
--STEPS
theorem J.p0 (h : J w0 u0 b5 b7 c0 c1 c2 b u w) : J w0 u0 b5 b7 c0 c1 c2 (upd b 1 true) (upd u 74 (.pointer (some ⟨b5, 0, none⟩))) w :=
  ⟨h.below, fun k h1 h2 => by unfold upd; rw [if_neg (by omega)]; exact h.old k h1 h2, ⟨fun _ => rfl, h.l0.x, h.l0.q, h.l0.y, h.l0.d6, h.l0.d3⟩, ⟨h.l1.p, h.l1.x, h.l1.q, h.l1.y, h.l1.d6, h.l1.d3⟩, ⟨h.l2.p, h.l2.x, h.l2.q, h.l2.y, h.l2.d6, h.l2.d3⟩, h.many, h.bd, h.st, h.al⟩
theorem J.x0 (h : J w0 u0 b5 b7 c0 c1 c2 b u w) : J w0 u0 b5 b7 c0 c1 c2 (upd b 2 true) (upd u 75 (c0.X)) w :=
  ⟨h.below, fun k h1 h2 => by unfold upd; rw [if_neg (by omega)]; exact h.old k h1 h2, ⟨h.l0.p, fun _ => rfl, h.l0.q, h.l0.y, h.l0.d6, h.l0.d3⟩, ⟨h.l1.p, h.l1.x, h.l1.q, h.l1.y, h.l1.d6, h.l1.d3⟩, ⟨h.l2.p, h.l2.x, h.l2.q, h.l2.y, h.l2.d6, h.l2.d3⟩, h.many, h.bd, h.st, h.al⟩
theorem J.q0 (h : J w0 u0 b5 b7 c0 c1 c2 b u w) : J w0 u0 b5 b7 c0 c1 c2 (upd b 4 true) (upd u 77 (.pointer (some ⟨b7, 0, none⟩))) w :=
  ⟨h.below, fun k h1 h2 => by unfold upd; rw [if_neg (by omega)]; exact h.old k h1 h2, ⟨h.l0.p, h.l0.x, fun _ => rfl, h.l0.y, h.l0.d6, h.l0.d3⟩, ⟨h.l1.p, h.l1.x, h.l1.q, h.l1.y, h.l1.d6, h.l1.d3⟩, ⟨h.l2.p, h.l2.x, h.l2.q, h.l2.y, h.l2.d6, h.l2.d3⟩, h.many, h.bd, h.st, h.al⟩
theorem J.y0 (h : J w0 u0 b5 b7 c0 c1 c2 b u w) : J w0 u0 b5 b7 c0 c1 c2 (upd b 5 true) (upd u 78 (c0.Y)) w :=
  ⟨h.below, fun k h1 h2 => by unfold upd; rw [if_neg (by omega)]; exact h.old k h1 h2, ⟨h.l0.p, h.l0.x, h.l0.q, fun _ => rfl, h.l0.d6, h.l0.d3⟩, ⟨h.l1.p, h.l1.x, h.l1.q, h.l1.y, h.l1.d6, h.l1.d3⟩, ⟨h.l2.p, h.l2.x, h.l2.q, h.l2.y, h.l2.d6, h.l2.d3⟩, h.many, h.bd, h.st, h.al⟩
theorem J.p1 (h : J w0 u0 b5 b7 c0 c1 c2 b u w) : J w0 u0 b5 b7 c0 c1 c2 (upd b 8 true) (upd u 81 (.pointer (some ⟨b5, 1, none⟩))) w :=
  ⟨h.below, fun k h1 h2 => by unfold upd; rw [if_neg (by omega)]; exact h.old k h1 h2, ⟨h.l0.p, h.l0.x, h.l0.q, h.l0.y, h.l0.d6, h.l0.d3⟩, ⟨fun _ => rfl, h.l1.x, h.l1.q, h.l1.y, h.l1.d6, h.l1.d3⟩, ⟨h.l2.p, h.l2.x, h.l2.q, h.l2.y, h.l2.d6, h.l2.d3⟩, h.many, h.bd, h.st, h.al⟩
theorem J.x1 (h : J w0 u0 b5 b7 c0 c1 c2 b u w) : J w0 u0 b5 b7 c0 c1 c2 (upd b 9 true) (upd u 82 (c1.X)) w :=
  ⟨h.below, fun k h1 h2 => by unfold upd; rw [if_neg (by omega)]; exact h.old k h1 h2, ⟨h.l0.p, h.l0.x, h.l0.q, h.l0.y, h.l0.d6, h.l0.d3⟩, ⟨h.l1.p, fun _ => rfl, h.l1.q, h.l1.y, h.l1.d6, h.l1.d3⟩, ⟨h.l2.p, h.l2.x, h.l2.q, h.l2.y, h.l2.d6, h.l2.d3⟩, h.many, h.bd, h.st, h.al⟩
theorem J.q1 (h : J w0 u0 b5 b7 c0 c1 c2 b u w) : J w0 u0 b5 b7 c0 c1 c2 (upd b 11 true) (upd u 84 (.pointer (some ⟨b7, 1, none⟩))) w :=
  ⟨h.below, fun k h1 h2 => by unfold upd; rw [if_neg (by omega)]; exact h.old k h1 h2, ⟨h.l0.p, h.l0.x, h.l0.q, h.l0.y, h.l0.d6, h.l0.d3⟩, ⟨h.l1.p, h.l1.x, fun _ => rfl, h.l1.y, h.l1.d6, h.l1.d3⟩, ⟨h.l2.p, h.l2.x, h.l2.q, h.l2.y, h.l2.d6, h.l2.d3⟩, h.many, h.bd, h.st, h.al⟩
theorem J.y1 (h : J w0 u0 b5 b7 c0 c1 c2 b u w) : J w0 u0 b5 b7 c0 c1 c2 (upd b 12 true) (upd u 85 (c1.Y)) w :=
  ⟨h.below, fun k h1 h2 => by unfold upd; rw [if_neg (by omega)]; exact h.old k h1 h2, ⟨h.l0.p, h.l0.x, h.l0.q, h.l0.y, h.l0.d6, h.l0.d3⟩, ⟨h.l1.p, h.l1.x, h.l1.q, fun _ => rfl, h.l1.d6, h.l1.d3⟩, ⟨h.l2.p, h.l2.x, h.l2.q, h.l2.y, h.l2.d6, h.l2.d3⟩, h.many, h.bd, h.st, h.al⟩
theorem J.p2 (h : J w0 u0 b5 b7 c0 c1 c2 b u w) : J w0 u0 b5 b7 c0 c1 c2 (upd b 15 true) (upd u 88 (.pointer (some ⟨b5, 2, none⟩))) w :=
  ⟨h.below, fun k h1 h2 => by unfold upd; rw [if_neg (by omega)]; exact h.old k h1 h2, ⟨h.l0.p, h.l0.x, h.l0.q, h.l0.y, h.l0.d6, h.l0.d3⟩, ⟨h.l1.p, h.l1.x, h.l1.q, h.l1.y, h.l1.d6, h.l1.d3⟩, ⟨fun _ => rfl, h.l2.x, h.l2.q, h.l2.y, h.l2.d6, h.l2.d3⟩, h.many, h.bd, h.st, h.al⟩
theorem J.x2 (h : J w0 u0 b5 b7 c0 c1 c2 b u w) : J w0 u0 b5 b7 c0 c1 c2 (upd b 16 true) (upd u 89 (c2.X)) w :=
  ⟨h.below, fun k h1 h2 => by unfold upd; rw [if_neg (by omega)]; exact h.old k h1 h2, ⟨h.l0.p, h.l0.x, h.l0.q, h.l0.y, h.l0.d6, h.l0.d3⟩, ⟨h.l1.p, h.l1.x, h.l1.q, h.l1.y, h.l1.d6, h.l1.d3⟩, ⟨h.l2.p, fun _ => rfl, h.l2.q, h.l2.y, h.l2.d6, h.l2.d3⟩, h.many, h.bd, h.st, h.al⟩
theorem J.q2 (h : J w0 u0 b5 b7 c0 c1 c2 b u w) : J w0 u0 b5 b7 c0 c1 c2 (upd b 18 true) (upd u 91 (.pointer (some ⟨b7, 2, none⟩))) w :=
  ⟨h.below, fun k h1 h2 => by unfold upd; rw [if_neg (by omega)]; exact h.old k h1 h2, ⟨h.l0.p, h.l0.x, h.l0.q, h.l0.y, h.l0.d6, h.l0.d3⟩, ⟨h.l1.p, h.l1.x, h.l1.q, h.l1.y, h.l1.d6, h.l1.d3⟩, ⟨h.l2.p, h.l2.x, fun _ => rfl, h.l2.y, h.l2.d6, h.l2.d3⟩, h.many, h.bd, h.st, h.al⟩
theorem J.y2 (h : J w0 u0 b5 b7 c0 c1 c2 b u w) : J w0 u0 b5 b7 c0 c1 c2 (upd b 19 true) (upd u 92 (c2.Y)) w :=
  ⟨h.below, fun k h1 h2 => by unfold upd; rw [if_neg (by omega)]; exact h.old k h1 h2, ⟨h.l0.p, h.l0.x, h.l0.q, h.l0.y, h.l0.d6, h.l0.d3⟩, ⟨h.l1.p, h.l1.x, h.l1.q, h.l1.y, h.l1.d6, h.l1.d3⟩, ⟨h.l2.p, h.l2.x, h.l2.q, fun _ => rfl, h.l2.d6, h.l2.d3⟩, h.many, h.bd, h.st, h.al⟩
theorem Many.at1 {B : Nat} {w : World} {r0 r1 r2 : Row} (h : Many B w [r0, r1, r2]) : Many B w [r1, r0, r2] := h.perm (List.Perm.swap _ _ _)
theorem Many.at2 {B : Nat} {w : World} {r0 r1 r2 : Row} (h : Many B w [r0, r1, r2]) : Many B w [r2, r0, r1] := h.perm ((List.Perm.cons _ (List.Perm.swap _ _ _)).trans (List.Perm.swap _ _ _))
theorem Many.of1 {B : Nat} {w : World} {r0 r1 r2 : Row} (h : Many B w [r1, r0, r2]) : Many B w [r0, r1, r2] := h.perm (List.Perm.swap _ _ _)
theorem Many.of2 {B : Nat} {w : World} {r0 r1 r2 : Row} (h : Many B w [r2, r0, r1]) : Many B w [r0, r1, r2] := h.perm ((List.Perm.swap _ _ _).trans (List.Perm.cons _ (List.Perm.swap _ _ _)))
theorem no_true {x : Bool} (h : x = false) (h' : x = true) : False := by rw [h] at h'; cases h'
theorem J.bs0 (h : J w0 u0 b5 b7 c0 c1 c2 b u w) (hb : b 0 = false) : J w0 u0 b5 b7 c0 c1 c2 (upd b 0 true) (upd u 73 (.slice (some ⟨w.heap.size, 0, none⟩) 0 0)) (w.alloc (.cells #[] c0.e)) := by
  have hb3 : b 3 = false := by
    cases e : b 3 with
    | false => rfl
    | true => exact (no_true hb (h.l0.d3 e)).elim
  have hb6 : b 6 = false := by
    cases e : b 6 with
    | false => rfl
    | true => exact (no_true hb3 (h.l0.d6 e)).elim
  have hn21 : b 21 = false := by
    cases e : b 21 with
    | false => rfl
    | true => exact (no_true hb (h.l0.d3 (h.l0.d6 (h.bd e).1.1))).elim
  have hn23 : b 23 = false := by
    cases e : b 23 with
    | false => rfl
    | true => exact (no_true hn21 (h.st e).1).elim
  have e1 : cur c0 0 b u = ⟨c0.e, c0.size, .slice none 0 0, 0, []⟩ := by unfold cur; simp [hb, hb3, hb6]
  have e2 : cur c0 0 (upd b 0 true) (upd u 73 (.slice (some ⟨w.heap.size, 0, none⟩) 0 0)) = ⟨c0.e, c0.size, .slice (some ⟨w.heap.size, 0, none⟩) 0 0, 0, []⟩ := by
    unfold cur
    simp [upd, hb3, hb6]
  have hm := h.many
  rw [e1] at hm
  have hown0 := hm.own _ List.mem_cons_self
  have hm' := hm.grow1 (v' := .slice (some ⟨w.heap.size, 0, none⟩) 0 0) (n' := 0) (xs' := []) (World.ownsRow_made w #[] 0 h.below.size (Nat.zero_le _) (by simp)) (World.grownBy_alloc w _ none) (.inr rfl)
  refine ⟨(h.below.alloc h.below.size _), fun k h1 h2 => by unfold upd; rw [if_neg (by omega)]; exact h.old k h1 h2, ⟨h.l0.p, h.l0.x, h.l0.q, h.l0.y, h.l0.d6, fun _ => rfl⟩, ⟨h.l1.p, h.l1.x, h.l1.q, h.l1.y, h.l1.d6, h.l1.d3⟩, ⟨h.l2.p, h.l2.x, h.l2.q, h.l2.y, h.l2.d6, h.l2.d3⟩, ?_, fun e => (no_true hn21 e).elim, h.st, ?_⟩
  · show Many _ _ [cur c0 0 _ _, cur c1 7 _ _, cur c2 14 _ _]
    rw [e2]
    exact hm'
  · intro hb22
    obtain ⟨g, hg1, hg2, hg3, hg4⟩ := h.al hb22
    rw [hn23, if_neg (by decide)] at hg3
    have hgl := hg3.lt
    have h4 := hg4 (cur c0 0 b u) (by simp)
    rw [e1] at h4
    refine ⟨g, hg1, hg2, ?_, ?_⟩
    · show At _ g (if b 23 = true then _ else _)
      rw [hn23, if_neg (by decide)]
      exact hg3.allocO _
    · intro r hr
      have hr' : r = cur c0 0 (upd b 0 true) (upd u 73 (.slice (some ⟨w.heap.size, 0, none⟩) 0 0)) ∨ r = cur c1 7 (upd b 0 true) (upd u 73 (.slice (some ⟨w.heap.size, 0, none⟩) 0 0)) ∨ r = cur c2 14 (upd b 0 true) (upd u 73 (.slice (some ⟨w.heap.size, 0, none⟩) 0 0)) := by simpa using hr
      rcases hr' with rfl | rfl | rfl
      · rw [e2]
        intro e
        have e : some w.heap.size = some g := e
        injection e with e
        omega
      · exact hg4 (cur c1 7 b u) (by simp)
      · exact hg4 (cur c2 14 b u) (by simp)
theorem J.ap0 (h : J w0 u0 b5 b7 c0 c1 c2 b u w) (hb : b 3 = false) {v' : Value} (hd : b 0 = true) (hown : w'.ownsRow w0.heap.size c0.e c0.size v' (c0.nx) (c0.xs)) (hg : w.grownBy w' (u 73).ownBlock) (hat : v'.ownBlock = (u 73).ownBlock ∨ v'.ownBlock = some w.heap.size) : J w0 u0 b5 b7 c0 c1 c2 (upd b 3 true) (upd u 76 v') w' := by
  have hb6 : b 6 = false := by
    cases e : b 6 with
    | false => rfl
    | true => exact (no_true hb (h.l0.d6 e)).elim
  have hn21 : b 21 = false := by
    cases e : b 21 with
    | false => rfl
    | true => exact (no_true hb (h.l0.d6 (h.bd e).1.1)).elim
  have hn23 : b 23 = false := by
    cases e : b 23 with
    | false => rfl
    | true => exact (no_true hn21 (h.st e).1).elim
  have e1 : cur c0 0 b u = ⟨c0.e, c0.size, u 73, 0, []⟩ := by unfold cur; simp [hb, hb6, hd]
  have e2 : cur c0 0 (upd b 3 true) (upd u 76 v') = ⟨c0.e, c0.size, v', c0.nx, c0.xs⟩ := by
    unfold cur
    simp [upd, hb6]
  have hm := h.many
  rw [e1] at hm
  have hown0 := hm.own _ List.mem_cons_self
  have hm' := hm.grow1 (r := ⟨c0.e, c0.size, u 73, 0, []⟩) hown hg hat
  refine ⟨(h.below.grown hg h.below.size (fun kk hkk => (hown0.lt kk hkk).1)), fun k h1 h2 => by unfold upd; rw [if_neg (by omega)]; exact h.old k h1 h2, ⟨h.l0.p, h.l0.x, h.l0.q, h.l0.y, fun _ => rfl, fun _ => hd⟩, ⟨h.l1.p, h.l1.x, h.l1.q, h.l1.y, h.l1.d6, h.l1.d3⟩, ⟨h.l2.p, h.l2.x, h.l2.q, h.l2.y, h.l2.d6, h.l2.d3⟩, ?_, fun e => (no_true hn21 e).elim, h.st, ?_⟩
  · show Many _ _ [cur c0 0 _ _, cur c1 7 _ _, cur c2 14 _ _]
    rw [e2]
    exact hm'
  · intro hb22
    obtain ⟨g, hg1, hg2, hg3, hg4⟩ := h.al hb22
    rw [hn23, if_neg (by decide)] at hg3
    have hgl := hg3.lt
    have h4 := hg4 (cur c0 0 b u) (by simp)
    rw [e1] at h4
    refine ⟨g, hg1, hg2, ?_, ?_⟩
    · show At _ g (if b 23 = true then _ else _)
      rw [hn23, if_neg (by decide)]
      exact (Sc.At.grownO hg3 hg (fun kk hkk e => h4 (by rw [e]; exact hkk)))
    · intro r hr
      have hr' : r = cur c0 0 (upd b 3 true) (upd u 76 v') ∨ r = cur c1 7 (upd b 3 true) (upd u 76 v') ∨ r = cur c2 14 (upd b 3 true) (upd u 76 v') := by simpa using hr
      rcases hr' with rfl | rfl | rfl
      · rw [e2]
        rcases hat with e | e
        · intro e'
          exact h4 (e.symm.trans e')
        · intro e'
          have e'' : some w.heap.size = some g := e.symm.trans e'
          injection e'' with e''
          omega
      · exact hg4 (cur c1 7 b u) (by simp)
      · exact hg4 (cur c2 14 b u) (by simp)
theorem J.own_ap0 (h : J w0 u0 b5 b7 c0 c1 c2 b u w) (hb : b 3 = false) (hd : b 0 = true) : w.ownsRow w0.heap.size c0.e c0.size (u 73) (0) ([]) := by
  have hb6 : b 6 = false := by
    cases e : b 6 with
    | false => rfl
    | true => exact (no_true hb (h.l0.d6 e)).elim
  have e1 : cur c0 0 b u = ⟨c0.e, c0.size, u 73, 0, []⟩ := by unfold cur; simp [hb, hb6, hd]
  have hm := h.many.own (cur c0 0 b u) (by simp)
  rw [e1] at hm
  exact hm
theorem J.aq0 (h : J w0 u0 b5 b7 c0 c1 c2 b u w) (hb : b 6 = false) {v' : Value} (hd : b 3 = true) (hown : w'.ownsRow w0.heap.size c0.e c0.size v' (c0.nx + c0.ny) (c0.xs ++ c0.ys)) (hg : w.grownBy w' (u 76).ownBlock) (hat : v'.ownBlock = (u 76).ownBlock ∨ v'.ownBlock = some w.heap.size) : J w0 u0 b5 b7 c0 c1 c2 (upd b 6 true) (upd u 79 v') w' := by
  have hn21 : b 21 = false := by
    cases e : b 21 with
    | false => rfl
    | true => exact (no_true hb ((h.bd e).1.1)).elim
  have hn23 : b 23 = false := by
    cases e : b 23 with
    | false => rfl
    | true => exact (no_true hn21 (h.st e).1).elim
  have e1 : cur c0 0 b u = ⟨c0.e, c0.size, u 76, c0.nx, c0.xs⟩ := by unfold cur; simp [hb, hd]
  have e2 : cur c0 0 (upd b 6 true) (upd u 79 v') = ⟨c0.e, c0.size, v', c0.nx + c0.ny, c0.xs ++ c0.ys⟩ := by
    unfold cur
    simp [upd, ]
  have hm := h.many
  rw [e1] at hm
  have hown0 := hm.own _ List.mem_cons_self
  have hm' := hm.grow1 (r := ⟨c0.e, c0.size, u 76, c0.nx, c0.xs⟩) hown hg hat
  refine ⟨(h.below.grown hg h.below.size (fun kk hkk => (hown0.lt kk hkk).1)), fun k h1 h2 => by unfold upd; rw [if_neg (by omega)]; exact h.old k h1 h2, ⟨h.l0.p, h.l0.x, h.l0.q, h.l0.y, fun _ => hd, h.l0.d3⟩, ⟨h.l1.p, h.l1.x, h.l1.q, h.l1.y, h.l1.d6, h.l1.d3⟩, ⟨h.l2.p, h.l2.x, h.l2.q, h.l2.y, h.l2.d6, h.l2.d3⟩, ?_, fun e => (no_true hn21 e).elim, h.st, ?_⟩
  · show Many _ _ [cur c0 0 _ _, cur c1 7 _ _, cur c2 14 _ _]
    rw [e2]
    exact hm'
  · intro hb22
    obtain ⟨g, hg1, hg2, hg3, hg4⟩ := h.al hb22
    rw [hn23, if_neg (by decide)] at hg3
    have hgl := hg3.lt
    have h4 := hg4 (cur c0 0 b u) (by simp)
    rw [e1] at h4
    refine ⟨g, hg1, hg2, ?_, ?_⟩
    · show At _ g (if b 23 = true then _ else _)
      rw [hn23, if_neg (by decide)]
      exact (Sc.At.grownO hg3 hg (fun kk hkk e => h4 (by rw [e]; exact hkk)))
    · intro r hr
      have hr' : r = cur c0 0 (upd b 6 true) (upd u 79 v') ∨ r = cur c1 7 (upd b 6 true) (upd u 79 v') ∨ r = cur c2 14 (upd b 6 true) (upd u 79 v') := by simpa using hr
      rcases hr' with rfl | rfl | rfl
      · rw [e2]
        rcases hat with e | e
        · intro e'
          exact h4 (e.symm.trans e')
        · intro e'
          have e'' : some w.heap.size = some g := e.symm.trans e'
          injection e'' with e''
          omega
      · exact hg4 (cur c1 7 b u) (by simp)
      · exact hg4 (cur c2 14 b u) (by simp)
theorem J.own_aq0 (h : J w0 u0 b5 b7 c0 c1 c2 b u w) (hb : b 6 = false) (hd : b 3 = true) : w.ownsRow w0.heap.size c0.e c0.size (u 76) (c0.nx) (c0.xs) := by
  have e1 : cur c0 0 b u = ⟨c0.e, c0.size, u 76, c0.nx, c0.xs⟩ := by unfold cur; simp [hb, hd]
  have hm := h.many.own (cur c0 0 b u) (by simp)
  rw [e1] at hm
  exact hm
theorem J.bs1 (h : J w0 u0 b5 b7 c0 c1 c2 b u w) (hb : b 7 = false) : J w0 u0 b5 b7 c0 c1 c2 (upd b 7 true) (upd u 80 (.slice (some ⟨w.heap.size, 0, none⟩) 0 0)) (w.alloc (.cells #[] c1.e)) := by
  have hb3 : b 10 = false := by
    cases e : b 10 with
    | false => rfl
    | true => exact (no_true hb (h.l1.d3 e)).elim
  have hb6 : b 13 = false := by
    cases e : b 13 with
    | false => rfl
    | true => exact (no_true hb3 (h.l1.d6 e)).elim
  have hn21 : b 21 = false := by
    cases e : b 21 with
    | false => rfl
    | true => exact (no_true hb (h.l1.d3 (h.l1.d6 (h.bd e).1.2.1))).elim
  have hn23 : b 23 = false := by
    cases e : b 23 with
    | false => rfl
    | true => exact (no_true hn21 (h.st e).1).elim
  have e1 : cur c1 7 b u = ⟨c1.e, c1.size, .slice none 0 0, 0, []⟩ := by unfold cur; simp [hb, hb3, hb6]
  have e2 : cur c1 7 (upd b 7 true) (upd u 80 (.slice (some ⟨w.heap.size, 0, none⟩) 0 0)) = ⟨c1.e, c1.size, .slice (some ⟨w.heap.size, 0, none⟩) 0 0, 0, []⟩ := by
    unfold cur
    simp [upd, hb3, hb6]
  have hm := Many.at1 h.many
  rw [e1] at hm
  have hown0 := hm.own _ List.mem_cons_self
  have hm' := hm.grow1 (v' := .slice (some ⟨w.heap.size, 0, none⟩) 0 0) (n' := 0) (xs' := []) (World.ownsRow_made w #[] 0 h.below.size (Nat.zero_le _) (by simp)) (World.grownBy_alloc w _ none) (.inr rfl)
  refine ⟨(h.below.alloc h.below.size _), fun k h1 h2 => by unfold upd; rw [if_neg (by omega)]; exact h.old k h1 h2, ⟨h.l0.p, h.l0.x, h.l0.q, h.l0.y, h.l0.d6, h.l0.d3⟩, ⟨h.l1.p, h.l1.x, h.l1.q, h.l1.y, h.l1.d6, fun _ => rfl⟩, ⟨h.l2.p, h.l2.x, h.l2.q, h.l2.y, h.l2.d6, h.l2.d3⟩, ?_, fun e => (no_true hn21 e).elim, h.st, ?_⟩
  · show Many _ _ [cur c0 0 _ _, cur c1 7 _ _, cur c2 14 _ _]
    rw [e2]
    exact Many.of1 hm'
  · intro hb22
    obtain ⟨g, hg1, hg2, hg3, hg4⟩ := h.al hb22
    rw [hn23, if_neg (by decide)] at hg3
    have hgl := hg3.lt
    have h4 := hg4 (cur c1 7 b u) (by simp)
    rw [e1] at h4
    refine ⟨g, hg1, hg2, ?_, ?_⟩
    · show At _ g (if b 23 = true then _ else _)
      rw [hn23, if_neg (by decide)]
      exact hg3.allocO _
    · intro r hr
      have hr' : r = cur c0 0 (upd b 7 true) (upd u 80 (.slice (some ⟨w.heap.size, 0, none⟩) 0 0)) ∨ r = cur c1 7 (upd b 7 true) (upd u 80 (.slice (some ⟨w.heap.size, 0, none⟩) 0 0)) ∨ r = cur c2 14 (upd b 7 true) (upd u 80 (.slice (some ⟨w.heap.size, 0, none⟩) 0 0)) := by simpa using hr
      rcases hr' with rfl | rfl | rfl
      · exact hg4 (cur c0 0 b u) (by simp)
      · rw [e2]
        intro e
        have e : some w.heap.size = some g := e
        injection e with e
        omega
      · exact hg4 (cur c2 14 b u) (by simp)
theorem J.ap1 (h : J w0 u0 b5 b7 c0 c1 c2 b u w) (hb : b 10 = false) {v' : Value} (hd : b 7 = true) (hown : w'.ownsRow w0.heap.size c1.e c1.size v' (c1.nx) (c1.xs)) (hg : w.grownBy w' (u 80).ownBlock) (hat : v'.ownBlock = (u 80).ownBlock ∨ v'.ownBlock = some w.heap.size) : J w0 u0 b5 b7 c0 c1 c2 (upd b 10 true) (upd u 83 v') w' := by
  have hb6 : b 13 = false := by
    cases e : b 13 with
    | false => rfl
    | true => exact (no_true hb (h.l1.d6 e)).elim
  have hn21 : b 21 = false := by
    cases e : b 21 with
    | false => rfl
    | true => exact (no_true hb (h.l1.d6 (h.bd e).1.2.1)).elim
  have hn23 : b 23 = false := by
    cases e : b 23 with
    | false => rfl
    | true => exact (no_true hn21 (h.st e).1).elim
  have e1 : cur c1 7 b u = ⟨c1.e, c1.size, u 80, 0, []⟩ := by unfold cur; simp [hb, hb6, hd]
  have e2 : cur c1 7 (upd b 10 true) (upd u 83 v') = ⟨c1.e, c1.size, v', c1.nx, c1.xs⟩ := by
    unfold cur
    simp [upd, hb6]
  have hm := Many.at1 h.many
  rw [e1] at hm
  have hown0 := hm.own _ List.mem_cons_self
  have hm' := hm.grow1 (r := ⟨c1.e, c1.size, u 80, 0, []⟩) hown hg hat
  refine ⟨(h.below.grown hg h.below.size (fun kk hkk => (hown0.lt kk hkk).1)), fun k h1 h2 => by unfold upd; rw [if_neg (by omega)]; exact h.old k h1 h2, ⟨h.l0.p, h.l0.x, h.l0.q, h.l0.y, h.l0.d6, h.l0.d3⟩, ⟨h.l1.p, h.l1.x, h.l1.q, h.l1.y, fun _ => rfl, fun _ => hd⟩, ⟨h.l2.p, h.l2.x, h.l2.q, h.l2.y, h.l2.d6, h.l2.d3⟩, ?_, fun e => (no_true hn21 e).elim, h.st, ?_⟩
  · show Many _ _ [cur c0 0 _ _, cur c1 7 _ _, cur c2 14 _ _]
    rw [e2]
    exact Many.of1 hm'
  · intro hb22
    obtain ⟨g, hg1, hg2, hg3, hg4⟩ := h.al hb22
    rw [hn23, if_neg (by decide)] at hg3
    have hgl := hg3.lt
    have h4 := hg4 (cur c1 7 b u) (by simp)
    rw [e1] at h4
    refine ⟨g, hg1, hg2, ?_, ?_⟩
    · show At _ g (if b 23 = true then _ else _)
      rw [hn23, if_neg (by decide)]
      exact (Sc.At.grownO hg3 hg (fun kk hkk e => h4 (by rw [e]; exact hkk)))
    · intro r hr
      have hr' : r = cur c0 0 (upd b 10 true) (upd u 83 v') ∨ r = cur c1 7 (upd b 10 true) (upd u 83 v') ∨ r = cur c2 14 (upd b 10 true) (upd u 83 v') := by simpa using hr
      rcases hr' with rfl | rfl | rfl
      · exact hg4 (cur c0 0 b u) (by simp)
      · rw [e2]
        rcases hat with e | e
        · intro e'
          exact h4 (e.symm.trans e')
        · intro e'
          have e'' : some w.heap.size = some g := e.symm.trans e'
          injection e'' with e''
          omega
      · exact hg4 (cur c2 14 b u) (by simp)
theorem J.own_ap1 (h : J w0 u0 b5 b7 c0 c1 c2 b u w) (hb : b 10 = false) (hd : b 7 = true) : w.ownsRow w0.heap.size c1.e c1.size (u 80) (0) ([]) := by
  have hb6 : b 13 = false := by
    cases e : b 13 with
    | false => rfl
    | true => exact (no_true hb (h.l1.d6 e)).elim
  have e1 : cur c1 7 b u = ⟨c1.e, c1.size, u 80, 0, []⟩ := by unfold cur; simp [hb, hb6, hd]
  have hm := h.many.own (cur c1 7 b u) (by simp)
  rw [e1] at hm
  exact hm
theorem J.aq1 (h : J w0 u0 b5 b7 c0 c1 c2 b u w) (hb : b 13 = false) {v' : Value} (hd : b 10 = true) (hown : w'.ownsRow w0.heap.size c1.e c1.size v' (c1.nx + c1.ny) (c1.xs ++ c1.ys)) (hg : w.grownBy w' (u 83).ownBlock) (hat : v'.ownBlock = (u 83).ownBlock ∨ v'.ownBlock = some w.heap.size) : J w0 u0 b5 b7 c0 c1 c2 (upd b 13 true) (upd u 86 v') w' := by
  have hn21 : b 21 = false := by
    cases e : b 21 with
    | false => rfl
    | true => exact (no_true hb ((h.bd e).1.2.1)).elim
  have hn23 : b 23 = false := by
    cases e : b 23 with
    | false => rfl
    | true => exact (no_true hn21 (h.st e).1).elim
  have e1 : cur c1 7 b u = ⟨c1.e, c1.size, u 83, c1.nx, c1.xs⟩ := by unfold cur; simp [hb, hd]
  have e2 : cur c1 7 (upd b 13 true) (upd u 86 v') = ⟨c1.e, c1.size, v', c1.nx + c1.ny, c1.xs ++ c1.ys⟩ := by
    unfold cur
    simp [upd, ]
  have hm := Many.at1 h.many
  rw [e1] at hm
  have hown0 := hm.own _ List.mem_cons_self
  have hm' := hm.grow1 (r := ⟨c1.e, c1.size, u 83, c1.nx, c1.xs⟩) hown hg hat
  refine ⟨(h.below.grown hg h.below.size (fun kk hkk => (hown0.lt kk hkk).1)), fun k h1 h2 => by unfold upd; rw [if_neg (by omega)]; exact h.old k h1 h2, ⟨h.l0.p, h.l0.x, h.l0.q, h.l0.y, h.l0.d6, h.l0.d3⟩, ⟨h.l1.p, h.l1.x, h.l1.q, h.l1.y, fun _ => hd, h.l1.d3⟩, ⟨h.l2.p, h.l2.x, h.l2.q, h.l2.y, h.l2.d6, h.l2.d3⟩, ?_, fun e => (no_true hn21 e).elim, h.st, ?_⟩
  · show Many _ _ [cur c0 0 _ _, cur c1 7 _ _, cur c2 14 _ _]
    rw [e2]
    exact Many.of1 hm'
  · intro hb22
    obtain ⟨g, hg1, hg2, hg3, hg4⟩ := h.al hb22
    rw [hn23, if_neg (by decide)] at hg3
    have hgl := hg3.lt
    have h4 := hg4 (cur c1 7 b u) (by simp)
    rw [e1] at h4
    refine ⟨g, hg1, hg2, ?_, ?_⟩
    · show At _ g (if b 23 = true then _ else _)
      rw [hn23, if_neg (by decide)]
      exact (Sc.At.grownO hg3 hg (fun kk hkk e => h4 (by rw [e]; exact hkk)))
    · intro r hr
      have hr' : r = cur c0 0 (upd b 13 true) (upd u 86 v') ∨ r = cur c1 7 (upd b 13 true) (upd u 86 v') ∨ r = cur c2 14 (upd b 13 true) (upd u 86 v') := by simpa using hr
      rcases hr' with rfl | rfl | rfl
      · exact hg4 (cur c0 0 b u) (by simp)
      · rw [e2]
        rcases hat with e | e
        · intro e'
          exact h4 (e.symm.trans e')
        · intro e'
          have e'' : some w.heap.size = some g := e.symm.trans e'
          injection e'' with e''
          omega
      · exact hg4 (cur c2 14 b u) (by simp)
theorem J.own_aq1 (h : J w0 u0 b5 b7 c0 c1 c2 b u w) (hb : b 13 = false) (hd : b 10 = true) : w.ownsRow w0.heap.size c1.e c1.size (u 83) (c1.nx) (c1.xs) := by
  have e1 : cur c1 7 b u = ⟨c1.e, c1.size, u 83, c1.nx, c1.xs⟩ := by unfold cur; simp [hb, hd]
  have hm := h.many.own (cur c1 7 b u) (by simp)
  rw [e1] at hm
  exact hm
theorem J.bs2 (h : J w0 u0 b5 b7 c0 c1 c2 b u w) (hb : b 14 = false) : J w0 u0 b5 b7 c0 c1 c2 (upd b 14 true) (upd u 87 (.slice (some ⟨w.heap.size, 0, none⟩) 0 0)) (w.alloc (.cells #[] c2.e)) := by
  have hb3 : b 17 = false := by
    cases e : b 17 with
    | false => rfl
    | true => exact (no_true hb (h.l2.d3 e)).elim
  have hb6 : b 20 = false := by
    cases e : b 20 with
    | false => rfl
    | true => exact (no_true hb3 (h.l2.d6 e)).elim
  have hn21 : b 21 = false := by
    cases e : b 21 with
    | false => rfl
    | true => exact (no_true hb (h.l2.d3 (h.l2.d6 (h.bd e).1.2.2))).elim
  have hn23 : b 23 = false := by
    cases e : b 23 with
    | false => rfl
    | true => exact (no_true hn21 (h.st e).1).elim
  have e1 : cur c2 14 b u = ⟨c2.e, c2.size, .slice none 0 0, 0, []⟩ := by unfold cur; simp [hb, hb3, hb6]
  have e2 : cur c2 14 (upd b 14 true) (upd u 87 (.slice (some ⟨w.heap.size, 0, none⟩) 0 0)) = ⟨c2.e, c2.size, .slice (some ⟨w.heap.size, 0, none⟩) 0 0, 0, []⟩ := by
    unfold cur
    simp [upd, hb3, hb6]
  have hm := Many.at2 h.many
  rw [e1] at hm
  have hown0 := hm.own _ List.mem_cons_self
  have hm' := hm.grow1 (v' := .slice (some ⟨w.heap.size, 0, none⟩) 0 0) (n' := 0) (xs' := []) (World.ownsRow_made w #[] 0 h.below.size (Nat.zero_le _) (by simp)) (World.grownBy_alloc w _ none) (.inr rfl)
  refine ⟨(h.below.alloc h.below.size _), fun k h1 h2 => by unfold upd; rw [if_neg (by omega)]; exact h.old k h1 h2, ⟨h.l0.p, h.l0.x, h.l0.q, h.l0.y, h.l0.d6, h.l0.d3⟩, ⟨h.l1.p, h.l1.x, h.l1.q, h.l1.y, h.l1.d6, h.l1.d3⟩, ⟨h.l2.p, h.l2.x, h.l2.q, h.l2.y, h.l2.d6, fun _ => rfl⟩, ?_, fun e => (no_true hn21 e).elim, h.st, ?_⟩
  · show Many _ _ [cur c0 0 _ _, cur c1 7 _ _, cur c2 14 _ _]
    rw [e2]
    exact Many.of2 hm'
  · intro hb22
    obtain ⟨g, hg1, hg2, hg3, hg4⟩ := h.al hb22
    rw [hn23, if_neg (by decide)] at hg3
    have hgl := hg3.lt
    have h4 := hg4 (cur c2 14 b u) (by simp)
    rw [e1] at h4
    refine ⟨g, hg1, hg2, ?_, ?_⟩
    · show At _ g (if b 23 = true then _ else _)
      rw [hn23, if_neg (by decide)]
      exact hg3.allocO _
    · intro r hr
      have hr' : r = cur c0 0 (upd b 14 true) (upd u 87 (.slice (some ⟨w.heap.size, 0, none⟩) 0 0)) ∨ r = cur c1 7 (upd b 14 true) (upd u 87 (.slice (some ⟨w.heap.size, 0, none⟩) 0 0)) ∨ r = cur c2 14 (upd b 14 true) (upd u 87 (.slice (some ⟨w.heap.size, 0, none⟩) 0 0)) := by simpa using hr
      rcases hr' with rfl | rfl | rfl
      · exact hg4 (cur c0 0 b u) (by simp)
      · exact hg4 (cur c1 7 b u) (by simp)
      · rw [e2]
        intro e
        have e : some w.heap.size = some g := e
        injection e with e
        omega
theorem J.ap2 (h : J w0 u0 b5 b7 c0 c1 c2 b u w) (hb : b 17 = false) {v' : Value} (hd : b 14 = true) (hown : w'.ownsRow w0.heap.size c2.e c2.size v' (c2.nx) (c2.xs)) (hg : w.grownBy w' (u 87).ownBlock) (hat : v'.ownBlock = (u 87).ownBlock ∨ v'.ownBlock = some w.heap.size) : J w0 u0 b5 b7 c0 c1 c2 (upd b 17 true) (upd u 90 v') w' := by
  have hb6 : b 20 = false := by
    cases e : b 20 with
    | false => rfl
    | true => exact (no_true hb (h.l2.d6 e)).elim
  have hn21 : b 21 = false := by
    cases e : b 21 with
    | false => rfl
    | true => exact (no_true hb (h.l2.d6 (h.bd e).1.2.2)).elim
  have hn23 : b 23 = false := by
    cases e : b 23 with
    | false => rfl
    | true => exact (no_true hn21 (h.st e).1).elim
  have e1 : cur c2 14 b u = ⟨c2.e, c2.size, u 87, 0, []⟩ := by unfold cur; simp [hb, hb6, hd]
  have e2 : cur c2 14 (upd b 17 true) (upd u 90 v') = ⟨c2.e, c2.size, v', c2.nx, c2.xs⟩ := by
    unfold cur
    simp [upd, hb6]
  have hm := Many.at2 h.many
  rw [e1] at hm
  have hown0 := hm.own _ List.mem_cons_self
  have hm' := hm.grow1 (r := ⟨c2.e, c2.size, u 87, 0, []⟩) hown hg hat
  refine ⟨(h.below.grown hg h.below.size (fun kk hkk => (hown0.lt kk hkk).1)), fun k h1 h2 => by unfold upd; rw [if_neg (by omega)]; exact h.old k h1 h2, ⟨h.l0.p, h.l0.x, h.l0.q, h.l0.y, h.l0.d6, h.l0.d3⟩, ⟨h.l1.p, h.l1.x, h.l1.q, h.l1.y, h.l1.d6, h.l1.d3⟩, ⟨h.l2.p, h.l2.x, h.l2.q, h.l2.y, fun _ => rfl, fun _ => hd⟩, ?_, fun e => (no_true hn21 e).elim, h.st, ?_⟩
  · show Many _ _ [cur c0 0 _ _, cur c1 7 _ _, cur c2 14 _ _]
    rw [e2]
    exact Many.of2 hm'
  · intro hb22
    obtain ⟨g, hg1, hg2, hg3, hg4⟩ := h.al hb22
    rw [hn23, if_neg (by decide)] at hg3
    have hgl := hg3.lt
    have h4 := hg4 (cur c2 14 b u) (by simp)
    rw [e1] at h4
    refine ⟨g, hg1, hg2, ?_, ?_⟩
    · show At _ g (if b 23 = true then _ else _)
      rw [hn23, if_neg (by decide)]
      exact (Sc.At.grownO hg3 hg (fun kk hkk e => h4 (by rw [e]; exact hkk)))
    · intro r hr
      have hr' : r = cur c0 0 (upd b 17 true) (upd u 90 v') ∨ r = cur c1 7 (upd b 17 true) (upd u 90 v') ∨ r = cur c2 14 (upd b 17 true) (upd u 90 v') := by simpa using hr
      rcases hr' with rfl | rfl | rfl
      · exact hg4 (cur c0 0 b u) (by simp)
      · exact hg4 (cur c1 7 b u) (by simp)
      · rw [e2]
        rcases hat with e | e
        · intro e'
          exact h4 (e.symm.trans e')
        · intro e'
          have e'' : some w.heap.size = some g := e.symm.trans e'
          injection e'' with e''
          omega
theorem J.own_ap2 (h : J w0 u0 b5 b7 c0 c1 c2 b u w) (hb : b 17 = false) (hd : b 14 = true) : w.ownsRow w0.heap.size c2.e c2.size (u 87) (0) ([]) := by
  have hb6 : b 20 = false := by
    cases e : b 20 with
    | false => rfl
    | true => exact (no_true hb (h.l2.d6 e)).elim
  have e1 : cur c2 14 b u = ⟨c2.e, c2.size, u 87, 0, []⟩ := by unfold cur; simp [hb, hb6, hd]
  have hm := h.many.own (cur c2 14 b u) (by simp)
  rw [e1] at hm
  exact hm
theorem J.aq2 (h : J w0 u0 b5 b7 c0 c1 c2 b u w) (hb : b 20 = false) {v' : Value} (hd : b 17 = true) (hown : w'.ownsRow w0.heap.size c2.e c2.size v' (c2.nx + c2.ny) (c2.xs ++ c2.ys)) (hg : w.grownBy w' (u 90).ownBlock) (hat : v'.ownBlock = (u 90).ownBlock ∨ v'.ownBlock = some w.heap.size) : J w0 u0 b5 b7 c0 c1 c2 (upd b 20 true) (upd u 93 v') w' := by
  have hn21 : b 21 = false := by
    cases e : b 21 with
    | false => rfl
    | true => exact (no_true hb ((h.bd e).1.2.2)).elim
  have hn23 : b 23 = false := by
    cases e : b 23 with
    | false => rfl
    | true => exact (no_true hn21 (h.st e).1).elim
  have e1 : cur c2 14 b u = ⟨c2.e, c2.size, u 90, c2.nx, c2.xs⟩ := by unfold cur; simp [hb, hd]
  have e2 : cur c2 14 (upd b 20 true) (upd u 93 v') = ⟨c2.e, c2.size, v', c2.nx + c2.ny, c2.xs ++ c2.ys⟩ := by
    unfold cur
    simp [upd, ]
  have hm := Many.at2 h.many
  rw [e1] at hm
  have hown0 := hm.own _ List.mem_cons_self
  have hm' := hm.grow1 (r := ⟨c2.e, c2.size, u 90, c2.nx, c2.xs⟩) hown hg hat
  refine ⟨(h.below.grown hg h.below.size (fun kk hkk => (hown0.lt kk hkk).1)), fun k h1 h2 => by unfold upd; rw [if_neg (by omega)]; exact h.old k h1 h2, ⟨h.l0.p, h.l0.x, h.l0.q, h.l0.y, h.l0.d6, h.l0.d3⟩, ⟨h.l1.p, h.l1.x, h.l1.q, h.l1.y, h.l1.d6, h.l1.d3⟩, ⟨h.l2.p, h.l2.x, h.l2.q, h.l2.y, fun _ => hd, h.l2.d3⟩, ?_, fun e => (no_true hn21 e).elim, h.st, ?_⟩
  · show Many _ _ [cur c0 0 _ _, cur c1 7 _ _, cur c2 14 _ _]
    rw [e2]
    exact Many.of2 hm'
  · intro hb22
    obtain ⟨g, hg1, hg2, hg3, hg4⟩ := h.al hb22
    rw [hn23, if_neg (by decide)] at hg3
    have hgl := hg3.lt
    have h4 := hg4 (cur c2 14 b u) (by simp)
    rw [e1] at h4
    refine ⟨g, hg1, hg2, ?_, ?_⟩
    · show At _ g (if b 23 = true then _ else _)
      rw [hn23, if_neg (by decide)]
      exact (Sc.At.grownO hg3 hg (fun kk hkk e => h4 (by rw [e]; exact hkk)))
    · intro r hr
      have hr' : r = cur c0 0 (upd b 20 true) (upd u 93 v') ∨ r = cur c1 7 (upd b 20 true) (upd u 93 v') ∨ r = cur c2 14 (upd b 20 true) (upd u 93 v') := by simpa using hr
      rcases hr' with rfl | rfl | rfl
      · exact hg4 (cur c0 0 b u) (by simp)
      · exact hg4 (cur c1 7 b u) (by simp)
      · rw [e2]
        rcases hat with e | e
        · intro e'
          exact h4 (e.symm.trans e')
        · intro e'
          have e'' : some w.heap.size = some g := e.symm.trans e'
          injection e'' with e''
          omega
theorem J.own_aq2 (h : J w0 u0 b5 b7 c0 c1 c2 b u w) (hb : b 20 = false) (hd : b 17 = true) : w.ownsRow w0.heap.size c2.e c2.size (u 90) (c2.nx) (c2.xs) := by
  have e1 : cur c2 14 b u = ⟨c2.e, c2.size, u 90, c2.nx, c2.xs⟩ := by unfold cur; simp [hb, hd]
  have hm := h.many.own (cur c2 14 b u) (by simp)
  rw [e1] at hm
  exact hm
theorem J.build (h : J w0 u0 b5 b7 c0 c1 c2 b u w) (h6 : b 6 = true) (h13 : b 13 = true) (h20 : b 20 = true) : J w0 u0 b5 b7 c0 c1 c2 (upd b 21 true) (upd u 94 (.agg #[u 79, u 86, u 93])) w :=
  ⟨h.below, fun k h1 h2 => by unfold upd; rw [if_neg (by omega)]; exact h.old k h1 h2, ⟨h.l0.p, h.l0.x, h.l0.q, h.l0.y, h.l0.d6, h.l0.d3⟩, ⟨h.l1.p, h.l1.x, h.l1.q, h.l1.y, h.l1.d6, h.l1.d3⟩, ⟨h.l2.p, h.l2.x, h.l2.q, h.l2.y, h.l2.d6, h.l2.d3⟩, h.many, fun _ => ⟨⟨h6, h13, h20⟩, rfl⟩, fun e => ⟨rfl, (h.st e).2⟩, h.al⟩
theorem J.alloc_ (h : J w0 u0 b5 b7 c0 c1 c2 b u w) (hb : b 22 = false) : J w0 u0 b5 b7 c0 c1 c2 (upd b 22 true) (upd u 15 (.pointer (some ⟨w.heap.size, 0, none⟩))) (w.alloc (.cells #[.slice none 0 0, .slice none 0 0, .slice none 0 0] 26)) := by
  have hn23 : b 23 = false := by
    cases e : b 23 with
    | false => rfl
    | true => exact (no_true hb (h.st e).2).elim
  refine ⟨h.below.alloc h.below.size _, fun k h1 h2 => by unfold upd; rw [if_neg h2]; exact h.old k h1 h2, ⟨h.l0.p, h.l0.x, h.l0.q, h.l0.y, h.l0.d6, h.l0.d3⟩, ⟨h.l1.p, h.l1.x, h.l1.q, h.l1.y, h.l1.d6, h.l1.d3⟩, ⟨h.l2.p, h.l2.x, h.l2.q, h.l2.y, h.l2.d6, h.l2.d3⟩, h.many.alloc _, h.bd, fun e => ⟨(h.st e).1, rfl⟩, fun _ => ⟨w.heap.size, rfl, h.below.size, ?_, ?_⟩⟩
  · show At _ _ (if b 23 = true then _ else _)
    rw [hn23, if_neg (by decide)]
    exact At.new w _ _
  · intro r hr e
    have := ((h.many.own r hr).lt _ e).2
    omega
theorem J.store_ (h : J w0 u0 b5 b7 c0 c1 c2 b u w) (h21 : b 21 = true) (hb : b 23 = false) {g : Nat} (hg : u 15 = .pointer (some ⟨g, 0, none⟩)) (h22 : b 22 = true) :
    J w0 u0 b5 b7 c0 c1 c2 (upd b 23 true) u (((w.setCell ⟨g, 0, none⟩ (u 79)).setCell ⟨g, 1, none⟩ (u 86)).setCell ⟨g, 2, none⟩ (u 93)) := by
  obtain ⟨g', hg1, hg2, hg3, hg4⟩ := h.al h22
  rw [hg] at hg1
  injection hg1 with hg1
  injection hg1 with hg1
  injection hg1 with hg1
  subst hg1
  rw [hb, if_neg (by decide)] at hg3
  have hm : Many w0.heap.size (((w.setCell ⟨g, 0, none⟩ (u 79)).setCell ⟨g, 1, none⟩ (u 86)).setCell ⟨g, 2, none⟩ (u 93)) [cur c0 0 b u, cur c1 7 b u, cur c2 14 b u] :=
    ⟨fun r hr => ownsRow_setCell_other (ownsRow_setCell_other (ownsRow_setCell_other (h.many.own r hr) (hg4 r hr) _) (hg4 r hr) _) (hg4 r hr) _, h.many.apart⟩
  refine ⟨((h.below.setCell (p := ⟨g, 0, none⟩) hg2 _).setCell (p := ⟨g, 1, none⟩) hg2 _).setCell (p := ⟨g, 2, none⟩) hg2 _, h.old, ⟨h.l0.p, h.l0.x, h.l0.q, h.l0.y, h.l0.d6, h.l0.d3⟩, ⟨h.l1.p, h.l1.x, h.l1.q, h.l1.y, h.l1.d6, h.l1.d3⟩, ⟨h.l2.p, h.l2.x, h.l2.q, h.l2.y, h.l2.d6, h.l2.d3⟩, hm, h.bd, fun _ => ⟨h21, h22⟩, fun _ => ⟨g, hg, hg2, ?_, hg4⟩⟩
  show At _ g (if true = true then _ else _)
  rw [if_pos rfl]
  exact ((hg3.set 0 (u 79)).set 1 (u 86)).set 2 (u 93)
theorem J.full0 (h : J w0 u0 b5 b7 c0 c1 c2 b u w) (hb : b 6 = true) : w.ownsRow w0.heap.size c0.e c0.size (u 79) (c0.nx + c0.ny) (c0.xs ++ c0.ys) := by
  have e1 : cur c0 0 b u = ⟨c0.e, c0.size, u 79, c0.nx + c0.ny, c0.xs ++ c0.ys⟩ := by unfold cur; simp [hb]
  have hm := h.many.own (cur c0 0 b u) (by simp)
  rw [e1] at hm
  exact hm
theorem J.full1 (h : J w0 u0 b5 b7 c0 c1 c2 b u w) (hb : b 13 = true) : w.ownsRow w0.heap.size c1.e c1.size (u 86) (c1.nx + c1.ny) (c1.xs ++ c1.ys) := by
  have e1 : cur c1 7 b u = ⟨c1.e, c1.size, u 86, c1.nx + c1.ny, c1.xs ++ c1.ys⟩ := by unfold cur; simp [hb]
  have hm := h.many.own (cur c1 7 b u) (by simp)
  rw [e1] at hm
  exact hm
theorem J.full2 (h : J w0 u0 b5 b7 c0 c1 c2 b u w) (hb : b 20 = true) : w.ownsRow w0.heap.size c2.e c2.size (u 93) (c2.nx + c2.ny) (c2.xs ++ c2.ys) := by
  have e1 : cur c2 14 b u = ⟨c2.e, c2.size, u 93, c2.nx + c2.ny, c2.xs ++ c2.ys⟩ := by unfold cur; simp [hb]
  have hm := h.many.own (cur c2 14 b u) (by simp)
  rw [e1] at hm
  exact hm
/-- The beginning. -/
theorem J.start (w0 : World) (u0 : Nat → Value) (b5 b7 : Nat) (c0 c1 c2 : Ch) : J w0 u0 b5 b7 c0 c1 c2 (fun _ => false) u0 w0 := by
  refine ⟨Below.refl _ _, fun _ _ _ => rfl, ⟨fun e => (by cases e), fun e => (by cases e), fun e => (by cases e), fun e => (by cases e), fun e => (by cases e), fun e => (by cases e)⟩, ⟨fun e => (by cases e), fun e => (by cases e), fun e => (by cases e), fun e => (by cases e), fun e => (by cases e), fun e => (by cases e)⟩, ⟨fun e => (by cases e), fun e => (by cases e), fun e => (by cases e), fun e => (by cases e), fun e => (by cases e), fun e => (by cases e)⟩, ?_, fun e => (by cases e), fun e => (by cases e), fun e => (by cases e)⟩
  exact Many.add0 (Many.add0 (Many.add0 Many.nil_ _ _) _ _) _ _
end
end Aj
end Go.Proofs.YtlhoggalhjadgaaGreatDoor
