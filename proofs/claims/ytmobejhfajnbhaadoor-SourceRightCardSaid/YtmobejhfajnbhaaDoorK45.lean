/- The walk of the law SourceRight. -/
import Derived.Test.YtmobejhfajnbhaaDoorK44
import Derived.Test.YtmobejhfajnbhaaDoorK29
import Derived.Orders
import Derived.RegionTactic
namespace Go.Proofs.YtmobejhfajnbhaaDoor
open Go.RowKit

set_option maxHeartbeats 1000000 in
set_option maxRecDepth 100000 in
theorem sourceRight_long (a b : ByteArray) (w : World) (hW : Wq w) (ha : a.size ≤ 140737488355328) (hb : b.size ≤ 140737488355328) (hl : 8192 < a.size + b.size) :
    Calls Tryd.prog 5 #[.string a, .string b] w fun e w' => e = .returned (.bool true) ∧ Below w.heap.size w w' := by
  have HL := Lib.hid fun W hw => lives11 W hw
  have HW := Lib.hid hW
  clear hW
  have wr : IntKind.i64.wrap ((a.size : Int) + (b.size : Int)) = (a.size : Int) + (b.size : Int) := IntWalk.i64_in _ (by omega)
  have q1 : (8192 : Int) < (a.size : Int) + (b.size : Int) := by omega
  go_enter Tryd.func5, Tryd.ntmps5
  go_wp2_with fail
  refine (HL.out _ HW.out).mono ?_
  rintro e w1 ⟨rfl, hd⟩
  have HB := Lib.hid hd
  clear hd
  go_wp2
  go_ret
  exact ⟨rfl, HB.out⟩
set_option maxHeartbeats 1000000 in
set_option maxRecDepth 100000 in
theorem sourceRight_bad (a b : ByteArray) (w : World) (hW : Wq w) (hl : a.size + b.size ≤ 8192) (l c y : Int) (hp : Src.parse Src.own (tl a) = .bad l c y) :
    Calls Tryd.prog 5 #[.string a, .string b] w fun e w' => e = .returned (.bool true) ∧ Below w.heap.size w w' := by
  have hf := Src.parse_fault Src.own (tl a) l c y (by rw [tl_length]; omega) hp
  obtain ⟨f1, f2, f3⟩ := hf
  have HL := Lib.hid fun W hw => lives11 W hw
  have HW := Lib.hid hW
  clear hW
  have HP := Lib.hid fun W hw => Lv.call_bad hp W hw (by unfold maxLen; omega)
  have HS := Lib.hid fun W => calls_bool (srcSame_any Src.St.none_ Src.St.none_ _ _ _ _ _ _ _ _ W (Lv.src_nil W _) (Lv.src_nil W _)) (show _ = true by decide +kernel)
  have wr : IntKind.i64.wrap ((a.size : Int) + (b.size : Int)) = (a.size : Int) + (b.size : Int) := IntWalk.i64_in _ (by omega)
  have q1 : ¬ (8192 : Int) < (a.size : Int) + (b.size : Int) := by omega
  have e3 : (y == 0) = false := by rw [beq_eq_false_iff_ne]; exact f3
  have e3' : (y != 0) = true := by simpa using f3
  have e1 : (l == 0) = false := by rw [beq_eq_false_iff_ne]; omega
  clear hp f3
  go_enter Tryd.func5, Tryd.ntmps5
  go_wp2_with fail
  refine (HL.out _ HW.out).mono ?_
  rintro e w1 ⟨rfl, hd⟩
  have HB := Lib.hid hd
  clear hd
  go_wp2_with fail
  refine (HP.out _ (HW.out.below HB.out)).mono ?_
  rintro e w2 ⟨hd, rfl⟩
  have HB2 := Lib.hid (below_then (below_then HB.out hd) (((Below.refl w2.heap.size w2).alloc (Nat.le_refl _) (.cells #[.slice none 0 0, .slice none 0 0, .slice none 0 0] 26)).alloc (by simp) (.cells #[.int .i64 l, .int .i64 c, .int .i64 y] 59)))
  have HF := Lib.hid (show At ((w2.alloc (.cells #[.slice none 0 0, .slice none 0 0, .slice none 0 0] 26)).alloc (.cells #[.int .i64 l, .int .i64 c, .int .i64 y] 59)) (w2.heap.size + 1) [.int .i64 l, .int .i64 c, .int .i64 y] by have := At.new (w2.alloc (.cells #[.slice none 0 0, .slice none 0 0, .slice none 0 0] 26)) #[.int .i64 l, .int .i64 c, .int .i64 y] 59; simpa using this)
  clear hd
  go_wp2_with fail
  refine (HS.out _).mono ?_
  rintro e w3 ⟨rfl, hd⟩
  have HF3 := Lib.hid (HF.out.call hd)
  have HB3 := Lib.hid (below_then HB2.out hd)
  clear hd
  obtain ⟨d0, d1, d2, _⟩ := HF3.out.three
  go_wp2
  go_ret
  exact ⟨rfl, HB3.out⟩
theorem tl_both (a b : ByteArray) : tl (a ++ ⟨#[10]⟩ ++ b) = tl a ++ 10 :: tl b := by
  simp [tl, ByteArray.data_append]
/-- What a caller wants of a source that was read. -/
structure Lv.Fit (w : World) (x : Src.S) (rv zv lv : Value) (evs : List Value) : Prop where
  src : Src.SrcR w w.heap.size x rv zv lv evs
theorem chk_right {x : Src.S} (h : Src.Rt x) (ho : x.op = false) (rv zv lv : Value) (evs : List Value) (w : World) (hW : Wa w) (hR : Src.SrcR w w.heap.size x rv zv lv evs) : Calls Tryd.prog 24 #[.agg #[rv, zv, lv]] w fun e w' => e = .returned (.int .i64 0) ∧ Below w.heap.size w w' := by
  have := srcCheck_any x rv zv lv evs w hW hR (Src.right_lims h) (Src.right_sm h ho)
  rw [if_pos (Src.right_srcB h ho)] at this
  exact this
set_option maxHeartbeats 2000000 in
set_option maxRecDepth 100000 in
theorem sourceRight_half (a b : ByteArray) (w : World) (hW : Wq w) (hl : a.size + b.size ≤ 8192) (x : Src.S) (l c y : Int) (hp : Src.parse Src.own (tl a) = .ok x) (hq : Src.parse Src.own (tl b) = .bad l c y) :
    Calls Tryd.prog 5 #[.string a, .string b] w fun e w' => e = .returned (.bool true) ∧ Below w.heap.size w w' := by
  have hf := Src.parse_fault Src.own (tl b) l c y (by rw [tl_length]; omega) hq
  obtain ⟨f1, f2, f3⟩ := hf
  have hRt := Src.right_of (by rw [tl_length]; omega) hp
  have hpb := Src.parse_both Src.own (tl a) (tl b) x (by rw [tl_length, tl_length]; exact hl) hp
  rw [← tl_both, hq] at hpb
  obtain ⟨nn, hnn⟩ : ∃ n : Nat, 1 + (tl a).count 10 = n := ⟨_, rfl⟩
  have hpb' : Src.parse Src.own (tl (a ++ ⟨#[10]⟩ ++ b)) = .bad (l + nn) c y := by rw [hpb, ← hnn]; rfl
  have HL := Lib.hid fun W hw => lives11 W hw
  have HW := Lib.hid hW
  clear hW
  have HP := Lib.hid fun W hw => Lv.call_ok hp W hw (by unfold maxLen; omega)
  have HQ := Lib.hid fun W hw => Lv.call_bad hq W hw (by unfold maxLen; omega)
  have h1 : (⟨#[10]⟩ : ByteArray).size = 1 := rfl
  have HPQ := Lib.hid fun W hw => Lv.call_bad hpb' W hw (by unfold maxLen; simp only [ByteArray.size_append]; omega)
  have HRt := Lib.hid hRt
  have s1 : ∀ W, (Op.stringOp .add a ⟨#[10]⟩).run Tryd.prog W = .ok (.string (a ++ ⟨#[10]⟩)) W := fun W => run_string_add_sum W _ _ (by omega)
  have s2 : ∀ W, (Op.stringOp .add (a ++ ⟨#[10]⟩) b).run Tryd.prog W = .ok (.string (a ++ ⟨#[10]⟩ ++ b)) W := fun W => run_string_add_sum W _ _ (by rw [ByteArray.size_append]; omega)
  have wr : IntKind.i64.wrap ((a.size : Int) + (b.size : Int)) = (a.size : Int) + (b.size : Int) := IntWalk.i64_in _ (by omega)
  have q1 : ¬ (8192 : Int) < (a.size : Int) + (b.size : Int) := by omega
  have e3 : (y == 0) = false := by rw [beq_eq_false_iff_ne]; exact f3
  have e1 : (l == 0) = false := by rw [beq_eq_false_iff_ne]; omega
  have HNN := Lib.hid hnn
  have HLN := Lib.hid (Src.parse_num (by rw [tl_length]; omega) hq)
  have HF3 := Lib.hid f3
  clear hp hq hpb hpb' f3 hRt hnn h1
  go_enter Tryd.func5, Tryd.ntmps5
  go_wp2_with fail
  refine (HL.out _ HW.out).mono ?_
  rintro e w1 ⟨rfl, hd⟩
  have HB := Lib.hid hd
  clear hd
  go_wp2_with fail
  refine (HP.out _ (HW.out.below HB.out)).mono ?_
  rintro e w2 ⟨hd, rv, zv, lv, evs, rfl, hR⟩
  obtain ⟨A1, k1, g1, _, _, _⟩ := hR.rules
  obtain ⟨A2, k2, g2, _, _, _⟩ := hR.zones
  obtain ⟨A3, k3, g3, _, _, _⟩ := hR.links
  subst g1 g2 g3
  have HR := Lib.hid hR
  obtain ⟨n1, hn1⟩ : ∃ n, x.rules.length = n := ⟨_, rfl⟩
  obtain ⟨n2, hn2⟩ : ∃ n, x.zones.length = n := ⟨_, rfl⟩
  obtain ⟨n3, hn3⟩ : ∃ n, x.links.length = n := ⟨_, rfl⟩
  rw [hn1, hn2, hn3] at HR ⊢
  have HN := Lib.hid (And.intro hn2 hn3)
  have HBx := Lib.hid (((Below.refl w2.heap.size w2).alloc (Nat.le_refl _) (.cells #[.slice A1 n1 k1, .slice A2 n2 k2, .slice A3 n3 k3] 26)).alloc (by simp) (.cells #[.int .i64 0, .int .i64 0, .int .i64 0] 59))
  have HT := Lib.hid ((At.new w2 #[.slice A1 n1 k1, .slice A2 n2 k2, .slice A3 n3 k3] 26).allocO (.cells #[.int .i64 0, .int .i64 0, .int .i64 0] 59))
  have HB2 := Lib.hid (below_then (below_then HB.out hd) HBx.out)
  have HR2 := Lib.hid (HR.out.call HBx.out)
  clear hd hR hn1 hn2 hn3
  go_wp2_with fail
  refine (HQ.out _ (HW.out.below HB2.out)).mono ?_
  rintro e w3 ⟨hd, rfl⟩
  have HBy := Lib.hid (((Below.refl w3.heap.size w3).alloc (Nat.le_refl _) (.cells #[.slice none 0 0, .slice none 0 0, .slice none 0 0] 26)).alloc (by simp) (.cells #[.int .i64 l, .int .i64 c, .int .i64 y] 59))
  have HT2 := Lib.hid ((HT.out.call hd).call HBy.out)
  have HB3 := Lib.hid (below_then (below_then HB2.out hd) HBy.out)
  have HR3 := Lib.hid ((HR2.out.call hd).call HBy.out)
  have HG := Lib.hid (show At ((w3.alloc (.cells #[.slice none 0 0, .slice none 0 0, .slice none 0 0] 26)).alloc (.cells #[.int .i64 l, .int .i64 c, .int .i64 y] 59)) (w3.heap.size + 1) [.int .i64 l, .int .i64 c, .int .i64 y] by have := At.new (w3.alloc (.cells #[.slice none 0 0, .slice none 0 0, .slice none 0 0] 26)) #[.int .i64 l, .int .i64 c, .int .i64 y] 59; simpa using this)
  clear hd
  go_wp2_with fail
  refine (HPQ.out _ (HW.out.below HB3.out)).mono ?_
  rintro e w4 ⟨hd, rfl⟩
  have HBz := Lib.hid (((Below.refl w4.heap.size w4).alloc (Nat.le_refl _) (.cells #[.slice none 0 0, .slice none 0 0, .slice none 0 0] 26)).alloc (by simp) (.cells #[.int .i64 (l + nn), .int .i64 c, .int .i64 y] 59))
  have HT3 := Lib.hid ((HT2.out.call hd).call HBz.out)
  have HB4 := Lib.hid (below_then (below_then HB3.out hd) HBz.out)
  have HR4 := Lib.hid ((HR3.out.call hd).call HBz.out)
  have HG4 := Lib.hid ((HG.out.call hd).call HBz.out)
  have HH := Lib.hid (show At ((w4.alloc (.cells #[.slice none 0 0, .slice none 0 0, .slice none 0 0] 26)).alloc (.cells #[.int .i64 (l + nn), .int .i64 c, .int .i64 y] 59)) (w4.heap.size + 1) [.int .i64 (l + nn), .int .i64 c, .int .i64 y] by have := At.new (w4.alloc (.cells #[.slice none 0 0, .slice none 0 0, .slice none 0 0] 26)) #[.int .i64 (l + nn), .int .i64 c, .int .i64 y] 59; simpa using this)
  clear hd
  go_wp2_with fail
  obtain ⟨WA, hWA⟩ : ∃ W, (w4.alloc (.cells #[.slice none 0 0, .slice none 0 0, .slice none 0 0] 26)).alloc (.cells #[.int .i64 (l + nn), .int .i64 c, .int .i64 y] 59) = W := ⟨_, rfl⟩
  rw [hWA] at HT3 HB4 HR4 HG4 HH ⊢
  obtain ⟨b5, hb5⟩ : ∃ h, w2.heap.size = h := ⟨_, rfl⟩
  obtain ⟨b7, hb7⟩ : ∃ h, w3.heap.size = h := ⟨_, rfl⟩
  obtain ⟨b9, hb9⟩ : ∃ h, w4.heap.size = h := ⟨_, rfl⟩
  rw [hb5] at HT3 ⊢
  rw [hb7] at HG4 ⊢
  rw [hb9] at HH ⊢
  clear hWA hb5 hb7 hb9
  have hLm := Src.right_lims HRt.out.1
  have hn23 : n2 ≤ 1024 ∧ n3 ≤ 4096 := by
    have h1 := hLm.zones
    have h2 := hLm.links
    have h3 := HN.out
    omega
  have wnn : IntKind.i64.wrap ((n2 : Int) + (n3 : Int)) = (n2 : Int) + (n3 : Int) := IntWalk.i64_in _ (by omega)
  have HCk := Lib.hid fun W (hb : Below WA.heap.size WA W) => chk_right HRt.out.1 HRt.out.2 _ _ _ _ W (HW.out.below (below_then HB4.out hb)).a (HR4.out.call hb)
  have HNm := Lib.hid fun W (hb : Below WA.heap.size WA W) => srcNames_any x _ _ _ _ W (HR4.out.call hb) hLm
  rw [HN.out.1, HN.out.2] at HNm
  obtain ⟨t0, t1, t2, _⟩ := HT3.out.three
  clear hLm
  go_region_held3 (fun w' => w'.cell? ⟨b5, 0, none⟩ = some (.slice A1 n1 k1) ∧ w'.cell? ⟨b5, 1, none⟩ = some (.slice A2 n2 k2) ∧ w'.cell? ⟨b5, 2, none⟩ = some (.slice A3 n3 k3)) (first | exact ⟨t0, t1, t2⟩ | exact ⟨by assumption, by assumption, by assumption⟩)
    (first
      | (go_at_call 24; refine (HCk.out _ ((Below.refl WA.heap.size WA).drew)).mono ?_; rintro e v1 ⟨rfl, hbb⟩; have hb1 := below_then ((Below.refl WA.heap.size WA).drew) hbb; obtain ⟨r0, r1, r2, _⟩ := (HT3.out.call hb1).three; clear hbb)
      | (go_at_call 10; refine (HNm.out _ (by assumption)).mono ?_; rintro e v2 ⟨nA, nc, rfl, hbb, _, _, _⟩; have hb2 := below_then (by assumption : Below WA.heap.size WA _) hbb; obtain ⟨z0, z1, z2, _⟩ := (HT3.out.call hb2).three; clear hbb))
  have HB5 := Lib.hid (below_then HB4.out hb2)
  have HG5 := Lib.hid (HG4.out.call hb2)
  have HH5 := Lib.hid (HH.out.call hb2)
  clear hb2 hb1 r0 r1 r2 z0 z1 z2 t0 t1 t2
  obtain ⟨u0, u1, u2, _⟩ := HG5.out.three
  obtain ⟨y0, y1, y2, _⟩ := HH5.out.three
  go_wp2_with fail
  go_loopw [11, 82] (fun nv i wr => ∃ k : Nat, k ≤ a.size ∧ nv = .int .i64 (((1 + ((tl a).take k).count 10 : Nat)) : Int) ∧ i = .int .i64 k ∧ v2 = wr) (fun _ i _ => a.size - (intOf i).toNat)
  case atStart => exact ⟨0, Nat.zero_le _, rfl, rfl, rfl⟩
  case round =>
    obtain ⟨k, hk, rfl, rfl, rfl⟩ := hrel
    have hcnt : ((tl a).take k).count 10 ≤ k := Nat.le_trans List.count_le_length (by simp; omega)
    obtain ⟨cn, hcn⟩ : ∃ n, 1 + ((tl a).take k).count 10 = n := ⟨_, rfl⟩
    rw [hcn]
    have HCN := Lib.hid hcn
    by_cases hlt : k < a.size
    · have q2 : (k : Int) < (a.size : Int) := by omega
      have q3 : (0 : Int) ≤ (k : Int) := by omega
      have hcell : (tl a)[k]? = some a[k] := by
        rw [List.getElem?_eq_getElem (by rw [tl_length]; exact hlt)]
        rfl
      have hmore := Src.count_more hcell
      have hcb : cn ≤ 8193 := by omega
      clear hcn hcnt
      by_cases hc : a[k] = 10
      · have ec : ((a[k].toNat : Int) == 10) = true := by rw [hc]; rfl
        rw [if_pos hc] at hmore
        have HM := Lib.hid hmore
        clear hmore hcell
        go_wp2
        go_roundw
        case rel => exact ⟨k + 1, by omega, by rw [HM.out, ← HCN.out]; rfl, by go_num, trivial⟩
        case measure => simp [intOf]; omega
      · have ec : ((a[k].toNat : Int) == 10) = false := by
          rw [beq_eq_false_iff_ne]
          intro e
          exact hc (UInt8.toNat_inj.1 (by simpa using (show a[k].toNat = 10 by omega)))
        rw [if_neg hc] at hmore
        have HM := Lib.hid hmore
        clear hmore hcell hc
        go_wp2
        go_roundw
        case rel => exact ⟨k + 1, by omega, by rw [HM.out, ← HCN.out]; rfl, by go_num, trivial⟩
        case measure => simp [intOf]; omega
    · have q2 : ¬ (k : Int) < (a.size : Int) := by omega
      have hke : cn = nn := by
        rw [← hcn, ← HNN.out, List.take_of_length_le (by rw [tl_length]; omega)]
      subst hke
      have wln : IntKind.i64.wrap (l + (cn : Int)) = l + (cn : Int) := IntWalk.i64_in _ (by have := HLN.out; omega)
      clear hcn hcnt
      go_wp2
      go_ret
      exact ⟨by simp, HB5.out⟩
end Go.Proofs.YtmobejhfajnbhaaDoor
/- A region that draws its order, by an invariant: what is done, what the slots hold, the world. -/
namespace Go.Proofs.YtmobejhfajnbhaaDoor
open Go.RowKit

namespace Od
def slots (a : Act) : Nat → Value := fun k => a.tmps.getD k undef
def upd {α : Type} (f : Nat → α) (i : Nat) (v : α) : Nat → α := fun j => if j = i then v else f j
def updo (u : Nat → Value) (d : Option Tmp) (v : Value) : Nat → Value := match d with
  | some k => upd u k v
  | none => u
theorem slots_put {a : Act} {d : Option Tmp} {v : Value} (h : ∀ k, d = some k → k < a.tmps.size) : slots (a.put d v) = updo (slots a) d v := by
  cases d with
  | none => rfl
  | some k =>
    have hk := h k rfl
    funext j
    show (a.tmps.setIfInBounds k v).getD j undef = if j = k then v else a.tmps.getD j undef
    by_cases e : j = k
    · subst e
      rw [if_pos rfl]
      simp [Array.getD, hk]
    · rw [if_neg e]
      simp only [Array.getD_eq_getD_getElem?, Array.getElem?_setIfInBounds, if_neg (Ne.symm e)]
theorem size_put {a : Act} {d : Option Tmp} {v : Value} : (a.put d v).tmps.size = a.tmps.size := by
  cases d with
  | none => rfl
  | some k => show (a.tmps.setIfInBounds k v).size = _; simp
theorem defers_put {a : Act} {d : Option Tmp} {v : Value} : (a.put d v).defers = a.defers := by cases d <;> rfl
theorem count_set : ∀ (l : List Bool) (i : Nat), l[i]? = some false → (l.set i true).count false + 1 = l.count false
  | [], i, h => by simp at h
  | x :: l, 0, h => by
    simp at h
    subst h
    simp
  | x :: l, i + 1, h => by
    have := count_set l i (by simpa using h)
    simp only [List.set_cons_succ, List.count_cons]
    omega
theorem all_true : ∀ (l : List Bool), l.count false = 0 → ∀ x ∈ l, x = true
  | [], _, x, hx => by cases hx
  | y :: l, h, x, hx => by
    simp only [List.count_cons] at h
    have h1 : l.count false = 0 := by omega
    have h2 : y = true := by
      cases y
      · simp at h
      · rfl
    rcases List.mem_cons.1 hx with rfl | hx
    · exact h2
    · exact all_true l h1 x hx
theorem ord_of {ops : Array Oper} (h : ((List.range ops.size).all fun j => match ops[j]? with
    | some o => o.after.toList.all fun e => decide (e.on < j)
    | none => true) = true) : ∀ (j : Nat) o, ops[j]? = some o → ∀ e ∈ o.after, e.on < j := by
  intro j o hj e he
  have h1 := List.all_eq_true.1 h j (List.mem_range.2 (Array.getElem?_eq_some_iff.1 hj).1)
  rw [hj] at h1
  exact of_decide_eq_true (List.all_eq_true.1 h1 e (Array.mem_toList_iff.2 he))
theorem dst_of {ops : Array Oper} {N : Nat} (h : ((List.range ops.size).all fun j => match ops[j]? with
    | some o => (match o.dst with
      | some d => decide (d < N)
      | none => true)
    | none => true) = true) : ∀ (j : Nat) o d, ops[j]? = some o → o.dst = some d → d < N := by
  intro j o d hj hd
  have h1 := List.all_eq_true.1 h j (List.mem_range.2 (Array.getElem?_eq_some_iff.1 hj).1)
  rw [hj] at h1
  simp only [hd] at h1
  exact of_decide_eq_true h1
section
variable {P : Program} {ops : Array Oper} {Q : Exit → Act → World → Prop}
theorem ready_nil_all {s : Array Bool} (hs : s.size = ops.size) (hord : ∀ (j : Nat) o, ops[j]? = some o → ∀ e ∈ o.after, e.on < j) (h : Region.ready .any ops s = []) : ∀ j, j < ops.size → s.getD j false = true := by
  intro j
  induction j using Nat.strongRecOn with
  | ind j ih =>
    intro hj
    cases hb : s.getD j false with
    | true => rfl
    | false =>
      exfalso
      have hb' : s.getD j true = false := by
        have : j < s.size := by omega
        simp [Array.getD, this] at hb ⊢
        exact hb
      have : j ∈ Region.ready .any ops s := mem_ready.2 ⟨hb', ops[j], Array.getElem?_eq_getElem hj, fun e he _ => ih e.on (hord j _ (Array.getElem?_eq_getElem hj) e he) (by have := hord j _ (Array.getElem?_eq_getElem hj) e he; omega)⟩
      rw [h] at this
      cases this
theorem wpAny_inv (N : Nat) (hord : ∀ (j : Nat) o, ops[j]? = some o → ∀ e ∈ o.after, e.on < j) (hdst : ∀ (j : Nat) o d, ops[j]? = some o → o.dst = some d → d < N)
    (J : (Nat → Bool) → (Nat → Value) → World → Prop)
    (hstep : ∀ i o, ops[i]? = some o → ∀ (b : Nat → Bool) (a : Act) (w : World), J b (slots a) w → b i = false → (∀ e ∈ o.after, Region.binds .any e = true → b e.on = true) → a.defers = [] →
      ∀ K : Act → World → Prop, (∀ v w', J (upd b i true) (updo (slots a) o.dst v) w' → K (a.put o.dst v) w') → if Region.wanted o (yielded ops a.tmps) = true then Oper.wp P o a w K Q else K (a.put o.dst undef) w)
    (hend : ∀ (a : Act) (w : World), J (fun j => decide (j < ops.size)) (slots a) w → a.tmps.size = N → a.defers = [] → Q .normal a w) :
    ∀ (g : Nat) (s : Array Bool) (a : Act) (w : World), s.size = ops.size → s.toList.count false ≤ g → a.tmps.size = N → a.defers = [] → J (fun j => s.getD j false) (slots a) w → wpAny P .any ops Q g s a w := by
  have fin : ∀ (s : Array Bool) (a : Act) (w : World), s.size = ops.size → (∀ j, j < ops.size → s.getD j false = true) → a.tmps.size = N → a.defers = [] → J (fun j => s.getD j false) (slots a) w → Q .normal a w := by
    intro s a w hs hall hN hd hJ
    refine hend a w ?_ hN hd
    have : (fun j => s.getD j false) = fun j => decide (j < ops.size) := by
      funext j
      by_cases hj : j < ops.size
      · rw [hall j hj, decide_eq_true hj]
      · rw [decide_eq_false hj]
        simp [Array.getD, hs, hj]
    rw [this] at hJ
    exact hJ
  intro g
  induction g with
  | zero =>
    intro s a w hs hc hN hd hJ
    have hall : ∀ j, j < ops.size → s.getD j false = true := by
      intro j hj
      have hj' : j < s.size := by omega
      have := all_true s.toList (by omega) s[j] (by simp)
      simp [Array.getD, hj', this]
    have hr : Region.ready .any ops s = [] := by
      cases e : Region.ready .any ops s with
      | nil => rfl
      | cons i l =>
        exfalso
        obtain ⟨h1, o, ho, _⟩ := mem_ready.1 (show i ∈ Region.ready .any ops s by rw [e]; exact List.mem_cons_self)
        have hi : i < ops.size := (Array.getElem?_eq_some_iff.1 ho).1
        have h2 := hall i hi
        have hi' : i < s.size := by omega
        simp [Array.getD, hi'] at h1 h2
        rw [h1] at h2
        cases h2
    exact ⟨hr, fin s a w hs hall hN hd hJ⟩
  | succ g ih =>
    intro s a w hs hc hN hd hJ
    refine ⟨fun hr => fin s a w hs (ready_nil_all hs hord hr) hN hd hJ, fun i hi => ?_⟩
    obtain ⟨h1, o, ho, hdep⟩ := mem_ready.1 hi
    have hio : i < ops.size := (Array.getElem?_eq_some_iff.1 ho).1
    have hi' : i < s.size := by omega
    have hsi : s[i] = false := by simpa [Array.getD, hi'] using h1
    refine wpOp_step ho fun K hK => hstep i o ho (fun j => s.getD j false) a w hJ (by simp [Array.getD, hi', hsi]) hdep hd K fun v w' hJ' => hK _ _ (ih _ _ _ (by simp [hs]) ?_ (by rw [size_put]; exact hN) (by rw [defers_put]; exact hd) ?_)
    · have := count_set s.toList i (by simp [hi', hsi])
      rw [Array.toList_setIfInBounds]
      omega
    · rw [slots_put (fun k hk => by rw [hN]; exact hdst i o k ho hk)]
      have : (fun j => (s.setIfInBounds i true).getD j false) = upd (fun j => s.getD j false) i true := by
        funext j
        unfold upd
        by_cases e : j = i
        · subst e
          rw [if_pos rfl]
          simp [Array.getD, hi']
        · rw [if_neg e]
          simp only [Array.getD_eq_getD_getElem?, Array.getElem?_setIfInBounds, if_neg (Ne.symm e)]
      rw [this]
      exact hJ'
/-- The region. -/
theorem wp_region_inv {id : Nat} {a : Act} {w : World} (N : Nat) (hm : P.follows .mixedOrders = true) (hN : a.tmps.size = N) (hd : a.defers = []) (hord : ∀ (j : Nat) o, ops[j]? = some o → ∀ e ∈ o.after, e.on < j) (hdst : ∀ (j : Nat) o d, ops[j]? = some o → o.dst = some d → d < N)
    (J : (Nat → Bool) → (Nat → Value) → World → Prop) (h0 : J (fun _ => false) (slots a) w.drew)
    (hstep : ∀ i o, ops[i]? = some o → ∀ (b : Nat → Bool) (a : Act) (w : World), J b (slots a) w → b i = false → (∀ e ∈ o.after, Region.binds .any e = true → b e.on = true) → a.defers = [] →
      ∀ K : Act → World → Prop, (∀ v w', J (upd b i true) (updo (slots a) o.dst v) w' → K (a.put o.dst v) w') → if Region.wanted o (yielded ops a.tmps) = true then Oper.wp P o a w K Q else K (a.put o.dst undef) w)
    (hend : ∀ (a : Act) (w : World), J (fun j => decide (j < ops.size)) (slots a) w → a.tmps.size = N → a.defers = [] → Q .normal a w) : (Code.region id ops true).wp P Q a w := by
  refine wp_region_any hm ?_
  refine wpAny_inv N hord hdst J hstep hend ops.size _ a _ (by simp) (by simp) hN hd ?_
  have : (fun j => (Array.replicate ops.size false).getD j false) = fun _ => false := by
    funext j
    simp [Array.getD]
  rw [this]
  exact h0
end
end Od
end Go.Proofs.YtmobejhfajnbhaaDoor
