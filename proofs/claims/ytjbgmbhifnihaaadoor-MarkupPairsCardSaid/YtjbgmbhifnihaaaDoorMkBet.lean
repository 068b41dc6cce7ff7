/- markup: the text between two pieces: (*walk).between. -/
import Derived.Test.YtjbgmbhifnihaaaDoorMkFin
import Derived.Test.YtjbgmbhifnihaaaDoorMkRes
namespace Go.Proofs.YtjbgmbhifnihaaaDoor
open Go.RowKit

namespace Mk
/-- What a method of a walk answers with a fault: a place and a reason, or the walk, held still. -/
def FRet (w : World) (g : Nat) (s : ByteArray) (tv ov : Value) (o : (Nat × Nat) ⊕ S) (e : Ending) (w' : World) : Prop :=
  Kp (fun k => Sg g tv ov k ∨ False) w w' ∧ match o with
  | .inl x => e = .returned (.agg #[.int .i64 0, .int .i64 (x.1 : Int), .int .i64 (x.2 : Int)])
  | .inr st' => e = .returned (.agg #[.int .i64 0, .int .i64 0, .int .i64 0]) ∧ ∃ tv' ov' avs', Wk w' g s st' tv' ov' avs' [] ∧ Mv w tv tv' ∧ Mv w ov ov'
theorem bt_out {pre : Txt} {p : Nat} {st : S} (h : st.opened = []) (h2 : skip pre = []) : between pre p st = .inr st := by unfold between; rw [if_pos h, if_pos h2]
theorem bt_turn {pre : Txt} {p : Nat} {st : S} (h : st.opened = []) (h2 : skip pre ≠ []) : between pre p st = .inl (p + pre.length - (skip pre).length, 12) := by unfold between; rw [if_pos h, if_neg h2]
theorem bt_none {pre : Txt} {p : Nat} {st : S} (h : st.opened ≠ []) (h2 : pre = []) : between pre p st = .inr st := by unfold between; rw [if_neg h, if_pos h2]
theorem bt_bad {pre : Txt} {p : Nat} {st : S} (h : st.opened ≠ []) (h2 : pre ≠ []) (h3 : (resolve pre).2.2 ≠ 0) : between pre p st = .inl (p + (resolve pre).2.1, (resolve pre).2.2) := by unfold between; rw [if_neg h, if_neg h2, if_pos h3]
theorem bt_text {pre : Txt} {p : Nat} {st : S} (h : st.opened ≠ []) (h2 : pre ≠ []) (h3 : (resolve pre).2.2 = 0) : between pre p st = .inr ⟨st.toks ++ [⟨3, [], [], (resolve pre).1, p⟩], st.opened, st.rooted⟩ := by unfold between; rw [if_neg h, if_neg h2, if_neg (fun x => x h3)]
/-- Block b is of a fault's cells. -/
def Ty (w : World) (b : Nat) : Prop := ∃ cs fz, w.heap[b]? = some (.cells cs 32 fz)
theorem Ty.new (w : World) (cs : Array Value) : Ty (w.alloc (.cells cs 32)) w.heap.size := ⟨cs, (0, 0), heap_alloc_new w _⟩
theorem Ty.lt {w : World} {b : Nat} (h : Ty w b) : b < w.heap.size := by
  obtain ⟨cs, fz, h⟩ := h
  exact (Array.getElem?_eq_some_iff.1 h).1
theorem Ty.kp {w w' : World} {b : Nat} {S : Nat → Prop} (h : Ty w b) (k : Kp S w w') (hb : ¬ S b) : Ty w' b := by
  have hl := h.lt
  obtain ⟨cs, fz, h⟩ := h
  exact ⟨cs, fz, (k.block b hl hb).trans h⟩
theorem Ty.call {w w' : World} {b : Nat} (h : Ty w b) (hb : Below w.heap.size w w') : Ty w' b := h.kp (Kp.of_below (S := fun _ => False) hb) (fun x => x)
theorem Ty.set {w : World} {b : Nat} (h : Ty w b) (p : Addr) (v : Value) : Ty (w.setCell p v) b := by
  obtain ⟨cs, fz, h⟩ := h
  by_cases e : p.block = b
  · subst e
    refine ⟨if p.spot.isSome then cs else cs.setIfInBounds p.off v, fz, ?_⟩
    simp only [World.setCell, Array.getElem?_modify, if_pos, h, Option.map_some]
  · exact ⟨cs, fz, (Below.heap_setCell _ _ _ _ (Ne.symm e)).trans h⟩
theorem Ty.row {w : World} {b B : Nat} {e : TypeId} {size : Nat} {v : Value} {n : Nat} {xs : List Value} (h : Ty w b) (hr : w.ownsRow B e size v n xs) (he : e ≠ 32) : v.ownBlock ≠ some b := by
  intro hv
  obtain ⟨cs, fz, h⟩ := h
  rcases hr.2 with ⟨rfl, _⟩ | ⟨g', cap, cur, rfl, _, hgg, _⟩
  · cases hv
  · have hv2 : g' = b := Option.some.inj hv
    subst hv2
    rw [hgg] at h
    injection h with h
    injection h with _ h _
    exact he h
theorem atRows_e : ∀ (l : List T) (vs : List Value) (r : Row), r ∈ atRows l vs → r.e = 40
  | t :: l, v :: vs, r, h => by
    rw [atRows] at h
    rcases List.mem_cons.1 h with rfl | h
    · rfl
    · exact atRows_e l vs r h
  | [], _, _, h => by simp [atRows] at h
  | _ :: _, [], _, h => by simp [atRows] at h
theorem Wk.rows_e {w : World} {g : Nat} {s : ByteArray} {st : S} {tv ov : Value} {avs : List Value} (_ : Wk w g s st tv ov avs []) (r : Row) (hr : r ∈ tkRow st.toks tv avs :: opRow st.opened ov :: ([] ++ atRows st.toks avs)) : r.e ≠ 32 := by
  rcases List.mem_cons.1 hr with rfl | hr
  · show 38 ≠ _; decide
  rcases List.mem_cons.1 hr with rfl | hr
  · show 9 ≠ _; decide
  · rw [atRows_e _ _ r (by simpa using hr)]; decide
/-- A store into a fault's cells. -/
theorem Wk.setF {w : World} {g b i : Nat} {s : ByteArray} {st : S} {tv ov : Value} {avs : List Value} (h : Wk w g s st tv ov avs []) (ht : Ty w b) (hb : b ≠ g) (v : Value) : Wk (w.setCell ⟨b, i, none⟩ v) g s st tv ov avs [] :=
  ⟨h.at_.set_other _ _ hb, h.len, ⟨fun r hr => ownsRow_setCell_other (h.many.own r hr) (ht.row (h.many.own r hr) (h.rows_e r hr)) v, h.many.apart⟩⟩
theorem Wk.setF3 {w : World} {g b : Nat} {s : ByteArray} {st : S} {tv ov : Value} {avs : List Value} (h : Wk w g s st tv ov avs []) (ht : Ty w b) (hb : b ≠ g) (x y z : Value) :
    Wk (((w.setCell ⟨b, 0, none⟩ x).setCell ⟨b, 1, none⟩ y).setCell ⟨b, 2, none⟩ z) g s st tv ov avs [] :=
  ((h.setF ht hb x).setF (ht.set _ _) hb y).setF ((ht.set _ _).set _ _) hb z
theorem Kp.set3 {S : Nat → Prop} {a w : World} {b : Nat} (k : Kp S a w) (hb : a.heap.size ≤ b) (x y z : Value) : Kp S a (((w.setCell ⟨b, 0, none⟩ x).setCell ⟨b, 1, none⟩ y).setCell ⟨b, 2, none⟩ z) :=
  ((k.set (p := ⟨b, 0, none⟩) (fun h => by have : b < a.heap.size := h; omega) x).set (p := ⟨b, 1, none⟩) (fun h => by have : b < a.heap.size := h; omega) y).set (p := ⟨b, 2, none⟩) (fun h => by have : b < a.heap.size := h; omega) z
end Mk
set_option maxHeartbeats 2000000 in
set_option maxRecDepth 100000 in
theorem between_any (w : World) (g : Nat) (s : ByteArray) (st : Mk.S) (tv ov : Value) (avs : List Value) (a b : Nat) (hab : a ≤ b) (hbs : b ≤ s.size) (hs : s.size ≤ 100000000) (H : Mk.Wk w g s st tv ov avs []) (hm : Mk.Sm st) :
    Calls Tryd.prog 38 #[.pointer (some ⟨g, 0, none⟩), .int .i64 (a : Int), .int .i64 (b : Int)] w (Mk.FRet w g s tv ov (Mk.between (tl (s.extract a b)) a st)) := by
  obtain ⟨R, hR⟩ : ∃ R, Mk.between (tl (s.extract a b)) a st = R := ⟨_, rfl⟩
  rw [hR]
  have HTk := H.tk
  have HOp := H.op
  obtain ⟨tA, tc, rfl, _⟩ := own_slice HTk
  obtain ⟨oA, oc, rfl, _⟩ := own_slice HOp
  obtain ⟨n, hn⟩ : ∃ n, st.opened.length = n := ⟨_, rfl⟩
  obtain ⟨L, hL⟩ : ∃ L, st.toks.length = L := ⟨_, rfl⟩
  have hL8 := hm.toks
  have ho0 : st.opened = [] ↔ n = 0 := by rw [← hn, List.length_eq_zero_iff]
  have hg : g < w.heap.size := H.at_.lt
  rw [hn] at HOp H ⊢
  rw [hL] at HTk hL8 H ⊢
  have hb0 : w.cell? ⟨g, 0, none⟩ = some (.string s) := H.at_.cell 0 _ rfl
  have hb2 : w.cell? ⟨g, 2, none⟩ = some (.slice oA n oc) := H.at_.cell 2 _ rfl
  have a0 : (0 : Int) ≤ (a : Int) := by omega
  have a1 : (a : Int) ≤ (b : Int) := by omega
  have a2 : (b : Int) ≤ (s.size : Int) := by omega
  have HLL := Lib.hid hL
  obtain ⟨P, hP⟩ : ∃ P, s.extract a b = P := ⟨_, rfl⟩
  have hPs : P.size = b - a := by rw [← hP, ByteArray.size_extract]; omega
  have HPx : Hid (s.extract a b = P) := hP
  rw [hP] at hR
  have HZ0 : Hid (At (w.alloc (.cells #[.int .i64 0, .int .i64 0, .int .i64 0] 32)) w.heap.size [.int .i64 0, .int .i64 0, .int .i64 0]) := At.new _ _ _
  have HW0 := Lib.hid (H.alloc (.cells #[.int .i64 0, .int .i64 0, .int .i64 0] 32))
  have HK0 : Hid (Mk.Kp (fun k => Mk.Sg g (.slice tA L tc) (.slice oA n oc) k ∨ False) w (w.alloc (.cells #[.int .i64 0, .int .i64 0, .int .i64 0] 32))) := Mk.kp_box _ _
  have HPl := Lib.hid (tl_length P)
  have HT0 : Hid (Mk.Ty (w.alloc (.cells #[.int .i64 0, .int .i64 0, .int .i64 0] 32)) w.heap.size) := Mk.Ty.new _ _
  have HFt := Lib.hid (fun (c y : Int) W => fault_any c y W)
  by_cases h0 : n = 0
  · have e0 : ((n : Int) == 0) = true := by rw [h0]; rfl
    have hop := ho0.2 h0
    have HSk := Lib.hid (fun W => skipWhite_any P W)
    obtain ⟨T, hT⟩ : ∃ T, Mk.skip (tl P) = T := ⟨_, rfl⟩
    have hTl : T.length ≤ (tl P).length := by rw [← hT]; exact Mk.skip_len _
    rw [hT] at HSk
    obtain ⟨X, hX⟩ : ∃ X, Mk.bts T = X := ⟨_, rfl⟩
    have hXs : X.size = T.length := by rw [← hX]; rfl
    rw [hX, ← HPx.out] at HSk
    rw [HPl.out] at hTl
    by_cases ht : T = []
    · have q0 : X.toList.isEmpty = true := Mk.emp_yes (by rw [hXs, ht]; rfl)
      have HE : Hid (R = .inr st) := by show _ = _; rw [← hR]; exact Mk.bt_out hop (hT.trans ht)
      clear hR hT hX hXs ht hTl hop ho0 hn hL hm HTk HOp H hPs hP
      go_enter Tryd.func38, Tryd.ntmps38
      go_wp2_with fail
      refine (HSk.out _).mono ?_
      rintro e w1 ⟨rfl, hb⟩
      have HZ1 := Lib.hid (HZ0.out.call hb)
      have HW1 := Lib.hid (HW0.out.call hb)
      have HK1 := Lib.hid (HK0.out.then_ hb)
      have HT1 := Lib.hid (HT0.out.call hb)
      clear hb
      have hz1 := HZ1.out.lt
      obtain ⟨f0, f1, f2, e5, e6, e7⟩ := HZ1.out.three
      go_wp2
      refine bodyPost_ret (v := .agg #[.int .i64 0, .int .i64 0, .int .i64 0]) (by simp [results, Tryd.results38, go_sem, *]) rfl ⟨HK1.out.set3 (Nat.le_refl _) _ _ _, by rw [HE.out]; exact ⟨rfl, _, _, avs, HW1.out.setF3 HT1.out (Nat.ne_of_gt hg) _ _ _, Mk.Mv.refl _ _, Mk.Mv.refl _ _⟩⟩
    · have q0 : X.toList.isEmpty = false := Mk.emp_no (by rw [hXs]; exact List.length_pos_iff.2 ht)
      obtain ⟨c, hc⟩ : ∃ c : Nat, a + (tl P).length - T.length = c := ⟨_, rfl⟩
      have HE : Hid (R = .inl (c, 12)) := by show _ = _; rw [← hR, Mk.bt_turn hop (by rw [hT]; exact ht), hT, hc]
      rw [HPl.out] at hc
      have hcx : IntKind.i64.wrap ((b : Int) - (X.size : Int)) = (c : Int) := by rw [IntKind.wrap_i64]; omega
      clear hR hT hX hXs ht hTl hop ho0 hn hL hm HTk HOp H hPs hP hc
      go_enter Tryd.func38, Tryd.ntmps38
      go_wp2_with fail
      refine (HSk.out _).mono ?_
      rintro e w1 ⟨rfl, hb⟩
      have HZ1 := Lib.hid (HZ0.out.call hb)
      have HW1 := Lib.hid (HW0.out.call hb)
      have HK1 := Lib.hid (HK0.out.then_ hb)
      have HT1 := Lib.hid (HT0.out.call hb)
      clear hb
      go_wp2_with fail
      refine (HFt.out _ _ _).mono ?_
      rintro e w2 ⟨rfl, hb⟩
      have HZ2 := Lib.hid (HZ1.out.call hb)
      have HK2 := Lib.hid (HK1.out.then_ hb)
      clear hb
      have hz1 := HZ2.out.lt
      obtain ⟨f0, f1, f2, e5, e6, e7⟩ := HZ2.out.three
      go_wp2
      refine bodyPost_ret (v := .agg #[.int .i64 0, .int .i64 ((c : Int)), .int .i64 (12)]) (by simp [results, Tryd.results38, go_sem, *]) rfl ⟨HK2.out.set3 (Nat.le_refl _) _ _ _, by rw [HE.out]; rfl⟩
  · have e0 : ((n : Int) == 0) = false := by rw [beq_eq_false_iff_ne]; omega
    have hop : st.opened ≠ [] := fun e => h0 (ho0.1 e)
    by_cases hp0 : tl P = []
    · have q0 : (s.extract a b).toList.isEmpty = true := Mk.emp_yes (by rw [HPx.out, ← HPl.out, hp0]; rfl)
      have HE : Hid (R = .inr st) := by show _ = _; rw [← hR]; exact Mk.bt_none hop hp0
      clear hR hp0 hop ho0 hn hL hm HTk HOp H hPs hP
      go_enter Tryd.func38, Tryd.ntmps38
      have hz1 := HZ0.out.lt
      obtain ⟨f0, f1, f2, e5, e6, e7⟩ := HZ0.out.three
      go_wp2
      refine bodyPost_ret (v := .agg #[.int .i64 0, .int .i64 0, .int .i64 0]) (by simp [results, Tryd.results38, go_sem, *]) rfl ⟨HK0.out, by rw [HE.out]; exact ⟨rfl, _, _, avs, HW0.out, Mk.Mv.refl _ _, Mk.Mv.refl _ _⟩⟩
    have q0 : (s.extract a b).toList.isEmpty = false := Mk.emp_no (by rw [HPx.out, ← HPl.out]; exact List.length_pos_iff.2 hp0)
    have HRs := Lib.hid (fun W => resolve_any P (by omega) W)
    have hpl : (Mk.resolve (tl P)).2.2 ≠ 0 → (Mk.resolve (tl P)).2.1 ≤ P.size := fun h => by rw [← HPl.out]; exact Mk.resolve_place h
    obtain ⟨⟨T, i, y⟩, hT⟩ : ∃ x, Mk.resolve (tl P) = x := ⟨_, rfl⟩
    rw [hT] at HRs hpl
    simp only at HRs hpl
    obtain ⟨X, hX⟩ : ∃ X, Mk.bts T = X := ⟨_, rfl⟩
    have HX := Lib.hid hX
    rw [hX, ← HPx.out] at HRs
    by_cases hy : y = 0
    · subst hy
      have HE : Hid (R = .inr ⟨st.toks ++ [⟨3, [], [], T, a⟩], st.opened, st.rooted⟩) := by show _ = _; rw [← hR, Mk.bt_text hop hp0 (by rw [hT]), hT]
      clear hR hT hX hpl hp0 hop ho0 hn hL hm HTk HOp H hPs hP
      go_enter Tryd.func38, Tryd.ntmps38
      go_wp2_with fail
      refine (HRs.out _).mono ?_
      rintro e w1 ⟨rfl, hb⟩
      have HZ1 := Lib.hid (HZ0.out.call hb)
      have HW1 := Lib.hid (HW0.out.call hb)
      have HK1 := Lib.hid (HK0.out.then_ hb)
      have HT1 := Lib.hid (HT0.out.call hb)
      clear hb
      obtain ⟨i0, i1, i2, i3, i4⟩ := info_parts Mk.tok_info
      have HI := Lib.hid (And.intro i1 (And.intro i2 (And.intro i3 i4)))
      clear i1 i2 i3 i4
      have c1 := HW1.out.at_.cell 1 _ rfl
      have zW := HW1.out.at_.lt
      have HW3 := Lib.hid ((HW1.out.add0 40 2).alloc (.cells #[.int .u8 3, .string ⟨#[]⟩, .slice none 0 0, .string X, .int .i64 (a : Int)] 38))
      have HO : Hid ((w1.alloc (.cells #[.int .u8 3, .string ⟨#[]⟩, .slice none 0 0, .string X, .int .i64 (a : Int)] 38)).ownsRow (g + 1) 38 5 (.slice tA L tc) L (Mk.tkCells st.toks avs)) := by
        have h := HW3.out.tk
        rw [HLL.out] at h
        exact h
      have HNw := Lib.hid (Mk.tok_new w1 (.int .u8 3) (.string ⟨#[]⟩) (.slice none 0 0) (.string X) (.int .i64 (a : Int)))
      have HEnd : Hid (∀ (g9 cp9 : Nat) (w9 : World), w9.ownsRow (g + 1) 38 5 (.slice (some ⟨g9, 0, none⟩) (L + 1) cp9) (L + 1) (Mk.tkCells st.toks avs ++ [.int .u8 3, .string ⟨#[]⟩, .slice none 0 0, .string X, .int .i64 (a : Int)]) → (w1.alloc (.cells #[.int .u8 3, .string ⟨#[]⟩, .slice none 0 0, .string X, .int .i64 (a : Int)] 38)).grownBy w9 (Value.slice tA L tc).ownBlock →
          ((Value.slice tA L tc).ownBlock = some g9 ∨ g9 = (w1.alloc (.cells #[.int .u8 3, .string ⟨#[]⟩, .slice none 0 0, .string X, .int .i64 (a : Int)] 38)).heap.size) →
          (w.heap.size < w9.heap.size ∧ w9.cell? ⟨w.heap.size, 0, none⟩ = some (.int .i64 0) ∧ w9.cell? ⟨w.heap.size, 1, none⟩ = some (.int .i64 0) ∧ w9.cell? ⟨w.heap.size, 2, none⟩ = some (.int .i64 0) ∧
            w9.frozen? ⟨w.heap.size, 0, none⟩ = false ∧ w9.frozen? ⟨w.heap.size, 1, none⟩ = false ∧ w9.frozen? ⟨w.heap.size, 2, none⟩ = false) ∧ (g < w9.heap.size ∧ w9.cell? ⟨g, 1, none⟩ = some (.slice tA L tc) ∧ w9.frozen? ⟨g, 1, none⟩ = false) ∧
          ∀ (x y z : Value), Mk.FRet w g s (.slice tA L tc) (.slice oA n oc) R (.returned (.agg #[.int .i64 0, .int .i64 0, .int .i64 0])) ((((w9.setCell ⟨g, 1, none⟩ (.slice (some ⟨g9, 0, none⟩) (L + 1) cp9)).setCell ⟨w.heap.size, 0, none⟩ x).setCell ⟨w.heap.size, 1, none⟩ y).setCell ⟨w.heap.size, 2, none⟩ z)) := by
        intro g9 cp9 w9 hown hg9 hat9
        have hne := HT1.out.call (Mk.below_new w1 (.cells #[.int .u8 3, .string ⟨#[]⟩, .slice none 0 0, .string X, .int .i64 (a : Int)] 38))
        have hrow := hne.row HO.out (by decide)
        have hz9 := Mk.At.grownO (HZ1.out.allocO (.cells #[.int .u8 3, .string ⟨#[]⟩, .slice none 0 0, .string X, .int .i64 (a : Int)] 38)) hg9 hrow
        have h9 := Mk.At.grownO HW3.out.at_ hg9 (fun e => by have := (HO.out.lt _ e).1; omega)
        obtain ⟨u0, u1, u2, u3, u4, u5⟩ := hz9.three
        have ht9 : Mk.Ty w9 w.heap.size := by
          obtain ⟨cs, fz, h⟩ := hne
          exact ⟨cs, fz, (hg9.block _ (by rw [World.size_alloc]; have := HZ1.out.lt; omega) (fun e => hrow e.symm)).trans h⟩
        rw [← HX.out] at hown
        obtain ⟨h1, h2, h3⟩ := Mk.push_end (t := ⟨3, [], [], T, a⟩) (HK1.out.alloc _) HW3.out HLL.out hown hg9 hat9
        exact ⟨⟨hz9.lt, u0, u1, u2, u3, u4, u5⟩, ⟨h9.lt, h9.cell 1 _ rfl, h9.free 1 _ rfl⟩, fun x y z => ⟨h1.set3 (Nat.le_refl _) _ _ _, by rw [HE.out]; exact ⟨rfl, _, _, _, h2.setF3 (ht9.set _ _) (Nat.ne_of_gt hg) _ _ _, h3, Mk.Mv.refl _ _⟩⟩⟩
      have hne2 : w.heap.size ≠ g := Nat.ne_of_gt hg
      have hne3 : g ≠ w.heap.size := Nat.ne_of_lt hg
      go_wp2_with (first
        | (at_builtin; (refine wpList_append_lies _ rfl (.tmp 55) (.tmp 59) 30 rfl (g + 1) 38 i0 _ 5 72 Tryd.underlying30 HI.out.1 HI.out.2.1 HI.out.2.2.1 HI.out.2.2.2 rfl (by decide) _ L _ rfl HO.out _ 1 1 _ rfl rfl HNw.out (by simp [Value.oneCell']) (by decide) (by unfold maxLen; omega) (by omega) (by simp; omega) _ rfl ?_; intro g9 cp9 w9 hown9 hg9 hat9 hlt9; obtain ⟨⟨z1, u0, u1, u2, u3, u4, u5⟩, ⟨z2, u6, u7⟩, hend⟩ := HEnd.out g9 cp9 w9 hown9 hg9 hat9; have HEn := Lib.hid hend; clear hown9 hg9 hat9 hlt9 hend)))
      refine bodyPost_ret (v := .agg #[.int .i64 0, .int .i64 0, .int .i64 0]) (by simp [results, Tryd.results38, go_sem, *]) rfl (HEn.out _ _ _)
    · obtain ⟨c, hc⟩ : ∃ c : Nat, a + i = c := ⟨_, rfl⟩
      have hpl2 := hpl hy
      have HE : Hid (R = .inl (c, y)) := by show _ = _; rw [← hR, Mk.bt_bad hop hp0 (by rw [hT]; exact hy), hT, hc]
      have hcx : IntKind.i64.wrap ((a : Int) + (i : Int)) = (c : Int) := by rw [IntKind.wrap_i64]; omega
      have q1 : ((y : Int) == 0) = false := by rw [beq_eq_false_iff_ne]; omega
      clear hR hT hX hpl hp0 hop ho0 hn hL hm HTk HOp H hPs hP hc hpl2
      go_enter Tryd.func38, Tryd.ntmps38
      go_wp2_with fail
      refine (HRs.out _).mono ?_
      rintro e w1 ⟨rfl, hb⟩
      have HZ1 := Lib.hid (HZ0.out.call hb)
      have HW1 := Lib.hid (HW0.out.call hb)
      have HK1 := Lib.hid (HK0.out.then_ hb)
      have HT1 := Lib.hid (HT0.out.call hb)
      clear hb
      go_wp2_with fail
      refine (HFt.out _ _ _).mono ?_
      rintro e w2 ⟨rfl, hb⟩
      have HZ2 := Lib.hid (HZ1.out.call hb)
      have HK2 := Lib.hid (HK1.out.then_ hb)
      clear hb
      have hz1 := HZ2.out.lt
      obtain ⟨f0, f1, f2, e5, e6, e7⟩ := HZ2.out.three
      go_wp2
      refine bodyPost_ret (v := .agg #[.int .i64 0, .int .i64 ((c : Int)), .int .i64 ((y : Int))]) (by simp [results, Tryd.results38, go_sem, *]) rfl ⟨HK2.out.set3 (Nat.le_refl _) _ _ _, by rw [HE.out]⟩
end Go.Proofs.YtjbgmbhifnihaaaDoor
