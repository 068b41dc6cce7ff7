/- The contract of the reference's Parse of a time's text. -/
import Derived.Test.YtkpbkgfmdjhbpaaDoorRefNum
import Derived.Test.YtkpbkgfmdjhbpaaDoorRefParseMath
import Derived.Test.YtkpbkgfmdjhbpaaDoorClockAll
import Derived.Deep.QuietTactic
import Derived.BigQuiet
import Derived.Deep.DeepCutAuto
namespace Go.Proofs.YtkpbkgfmdjhbpaaDoor
open Go.RowKit

theorem i64_info : (Tryd.prog.info? 2).map (fun i => (i.zero, i.size, i.bytes)) = some (some (.int .i64 0), 1, 8) := by kernel_rfl
def intCells (l : List Int) : List Value := l.map (Value.int .i64)
def slen : Value → Nat
  | .slice _ n _ => n
  | _ => 0
theorem tl_from (s : ByteArray) (k : Nat) : (s.extract k s.size).data.toList = s.data.toList.drop k := by
  simp [ByteArray.data_extract, Array.toList_extract]
  exact List.take_of_length_le (by rw [List.length_drop]; exact Nat.le_refl _)
namespace Ck
theorem rest_pos (s : ByteArray) (h : 0 < s.size) (h45 : s[0] = 45) : Lib.hasPrefix s.data.toList [45] = true ∧ rest s = s.extract 1 s.size := by
  have e : ∃ r, s.data.toList = 45 :: r := by
    have h0 := Dy.tl_get s 0 h
    rw [h45] at h0
    unfold tl at h0
    cases hx : s.data.toList with
    | nil => rw [hx] at h0; simp at h0
    | cons a r => rw [hx] at h0; simp at h0; exact ⟨r, by rw [h0]⟩
  obtain ⟨r, hr⟩ := e
  have hp : Lib.hasPrefix s.data.toList [45] = true := by rw [hr]; simp [Lib.hasPrefix]
  refine ⟨hp, ?_⟩
  unfold rest Lib.trimPrefix
  rw [hp]
  apply ByteArray.ext
  apply Array.ext'
  rw [tl_from s 1]
  rfl
theorem rest_not (s : ByteArray) (h : ∀ h : 0 < s.size, ¬ s[0] = 45) : Lib.hasPrefix s.data.toList [45] = false ∧ rest s = s := by
  have hp : Lib.hasPrefix s.data.toList [45] = false := by
    cases hx : s.data.toList with
    | nil => rfl
    | cons a r =>
      have hs : 0 < s.size := by
        have e : s.data.toList.length = s.size := tl_length s
        rw [hx, List.length_cons] at e
        omega
      have h0 : s.data.toList[0]? = some s[0] := Dy.tl_get s 0 hs
      rw [hx] at h0
      have h1 : a = s[0] := Option.some.inj h0
      have h2 : ¬ a = 45 := by rw [h1]; exact h hs
      simp only [Lib.hasPrefix, List.isPrefixOf, Bool.and_true]
      rw [beq_eq_false_iff_ne]
      exact fun e => h2 e.symm
  refine ⟨hp, ?_⟩
  unfold rest Lib.trimPrefix
  rw [hp]
  apply ByteArray.ext
  simp
theorem rp_hit (L : List UInt8) (k : Nat) (c : UInt8) (l : List Int) (N : Int) (D : Nat) (O : Option (List Int)) (h : O = rp (L.drop k) l N D) (hc : L[k]? = some c) :
    O = (if (c.toNat : Int) = 58 then (if rbad l N D = true then none else rp (L.drop (k + 1)) (l ++ [N]) 0 0) else if ((c.toNat : Int) < 48 ∨ 57 < (c.toNat : Int)) ∨ D = 3 then none else rp (L.drop (k + 1)) l (10 * N + ((c.toNat : Int) - 48)) (D + 1)) := by
  obtain ⟨hk, e⟩ := List.getElem?_eq_some_iff.1 hc
  rw [h, List.drop_eq_getElem_cons hk, e]
  rfl
theorem rp_stop (L : List UInt8) (k : Nat) (l : List Int) (N : Int) (D : Nat) (O : Option (List Int)) (h : O = rp (L.drop k) l N D) (hk : L.length = k) : O = if rbad l N D = true then none else some (l ++ [N]) := by
  rw [h, List.drop_eq_nil_of_le (by omega)]; rfl
/-- What the loop over the bytes holds. -/
def PRel (w : World) (R : ByteArray) (O : Option (List Int)) (v n d i : Value) (wr : World) : Prop :=
  ∃ (k : Nat) (l : List Int) (N : Int) (D : Nat), k ≤ R.size + 1 ∧ i = .int .i64 k ∧ n = .int .i64 N ∧ d = .int .i64 D ∧ l.length ≤ 3 ∧ D ≤ 3 ∧ 0 ≤ N ∧ N ≤ 999 ∧
    Hid (∀ x ∈ l, 0 ≤ x ∧ x ≤ 999) ∧ Hid (D = 0 → N = 0) ∧ Hid (D ≤ 1 → N ≤ 9) ∧ Hid (D ≤ 2 → N ≤ 99) ∧ Hid (wr.ownsRow w.heap.size 2 1 v l.length (intCells l)) ∧ Hid (Below w.heap.size w wr) ∧
    Hid (k ≤ R.size → O = rp ((tl R).drop k) l N D) ∧ Hid (k = R.size + 1 → O = some l)
/-- What the loop that fills up holds. -/
def FRel (w : World) (T : Int) (v : Value) (wr : World) : Prop :=
  ∃ l : List Int, l.length ≤ 3 ∧ Hid (∀ x ∈ l, 0 ≤ x ∧ x ≤ 999) ∧ Hid (tot l = T) ∧ Hid (wr.ownsRow w.heap.size 2 1 v l.length (intCells l)) ∧ Hid (Below w.heap.size w wr)
theorem tot_fill (l : List Int) (h : l.length < 3) : tot (l ++ [0]) = tot l := by rw [tot_snoc l 0 h]; omega
theorem own_snoc {wr : World} {B : Nat} {v : Value} {l : List Int} {N : Int} (h : wr.ownsRow B 2 1 v (l.length + 1) (intCells l ++ [.int .i64 N])) : wr.ownsRow B 2 1 v (l ++ [N]).length (intCells (l ++ [N])) := by
  have e : intCells (l ++ [N]) = intCells l ++ [.int .i64 N] := by simp [intCells]
  rw [e, List.length_append]
  exact h
theorem all_snoc {l : List Int} {N : Int} (h : ∀ x ∈ l, 0 ≤ x ∧ x ≤ 999) (h0 : 0 ≤ N) (h1 : N ≤ 999) : ∀ x ∈ l ++ [N], 0 ≤ x ∧ x ≤ 999 := by
  intro x hx
  rcases List.mem_append.1 hx with hx | hx
  · exact h x hx
  · simp at hx; subst hx; exact ⟨h0, h1⟩
theorem grown64 {w wr w4 : World} {v : Value} {n : Nat} {xs : List Value} {o : Obj} (hb : Below w.heap.size w wr) (hown : wr.ownsRow w.heap.size 2 1 v n xs) (hg : (wr.alloc o).grownBy w4 v.ownBlock) : Below w.heap.size w w4 :=
  (hb.alloc hb.size o).grown hg (Nat.le_trans hb.size (by simp)) (fun k hk => (hown.lt k hk).1)
theorem three {l : List Int} (h : l.length = 3) (hb : ∀ x ∈ l, 0 ≤ x ∧ x ≤ 999) : ∃ a b c, l = [a, b, c] ∧ 0 ≤ a ∧ a ≤ 999 ∧ 0 ≤ b ∧ b ≤ 999 ∧ 0 ≤ c ∧ c ≤ 999 := by
  match l, h with
  | [a, b, c], _ =>
    have h1 := hb a (by simp)
    have h2 := hb b (by simp)
    have h3 := hb c (by simp)
    exact ⟨a, b, c, rfl, h1.1, h1.2, h2.1, h2.2, h3.1, h3.2⟩
end Ck

set_option maxHeartbeats 4000000 in
set_option maxRecDepth 100000 in
theorem refParse_any (s : ByteArray) (w : World) (hs : s.size ≤ 1000000) :
    Calls Tryd.prog 18 #[.string s] w fun e w' => e = .returned (.tuple #[.int .i64 (Ck.parse s).1, .int .i64 (Ck.parse s).2]) ∧ Below w.heap.size w w' := by
  rw [← Ck.ref_parse s]
  have hRs := Ck.rest_size s
  obtain ⟨i0, hi0, hz0, hz1, hz2⟩ := info_parts i64_info
  have hcase : (∃ h : 0 < s.size, s[0] = 45 ∧ Ck.rest s = s.extract 1 s.size ∧ Lib.hasPrefix s.data.toList [45] = true) ∨ ((∀ h : 0 < s.size, ¬ s[0] = 45) ∧ Ck.rest s = s ∧ Lib.hasPrefix s.data.toList [45] = false) := by
    by_cases h : ∃ h : 0 < s.size, s[0] = 45
    · obtain ⟨h1, h2⟩ := h
      have := Ck.rest_pos s h1 h2
      exact .inl ⟨h1, h2, this.2, this.1⟩
    · have h' : ∀ h : 0 < s.size, ¬ s[0] = 45 := fun a b => h ⟨a, b⟩
      have := Ck.rest_not s h'
      exact .inr ⟨h', this.2, this.1⟩
  obtain ⟨R, hR⟩ : ∃ R, Ck.rest s = R := ⟨_, rfl⟩
  obtain ⟨b, hb⟩ : ∃ b, Lib.hasPrefix s.data.toList [45] = b := ⟨_, rfl⟩
  rw [hR, hb] at hcase ⊢
  rw [hR] at hRs
  obtain ⟨O, hO⟩ : ∃ O, Ck.rp (tl R) [] 0 0 = O := ⟨_, rfl⟩
  rw [hO]
  obtain ⟨P, hP⟩ : ∃ P, Ck.rfin O b = P := ⟨_, rfl⟩
  rw [hP]
  have HO := Lib.hid hO
  have HP := Lib.hid hP
  have HC := Lib.hid hcase
  have hRb : R.size ≤ 1000000 := by omega
  clear hO hP hcase hR hb hRs
  go_enter Tryd.func18, Tryd.ntmps18
  go_upto_region 2 with fail
  go_cut [17] (fun t wx => t = .bool b ∧ w = wx)
  case first =>
    rcases HC.out with ⟨h0, h1, h2, h3⟩ | ⟨h1, h2, h3⟩
    · have q0 : (0 : Int) < (s.size : Int) := by omega
      have q1 : ((s[0].toNat : Int) == 45) = true := by rw [h1]; rfl
      have H3 := Lib.hid h3
      clear h1 h2 h3
      go_wp2
      go_meet
      exact ⟨by rw [H3.out], rfl⟩
    · have H3 := Lib.hid h3
      by_cases h0 : 0 < s.size
      · have q0 : (0 : Int) < (s.size : Int) := by omega
        have q1 : ((s[0].toNat : Int) == 45) = false := by
          have := h1 h0
          rw [beq_eq_false_iff_ne]
          intro e
          apply this
          apply UInt8.toNat_inj.1
          have : (45 : UInt8).toNat = 45 := rfl
          omega
        clear h1 h2 h3
        go_wp2
        go_meet
        exact ⟨by rw [H3.out], rfl⟩
      · have q0 : ¬ (0 : Int) < (s.size : Int) := by omega
        clear h1 h2 h3
        go_wp2
        go_meet
        exact ⟨by rw [H3.out], rfl⟩
  case rest =>
  obtain ⟨rfl, rfl⟩ := hcut
  go_upto_if 17 with fail
  go_cut [0, 4] (fun a g wx => a = .string R ∧ g = .int .i64 (if b = true then -1 else 1) ∧ Drew w wx)
  case first =>
    rcases HC.out with ⟨h0, h1, h2, h3⟩ | ⟨h1, h2, h3⟩
    · have q2 : (1 : Int) ≤ (s.size : Int) := by omega
      have H2 := Lib.hid h2
      obtain rfl := h3
      clear h1 h2
      go_wp2
      go_quiet (fail)
      go_wp2
      go_meet
      exact ⟨by rw [H2.out], rfl, by first | exact ⟨_, rfl⟩ | exact (Drew.refl _).drewN _⟩
    · have H2 := Lib.hid h2
      obtain rfl := h3
      clear h1 h2
      go_wp2
      go_meet
      exact ⟨by rw [H2.out], rfl, Drew.refl _⟩
  case rest =>
    obtain ⟨rfl, rfl, hd⟩ := hcut
    have HD := Lib.hid (hd.below w.heap.size)
    obtain ⟨sg, hsg⟩ : ∃ sg : Int, (if b = true then (-1 : Int) else 1) = sg := ⟨_, rfl⟩
    rw [hsg]
    have HSG := Lib.hid hsg
    clear hd hsg HC
    go_wp2
    go_loopw [5, 6, 7, 8] (Ck.PRel w R O) (fun _ _ _ i _ => R.size + 1 - (intOf i).toNat)
    case atStart => exact ⟨0, [], 0, 0, by omega, rfl, rfl, rfl, by simp, by omega, by omega, by omega, by intro x hx; simp at hx, fun _ => rfl, fun _ => by omega, fun _ => by omega, World.ownsRow_nil _ _ _ _, HD.out, fun _ => HO.out.symm, fun h => absurd h (by omega)⟩
    case round =>
      obtain ⟨k, l, N, D, hk, rfl, rfl, rfl, hl, hD, n0, n1, HA, HZ0, HZ1, HZ2, HOwn, HBel, HK, HE⟩ := hrel
      obtain ⟨A, c, hv, _⟩ := own_slice HOwn.out
      subst hv
      by_cases hend : k = R.size + 1
      · skip
        have q1 : ¬ (k : Int) ≤ (R.size : Int) := by omega
        have HOl := Lib.hid (HE.out hend)
        have HT : Hid (P = Ck.fin (some (Ck.tot l)) b) := by show P = _; rw [← HP.out, HOl.out]; rfl
        clear hend HK HE HZ0 HZ1 HZ2 HO
        obtain ⟨T, hT⟩ : ∃ T, Ck.tot l = T := ⟨_, rfl⟩
        rw [hT] at HT
        have HTT := Lib.hid hT
        clear hT
        go_wp2
        go_loopw [5] (Ck.FRel w T) (fun v _ => 3 - slen v)
        case atStart => exact ⟨l, hl, HA, HTT, HOwn, HBel⟩
        case round =>
          obtain ⟨l2, hl2, HA2, HT2, HOwn2, HBel2⟩ := hrel
          obtain ⟨A2, c2, hv, _⟩ := own_slice HOwn2.out
          subst hv
        
          by_cases h3 : l2.length < 3
          · have r1 : (l2.length : Int) < 3 := by omega
            go_wp2_with (at_builtin; refine wpList_append_any _ rfl (.tmp 91) (.tmp 92) _ rfl w.heap.size 2 i0 _ 1 8 Tryd.underlying105 hi0 hz0 hz1 hz2 rfl (by omega) (.slice A2 l2.length c2) l2.length (intCells l2) rfl (HOwn2.out.alloc _) _ (some ⟨_, 0, none⟩) 1 1 [.int .i64 0] rfl (reads_cells _ #[.int .i64 0] 2) (by simp [Value.oneCell']) (by simp only [maxLen]; omega) (by omega) (by have := HBel2.out.size; simp; omega) ?_; intro v1 w3 hown1 hg1 hat1)
            have HOwn1 := Lib.hid (Ck.own_snoc hown1)
            have HBel1 := Lib.hid (Ck.grown64 HBel2.out HOwn2.out hg1)
            clear hg1 hat1
            obtain ⟨A3, c3, hv, _⟩ := own_slice hown1
            subst hv
            clear hown1
            go_roundw
            case rel => exact ⟨l2 ++ [0], by simp; omega, Ck.all_snoc HA2.out (by omega) (by omega), by show Ck.tot _ = T; rw [Ck.tot_fill l2 h3]; exact HT2.out, HOwn1, HBel1⟩
            case measure => simp [slen]; omega
          · have r1 : ¬ (l2.length : Int) < 3 := by omega
            obtain ⟨x, y, z, hl3, x0, x1, y0, y1, z0, z1⟩ := Ck.three (by omega) HA2.out
            have hT : T = 3600 * x + 60 * y + z := by rw [← HT2.out, hl3]; rfl
            have hlen : l2.length = 3 := by rw [hl3]; rfl
            have hcl : intCells l2 = [.int .i64 x, .int .i64 y, .int .i64 z] := by rw [hl3]; rfl
            have hown := HOwn2.out
            rw [hlen, hcl] at hown
            rw [hlen]
            obtain ⟨g, cap, hv, _, _⟩ := hown.form (by omega)
            injection hv with hv1 hv2 hv3
            subst hv1 hv3
            have k0 := hown.cells (g := g) rfl 0 (Value.int .i64 x) rfl
            have k1 := hown.cells (g := g) rfl 1 (Value.int .i64 y) rfl
            have k2 := hown.cells (g := g) rfl 2 (Value.int .i64 z) rfl
            have e0 : (⟨g, 0, none⟩ : Addr).add 0 = ⟨g, 0, none⟩ := rfl
            have e1 : (⟨g, 0, none⟩ : Addr).add 1 = ⟨g, 1, none⟩ := rfl
            have e2 : (⟨g, 0, none⟩ : Addr).add 2 = ⟨g, 2, none⟩ := rfl
            rw [e0] at k0
            rw [e1] at k1
            rw [e2] at k2
            have v1 : IntKind.i64.wrap (3600 * x) = 3600 * x := IntWalk.i64_in _ (by omega)
            have v2 : IntKind.i64.wrap (60 * y) = 60 * y := IntWalk.i64_in _ (by omega)
            have v3 : IntKind.i64.wrap (3600 * x + 60 * y) = 3600 * x + 60 * y := IntWalk.i64_in _ (by omega)
            have v4 : IntKind.i64.wrap (3600 * x + 60 * y + z) = 3600 * x + 60 * y + z := IntWalk.i64_in _ (by omega)
            clear hl3 hlen hcl hown e0 e1 e2 hv2 HOwn2 HOwn HTT HT2 HOl HA2 HA h3
            cases b
            · obtain rfl : sg = 1 := by rw [← HSG.out]; rfl
              have v5 : IntKind.i64.wrap (1 * (3600 * x + 60 * y + z)) = 3600 * x + 60 * y + z := by rw [Int.one_mul]; exact v4
              by_cases ht : IsTime T
              · have HX : Hid (P = (3600 * x + 60 * y + z, 0)) := by show P = _; rw [HT.out]; unfold Ck.fin; simp only [Bool.false_eq_true, if_false]; rw [if_pos ht]; rw [hT]
                have HTm := Lib.hid fun W => calls_bool (refTime_any (3600 * x + 60 * y + z) W) (decide_eq_true (by rw [← hT]; exact ht))
                clear ht hT
                go_wp2
                go_quiet (fail)
                go_wp2_with (go_at_call 46; refine (HTm.out _).mono ?_; rintro e w2 ⟨rfl, rfl⟩)
                go_ret2
                exact ⟨ret_int22 (by rw [HX.out]) (by rw [HX.out]), by first | exact HBel2.out | exact below_drewN HBel2.out _⟩
              · have HX : Hid (P = (0, 1)) := by show P = _; rw [HT.out]; unfold Ck.fin; simp only [Bool.false_eq_true, if_false]; rw [if_neg ht]
                have HTm := Lib.hid fun W => calls_bool (refTime_any (3600 * x + 60 * y + z) W) (decide_eq_false (by rw [← hT]; exact ht))
                clear ht hT
                go_wp2
                go_quiet (fail)
                go_wp2_with (go_at_call 46; refine (HTm.out _).mono ?_; rintro e w2 ⟨rfl, rfl⟩)
                go_ret2
                exact ⟨ret_int22 (by rw [HX.out]) (by rw [HX.out]), by first | exact HBel2.out | exact below_drewN HBel2.out _⟩
            · obtain rfl : sg = -1 := by rw [← HSG.out]; rfl
              have v5 : IntKind.i64.wrap (-1 * (3600 * x + 60 * y + z)) = -(3600 * x + 60 * y + z) := by rw [Int.neg_one_mul]; exact IntWalk.i64_in _ (by omega)
              by_cases ht : IsTime (-T)
              · have HX : Hid (P = (-(3600 * x + 60 * y + z), 0)) := by show P = _; rw [HT.out]; unfold Ck.fin; simp only [if_true]; rw [if_pos ht]; rw [hT]
                have HTm := Lib.hid fun W => calls_bool (refTime_any (-(3600 * x + 60 * y + z)) W) (decide_eq_true (by rw [← hT]; exact ht))
                clear ht hT
                go_wp2
                go_quiet (fail)
                go_wp2_with (go_at_call 46; refine (HTm.out _).mono ?_; rintro e w2 ⟨rfl, rfl⟩)
                go_ret2
                exact ⟨ret_int22 (by rw [HX.out]) (by rw [HX.out]), by first | exact HBel2.out | exact below_drewN HBel2.out _⟩
              · have HX : Hid (P = (0, 1)) := by show P = _; rw [HT.out]; unfold Ck.fin; simp only [if_true]; rw [if_neg ht]
                have HTm := Lib.hid fun W => calls_bool (refTime_any (-(3600 * x + 60 * y + z)) W) (decide_eq_false (by rw [← hT]; exact ht))
                clear ht hT
                go_wp2
                go_quiet (fail)
                go_wp2_with (go_at_call 46; refine (HTm.out _).mono ?_; rintro e w2 ⟨rfl, rfl⟩)
                go_ret2
                exact ⟨ret_int22 (by rw [HX.out]) (by rw [HX.out]), by first | exact HBel2.out | exact below_drewN HBel2.out _⟩
      by_cases hlast : k = R.size
      · skip
        have q1 : (k : Int) ≤ (R.size : Int) := by omega
        have q2 : ((k : Int) == (R.size : Int)) = true := by rw [hlast]; simp
        have HJ := Lib.hid (Ck.rp_stop (tl R) k l N D O (HK.out (by omega)) (by rw [tl_length]; omega))
        clear HK HE HO
        by_cases a1 : D < 1
        · have r1 : (D : Int) < 1 := by omega
          have hb : Ck.rbad l N D = true := by unfold Ck.rbad; simp only [Bool.or_eq_true, Bool.and_eq_true, decide_eq_true_eq]; omega
          have HX : Hid (P = (0, 4)) := by show P = _; rw [← HP.out, HJ.out, if_pos hb]; rfl
          clear hb
          go_wp2
          go_ret2
          exact ⟨ret_int22 (by rw [HX.out]) (by rw [HX.out]), HBel.out⟩
        have r1 : ¬ (D : Int) < 1 := by omega
        have r2 : ¬ (3 : Int) < (D : Int) := by omega
        by_cases a2 : 0 < l.length
        · have r3 : (0 : Int) < (l.length : Int) := by omega
          by_cases a3 : D = 2
          · have r4 : ((D : Int) != 2) = false := by rw [a3]; rfl
            have r4' : ((D : Int) == 2) = true := by rw [a3]; rfl
            by_cases a4 : 60 ≤ N
            · skip
              have hb : Ck.rbad l N D = true := by unfold Ck.rbad; simp only [Bool.or_eq_true, Bool.and_eq_true, decide_eq_true_eq]; omega
              have HX : Hid (P = (0, 4)) := by show P = _; rw [← HP.out, HJ.out, if_pos hb]; rfl
              clear hb
              go_wp2
              go_ret2
              exact ⟨ret_int22 (by rw [HX.out]) (by rw [HX.out]), HBel.out⟩
            by_cases a5 : l.length = 3
            · have r5 : ((l.length : Int) == 3) = true := by rw [a5]; rfl
              have hb : Ck.rbad l N D = true := by unfold Ck.rbad; simp only [Bool.or_eq_true, Bool.and_eq_true, decide_eq_true_eq]; omega
              have HX : Hid (P = (0, 4)) := by show P = _; rw [← HP.out, HJ.out, if_pos hb]; rfl
              clear hb
              go_wp2
              go_ret2
              exact ⟨ret_int22 (by rw [HX.out]) (by rw [HX.out]), HBel.out⟩
            have r5 : ((l.length : Int) == 3) = false := by rw [beq_eq_false_iff_ne]; omega
            have hb : ¬ Ck.rbad l N D = true := by unfold Ck.rbad; simp only [Bool.or_eq_true, Bool.and_eq_true, decide_eq_true_eq]; omega
            have hJ := HJ.out
            rw [if_neg hb] at hJ
            have HX := Lib.hid hJ
            clear hb hJ
            go_wp2_with (at_builtin; refine wpList_append_any _ rfl (.tmp 60) (.tmp 62) _ rfl w.heap.size 2 i0 _ 1 8 Tryd.underlying105 hi0 hz0 hz1 hz2 rfl (by omega) (.slice A l.length c) l.length (intCells l) rfl (HOwn.out.alloc _) (wr.heap.size + 1) (some ⟨wr.heap.size, 0, none⟩) 1 1 [.int .i64 N] rfl (reads_cells wr #[.int .i64 N] 2) (by simp [Value.oneCell']) (by simp only [maxLen]; omega) (by omega) (by have := HBel.out.size; simp; omega) ?_; intro v1 w3 hown1 hg1 hat1)
            have HOwn1 := Lib.hid (Ck.own_snoc hown1)
            have HBel1 := Lib.hid (Ck.grown64 HBel.out HOwn.out hg1)
            clear hown1 hg1 hat1
            go_roundw
            case rel => exact ⟨k + 1, l ++ [N], 0, 0, by omega, by go_num, rfl, rfl, by simp; omega, by omega, by omega, by omega, Ck.all_snoc HA.out n0 n1, fun _ => rfl, fun _ => by omega, fun _ => by omega, HOwn1.out, HBel1.out, fun h => absurd h (by omega), fun _ => HX.out⟩
            case measure => simp [intOf]; omega
          · have r4 : ((D : Int) != 2) = true := by simp; omega
            have r4' : ((D : Int) == 2) = false := by rw [beq_eq_false_iff_ne]; omega
            have hb : Ck.rbad l N D = true := by unfold Ck.rbad; simp only [Bool.or_eq_true, Bool.and_eq_true, decide_eq_true_eq]; omega
            have HX : Hid (P = (0, 4)) := by show P = _; rw [← HP.out, HJ.out, if_pos hb]; rfl
            clear hb
            go_wp2
            go_ret2
            exact ⟨ret_int22 (by rw [HX.out]) (by rw [HX.out]), HBel.out⟩
        have r3 : ¬ (0 : Int) < (l.length : Int) := by omega
        have r5 : ((l.length : Int) == 3) = false := by rw [beq_eq_false_iff_ne]; omega
        have hb : ¬ Ck.rbad l N D = true := by unfold Ck.rbad; simp only [Bool.or_eq_true, Bool.and_eq_true, decide_eq_true_eq]; omega
        have hJ := HJ.out
        rw [if_neg hb] at hJ
        have HX := Lib.hid hJ
        clear hb hJ
        go_wp2_with (at_builtin; refine wpList_append_any _ rfl (.tmp 60) (.tmp 62) _ rfl w.heap.size 2 i0 _ 1 8 Tryd.underlying105 hi0 hz0 hz1 hz2 rfl (by omega) (.slice A l.length c) l.length (intCells l) rfl (HOwn.out.alloc _) (wr.heap.size + 1) (some ⟨wr.heap.size, 0, none⟩) 1 1 [.int .i64 N] rfl (reads_cells wr #[.int .i64 N] 2) (by simp [Value.oneCell']) (by simp only [maxLen]; omega) (by omega) (by have := HBel.out.size; simp; omega) ?_; intro v1 w3 hown1 hg1 hat1)
        have HOwn1 := Lib.hid (Ck.own_snoc hown1)
        have HBel1 := Lib.hid (Ck.grown64 HBel.out HOwn.out hg1)
        clear hown1 hg1 hat1
        go_roundw
        case rel => exact ⟨k + 1, l ++ [N], 0, 0, by omega, by go_num, rfl, rfl, by simp; omega, by omega, by omega, by omega, Ck.all_snoc HA.out n0 n1, fun _ => rfl, fun _ => by omega, fun _ => by omega, HOwn1.out, HBel1.out, fun h => absurd h (by omega), fun _ => HX.out⟩
        case measure => simp [intOf]; omega
      have hlt : k < R.size := by omega
      have q1 : (k : Int) ≤ (R.size : Int) := by omega
      have q2 : ((k : Int) == (R.size : Int)) = false := by rw [beq_eq_false_iff_ne]; omega
      have q3 : (0 : Int) ≤ (k : Int) := by omega
      have q4 : (k : Int) < (R.size : Int) := by omega
      have b1 := u8_bd R[k]
      have hhit := Ck.rp_hit (tl R) k R[k] l N D O (HK.out (by omega)) (Dy.tl_get R k hlt)
      by_cases h58 : (R[k].toNat : Int) = 58
      · skip
        rw [if_pos h58] at hhit
        have HJ := Lib.hid hhit
        have q5 : ((R[k].toNat : Int) == 58) = true := by rw [h58]; rfl
        clear hhit HK HE HO h58
        by_cases a1 : D < 1
        · have r1 : (D : Int) < 1 := by omega
          have hb : Ck.rbad l N D = true := by unfold Ck.rbad; simp only [Bool.or_eq_true, Bool.and_eq_true, decide_eq_true_eq]; omega
          have HX : Hid (P = (0, 4)) := by show P = _; rw [← HP.out, HJ.out, if_pos hb]; rfl
          clear hb
          go_wp2
          go_ret2
          exact ⟨ret_int22 (by rw [HX.out]) (by rw [HX.out]), HBel.out⟩
        have r1 : ¬ (D : Int) < 1 := by omega
        have r2 : ¬ (3 : Int) < (D : Int) := by omega
        by_cases a2 : 0 < l.length
        · have r3 : (0 : Int) < (l.length : Int) := by omega
          by_cases a3 : D = 2
          · have r4 : ((D : Int) != 2) = false := by rw [a3]; rfl
            have r4' : ((D : Int) == 2) = true := by rw [a3]; rfl
            by_cases a4 : 60 ≤ N
            · skip
              have hb : Ck.rbad l N D = true := by unfold Ck.rbad; simp only [Bool.or_eq_true, Bool.and_eq_true, decide_eq_true_eq]; omega
              have HX : Hid (P = (0, 4)) := by show P = _; rw [← HP.out, HJ.out, if_pos hb]; rfl
              clear hb
              go_wp2
              go_ret2
              exact ⟨ret_int22 (by rw [HX.out]) (by rw [HX.out]), HBel.out⟩
            by_cases a5 : l.length = 3
            · have r5 : ((l.length : Int) == 3) = true := by rw [a5]; rfl
              have hb : Ck.rbad l N D = true := by unfold Ck.rbad; simp only [Bool.or_eq_true, Bool.and_eq_true, decide_eq_true_eq]; omega
              have HX : Hid (P = (0, 4)) := by show P = _; rw [← HP.out, HJ.out, if_pos hb]; rfl
              clear hb
              go_wp2
              go_ret2
              exact ⟨ret_int22 (by rw [HX.out]) (by rw [HX.out]), HBel.out⟩
            have r5 : ((l.length : Int) == 3) = false := by rw [beq_eq_false_iff_ne]; omega
            have hb : ¬ Ck.rbad l N D = true := by unfold Ck.rbad; simp only [Bool.or_eq_true, Bool.and_eq_true, decide_eq_true_eq]; omega
            have hJ := HJ.out
            rw [if_neg hb] at hJ
            have HX := Lib.hid hJ
            clear hb hJ
            go_wp2_with (at_builtin; refine wpList_append_any _ rfl (.tmp 60) (.tmp 62) _ rfl w.heap.size 2 i0 _ 1 8 Tryd.underlying105 hi0 hz0 hz1 hz2 rfl (by omega) (.slice A l.length c) l.length (intCells l) rfl (HOwn.out.alloc _) (wr.heap.size + 1) (some ⟨wr.heap.size, 0, none⟩) 1 1 [.int .i64 N] rfl (reads_cells wr #[.int .i64 N] 2) (by simp [Value.oneCell']) (by simp only [maxLen]; omega) (by omega) (by have := HBel.out.size; simp; omega) ?_; intro v1 w3 hown1 hg1 hat1)
            have HOwn1 := Lib.hid (Ck.own_snoc hown1)
            have HBel1 := Lib.hid (Ck.grown64 HBel.out HOwn.out hg1)
            clear hown1 hg1 hat1
            go_roundw
            case rel => exact ⟨k + 1, l ++ [N], 0, 0, by omega, by go_num, rfl, rfl, by simp; omega, by omega, by omega, by omega, Ck.all_snoc HA.out n0 n1, fun _ => rfl, fun _ => by omega, fun _ => by omega, HOwn1.out, HBel1.out, fun _ => HX.out, fun h => absurd h (by omega)⟩
            case measure => simp [intOf]; omega
          · have r4 : ((D : Int) != 2) = true := by simp; omega
            have r4' : ((D : Int) == 2) = false := by rw [beq_eq_false_iff_ne]; omega
            have hb : Ck.rbad l N D = true := by unfold Ck.rbad; simp only [Bool.or_eq_true, Bool.and_eq_true, decide_eq_true_eq]; omega
            have HX : Hid (P = (0, 4)) := by show P = _; rw [← HP.out, HJ.out, if_pos hb]; rfl
            clear hb
            go_wp2
            go_ret2
            exact ⟨ret_int22 (by rw [HX.out]) (by rw [HX.out]), HBel.out⟩
        have r3 : ¬ (0 : Int) < (l.length : Int) := by omega
        have r5 : ((l.length : Int) == 3) = false := by rw [beq_eq_false_iff_ne]; omega
        have hb : ¬ Ck.rbad l N D = true := by unfold Ck.rbad; simp only [Bool.or_eq_true, Bool.and_eq_true, decide_eq_true_eq]; omega
        have hJ := HJ.out
        rw [if_neg hb] at hJ
        have HX := Lib.hid hJ
        clear hb hJ
        go_wp2_with (at_builtin; refine wpList_append_any _ rfl (.tmp 60) (.tmp 62) _ rfl w.heap.size 2 i0 _ 1 8 Tryd.underlying105 hi0 hz0 hz1 hz2 rfl (by omega) (.slice A l.length c) l.length (intCells l) rfl (HOwn.out.alloc _) (wr.heap.size + 1) (some ⟨wr.heap.size, 0, none⟩) 1 1 [.int .i64 N] rfl (reads_cells wr #[.int .i64 N] 2) (by simp [Value.oneCell']) (by simp only [maxLen]; omega) (by omega) (by have := HBel.out.size; simp; omega) ?_; intro v1 w3 hown1 hg1 hat1)
        have HOwn1 := Lib.hid (Ck.own_snoc hown1)
        have HBel1 := Lib.hid (Ck.grown64 HBel.out HOwn.out hg1)
        clear hown1 hg1 hat1
        go_roundw
        case rel => exact ⟨k + 1, l ++ [N], 0, 0, by omega, by go_num, rfl, rfl, by simp; omega, by omega, by omega, by omega, Ck.all_snoc HA.out n0 n1, fun _ => rfl, fun _ => by omega, fun _ => by omega, HOwn1.out, HBel1.out, fun _ => HX.out, fun h => absurd h (by omega)⟩
        case measure => simp [intOf]; omega
      rw [if_neg h58] at hhit
      have q5 : ((R[k].toNat : Int) == 58) = false := by rw [beq_eq_false_iff_ne]; exact h58
      by_cases hc : (R[k].toNat : Int) < 48 ∨ 57 < (R[k].toNat : Int)
      · skip
        rw [if_pos (.inl hc)] at hhit
        have HX : Hid (P = (0, 4)) := by show P = _; rw [← HP.out, hhit]; rfl
        clear hhit HK HE HO h58
        rcases hc with hc | hc
        · go_wp2
          go_ret2
          exact ⟨ret_int22 (by rw [HX.out]) (by rw [HX.out]), HBel.out⟩
        · have hc' : ¬ (R[k].toNat : Int) < 48 := by omega
          go_wp2
          go_ret2
          exact ⟨ret_int22 (by rw [HX.out]) (by rw [HX.out]), HBel.out⟩
      have hc1 : ¬ (R[k].toNat : Int) < 48 := by omega
      have hc2 : ¬ 57 < (R[k].toNat : Int) := by omega
      by_cases h3 : D = 3
      · skip
        rw [if_pos (.inr h3)] at hhit
        have r1 : ((D : Int) == 3) = true := by rw [h3]; rfl
        have HX : Hid (P = (0, 4)) := by show P = _; rw [← HP.out, hhit]; rfl
        clear hhit HK HE HO h58 hc h3
        go_wp2
        go_ret2
        exact ⟨ret_int22 (by rw [HX.out]) (by rw [HX.out]), HBel.out⟩
      rw [if_neg (fun x => by rcases x with x | x; exact hc x; exact h3 x)] at hhit
      have HX := Lib.hid hhit
      have r1 : ((D : Int) == 3) = false := by rw [beq_eq_false_iff_ne]; omega
      have c1 : 48 ≤ (R[k].toNat : Int) := by omega
      have c2 : (R[k].toNat : Int) ≤ 57 := by omega
      have d2 := HZ2.out (by omega)
      have z1 : Hid (D + 1 ≤ 1 → 10 * N + ((R[k].toNat : Int) - 48) ≤ 9) := by intro h; have := HZ0.out (by omega); omega
      have z2 : Hid (D + 1 ≤ 2 → 10 * N + ((R[k].toNat : Int) - 48) ≤ 99) := by intro h; have := HZ1.out (by omega); omega
      clear hhit HK HE HO h58 hc HZ0 HZ1 HZ2
      go_wp2
      go_roundw
      case rel => exact ⟨k + 1, l, 10 * N + ((R[k].toNat : Int) - 48), D + 1, by omega, by go_num, rfl, by go_num, hl, by omega, by omega, by omega, HA, fun h => absurd h (by omega), z1, z2, HOwn, HBel, fun _ => HX.out, fun h => absurd h (by omega)⟩
      case measure => simp [intOf]; omega
end Go.Proofs.YtkpbkgfmdjhbpaaDoor
