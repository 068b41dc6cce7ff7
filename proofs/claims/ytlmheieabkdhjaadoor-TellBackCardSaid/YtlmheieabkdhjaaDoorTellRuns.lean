/- tell.Runs: the runs of years, the first and the last one of each. -/
import Derived.Test.YtlmheieabkdhjaaDoorTellRSame
import Derived.Test.YtlmheieabkdhjaaDoorTellFollows
namespace Go.Proofs.YtlmheieabkdhjaaDoor
open Go.RowKit

namespace Te
theorem rrows_snoc (l : List Run) (p : Run) : rrows (l ++ [p]) = rrows l ++ rc p := by unfold rrows; simp
theorem rrows_len (l : List Run) : (rrows l).length = l.length * 6 := by
  induction l with
  | nil => rfl
  | cons x l ih =>
    have hx : rrows (x :: l) = rc x ++ rrows l := by unfold rrows; simp
    rw [hx, List.length_append, ih, List.length_cons, show (rc x).length = 6 from rfl]
    omega
theorem set_app {a b : List Value} {n j : Nat} (h : a.length = n) (v : Value) : (a ++ b).set (n + j) v = a ++ b.set j v := by
  subst h
  rw [List.set_append_right _ _ (by omega)]
  congr 2
  omega
theorem rrows_set (l : List Run) (a p m : M) :
    (((rrows (l ++ [(a, p)])).set (l.length * 6 + 3) (.string m.k)).set (l.length * 6 + 4) (.int .i64 m.y)).set (l.length * 6 + 5) (.int .u8 m.r) = rrows (l ++ [(a, m)]) := by
  rw [rrows_snoc, rrows_snoc, set_app (rrows_len l), set_app (rrows_len l), set_app (rrows_len l)]
  rfl
theorem addRun_len (rs : List Run) (o : Option M) (m : M) : (addRun rs o m).length ≤ rs.length + 1 := by
  unfold addRun
  cases o with
  | none => simp
  | some p =>
    simp only
    split
    · rw [List.length_append, List.length_dropLast, List.length_singleton]; omega
    · simp
theorem runsTo_len (l : List M) : ∀ k, (runsTo l k).length ≤ k
  | 0 => Nat.le_refl _
  | k + 1 => by
    have ih := runsTo_len l k
    unfold runsTo
    cases l[k]? with
    | none => simp only; omega
    | some m => have := addRun_len (runsTo l k) (if k = 0 then none else l[k - 1]?) m; simp only; omega
theorem runsTo_one {l : List M} {m : M} (h : l[0]? = some m) : runsTo l 1 = runsTo l 0 ++ [(m, m)] := by
  show (match l[0]? with
    | none => runsTo l 0
    | some m => addRun (runsTo l 0) (if 0 = 0 then none else l[0 - 1]?) m) = _
  rw [h]
  rfl
theorem runsTo_apart {l : List M} {k : Nat} {p m : M} (hk : 0 < k) (hp : l[k - 1]? = some p) (h : l[k]? = some m) (hf : goesOn p m = false) : runsTo l (k + 1) = runsTo l k ++ [(m, m)] := by
  rw [runsTo, h, if_neg (by omega), hp]
  show addRun (runsTo l k) (some p) m = _
  unfold addRun
  simp [hf]
theorem runsTo_on {l : List M} {k : Nat} {p m : M} (hk : 0 < k) (hp : l[k - 1]? = some p) (h : l[k]? = some m) (hf : goesOn p m = true) :
    ∃ rs a, runsTo l k = rs ++ [(a, p)] ∧ runsTo l (k + 1) = rs ++ [(a, m)] := by
  have hlt := (List.getElem?_eq_some_iff.1 h).1
  obtain ⟨rs, a, hrs⟩ := (runs_inv l k (by omega)).last p (by
    rw [List.getLast?_eq_getElem?, List.length_take, Nat.min_eq_left (by omega), List.getElem?_take, if_pos (by omega)]
    exact hp)
  refine ⟨rs, a, hrs, ?_⟩
  rw [runsTo, h, if_neg (by omega), hp, hrs]
  show addRun (rs ++ [(a, p)]) (some p) m = _
  unfold addRun
  simp [hf]
end Te
theorem runs_info : (Tryd.prog.info? 38).map (fun i => (i.zero, i.size, i.bytes)) = some (some (.agg #[.string ⟨#[]⟩, .int .i64 0, .int .u8 0, .string ⟨#[]⟩, .int .i64 0, .int .u8 0]), 6, 64) := by kernel_rfl
theorem reads_block (w : World) (cs : Array Value) (t : TypeId) : Reads (w.alloc (.cells cs t)) (w.heap.size + 1) cs.size (some ⟨w.heap.size, 0, none⟩) 1 cs.toList := by
  refine ⟨by simp, fun _ => ⟨_, rfl, Nat.lt_succ_self _, fun j u hu => ?_⟩⟩
  have e : (⟨w.heap.size, 0, none⟩ : Addr).add j = ⟨w.heap.size, j, none⟩ := by
    unfold Addr.add
    split
    · subst_vars; rfl
    · simp
  rw [e]
  exact (At.new w cs t).cell j u hu
theorem add_zero_off (g j : Nat) : (⟨g, 0, none⟩ : Addr).add j = ⟨g, j, none⟩ := by
  unfold Addr.add
  split
  · subst_vars; rfl
  · simp
/-- Where tell.Runs stands at a round's begin. -/
structure RnAt (l : List Te.M) (w : World) (v i : Value) (wr : World) : Prop where
  st : ∃ k : Nat, k ≤ l.length ∧ i = .int .i64 k ∧ wr.ownsRow w.heap.size 38 6 v (Te.runsTo l k).length (Te.rrows (Te.runsTo l k))
  below : Below w.heap.size w wr
/-- What tell.Runs hands back. -/
def Te.RnRet (l : List Te.M) (w : World) (e : Ending) (w' : World) : Prop :=
  (∃ A' c', e = .returned (.slice A' (Te.runs l).length c') ∧ Reads w' w'.heap.size 6 A' (Te.runs l).length (Te.rrows (Te.runs l))) ∧ Below w.heap.size w w'
theorem below_of_drewN {B k : Nat} {a w : World} (h : Below B (a.drewN k) w) : Below B a w := ⟨h.os, h.tape, h.output, h.size, h.block⟩
theorem size_le_alloc {w wr : World} (h : Below w.heap.size w wr) (o : Obj) : w.heap.size ≤ (wr.alloc o).heap.size := by rw [World.size_alloc]; have := h.size; omega
theorem runs_append {ops : Array Oper} {rest : List Oper} {o : Oper} {a : Act} {Q : Exit → Act → World → Prop} (W : World) (B : Nat) (rs : List Te.Run) (v : Value) (k : ByteArray) (y : Int) (r : Nat)
    (hO : W.ownsRow B 38 6 v rs.length (Te.rrows rs)) (hl : rs.length ≤ 1000000) (hB : B ≤ W.heap.size) (hgd : o.guard = none)
    (ho : o.op = .call { callee := .builtin .append, args := #[.tmp 31, .tmp 35], argTypes := #[33, 33] }) (hs : a.eval (.tmp 31) = v) (hx : a.eval (.tmp 35) = .slice (some ⟨W.heap.size, 0, none⟩) 1 1)
    (h : ∀ v' w', w'.ownsRow B 38 6 v' (rs ++ [((⟨k, y, r⟩ : Te.M), (⟨k, y, r⟩ : Te.M))]).length (Te.rrows (rs ++ [((⟨k, y, r⟩ : Te.M), (⟨k, y, r⟩ : Te.M))])) → Below B W w' → wpList Tryd.prog ops Q rest (a.put o.dst v') w') :
    wpList Tryd.prog ops Q (o :: rest) a (W.alloc (.cells #[.string k, .int .i64 y, .int .u8 r, .string k, .int .i64 y, .int .u8 r] 38)) := by
  obtain ⟨i0, hi0, hz0, hz1, hz2⟩ : ∃ i, Tryd.prog.info? 38 = some i ∧ i.zero = some (.agg #[.string ⟨#[]⟩, .int .i64 0, .int .u8 0, .string ⟨#[]⟩, .int .i64 0, .int .u8 0]) ∧ i.size = 6 ∧ i.bytes = 64 := by
    have h := runs_info
    cases hc : Tryd.prog.info? 38 with
    | none => rw [hc] at h; cases h
    | some i =>
      rw [hc] at h
      simp only [Option.map_some, Option.some.injEq, Prod.mk.injEq] at h
      exact ⟨i, rfl, h.1, h.2.1, h.2.2⟩
  have hR := reads_block W #[.string k, .int .i64 y, .int .u8 r, .string k, .int .i64 y, .int .u8 r] 38
  refine wpList_append_any (P := Tryd.prog) _ hgd (.tmp 31) (.tmp 35) 33 ho B 38 i0 _ 6 64 Tryd.underlying33 hi0 hz0 hz1 hz2 rfl (by omega) v rs.length (Te.rrows rs) hs (hO.alloc _) (W.heap.size + 1) _ 1 1 _ hx hR (by simp [Value.oneCell']) (by unfold maxLen; omega) (by omega) (by rw [World.size_alloc]; omega) ?_
  intro v' w' hown hg _
  refine h v' w' ?_ (((Below.refl B W).alloc hB _).grown hg (by rw [World.size_alloc]; omega) (fun g e => (hO.lt g e).1))
  rw [List.length_append, List.length_singleton, Te.rrows_snoc]
  exact hown
set_option maxHeartbeats 8000000 in
set_option maxRecDepth 100000 in
theorem tellRuns_any (A : Option Addr) (n c : Nat) (l : List Te.M) (w : World) (hn : l.length = n) (hn6 : n ≤ 1000000) (hy : ∀ m ∈ l, -9223372036854775808 ≤ m.y ∧ m.y ≤ 9223372036854775807) (hr : Reads w w.heap.size 3 A n (Te.rows l)) :
    Calls Tryd.prog 9 #[.slice A n c] w (Te.RnRet l w) := by
  have HN := Lib.hid hn
  have HY := Lib.hid hy
  have HR := Lib.hid hr
  clear hn hy hr
  go_enter Tryd.func9, Tryd.ntmps9
  go_wp2
  go_loopw [3, 8] (fun v i wr => RnAt l w v i wr) (fun _ i _ => n - (intOf i).toNat)
  case atStart => exact ⟨⟨0, Nat.zero_le _, rfl, World.ownsRow_nil _ _ _ _⟩, Below.refl _ _⟩
  case round =>
    obtain ⟨⟨k, hk, rfl, hO⟩, hB⟩ := hrel
    have hrl := Te.runsTo_len l k
    have HB := Lib.hid hB
    by_cases hlt : k < n
    · obtain ⟨m, hm⟩ : ∃ m, l[k]? = some m := ⟨_, List.getElem?_eq_getElem (by rw [HN.out]; exact hlt)⟩
      obtain ⟨ad, rfl, hab, c0, c1, c2⟩ := Te.row_cells (HR.out.below HB.out) hm hlt
      have q1 : (0 : Int) ≤ (k : Int) := by omega
      have q2 : (k : Int) < (n : Int) := by omega
      have HAt := Lib.hid (At.new wr #[.string m.k, .int .i64 m.y, .int .u8 m.r] 37)
      have HBa := Lib.hid (HB.out.alloc HB.out.size (.cells #[.string m.k, .int .i64 m.y, .int .u8 m.r] 37))
      have HOa := Lib.hid (hO.alloc (.cells #[.string m.k, .int .i64 m.y, .int .u8 m.r] 37))
      have HOl := Lib.hid hO.lt
      have hM := hm
      rcases Nat.eq_zero_or_pos k with h0 | h0
      · have HKl : Hid (Te.runsTo l (k + 1) = Te.runsTo l k ++ [(m, m)]) := by
          show Te.runsTo l (k + 1) = _
          subst h0
          exact Te.runsTo_one hM
        have q0 : ¬ 0 < k := by omega
        have qd : decide (0 < k) = false := by simpa using h0
        obtain ⟨rs, hrs⟩ : ∃ rs, Te.runsTo l k = rs := ⟨_, rfl⟩
        obtain ⟨kk, y, r⟩ := m
        simp only at c0 c1 c2 HAt HBa HOa
        rw [hrs] at hrl HOa HKl
        obtain ⟨W1, hW1⟩ : ∃ W, World.alloc wr (.cells #[.string kk, .int .i64 y, .int .u8 r] 37) = W := ⟨_, rfl⟩
        clear hrs hM hm hO hB h0
        have HW1 := Lib.hid hW1
        rw [hW1] at HAt HBa HOa
        clear hW1
        obtain ⟨m0, m1, m2, _, _, _⟩ := HAt.out.three
        have hrl6 : rs.length ≤ 1000000 := by omega
        have hB1 := HBa.out.size
        go_wp2_with fail
        rw [HW1.out]
        go_quiet (fail)
        go_wp2_with (at_builtin; refine runs_append _ w.heap.size rs _ kk y r HOa.out hrl6 hB1 rfl rfl rfl rfl ?_; intro v9 w9 hown9 hb9)
        go_roundw
        case rel => exact ⟨⟨k + 1, by rw [HN.out]; omega, by go_num, by rw [HKl.out]; exact hown9⟩, HBa.out.trans (below_of_drewN hb9)⟩
        case measure => simp [intOf]; omega
      · obtain ⟨p, hp⟩ : ∃ m, l[k - 1]? = some m := ⟨_, List.getElem?_eq_getElem (by rw [HN.out]; omega)⟩
        obtain ⟨ad', ead, _, d0, d1, d2⟩ := Te.row_cells (HR.out.below HBa.out) hp (by omega)
        injection ead with ead
        subst ead
        obtain ⟨b, hb⟩ : ∃ b, Te.goesOn p m = b := ⟨_, rfl⟩
        have HF : Hid (∀ W, Calls Tryd.prog 19 #[Te.mv p, Te.mv m] W fun e w' => e = .returned (.bool b) ∧ Below W.heap.size W w') := fun W => by
          have h := tellFollows_any p m W (HY.out p (List.mem_of_getElem? hp)).1 (HY.out m (List.mem_of_getElem? hm)).2
          rw [show Te.follows p m = b from hb] at h
          exact h
        have HKl : Hid (b = false → Te.runsTo l (k + 1) = Te.runsTo l k ++ [(m, m)]) := fun e => Te.runsTo_apart h0 hp hM (hb.trans e)
        have HKo : Hid (b = true → ∃ rs a, Te.runsTo l k = rs ++ [(a, p)] ∧ Te.runsTo l (k + 1) = rs ++ [(a, m)]) := fun e => Te.runsTo_on h0 hp hM (hb.trans e)
        have zA : (ad.add ((k - 1) * 3)).block < (wr.alloc (.cells #[.string m.k, .int .i64 m.y, .int .u8 m.r] 37)).heap.size := by
          rw [block_of_add, World.size_alloc]
          have := HB.out.size
          omega
        obtain ⟨rs, hrs⟩ : ∃ rs, Te.runsTo l k = rs := ⟨_, rfl⟩
        obtain ⟨kk, y, r⟩ := m
        obtain ⟨pk, py, pr⟩ := p
        unfold Te.mv at HF
        simp only at c0 c1 c2 d0 d1 d2 HAt HBa HOa HF zA
        rw [hrs] at hrl HOa HKl HKo
        have zM := HAt.out.lt
        obtain ⟨W1, hW1⟩ : ∃ W, World.alloc wr (.cells #[.string kk, .int .i64 y, .int .u8 r] 37) = W := ⟨_, rfl⟩
        have qd : decide (0 < k) = true := by simpa using h0
        have q0 : 0 < k := h0
        clear hrs hM hm hO hB h0 hb hp
        have HW1 := Lib.hid hW1
        rw [hW1] at HAt HBa HOa d0 d1 d2 zA zM
        clear hW1
        obtain ⟨m0, m1, m2, _, _, _⟩ := HAt.out.three
        have hrl6 : rs.length ≤ 1000000 := by omega
        have hB1 := HBa.out.size
        have k1 : IntKind.i64.wrap ((k : Int) - 1) = (k : Int) - 1 := by rw [IntKind.wrap_i64]; omega
        have k2 : ((k : Int) - 1).toNat = k - 1 := by omega
        have k3 : (0 : Int) ≤ (k : Int) - 1 := by omega
        have k5 : (1 : Int) ≤ (k : Int) := by omega
        have k4 : (k : Int) - 1 < (n : Int) := by omega
        go_wp2_with fail
        rw [HW1.out]

        go_region_held3 (fun w' => w'.cell? (ad.add ((k - 1) * 3)) = some (.string pk) ∧ w'.cell? ⟨(ad.add ((k - 1) * 3)).block, (ad.add ((k - 1) * 3)).off + 1, none⟩ = some (.int .i64 py) ∧ w'.cell? ⟨(ad.add ((k - 1) * 3)).block, (ad.add ((k - 1) * 3)).off + 2, none⟩ = some (.int .u8 pr) ∧ w'.cell? ⟨wr.heap.size, 0, none⟩ = some (.string kk) ∧ w'.cell? ⟨wr.heap.size, 1, none⟩ = some (.int .i64 y) ∧ w'.cell? ⟨wr.heap.size, 2, none⟩ = some (.int .u8 r)) (first | exact ⟨d0, d1, d2, m0, m1, m2⟩ | exact ⟨by assumption, by assumption, by assumption, by assumption, by assumption, by assumption⟩)
          (first | (go_at_call 19; refine (HF.out _).mono ?_; rintro e w' ⟨rfl, hb2⟩; have d0' := (hb2.cell (p := ad.add ((k - 1) * 3)) zA).trans d0; have d1' := (hb2.cell (p := ⟨(ad.add ((k - 1) * 3)).block, _, none⟩) zA).trans d1; have d2' := (hb2.cell (p := ⟨(ad.add ((k - 1) * 3)).block, _, none⟩) zA).trans d2; have m0' := (hb2.cell (p := ⟨wr.heap.size, 0, none⟩) zM).trans m0; have m1' := (hb2.cell (p := ⟨wr.heap.size, 1, none⟩) zM).trans m1; have m2' := (hb2.cell (p := ⟨wr.heap.size, 2, none⟩) zM).trans m2))
        all_goals
          have HB2 := Lib.hid (HBa.out.trans (below_of_drewN (k := 1) hb2 |>.mono hB1))
          have HO2 := Lib.hid (HOa.out.kept (grown_of_below (below_of_drewN (k := 1) hb2) none) (by cases u3.ownBlock <;> simp))
          have hB2 := HB2.out.size
          have zM2 : wr.heap.size < w'.heap.size := Nat.lt_of_lt_of_le zM hb2.size
          clear hb2 HBa HOa HAt HF
          cases b with
          | false =>
            have HK := Lib.hid (HKl.out rfl)
            clear HKl HKo
            go_wp2_with (at_builtin; refine runs_append _ w.heap.size rs _ kk y r HO2.out hrl6 hB2 rfl rfl rfl rfl ?_; intro v9 w9 hown9 hb9)
            go_roundw
            case rel => exact ⟨⟨k + 1, by rw [HN.out]; omega, by go_num, by rw [HK.out]; exact hown9⟩, HB2.out.trans hb9⟩
            case measure => simp [intOf]; omega
          | true =>
            obtain ⟨rs', a, hk1, hk2⟩ := HKo.out rfl
            have HK := Lib.hid hk2
            have hO3 := HO2.out
            rw [hk1, List.length_append, List.length_singleton] at hO3
            obtain ⟨g, cap, rfl, hBg, hgl⟩ := hO3.form (by omega)
            have s1 := hO3.stored (rs'.length * 6 + 3) (.string kk)
            have s2 := s1.1.stored (rs'.length * 6 + 4) (.int .i64 y)
            have s3 := (s2.1.stored (rs'.length * 6 + 5) (.int .u8 r)).1
            rw [Te.rrows_set rs' a ⟨pk, py, pr⟩ ⟨kk, y, r⟩] at s3
            clear s1 s2
            have f3 := hO3.frozenAt (rs'.length * 6 + 3)
            have f4 := hO3.frozenAt (rs'.length * 6 + 4)
            have f5 := hO3.frozenAt (rs'.length * 6 + 5)
            have e3 : w'.cell? ⟨g, rs'.length * 6 + 3, none⟩ = some (.string pk) := by rw [hO3.cellAt _ (by omega), Te.rrows_snoc, List.getElem?_append_right (by rw [Te.rrows_len]; omega), Te.rrows_len, Nat.add_sub_cancel_left]; rfl
            have e4 : w'.cell? ⟨g, rs'.length * 6 + 4, none⟩ = some (.int .i64 py) := by rw [hO3.cellAt _ (by omega), Te.rrows_snoc, List.getElem?_append_right (by rw [Te.rrows_len]; omega), Te.rrows_len, Nat.add_sub_cancel_left]; rfl
            have e5 : w'.cell? ⟨g, rs'.length * 6 + 5, none⟩ = some (.int .u8 pr) := by rw [hO3.cellAt _ (by omega), Te.rrows_snoc, List.getElem?_append_right (by rw [Te.rrows_len]; omega), Te.rrows_len, Nat.add_sub_cancel_left]; rfl
            have hN6 : rs'.length + 1 ≤ 1000000 := by
              have := congrArg List.length hk1
              rw [List.length_append, List.length_singleton] at this
              omega
            have HK2 : Hid (∃ R, Te.runsTo l (k + 1) = R ∧ R.length = rs'.length + 1 ∧ Te.rrows R = Te.rrows (rs' ++ [(a, (⟨kk, y, r⟩ : Te.M))])) := ⟨_, hk2, by rw [List.length_append, List.length_singleton], rfl⟩
            obtain ⟨RR, hRR⟩ : ∃ R, Te.rrows (rs' ++ [(a, (⟨kk, y, r⟩ : Te.M))]) = R := ⟨_, rfl⟩
            rw [hRR] at HK2 s3
            obtain ⟨N, hN⟩ : ∃ N, rs'.length = N := ⟨_, rfl⟩
            rw [hN] at HK2 s3 f3 f4 f5 e3 e4 e5 hN6 ⊢
            rw [← add_zero_off g (N * 6 + 3)] at s3
            have hS : ∀ j, (⟨g, N * 6 + j, none⟩ : Addr) = ⟨((⟨g, 0, none⟩ : Addr).add (N * 6)).block, ((⟨g, 0, none⟩ : Addr).add (N * 6)).off + j, none⟩ := fun j => by rw [add_zero_off]
            have zg : w.heap.size ≤ ((⟨g, 0, none⟩ : Addr).add (N * 6)).block := by rw [add_zero_off]; exact hBg
            rw [add_zero_off] at s3
            rw [hS 3, hS 4, hS 5] at s3
            rw [hS 3] at f3 e3
            rw [hS 4] at f4 e4
            rw [hS 5] at f5 e5
            have HS := Lib.hid s3
            have zne : ¬ ((⟨g, 0, none⟩ : Addr).add (N * 6)).block = wr.heap.size := by
              rw [add_zero_off]
              intro e
              have := HOl.out g rfl
              simp only at e
              omega
            clear hO3 hk1 hk2 hRR hN hS HK HKo HKl HO2 s3 hBg hgl
            obtain ⟨pg, hpg⟩ : ∃ p : Addr, (⟨g, 0, none⟩ : Addr) = p := ⟨_, rfl⟩
            have HPg := Lib.hid hpg
            rw [hpg] at HS zg f3 f4 f5 e3 e4 e5 zne
            clear hpg
            have n1 : IntKind.i64.wrap ((N : Int) + 1 - 1) = (N : Int) := by rw [IntKind.wrap_i64]; omega
            have n2 : IntKind.i64.wrap (N : Int) = (N : Int) := by rw [IntKind.wrap_i64]; omega
            have n4 : wrap64 (N : Int) = (N : Int) := by unfold wrap64; omega
            have n3 : (N : Int) < (N : Int) + 1 := by omega
            go_wp2_with fail
            rw [HPg.out]
            go_region
            all_goals
              go_wp2
              go_roundw
              case rel =>
                obtain ⟨R, hR, hl, hr⟩ := HK2.out
                exact ⟨⟨k + 1, by rw [HN.out]; omega, by go_num, by rw [hR, hl, hr]; exact HS.out⟩, below_drewN (((HB2.out.setCell (p := ⟨(pg.add (N * 6)).block, _, none⟩) zg _).setCell (p := ⟨(pg.add (N * 6)).block, _, none⟩) zg _).setCell (p := ⟨(pg.add (N * 6)).block, _, none⟩) zg _) 1⟩
              case measure => simp [intOf]; omega
    · have q2 : ¬ (k : Int) < (n : Int) := by omega
      have hkn : k = l.length := by have := HN.out; omega
      subst hkn
      obtain ⟨A', c', rfl, _⟩ := own_slice hO
      have HO := Lib.hid hO
      clear hO hB
      go_wp2
      refine bodyPost_ret (v := .slice A' (Te.runsTo l l.length).length c') (by simp [results, Tryd.results9, go_sem, *]) rfl ?_
      exact ⟨⟨A', c', rfl, Reads.of_own HO.out⟩, HB.out⟩
end Go.Proofs.YtlmheieabkdhjaaDoor
