/- chart.shared: whether a zone's name has two keys. -/
import Derived.Test.YtajcgoinhpengaaDoorP21
import Derived.Deep.QuietTactic
import Derived.BigQuiet
import Derived.Test.YtajcgoinhpengaaDoorP04

namespace Go.Proofs.YtajcgoinhpengaaDoor
open Go.RowKit

namespace Ca
/-- What the map of chart.shared holds. -/
def of (fl : List (Nat × ByteArray)) : Mp.Fn := fun s => (owner fl s).map fun (n : Nat) => Value.int .i64 (n : Int)
theorem of_nil : of [] = fun _ => none := rfl
theorem owner_snoc (fl : List (Nat × ByteArray)) (p : Nat × ByteArray) (s : ByteArray) : owner (fl ++ [p]) s = match owner fl s with
    | some j => some j
    | none => if p.2 = s then some p.1 else none := by
  unfold owner
  rw [List.find?_append]
  cases h : fl.find? fun q => decide (q.2 = s) with
  | some q => rfl
  | none =>
    simp only [Option.none_or, Option.map_none]
    by_cases e : p.2 = s
    · simp [e]
    · simp [e]
theorem of_new {fl : List (Nat × ByteArray)} {i : Nat} {z : ByteArray} (h : owner fl z = none) : Mp.put (of fl) z (.int .i64 (i : Int)) = of (fl ++ [(i, z)]) := by
  funext s
  unfold Mp.put of
  rw [owner_snoc]
  by_cases e : s = z
  · rw [if_pos e, e, h]
    simp
  · rw [if_neg e]
    cases owner fl s with
    | some j => rfl
    | none => simp [Ne.symm e]
theorem of_old {fl : List (Nat × ByteArray)} {i j : Nat} {z : ByteArray} (h : owner fl z = some j) : of (fl ++ [(i, z)]) = of fl := by
  funext s
  unfold of
  rw [owner_snoc]
  cases hs : owner fl s with
  | some q => rfl
  | none =>
    have : ¬ z = s := fun e => by rw [← e, h] at hs; cases hs
    simp [this]
theorem owner_app {fl : List (Nat × ByteArray)} {z : ByteArray} {j : Nat} (h : owner fl z = some j) (r : List (Nat × ByteArray)) : owner (fl ++ r) z = some j := by
  unfold owner at h ⊢
  rw [List.find?_append]
  cases hf : fl.find? fun q => decide (q.2 = z) with
  | some q => rw [hf] at h; simpa using h
  | none => rw [hf] at h; cases h
/-- No clash so far. -/
def Calm (l : List E) (fl : List (Nat × ByteArray)) : Prop := ∀ p ∈ fl, clash l fl p = false
theorem owner_mem {fl : List (Nat × ByteArray)} {p : Nat × ByteArray} (h : p ∈ fl) : ∃ j, owner fl p.2 = some j := by
  unfold owner
  cases hf : fl.find? fun q => decide (q.2 = p.2) with
  | some q => exact ⟨q.1, rfl⟩
  | none =>
    have := List.find?_eq_none.1 hf p h
    simp at this
theorem Calm.new {l : List E} {fl : List (Nat × ByteArray)} {i : Nat} {z : ByteArray} (h : Calm l fl) (hn : ∀ j, owner fl z = some j → keyAt l j = keyAt l i) : Calm l (fl ++ [(i, z)]) := by
  intro p hp
  rcases List.mem_append.1 hp with hp | hp
  · have h1 := h p hp
    obtain ⟨j, hj⟩ := owner_mem hp
    unfold clash at h1 ⊢
    rw [owner_app hj]
    rw [hj] at h1
    exact h1
  · rw [List.mem_singleton.1 hp]
    unfold clash
    rw [owner_snoc]
    cases ho : owner fl z with
    | some j =>
      simp only [decide_eq_false_iff_not, Decidable.not_not]
      exact hn j ho
    | none => simp
theorem shared_no {l : List E} (h : Calm l (flat l 0)) : shared l = false := by
  unfold shared
  rw [List.any_eq_false]
  intro p hp
  rw [h p hp]
  simp
theorem shared_yes {l : List E} {fl r : List (Nat × ByteArray)} {i j : Nat} {z : ByteArray} (he : flat l 0 = fl ++ (i, z) :: r) (ho : owner fl z = some j) (hk : keyAt l j ≠ keyAt l i) : shared l = true := by
  unfold shared
  rw [List.any_eq_true]
  refine ⟨(i, z), by rw [he]; simp, ?_⟩
  unfold clash
  rw [he, owner_app ho]
  simpa using hk
theorem flat_app : ∀ (a b : List E) (i : Nat), flat (a ++ b) i = flat a i ++ flat b (i + a.length)
  | [], b, i => by simp [flat]
  | e :: a, b, i => by
    rw [List.cons_append, flat, flat, flat_app a b (i + 1), List.append_assoc, List.length_cons]
    rw [show i + 1 + a.length = i + (a.length + 1) by omega]
/-- What has come when m zones of the entry at k are over. -/
def come (l : List E) (k m : Nat) (zs : List ByteArray) : List (Nat × ByteArray) := flat (l.take k) 0 ++ (zs.take m).map fun z => (k, z)
theorem come_zero (l : List E) (k : Nat) (zs : List ByteArray) : come l k 0 zs = flat (l.take k) 0 := by unfold come; simp
theorem come_next {l : List E} {k m : Nat} {zs : List ByteArray} {z : ByteArray} (h : zs[m]? = some z) : come l k (m + 1) zs = come l k m zs ++ [(k, z)] := by
  unfold come
  rw [take_next h, List.map_append, List.append_assoc]
  rfl
theorem come_all {l : List E} {k : Nat} {x : E} (h : l[k]? = some x) : come l k x.zones.length x.zones = flat (l.take (k + 1)) 0 := by
  have hk : k < l.length := (List.getElem?_eq_some_iff.1 h).1
  unfold come
  rw [take_next h, flat_app, List.take_of_length_le (Nat.le_refl _)]
  congr 1
  rw [List.length_take, Nat.zero_add, Nat.min_eq_left (by omega)]
  unfold flat
  unfold flat
  simp
theorem come_split {l : List E} {k m : Nat} {x : E} {z : ByteArray} (h : l[k]? = some x) (hz : x.zones[m]? = some z) : ∃ r, flat l 0 = come l k m x.zones ++ (k, z) :: r := by
  have hk : k < l.length := (List.getElem?_eq_some_iff.1 h).1
  have e1 : l = l.take (k + 1) ++ l.drop (k + 1) := (List.take_append_drop _ _).symm
  have e2 : x.zones = x.zones.take (m + 1) ++ x.zones.drop (m + 1) := (List.take_append_drop _ _).symm
  have e3 : come l k x.zones.length x.zones = come l k (m + 1) x.zones ++ (x.zones.drop (m + 1)).map fun z => (k, z) := by
    unfold come
    rw [List.append_assoc, ← List.map_append, List.take_append_drop, List.take_of_length_le (Nat.le_refl _)]
  refine ⟨(x.zones.drop (m + 1)).map (fun z => (k, z)) ++ flat (l.drop (k + 1)) (0 + (l.take (k + 1)).length), ?_⟩
  rw [e1]
  rw [flat_app, ← e1, ← come_all h, e3, come_next hz]
  simp
theorem come_len {l : List E} {k m : Nat} {zs : List ByteArray} (h : ∀ e ∈ l, e.zones.length ≤ 32) (hm : (zs.take m).length ≤ 32) : (come l k m zs).length ≤ l.length * 32 + 32 := by
  unfold come
  have hf : ∀ (a : List E) (i : Nat), (∀ e ∈ a, e.zones.length ≤ 32) → (flat a i).length ≤ a.length * 32 := by
    intro a
    induction a with
    | nil => intro i _; simp [flat]
    | cons e a ih =>
      intro i ha
      unfold flat
      rw [List.length_append, List.length_map, List.length_cons]
      have h1 := ha e List.mem_cons_self
      have h2 := ih (i + 1) (fun x hx => ha x (List.mem_cons_of_mem _ hx))
      omega
  have h1 := hf (l.take k) 0 (fun e he => h e (List.mem_of_mem_take he))
  rw [List.length_append, List.length_map]
  have h2 : (l.take k).length ≤ l.length := by rw [List.length_take]; omega
  have h3 : (l.take k).length * 32 ≤ l.length * 32 := Nat.mul_le_mul_right _ h2
  omega
theorem owner_lt {l : List E} {k m : Nat} {x : E} {z : ByteArray} {j : Nat} (h : l[k]? = some x) (ho : owner (come l k m x.zones) z = some j) : j < l.length := by
  have hk : k < l.length := (List.getElem?_eq_some_iff.1 h).1
  unfold owner at ho
  cases hf : (come l k m x.zones).find? fun q => decide (q.2 = z) with
  | none => rw [hf] at ho; cases ho
  | some q =>
    rw [hf] at ho
    have hq : q.1 = j := by simpa using ho
    have hm := List.mem_of_find?_eq_some hf
    unfold come at hm
    rcases List.mem_append.1 hm with hm | hm
    · obtain ⟨i, e, h1, h2, _⟩ := (flat_mem _ 0 q.1 q.2).1 hm
      have h3 := (List.getElem?_eq_some_iff.1 h1).1
      rw [List.length_take] at h3
      omega
    · obtain ⟨y, _, hy⟩ := List.mem_map.1 hm
      rw [← hq, ← hy]
      exact hk
end Ca
set_option maxHeartbeats 4000000 in
set_option maxRecDepth 100000 in
theorem caShared_any (l : List Ca.E) (A : Option Addr) (n c : Nat) (evs : List Value) (w : World) (hR : Ca.EntR w w.heap.size l (.slice A n c) evs) (hl : l.length = n) (hW : Ca.Wd l) (hz : ∀ e ∈ l, e.zones.length ≤ 32) :
    Calls Tryd.prog 25 #[.slice A n c] w fun e w' => e = .returned (.bool (Ca.shared l)) ∧ Below w.heap.size w w' := by
  have hn : n ≤ 4096 := by rw [← hl]; exact hW.n
  obtain ⟨X, hX⟩ : ∃ X, Ca.shared l = X := ⟨_, rfl⟩
  rw [hX]
  obtain ⟨bm, hbm⟩ : ∃ b, w.heap.size = b := ⟨_, rfl⟩
  obtain ⟨W0, hW0⟩ : ∃ W, w.alloc (.map #[] 0) = W := ⟨_, rfl⟩
  have hB0 : Below w.heap.size w W0 := by rw [← hW0]; exact bal1 _ _
  have hM0 : MapF Tryd.prog 9 W0 bm 0 (Ca.of []) := by
    rw [← hW0, ← hbm]
    exact MapF.made w
  have HR := Lib.hid hR
  have HL := Lib.hid hl
  have HW := Lib.hid hW
  have HZ := Lib.hid hz
  have HX := Lib.hid hX
  have HB0 := Lib.hid hB0
  have HM0 := Lib.hid hM0
  have HBm := Lib.hid hbm
  have HW0 := Lib.hid hW0
  clear hR hl hW hX hB0 hM0 hbm hW0 hz
  have hmk := make_int (n : Int)
  go_enter Tryd.func25, Tryd.ntmps25
  go_wp2_with fail
  rw [HW0.out, HBm.out]
  go_loopw [15] (fun i wr => ∃ k : Nat, k ≤ n ∧ i = .int .i64 (k : Int) ∧ Hid (Below w.heap.size w wr) ∧ Hid (MapF Tryd.prog 9 wr bm (Ca.flat (l.take k) 0).length (Ca.of (Ca.flat (l.take k) 0))) ∧ Hid (Ca.Calm l (Ca.flat (l.take k) 0))) (fun i _ => n - (intOf i).toNat)
  case atStart => exact ⟨0, Nat.zero_le _, rfl, HB0.out, HM0.out, fun p hp => by cases hp⟩
  case round =>
    clear hmk
    obtain ⟨k, hk, rfl, HB, HM, HC⟩ := hrel
    by_cases hlt : k < n
    · have q1 : (0 : Int) ≤ (k : Int) := by omega
      have q2 : (k : Int) < (n : Int) := by omega
      obtain ⟨ad, x, zA, mm, zc, hAe, hab, Hx, c0', c1', c2', HZl, hz1, hz2, HZr, HEv⟩ := HR.out.at_ HL.out hlt
      subst hAe
      have c0 := (HB.out.cell (p := ad.add (k * 3)) (by rw [block_of_add]; exact hab)).trans c0'
      have c1 := (HB.out.cell (p := ⟨(ad.add (k * 3)).block, (ad.add (k * 3)).off + 1, none⟩) (by show (ad.add (k * 3)).block < _; rw [block_of_add]; exact hab)).trans c1'
      have c2 := (HB.out.cell (p := ⟨(ad.add (k * 3)).block, (ad.add (k * 3)).off + 2, none⟩) (by show (ad.add (k * 3)).block < _; rw [block_of_add]; exact hab)).trans c2'
      obtain ⟨h1, h2, h3⟩ := HW.out.all x (List.mem_of_getElem? Hx.out)
      have hm32 : mm ≤ 32 := by rw [← HZl.out]; exact HZ.out x (List.mem_of_getElem? Hx.out)
      have H3 := Lib.hid h3
      obtain ⟨G, hG⟩ : ∃ G, wr.heap.size = G := ⟨_, rfl⟩
      have hGb : bm < G := by rw [← hG]; exact HM.out.lt
      have HBe := Lib.hid (bal HB.out (.cells #[.string x.key, .string x.terr, .slice zA mm zc] 45))
      have HMe : Hid (MapF Tryd.prog 9 (wr.alloc (.cells #[.string x.key, .string x.terr, .slice zA mm zc] 45)) bm (Ca.come l k 0 x.zones).length (Ca.of (Ca.come l k 0 x.zones))) := by
        show MapF _ _ _ _ _ _
        rw [Ca.come_zero]
        exact HM.out.alloc _
      have HCe : Hid (Ca.Calm l (Ca.come l k 0 x.zones)) := by
        show Ca.Calm _ _
        rw [Ca.come_zero]
        exact HC.out
      have HAe : Hid (At (wr.alloc (.cells #[.string x.key, .string x.terr, .slice zA mm zc] 45)) G [.string x.key, .string x.terr, .slice zA mm zc]) := by
        show At _ _ _
        rw [← hG]
        exact At.new _ _ _
      have HG := Lib.hid hG
      clear c0' c1' c2' h3 h1 h2 HEv HM HC hG
      go_wp2_with fail
      rw [HG.out]
      go_loopw [23] (fun i wi => ∃ m : Nat, m ≤ mm ∧ i = .int .i64 (m : Int) ∧ Hid (Below w.heap.size w wi) ∧ Hid (MapF Tryd.prog 9 wi bm (Ca.come l k m x.zones).length (Ca.of (Ca.come l k m x.zones))) ∧ Hid (Ca.Calm l (Ca.come l k m x.zones)) ∧ Hid (At wi G [.string x.key, .string x.terr, .slice zA mm zc])) (fun i _ => mm - (intOf i).toNat)
      case atStart => exact ⟨0, Nat.zero_le _, rfl, HBe.out, HMe.out, HCe.out, HAe.out⟩
      case round =>
        clear c0 c1 c2 HBe HMe HCe HAe HB
        obtain ⟨m, hm, rfl, HB, HM, HC, HA⟩ := hrel
        by_cases hlt2 : m < mm
        · have q3 : (0 : Int) ≤ (m : Int) := by omega
          have q4 : (m : Int) < (mm : Int) := by omega
          obtain ⟨ad2, z, hzA, Hz, hcell⟩ : ∃ ad2 nm, zA = some ad2 ∧ Hid (x.zones[m]? = some nm) ∧ wr.cell? (ad2.add m) = some (.string nm) := reads_str (HZr.out.below HB.out) hlt2
          subst hzA
          have hzs := H3.out z (List.mem_of_getElem? Hz.out)
          have HN := Lib.hid (Ca.come_next (l := l) (k := k) Hz.out)
          have hpl : (Ca.come l k m x.zones).length < maxLen := by
            have h := Ca.come_len (l := l) (k := k) (m := m) (zs := x.zones) HZ.out (by rw [List.length_take, HZl.out]; omega)
            rw [HL.out] at h
            unfold maxLen
            omega
          have HPl := Lib.hid hpl
          cases ho : Ca.owner (Ca.come l k m x.zones) z with
          | none =>
            have hu : (Ca.of (Ca.come l k m x.zones) z).getD (.int .i64 0) = .int .i64 0 := by unfold Ca.of; rw [ho]; rfl
            have hq : (Ca.of (Ca.come l k m x.zones) z).isSome = false := by unfold Ca.of; rw [ho]; rfl
            have HNw := Lib.hid (Ca.of_new (i := k) ho)
            have HCn := Lib.hid (HC.out.new (i := k) (z := z) (fun j hj => by rw [ho] at hj; cases hj))
            clear ho hpl
            go_wp2_with (first | (at_lookup; refine look_num _ rfl _ _ bm _ _ z hzs rfl rfl rfl HM.out _ hu false hq ?_) | (at_mapUpdate; refine store_num _ rfl _ _ _ bm _ _ z hzs HPl.out (k : Int) rfl rfl rfl rfl HM.out ?_; intro w3 hM3 hg3; have HM3 := Lib.hid hM3; have HG3 := Lib.hid hg3; clear hM3 hg3))
            go_roundw
            case rel => exact ⟨m + 1, by omega, by go_num, HB.out.grown HG3.out HB.out.size (fun j e => by cases e; exact Nat.le_of_eq HBm.out), by show MapF _ _ _ _ _ _; rw [HN.out, ← HNw.out, List.length_append]; exact HM3.out, by show Ca.Calm _ _; rw [HN.out]; exact HCn.out, Sc.At.grownO HA.out HG3.out (fun j e => by cases e; omega)⟩
            case measure => simp [intOf]; omega
          | some j =>
            have hu : (Ca.of (Ca.come l k m x.zones) z).getD (.int .i64 0) = .int .i64 (j : Int) := by unfold Ca.of; rw [ho]; rfl
            have hq : (Ca.of (Ca.come l k m x.zones) z).isSome = true := by unfold Ca.of; rw [ho]; rfl
            have hj : j < n := by rw [← HL.out]; exact Ca.owner_lt Hx.out ho
            have HOl := Lib.hid (Ca.of_old (i := k) ho)
            obtain ⟨ad3, y, yA, ym, yc, hAy, hay, Hy, y0', _, _, _, _, _, _, _⟩ := HR.out.at_ HL.out hj
            injection hAy with hAy
            subst hAy
            have y0 := (HB.out.cell (p := ad.add (j * 3)) (by rw [block_of_add]; exact hay)).trans y0'
            have q5 : (0 : Int) ≤ (j : Int) := by omega
            have q6 : (j : Int) < (n : Int) := by omega
            have a0 := HA.out.cell 0 _ rfl
            have a1 := HA.out.cell 1 _ rfl
            have a2 := HA.out.cell 2 _ rfl
            have HO := Lib.hid ho
            obtain ⟨ky, hky⟩ : ∃ t, y.key = t := ⟨_, rfl⟩
            obtain ⟨kx, hkx⟩ : ∃ t, x.key = t := ⟨_, rfl⟩
            have HKy := Lib.hid ((Ca.keyAt_of Hy.out).trans hky)
            have HKx := Lib.hid ((Ca.keyAt_of Hx.out).trans hkx)
            rw [hky] at y0
            rw [hkx] at a0
            clear y0' hpl ho hky hay
            by_cases he : ky = kx
            · have qe := Ca.bytes_eq he
              have qe' : ky.toList = kx.toList := by rw [he]
              have HCn := Lib.hid (HC.out.new (i := k) (z := z) (fun i hi => by
                rw [HO.out] at hi
                cases hi
                rw [HKy.out, HKx.out, he]))
              clear he hkx
              go_wp2_with (at_lookup; refine look_num _ rfl _ _ bm _ _ z hzs rfl rfl rfl HM.out _ hu true hq ?_)
              go_quiet (fail)
              go_wp2
              go_roundw
              case rel => exact ⟨m + 1, by omega, by go_num, by first | exact HB.out | exact below_drew HB.out ⟨_, rfl⟩, by show MapF _ _ _ _ _ _; rw [HN.out, HOl.out, List.length_append]; exact HM.out.more (Nat.le_succ _), by show Ca.Calm _ _; rw [HN.out]; exact HCn.out, by first | exact HA.out | exact HA.out.drew ⟨_, rfl⟩⟩
              case measure => simp [intOf]; omega
            · obtain ⟨qe, qe'⟩ := Ca.bytes_ne he
              have HE : Hid (X = true) := by
                show X = true
                rw [← HX.out]
                obtain ⟨r, hr⟩ := Ca.come_split (l := l) Hx.out Hz.out
                exact Ca.shared_yes hr HO.out (by rw [HKy.out, HKx.out]; exact he)
              clear he hkx
              go_wp2_with (at_lookup; refine look_num _ rfl _ _ bm _ _ z hzs rfl rfl rfl HM.out _ hu true hq ?_)
              go_quiet (fail)
              go_wp2
              go_ret
              exact ⟨ret_bool HE.out.symm, by first | exact HB.out | exact below_drew HB.out ⟨_, rfl⟩⟩
        · have p2 : ¬ (m : Int) < (mm : Int) := by omega
          have HMn : Hid (MapF Tryd.prog 9 wr bm (Ca.flat (l.take (k + 1)) 0).length (Ca.of (Ca.flat (l.take (k + 1)) 0)) ∧ Ca.Calm l (Ca.flat (l.take (k + 1)) 0)) := by
            have hme : m = x.zones.length := by rw [HZl.out]; omega
            have h1 := HM.out
            have h2 := HC.out
            rw [hme, Ca.come_all Hx.out] at h1 h2
            exact ⟨h1, h2⟩
          go_wp2
          go_roundw
          case rel => exact ⟨k + 1, by omega, by go_num, HB.out, HMn.out.1, HMn.out.2⟩
          case measure => simp [intOf]; omega
    · have p2 : ¬ (k : Int) < (n : Int) := by omega
      have HE : Hid (X = false) := by
        show X = false
        rw [← HX.out]
        have h := HC.out
        rw [List.take_of_length_le (by rw [HL.out]; omega)] at h
        exact Ca.shared_no h
      go_wp2
      go_ret
      exact ⟨ret_bool HE.out.symm, HB.out⟩
end Go.Proofs.YtajcgoinhpengaaDoor

/- chart.Check. -/
namespace Go.Proofs.YtajcgoinhpengaaDoor
open Go.RowKit

set_option maxHeartbeats 1000000 in
set_option maxRecDepth 100000 in
theorem caWrong_any (x : Ca.E) (A : Option Addr) (n c : Nat) (w : World) (hn : x.zones.length = n) (hr : Reads w w.heap.size 1 A n (x.zones.map Value.string)) (hc : n ≤ c) (h1 : x.key.size ≤ maxLen) (h2 : x.terr.size ≤ maxLen) (h3 : ∀ z ∈ x.zones, z.size ≤ maxLen) :
    Calls Tryd.prog 21 #[.agg #[.string x.key, .string x.terr, .slice A n c]] w fun e w' => e = .returned (.bool (!Ca.right x)) ∧ Below w.heap.size w w' := by
  subst hn
  obtain ⟨W0, hW0⟩ : ∃ W, w.alloc (.cells #[.string x.key, .string x.terr, .slice A x.zones.length c] 45) = W := ⟨_, rfl⟩
  have hB0 : Below w.heap.size w W0 := by rw [← hW0]; exact bal1 _ _
  have hA0 : At W0 w.heap.size [.string x.key, .string x.terr, .slice A x.zones.length c] := by rw [← hW0]; exact At.new _ _ _
  obtain ⟨c0, c1, c2, _⟩ := hA0.three
  have hC := caRight_any x A c W0 ((hr.below hB0).more hB0.size) hc h1 h2 h3
  obtain ⟨b, hb⟩ : ∃ b, Ca.right x = b := ⟨_, rfl⟩
  obtain ⟨m, hm⟩ : ∃ m, x.zones.length = m := ⟨_, rfl⟩
  rw [hb] at hC ⊢
  rw [hm] at hC hW0 c2 ⊢
  have HC := Lib.hid hC
  have HB0 := Lib.hid hB0
  have HW0 := Lib.hid hW0
  clear hC hB0 hW0 hA0 hr hc h1 h2 h3 hb hm
  go_enter Tryd.func21, Tryd.ntmps21
  go_wp2_with fail
  rw [HW0.out]
  go_wp2_with fail
  refine HC.out.mono ?_
  rintro e w1 ⟨rfl, hb1⟩
  have HB1 := Lib.hid (below_then HB0.out hb1)
  clear hb1
  go_wp2
  go_ret
  exact ⟨rfl, HB1.out⟩
set_option maxHeartbeats 1000000 in
set_option maxRecDepth 100000 in
theorem caCheck_any (l : List Ca.E) (A : Option Addr) (n c : Nat) (evs : List Value) (w : World) (hR : Ca.EntR w w.heap.size l (.slice A n c) evs) (hl : l.length = n) (hW : Ca.Wd l) :
    Calls Tryd.prog 8 #[.slice A n c] w fun e w' => e = .returned (.int .i64 (Ca.chk l)) ∧ Below w.heap.size w w' := by
  have hn : n ≤ 4096 := by rw [← hl]; exact hW.n
  have q0 : ¬ (4096 : Int) < (n : Int) := by omega
  obtain ⟨X, hX⟩ : ∃ X, Ca.chk l = X := ⟨_, rfl⟩
  rw [hX]
  unfold Ca.chk at hX
  have hr := hR.row
  rw [hl] at hr
  obtain ⟨A', c', e9, _, hc9, hr9⟩ := hr
  injection e9 with e91 e92 e93
  rw [← e91] at hr9
  have hlz : (l.zip evs).length = n := by rw [List.length_zip, hR.len, hl]; omega
  have hzz : ∀ p ∈ l.zip evs, ∃ A m c, p.2 = .slice A m c := fun p hp => by
    obtain ⟨A2, c2, e2, _⟩ := hR.zns p hp
    exact ⟨A2, _, c2, e2⟩
  have hT : Ix.Tells 21 #[] Ca.ev (fun q => !Ca.right q.1) (l.zip evs) w := by
    intro W p hp hb
    obtain ⟨A2, c2, e2, h1, _, h3⟩ := hR.zns p hp
    obtain ⟨k1, k2, k3⟩ := hW.all _ (Ca.mem_zip_fst hp)
    have := caWrong_any p.1 A2 _ c2 W rfl ((h3.below hb).more hb.size) h1 k1 k2 k3
    unfold Ca.ev
    rw [e2]
    exact this.mono fun e w' h => ⟨h.1, below_then hb h.2⟩
  have hH := has_entry (fun q => !Ca.right q.1) 21 #[] (enters_of Tryd.func21 (by kernel_rfl) rfl) A n c (l.zip evs) w (by unfold maxLen; omega) hlz hr9 hzz hT
  rw [Ca.any_zip (fun e => !Ca.right e) l evs hR.len] at hH
  have HT := Lib.hid fun W (hb : Below w.heap.size w W) => caTwice_any l A n c evs W (hR.call hb) hl hW
  have HA := Lib.hid fun W (hb : Below w.heap.size w W) => caAlone_any l A n c evs W (hR.call hb) hl hW
  have HS := Lib.hid fun W (hb : Below w.heap.size w W) hz => caShared_any l A n c evs W (hR.call hb) hl hW hz
  obtain ⟨b1, hb1⟩ : ∃ b, (l.any fun e => !Ca.right e) = b := ⟨_, rfl⟩
  obtain ⟨b2, hb2⟩ : ∃ b, Ca.dup l = b := ⟨_, rfl⟩
  obtain ⟨b3, hb3⟩ : ∃ b, Ca.alone l = b := ⟨_, rfl⟩
  obtain ⟨b4, hb4⟩ : ∃ b, Ca.shared l = b := ⟨_, rfl⟩
  rw [hb1] at hH hX
  rw [hb2] at HT hX
  rw [hb3] at HA hX
  rw [hb4] at HS hX
  have hz : b1 = false → ∀ e ∈ l, e.zones.length ≤ 32 := by
    intro hb e he
    rw [hb, List.any_eq_false] at hb1
    have h := hb1 e he
    have h2 : Ca.right e = true := by simpa using h
    unfold Ca.right at h2
    simp only [Bool.and_eq_true, decide_eq_true_eq] at h2
    exact h2.1.2.2
  have HH := Lib.hid hH
  have HZ := Lib.hid hz
  have HX := Lib.hid hX
  clear hR hl hW hX hr9 e91 e92 e93 hc9 hlz hzz hT hH hb1 hb2 hb3 hb4 hz
  go_enter Tryd.func8, Tryd.ntmps8
  go_wp2_with fail
  refine HH.out.mono ?_
  rintro e w1 ⟨rfl, hb⟩
  have HB1 := Lib.hid hb
  clear hb
  cases b1 with
  | true =>
    have HE : Hid (X = 2) := HX.out.symm
    go_wp2
    go_ret
    exact ⟨ret_int HE.out.symm, HB1.out⟩
  | false =>
    have HZf : Hid (∀ e ∈ l, e.zones.length ≤ 32) := HZ.out (Eq.refl false)
    clear HZ
    go_wp2_with fail
    refine (HT.out _ HB1.out).mono ?_
    rintro e w2 ⟨rfl, hb⟩
    have HB2 := Lib.hid (below_then HB1.out hb)
    clear hb
    cases b2 with
    | true =>
      have HE : Hid (X = 8) := HX.out.symm
      go_wp2
      go_ret
      exact ⟨ret_int HE.out.symm, HB2.out⟩
    | false =>
      go_wp2_with fail
      refine (HA.out _ HB2.out).mono ?_
      rintro e w3 ⟨rfl, hb⟩
      have HB3 := Lib.hid (below_then HB2.out hb)
      clear hb
      cases b3 with
      | false =>
        have HE : Hid (X = 3) := HX.out.symm
        go_wp2
        go_ret
        exact ⟨ret_int HE.out.symm, HB3.out⟩
      | true =>
        go_wp2_with fail
        refine (HS.out _ HB3.out HZf.out).mono ?_
        rintro e w4 ⟨rfl, hb⟩
        have HB4 := Lib.hid (below_then HB3.out hb)
        clear hb
        cases b4 with
        | true =>
          have HE : Hid (X = 7) := HX.out.symm
          go_wp2
          go_ret
          exact ⟨ret_int HE.out.symm, HB4.out⟩
        | false =>
          have HE : Hid (X = 0) := HX.out.symm
          go_wp2
          go_ret
          exact ⟨ret_int HE.out.symm, HB4.out⟩
end Go.Proofs.YtajcgoinhpengaaDoor

/- atlas.find, atlas.Zones, atlas.Default. -/
namespace Go.Proofs.YtajcgoinhpengaaDoor
open Go.RowKit

namespace Ca
theorem at_find (p : E → Bool) : ∀ (l : List E) (i : Nat), (l.find? p = none ∧ Ix.at_ p l (i : Int) = -1) ∨ ∃ j e, l[j]? = some e ∧ l.find? p = some e ∧ Ix.at_ p l (i : Int) = ((i + j : Nat) : Int)
  | [], i => .inl ⟨rfl, rfl⟩
  | x :: l, i => by
    cases hx : p x with
    | true =>
      right
      refine ⟨0, x, rfl, by rw [List.find?_cons, hx], ?_⟩
      unfold Ix.at_
      rw [if_pos hx]
      simp
    | false =>
      have e1 : Ix.at_ p (x :: l) (i : Int) = Ix.at_ p l ((i + 1 : Nat) : Int) := by
        rw [Ix.at_, if_neg (by rw [hx]; decide)]
        rfl
      rw [List.find?_cons, hx, e1]
      rcases at_find p l (i + 1) with ⟨h1, h2⟩ | ⟨j, e, h1, h2, h3⟩
      · exact .inl ⟨h1, h2⟩
      · exact .inr ⟨j + 1, e, by simpa using h1, h2, by rw [h3]; congr 1; omega⟩
theorem at_zip (p : E → Bool) : ∀ (l : List E) (evs : List Value) (i : Int), evs.length = l.length → Ix.at_ (fun q => p q.1) (l.zip evs) i = Ix.at_ p l i
  | [], _, _, _ => rfl
  | x :: l, [], _, h => by simp at h
  | x :: l, v :: evs, i, h => by
    rw [List.zip_cons_cons, Ix.at_, Ix.at_, at_zip p l evs (i + 1) (by simpa using h)]
/-- Where atlas.find finds. -/
def at2 (l : List E) (k t : ByteArray) : Int := Ix.at_ (fun e => decide (e.key = k ∧ e.terr = t)) l 0
theorem at2_cases (l : List E) (k t : ByteArray) : (fnd l k t = none ∧ at2 l k t = -1) ∨ ∃ (j : Nat) (e : E), l[j]? = some e ∧ fnd l k t = some e ∧ at2 l k t = (j : Int) := by
  unfold fnd at2
  rcases at_find (fun e => decide (e.key = k ∧ e.terr = t)) l 0 with h | ⟨j, e, h1, h2, h3⟩
  · exact .inl h
  · exact .inr ⟨j, e, h1, h2, by simpa using h3⟩
end Ca
set_option maxHeartbeats 1000000 in
set_option maxRecDepth 100000 in
theorem caFind1_any (x : Ca.E) (A : Option Addr) (m c b1 b2 : Nat) (k t : ByteArray) (w : World) (h1 : w.cell? ⟨b1, 0, none⟩ = some (.string k)) (h2 : w.cell? ⟨b2, 0, none⟩ = some (.string t)) :
    Calls Tryd.prog 57 #[.agg #[.string x.key, .string x.terr, .slice A m c], .pointer (some ⟨b1, 0, none⟩), .pointer (some ⟨b2, 0, none⟩)] w fun e w' => e = .returned (.bool (decide (x.key = k ∧ x.terr = t))) ∧ Below w.heap.size w w' := by
  have hb1 := (bal1 w (.cells #[.string x.key, .string x.terr, .slice A m c] 45)).cell (p := ⟨b1, 0, none⟩) (block_lt_of_cell h1)
  have hb2 := (bal1 w (.cells #[.string x.key, .string x.terr, .slice A m c] 45)).cell (p := ⟨b2, 0, none⟩) (block_lt_of_cell h2)
  rw [h1] at hb1
  rw [h2] at hb2
  have HB := Lib.hid (bal1 w (.cells #[.string x.key, .string x.terr, .slice A m c] 45))
  obtain ⟨kx, hkx⟩ : ∃ t, x.key = t := ⟨_, rfl⟩
  obtain ⟨tx, htx⟩ : ∃ t, x.terr = t := ⟨_, rfl⟩
  rw [hkx, htx] at HB hb1 hb2 ⊢
  obtain ⟨X, hX⟩ : ∃ X, decide (kx = k ∧ tx = t) = X := ⟨_, rfl⟩
  rw [hX]
  have HX := Lib.hid hX
  clear hkx htx hX h1 h2
  by_cases hk : kx = k
  · have qk := Ca.bytes_eq hk
    have qk' : kx.toList = k.toList := by rw [hk]
    by_cases ht : tx = t
    · have qt := Ca.bytes_eq ht
      have qt' : tx.toList = t.toList := by rw [ht]
      have HE : Hid (X = true) := HX.out.symm.trans (decide_eq_true ⟨hk, ht⟩)
      clear hk ht HX
      go_enter Tryd.func57, Tryd.ntmps57
      go_wp2
      go_ret
      exact ⟨ret_bool HE.out.symm, HB.out⟩
    · obtain ⟨qt, qt'⟩ := Ca.bytes_ne ht
      have HE : Hid (X = false) := HX.out.symm.trans (decide_eq_false (fun h => ht h.2))
      clear hk ht HX
      go_enter Tryd.func57, Tryd.ntmps57
      go_wp2
      go_ret
      exact ⟨ret_bool HE.out.symm, HB.out⟩
  · obtain ⟨qk, qk'⟩ := Ca.bytes_ne hk
    have HE : Hid (X = false) := HX.out.symm.trans (decide_eq_false (fun h => hk h.1))
    clear hk HX
    go_enter Tryd.func57, Tryd.ntmps57
    go_wp2
    go_ret
    exact ⟨ret_bool HE.out.symm, HB.out⟩
set_option maxHeartbeats 1000000 in
set_option maxRecDepth 100000 in
theorem caFind_any (l : List Ca.E) (A : Option Addr) (n c : Nat) (evs : List Value) (k t : ByteArray) (w : World) (hR : Ca.EntR w w.heap.size l (.slice A n c) evs) (hl : l.length = n) (hW : Ca.Wd l) :
    Calls Tryd.prog 37 #[.slice A n c, .string k, .string t] w fun e w' => e = .returned (.int .i64 (Ca.at2 l k t)) ∧ Below w.heap.size w w' := by
  have hn : n ≤ 4096 := by rw [← hl]; exact hW.n
  obtain ⟨g, hg⟩ : ∃ g, w.heap.size = g := ⟨_, rfl⟩
  obtain ⟨W0, hW0⟩ : ∃ W, (w.alloc (.cells #[.string k] 9)).alloc (.cells #[.string t] 9) = W := ⟨_, rfl⟩
  have hB0 : Below w.heap.size w W0 := by rw [← hW0]; exact bal (bal1 _ _) _
  have hA1 : At W0 g [.string k] := by
    rw [← hW0, ← hg]
    exact (At.new w #[Value.string k] 9).allocO _
  have hA2 : At W0 (g + 1) [.string t] := by
    rw [← hW0]
    have h := At.new (w.alloc (.cells #[.string k] 9)) #[Value.string t] 9
    rw [World.size_alloc, hg] at h
    exact h
  have hR0 := hR.call hB0
  have hr := hR0.row
  rw [hl] at hr
  obtain ⟨A', c', e9, _, hc9, hr9⟩ := hr
  injection e9 with e91 e92 e93
  rw [← e91] at hr9
  have hlz : (l.zip evs).length = n := by rw [List.length_zip, hR.len, hl]; omega
  have hzz : ∀ p ∈ l.zip evs, ∃ A m c, p.2 = .slice A m c := fun p hp => by
    obtain ⟨A2, c2, e2, _⟩ := hR.zns p hp
    exact ⟨A2, _, c2, e2⟩
  have hT : Ix.Tells 57 #[.pointer (some ⟨g, 0, none⟩), .pointer (some ⟨g + 1, 0, none⟩)] Ca.ev (fun q => decide (q.1.key = k ∧ q.1.terr = t)) (l.zip evs) W0 := by
    intro W p hp hb
    obtain ⟨A2, m2, c2, e2⟩ := hzz p hp
    have := caFind1_any p.1 A2 m2 c2 g (g + 1) k t W ((hA1.call hb).cell 0 _ rfl) ((hA2.call hb).cell 0 _ rfl)
    unfold Ca.ev
    rw [e2]
    exact this.mono fun e w' h => ⟨h.1, below_then hb h.2⟩
  have hH := idx_entry (fun q => decide (q.1.key = k ∧ q.1.terr = t)) 57 #[.pointer (some ⟨g, 0, none⟩), .pointer (some ⟨g + 1, 0, none⟩)] (enters_of Tryd.func57 (by kernel_rfl) rfl) A n c (l.zip evs) W0 (by unfold maxLen; omega) hlz hr9 hzz hT
  rw [Ca.at_zip (fun e => decide (e.key = k ∧ e.terr = t)) l evs 0 hR.len] at hH
  have HH : Hid (Calls Tryd.prog 43 #[.slice A n c, .func (.func 57) #[] #[.pointer (some ⟨g, 0, none⟩), .pointer (some ⟨g + 1, 0, none⟩)]] W0 fun e w' => e = .returned (.int .i64 (Ca.at2 l k t)) ∧ Below W0.heap.size W0 w') := hH
  have HB0 := Lib.hid hB0
  have HW0 := Lib.hid hW0
  have HG := Lib.hid hg
  obtain ⟨X, hX⟩ : ∃ X, Ca.at2 l k t = X := ⟨_, rfl⟩
  rw [hX] at HH ⊢
  clear hR hl hW hB0 hA1 hA2 hR0 hr9 hc9 e91 e92 e93 hlz hzz hT hH hW0 hg hX
  go_enter Tryd.func37, Tryd.ntmps37
  go_wp2_with fail
  rw [HG.out, HW0.out]
  go_wp2_with fail
  refine HH.out.mono ?_
  rintro e w1 ⟨rfl, hb⟩
  have HB1 := Lib.hid (below_then HB0.out hb)
  clear hb
  go_wp2
  go_ret
  exact ⟨rfl, HB1.out⟩
/-- What atlas.Zones hands back. -/
def Ca.ZnRet (r : List ByteArray × Int) (w : World) (e : Ending) (w' : World) : Prop :=
  ∃ A c, e = .returned (.tuple #[.slice A r.1.length c, .int .i64 r.2]) ∧ r.1.length ≤ c ∧ c ≤ maxLen ∧ Reads w' w'.heap.size 1 A r.1.length (r.1.map Value.string) ∧ Below w.heap.size w w'
theorem Ca.ZnRet.nil (k : Int) {w w' : World} (hb : Below w.heap.size w w') : Ca.ZnRet ([], k) w (.returned (.tuple #[.slice none 0 0, .int .i64 k])) w' :=
  ⟨none, 0, rfl, Nat.le_refl _, by unfold maxLen; omega, Reads.none_, hb⟩
/-- slices.Clone of names. -/
theorem clone_any (ad : Addr) (n c : Nat) (zs : List ByteArray) (w : World) (hl : zs.length = n) (hn : 1 ≤ n) (hbig : n ≤ 100000) (hr : Reads w w.heap.size 1 (some ad) n (zs.map Value.string)) :
    Calls Tryd.prog 38 #[.slice (some ad) n c] w fun e w' => ∃ v', e = .returned v' ∧ w'.ownsRow w.heap.size 9 1 v' n (zs.map Value.string) ∧ Below w.heap.size w w' := by
  obtain ⟨ad', e, hb, hc⟩ := hr.2 (by omega)
  cases e
  obtain ⟨b, off, sp⟩ := ad
  have h0 := hc 0 (.string (zs[0]'(by omega))) (by rw [List.getElem?_map, List.getElem?_eq_getElem (by omega)]; rfl)
  have hsp : sp = none := by
    cases sp with
    | none => rfl
    | some s =>
      exfalso
      unfold World.cell? Addr.add at h0
      rw [if_pos rfl] at h0
      split at h0
      · simp at h0
      · cases h0
  subst hsp
  have hcells : ∀ j, j < zs.length → w.cell? ⟨b, off + j, none⟩ = some (.string (zs.getD j ByteArray.empty)) := by
    intro j hj
    have h := hc j (.string (zs[j]'hj)) (by rw [List.getElem?_map, List.getElem?_eq_getElem hj]; rfl)
    rw [List.getD, List.getElem?_eq_getElem hj]
    cases j with
    | zero =>
      unfold Addr.add at h
      rw [if_pos rfl] at h
      exact h
    | succ j =>
      unfold Addr.add at h
      rw [if_neg (by omega)] at h
      exact h
  refine (Tryd.slices_Clone_string b off n c zs w (by omega) (by omega) hcells).mono ?_
  rintro e w' ⟨v, rfl, ho, _, hb'⟩
  rw [List.take_of_length_le (by omega)] at ho
  exact ⟨v, rfl, ho, hb'⟩
set_option maxHeartbeats 2000000 in
set_option maxRecDepth 100000 in
theorem caZones_any (l : List Ca.E) (A : Option Addr) (n c : Nat) (evs : List Value) (k t : ByteArray) (w : World) (hR : Ca.EntR w w.heap.size l (.slice A n c) evs) (hl : l.length = n) (hW : Ca.Wd l) :
    Calls Tryd.prog 12 #[.slice A n c, .string k, .string t] w (Ca.ZnRet (Ca.zonesA l k t) w) := by
  have HC := Lib.hid fun W (hb : Below w.heap.size w W) => caCheck_any l A n c evs W (hR.call hb) hl hW
  have HF := Lib.hid fun W (hb : Below w.heap.size w W) k t => caFind_any l A n c evs k t W (hR.call hb) hl hW
  obtain ⟨X, hX⟩ : ∃ X, Ca.chk l = X := ⟨_, rfl⟩
  have hr9 : X = 0 → ∀ e ∈ l, 1 ≤ e.zones.length ∧ e.zones.length ≤ 32 := by
    intro h e he
    have h2 := (Ca.chk_parts (hX.trans h)).1 e he
    unfold Ca.right at h2
    simp only [Bool.and_eq_true, decide_eq_true_eq] at h2
    exact h2.1.2
  have HZn := Lib.hid hr9
  have HR := Lib.hid hR
  have HL := Lib.hid hl
  have HB0 := Lib.hid (Below.refl w.heap.size w)
  obtain ⟨Z, hZ⟩ : ∃ Z, Ca.zonesA l k t = Z := ⟨_, rfl⟩
  rw [hZ]
  unfold Ca.zonesA at hZ
  rw [hX] at HC hZ
  have c1 := Ca.at2_cases l k t
  have c2 := Ca.at2_cases l k Ca.world
  obtain ⟨i1, hi1⟩ : ∃ i, Ca.at2 l k t = i := ⟨_, rfl⟩
  obtain ⟨i2, hi2⟩ : ∃ i, Ca.at2 l k Ca.world = i := ⟨_, rfl⟩
  rw [hi1] at c1
  rw [hi2] at c2
  have HF1 : Hid (∀ W, Below w.heap.size w W → Calls Tryd.prog 37 #[.slice A n c, .string k, .string t] W fun e w' => e = .returned (.int .i64 i1) ∧ Below W.heap.size W w') := fun W hb => by have := HF.out W hb k t; rw [hi1] at this; exact this
  have HF2 : Hid (∀ W, Below w.heap.size w W → Calls Tryd.prog 37 #[.slice A n c, .string k, .string ⟨#[48, 48, 49]⟩] W fun e w' => e = .returned (.int .i64 i2) ∧ Below W.heap.size W w') := fun W hb => by have := HF.out W hb k Ca.world; rw [hi2] at this; exact this
  have HZ := Lib.hid hZ
  clear hR hl hW hX hr9 hZ hi1 hi2 HF
  go_enter Tryd.func12, Tryd.ntmps12
  go_wp2_with fail
  refine (HC.out _ HB0.out).mono ?_
  rintro e w1 ⟨rfl, hb⟩
  have HB1 := Lib.hid hb
  clear hb
  by_cases hX0 : X = 0
  · have HZn2 := Lib.hid (HZn.out hX0)
    subst hX0
    have hZ2 := HZ.out
    rw [if_pos rfl] at hZ2
    have HZ2 := Lib.hid hZ2
    clear hZ2 HZ HZn
    go_wp2_with fail
    refine (HF1.out _ HB1.out).mono ?_
    rintro e w2 ⟨rfl, hb⟩
    have HB2 := Lib.hid (below_then HB1.out hb)
    clear hb
    rcases c1 with ⟨hf1, hi1⟩ | ⟨j, y, hj, hf1, hi1⟩
    · subst hi1
      go_wp2_with fail
      refine (HF2.out _ HB2.out).mono ?_
      rintro e w3 ⟨rfl, hb⟩
      have HB3 := Lib.hid (below_then HB2.out hb)
      clear hb
      rcases c2 with ⟨hf2, hi2⟩ | ⟨j, y, hj, hf2, hi2⟩
      · subst hi2
        have HE : Hid (Z = ([], 3)) := by
          show Z = _
          rw [← HZ2.out, hf1, hf2]
        clear hf1 hf2
        go_wp2
        go_ret2
        rw [HE.out]
        exact Ca.ZnRet.nil 3 HB3.out
      · have HE : Hid (Z = (y.zones, 0)) := by
          show Z = _
          rw [← HZ2.out, hf1, hf2]
        subst hi2
        have hyz := HZn2.out y (List.mem_of_getElem? hj)
        obtain ⟨ad, x, zA, m, zc, rfl, hab, Hx, d0, d1, d2, HZl, hz1, hz2, HZr, HEv⟩ := (HR.out.call HB3.out).at_ HL.out (show j < n by rw [← HL.out]; exact (List.getElem?_eq_some_iff.1 hj).1)
        have hxe : x = y := Option.some.inj (Hx.out.symm.trans hj)
        have q5 : (0 : Int) ≤ (j : Int) := by omega
        have q6 : (j : Int) < (n : Int) := by rw [← HL.out]; have := (List.getElem?_eq_some_iff.1 hj).1; omega
        have q7 : ¬ (j : Int) < 0 := by omega
        subst hxe
        obtain ⟨ad2, rfl, _, _⟩ := HZr.out.2 (by have := HZl.out; omega)
        have HCl := Lib.hid (clone_any ad2 m zc x.zones _ HZl.out (by have := HZl.out; omega) (by have := HZl.out; omega) HZr.out)
        clear hj hyz HZ2 HZn2 HEv HZr Hx d0 d1 hf1
        go_wp2_with fail
        refine HCl.out.mono ?_
        rintro e w9 ⟨v9, rfl, ho, hb⟩
        obtain ⟨A9, c9, rfl, h91, h92⟩ := own_slice_cap ho
        have HB9 := Lib.hid (below_then HB3.out hb)
        have HO9 := Lib.hid (Reads.of_own ho)
        clear hb ho HCl
        go_wp2
        go_ret2
        rw [HE.out]
        have hzl : x.zones.length = m := HZl.out
        show Ca.ZnRet (x.zones, 0) w _ _
        refine ⟨A9, c9, ?_, ?_, h92, ?_, HB9.out⟩
        · simp only [hzl]
          rfl
        · simp only [hzl]; exact h91
        · simp only [hzl]; exact HO9.out
    · have HE : Hid (Z = (y.zones, 0)) := by
        show Z = _
        rw [← HZ2.out, hf1]
      subst hi1
      have hyz := HZn2.out y (List.mem_of_getElem? hj)
      obtain ⟨ad, x, zA, m, zc, rfl, hab, Hx, d0, d1, d2, HZl, hz1, hz2, HZr, HEv⟩ := (HR.out.call HB2.out).at_ HL.out (show j < n by rw [← HL.out]; exact (List.getElem?_eq_some_iff.1 hj).1)
      have hxe : x = y := Option.some.inj (Hx.out.symm.trans hj)
      have q5 : (0 : Int) ≤ (j : Int) := by omega
      have q6 : (j : Int) < (n : Int) := by rw [← HL.out]; have := (List.getElem?_eq_some_iff.1 hj).1; omega
      have q7 : ¬ (j : Int) < 0 := by omega
      subst hxe
      obtain ⟨ad2, rfl, _, _⟩ := HZr.out.2 (by have := HZl.out; omega)
      have HCl := Lib.hid (clone_any ad2 m zc x.zones _ HZl.out (by have := HZl.out; omega) (by have := HZl.out; omega) HZr.out)
      clear hj hyz HZ2 HZn2 HEv HZr Hx d0 d1 hf1
      go_wp2_with fail
      refine HCl.out.mono ?_
      rintro e w9 ⟨v9, rfl, ho, hb⟩
      obtain ⟨A9, c9, rfl, h91, h92⟩ := own_slice_cap ho
      have HB9 := Lib.hid (below_then HB2.out hb)
      have HO9 := Lib.hid (Reads.of_own ho)
      clear hb ho HCl
      go_wp2
      go_ret2
      rw [HE.out]
      have hzl : x.zones.length = m := HZl.out
      show Ca.ZnRet (x.zones, 0) w _ _
      refine ⟨A9, c9, ?_, ?_, h92, ?_, HB9.out⟩
      · simp only [hzl]
        rfl
      · simp only [hzl]; exact h91
      · simp only [hzl]; exact HO9.out
  · have qx : (X != 0) = true := by simpa using hX0
    have HE : Hid (Z = ([], X)) := by
      show Z = _
      rw [← HZ.out, if_neg hX0]
    clear HZ HZn
    go_wp2
    go_ret2
    rw [HE.out]
    exact Ca.ZnRet.nil X HB1.out
end Go.Proofs.YtajcgoinhpengaaDoor
