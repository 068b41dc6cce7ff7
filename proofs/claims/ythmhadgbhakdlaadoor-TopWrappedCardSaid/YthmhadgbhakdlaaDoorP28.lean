/- chart.alone: whether each key has just one zone in the territory of all. -/
import Derived.Test.YthmhadgbhakdlaaDoorP27
import Derived.Deep.QuietTactic
import Derived.BigQuiet
import Derived.Test.YthmhadgbhakdlaaDoorP02
import Derived.Test.YthmhadgbhakdlaaDoorP26
import Derived.Test.YthmhadgbhakdlaaDoorP25

namespace Go.Proofs.YthmhadgbhakdlaaDoor
open Go.RowKit

namespace Ca
/-- What the map of chart.alone holds. -/
def zf (l : List E) : Mp.Fn := fun s => (zn l s).map fun (n : Nat) => Value.int .i64 (n : Int)
theorem zf_nil : zf [] = fun _ => none := rfl
theorem zn_snoc (l : List E) (x : E) (s : ByteArray) : zn (l ++ [x]) s = if x.terr = world ∧ x.key = s then some x.zones.length else zn l s := by
  unfold zn
  rw [List.filter_append]
  by_cases h : x.terr = world ∧ x.key = s
  · rw [if_pos h]
    simp [h]
  · rw [if_neg h]
    simp [h]
theorem zf_in {l : List E} {x : E} (h : x.terr = world) : Mp.put (zf l) x.key (.int .i64 (x.zones.length : Int)) = zf (l ++ [x]) := by
  funext s
  unfold Mp.put zf
  rw [zn_snoc]
  by_cases e : s = x.key
  · rw [if_pos e, if_pos ⟨h, e.symm⟩]; rfl
  · rw [if_neg e, if_neg (fun q => e q.2.symm)]
theorem zf_out {l : List E} {x : E} (h : x.terr ≠ world) : zf (l ++ [x]) = zf l := by
  funext s
  unfold zf
  rw [zn_snoc, if_neg (fun q => h q.1)]
theorem zf_get (l : List E) (s : ByteArray) : (zf l s).getD (.int .i64 0) = .int .i64 ((cnt l s : Nat) : Int) := by
  unfold zf cnt
  cases zn l s <;> rfl
theorem take_next {α : Type} {l : List α} {k : Nat} {x : α} (h : l[k]? = some x) : l.take (k + 1) = l.take k ++ [x] := by
  rw [List.take_add_one, h]; rfl
theorem any_zip (p : E → Bool) : ∀ (l : List E) (evs : List Value), evs.length = l.length → ((l.zip evs).any fun q => p q.1) = l.any p
  | [], _, _ => by simp
  | x :: l, [], h => by simp at h
  | x :: l, v :: evs, h => by
    rw [List.zip_cons_cons, List.any_cons, List.any_cons, any_zip p l evs (by simpa using h)]
theorem mem_zip_fst {l : List E} {evs : List Value} {p : E × Value} (h : p ∈ l.zip evs) : p.1 ∈ l := (List.of_mem_zip h).1
theorem bytes_eq {a b : ByteArray} (h : a = b) : (a.toList == b.toList) = true := by rw [h]; simp
theorem bytes_ne {a b : ByteArray} (h : a ≠ b) : (a.toList == b.toList) = false ∧ ¬ a.toList = b.toList := by
  have h2 : ¬ a.toList = b.toList := by
    intro e
    rw [ByteArray.toList_eq, ByteArray.toList_eq] at e
    exact h (ByteArray.ext (Array.ext' e))
  exact ⟨by rw [beq_eq_false_iff_ne]; exact h2, h2⟩
theorem world_yes {t : ByteArray} (h : t = world) : (t.toList == [48, 48, 49]) = true := by
  have := bytes_eq h
  rw [show world.toList = [48, 48, 49] by decide +kernel] at this
  exact this
theorem world_no {t : ByteArray} (h : t ≠ world) : (t.toList == [48, 48, 49]) = false ∧ ¬ t.toList = [48, 48, 49] := by
  have := bytes_ne h
  rw [show world.toList = [48, 48, 49] by decide +kernel] at this
  exact this
end Ca
set_option maxHeartbeats 2000000 in
set_option maxRecDepth 100000 in
theorem caAlone1_any (l : List Ca.E) (x : Ca.E) (A : Option Addr) (m c bm b n : Nat) (w : World) (hM : MapF Tryd.prog 9 w bm n (Ca.zf l)) (hb : w.cell? ⟨b, 0, none⟩ = some (.map (some bm))) (hs : x.key.size ≤ maxLen) :
    Calls Tryd.prog 41 #[.agg #[.string x.key, .string x.terr, .slice A m c], .pointer (some ⟨b, 0, none⟩)] w fun e w' => e = .returned (.bool (decide (Ca.cnt l x.key ≠ 1))) ∧ Below w.heap.size w w' := by
  obtain ⟨v, hv⟩ : ∃ v, Ca.cnt l x.key = v := ⟨_, rfl⟩
  have hg := Ca.zf_get l x.key
  rw [hv] at hg ⊢
  have hlt := block_lt_of_cell hb
  have hb2 : (w.alloc (.cells #[.string x.key, .string x.terr, .slice A m c] 49)).cell? ⟨b, 0, none⟩ = some (.map (some bm)) := ((bal1 w _).cell hlt).trans hb
  have HM := Lib.hid (hM.alloc (.cells #[.string x.key, .string x.terr, .slice A m c] 49))
  have HB := Lib.hid (bal1 w (.cells #[.string x.key, .string x.terr, .slice A m c] 49))
  have hq : decide (v ≠ 1) = ((v : Int) != 1) := by
    rw [Bool.eq_iff_iff]
    simp only [decide_eq_true_eq, bne_iff_ne, ne_eq]
    omega
  obtain ⟨q, hqq⟩ : ∃ q, decide (v ≠ 1) = q := ⟨_, rfl⟩
  rw [hqq] at hq ⊢
  have HQ := Lib.hid hq
  clear hM hb hv hq hqq
  go_enter Tryd.func41, Tryd.ntmps41
  go_wp2_with (at_lookup; refine look_num1 _ rfl _ _ bm n _ x.key hs rfl rfl rfl HM.out _ hg ?_)
  go_ret
  exact ⟨ret_bool HQ.out.symm, HB.out⟩
set_option maxHeartbeats 2000000 in
set_option maxRecDepth 100000 in
theorem caAlone_any (l : List Ca.E) (A : Option Addr) (n c : Nat) (evs : List Value) (w : World) (hR : Ca.EntR w w.heap.size l (.slice A n c) evs) (hl : l.length = n) (hW : Ca.Wd l) :
    Calls Tryd.prog 26 #[.slice A n c] w fun e w' => e = .returned (.bool (Ca.alone l)) ∧ Below w.heap.size w w' := by
  have hn : n ≤ 4096 := by rw [← hl]; exact hW.n
  obtain ⟨bm, hbm⟩ : ∃ b, w.heap.size = b := ⟨_, rfl⟩
  obtain ⟨W0, hW0⟩ : ∃ W, (w.alloc (.map #[] 0)).alloc (.cells #[.map (some bm)] 89) = W := ⟨_, rfl⟩
  have hB0 : Below w.heap.size w W0 := by rw [← hW0]; exact bal (bal1 _ _) _
  have hM0 : MapF Tryd.prog 9 W0 bm 0 (Ca.zf []) := by
    rw [← hW0, ← hbm]
    exact (MapF.made w).alloc _
  have hC0 : At W0 (bm + 1) [.map (some bm)] := by
    rw [← hW0]
    have h := At.new (w.alloc (.map #[] 0)) #[Value.map (some bm)] 89
    rw [World.size_alloc, hbm] at h
    exact h
  obtain ⟨Y, hY⟩ : ∃ Y, Ca.alone l = Y := ⟨_, rfl⟩
  rw [hY]
  unfold Ca.alone at hY
  have HY := Lib.hid hY
  have HR := Lib.hid hR
  have HL := Lib.hid hl
  have HW := Lib.hid hW
  have HB0 := Lib.hid hB0
  have HM0 := Lib.hid hM0
  have HC0 := Lib.hid hC0
  have HBm := Lib.hid hbm
  have HW0 := Lib.hid hW0
  clear hR hl hW hB0 hM0 hbm hW0 hC0 hY
  have hmk := make_int (n : Int)
  go_enter Tryd.func26, Tryd.ntmps26
  go_wp2_with fail
  rw [HBm.out, HW0.out]
  go_loopw [11] (fun i wr => ∃ k : Nat, k ≤ n ∧ i = .int .i64 (k : Int) ∧ Hid (Below w.heap.size w wr) ∧ Hid (MapF Tryd.prog 9 wr bm k (Ca.zf (l.take k))) ∧ Hid (At wr (bm + 1) [.map (some bm)])) (fun i _ => n - (intOf i).toNat)
  case atStart => exact ⟨0, Nat.zero_le _, rfl, HB0.out, HM0.out, HC0.out⟩
  case round =>
    clear hmk
    obtain ⟨k, hk, rfl, HB, HM, HC⟩ := hrel
    by_cases hlt : k < n
    · have q1 : (0 : Int) ≤ (k : Int) := by omega
      have q2 : (k : Int) < (n : Int) := by omega
      obtain ⟨ad, x, zA, m, zc, rfl, hab, Hx, c0, c1, c2, HZl, hz1, hz2, HZr, HEv⟩ := (HR.out.below HB.out).at_ HL.out hlt
      obtain ⟨h1, h2, h3⟩ := HW.out.all x (List.mem_of_getElem? Hx.out)
      have hkm : k < maxLen := by unfold maxLen; omega
      have HT := Lib.hid (Ca.take_next Hx.out)
      have HBe := Lib.hid (bal HB.out (.cells #[.string x.key, .string x.terr, .slice zA m zc] 49))
      have HMe := Lib.hid (HM.out.alloc (.cells #[.string x.key, .string x.terr, .slice zA m zc] 49))
      have HCe := Lib.hid (HC.out.allocO (.cells #[.string x.key, .string x.terr, .slice zA m zc] 49))
      have k0 := HCe.out.cell 0 _ rfl
      clear h3 HZr HEv
      by_cases hw : x.terr = Ca.world
      · have qw := Ca.world_yes hw
        have HZ := Lib.hid (Ca.zf_in (l := l.take k) hw)
        clear hw
        go_wp2_with (at_mapUpdate; refine store_num _ rfl _ _ _ bm k _ x.key h1 hkm (m : Int) rfl rfl rfl rfl HMe.out ?_; intro w3 hM3 hg3; have HM3 := Lib.hid hM3; have HG3 := Lib.hid hg3; clear hM3 hg3)
        go_roundw
        case rel => exact ⟨k + 1, by omega, by go_num, HBe.out.grown HG3.out HBe.out.size (fun j e => by cases e; exact Nat.le_of_eq HBm.out), by show MapF _ _ _ _ _ (Ca.zf (l.take (k + 1))); rw [HT.out, ← HZ.out, HZl.out]; exact HM3.out, Sc.At.grownO HCe.out HG3.out (fun j e => by cases e; omega)⟩
        case measure => simp [intOf]; omega
      · obtain ⟨qw, qw'⟩ := Ca.world_no hw
        have HZ := Lib.hid (Ca.zf_out (l := l.take k) hw)
        clear hw
        go_wp2
        go_roundw
        case rel => exact ⟨k + 1, by omega, by go_num, HBe.out, by show MapF _ _ _ _ _ (Ca.zf (l.take (k + 1))); rw [HT.out, HZ.out]; exact HMe.out.more (Nat.le_succ k), HCe.out⟩
        case measure => simp [intOf]; omega
    · have p2 : ¬ (k : Int) < (n : Int) := by omega
      have hM := HM.out
      rw [List.take_of_length_le (by rw [HL.out]; omega)] at hM
      have hRr := HR.out.below HB.out
      have hr := hRr.row
      rw [HL.out] at hr
      obtain ⟨A', c', e9, _, hc9, hr9⟩ := hr
      injection e9 with e91 e92 e93
      rw [← e91] at hr9
      have hlz : (l.zip evs).length = n := by rw [List.length_zip, HR.out.len, HL.out]; omega
      have hzz : ∀ p ∈ l.zip evs, ∃ A m c, p.2 = .slice A m c := fun p hp => by
        obtain ⟨A2, c2, e2, _⟩ := HR.out.zns p hp
        exact ⟨A2, _, c2, e2⟩
      have hT : Ix.Tells 41 #[.pointer (some ⟨bm + 1, 0, none⟩)] Ca.ev (fun q => decide (Ca.cnt l q.1.key ≠ 1)) (l.zip evs) wr := by
        intro W p hp hb
        obtain ⟨A2, m2, c2, e2⟩ := hzz p hp
        have := caAlone1_any l p.1 A2 m2 c2 bm (bm + 1) k W (hM.below hb) ((HC.out.call hb).cell 0 _ rfl) (HW.out.all _ (Ca.mem_zip_fst hp)).1
        unfold Ca.ev
        rw [e2]
        exact this.mono fun e w' h => ⟨h.1, below_then hb h.2⟩
      have hH := has_entry (fun q => decide (Ca.cnt l q.1.key ≠ 1)) 41 #[.pointer (some ⟨bm + 1, 0, none⟩)] (enters_of Tryd.func41 (by kernel_rfl) rfl) A n c (l.zip evs) wr (by unfold maxLen; omega) hlz (hr9.more HB.out.size) hzz hT
      rw [Ca.any_zip (fun e => decide (Ca.cnt l e.key ≠ 1)) l evs HR.out.len] at hH
      obtain ⟨b, hb⟩ : ∃ b, (l.any fun e => decide (Ca.cnt l e.key ≠ 1)) = b := ⟨_, rfl⟩
      have hye := HY.out
      rw [hb] at hH hye
      have HE := Lib.hid hye
      have HH := Lib.hid hH
      clear hb hye hM hRr hr9 hlz hzz hT hH e91 e92 e93 hc9
      go_wp2_with fail
      refine HH.out.mono ?_
      rintro e w2 ⟨rfl, hb⟩
      have HB2 := Lib.hid (below_then HB.out hb)
      clear hb HH
      go_wp2
      go_ret
      exact ⟨ret_bool HE.out, HB2.out⟩
end Go.Proofs.YthmhadgbhakdlaaDoor

/- chart.shared: whether a zone's name has two keys. -/
namespace Go.Proofs.YthmhadgbhakdlaaDoor
open Go.RowKit

namespace Ca
/-- What the map of chart.shared holds. -/
def of (fl : List (Nat × ByteArray)) : Mp.Fn := fun s => (owner fl s).map fun (n : Nat) => Value.int .i64 (n : Int)
theorem of_nil : of [] = fun _ => none := rfl
theorem owner_snoc (fl : List (Nat × ByteArray)) (p : Nat × ByteArray) (s : ByteArray) : owner (fl ++ [p]) s = match owner fl s with
    | some j => some j
    | none => if p.2 = s then some p.1 else none := by
  unfold owner
  rw [List.find?_append]
  cases h : fl.find? fun q => decide (q.2 = s) with
  | some q => rfl
  | none =>
    simp only [Option.none_or, Option.map_none]
    by_cases e : p.2 = s
    · simp [e]
    · simp [e]
theorem of_new {fl : List (Nat × ByteArray)} {i : Nat} {z : ByteArray} (h : owner fl z = none) : Mp.put (of fl) z (.int .i64 (i : Int)) = of (fl ++ [(i, z)]) := by
  funext s
  unfold Mp.put of
  rw [owner_snoc]
  by_cases e : s = z
  · rw [if_pos e, e, h]
    simp
  · rw [if_neg e]
    cases owner fl s with
    | some j => rfl
    | none => simp [Ne.symm e]
theorem of_old {fl : List (Nat × ByteArray)} {i j : Nat} {z : ByteArray} (h : owner fl z = some j) : of (fl ++ [(i, z)]) = of fl := by
  funext s
  unfold of
  rw [owner_snoc]
  cases hs : owner fl s with
  | some q => rfl
  | none =>
    have : ¬ z = s := fun e => by rw [← e, h] at hs; cases hs
    simp [this]
theorem owner_app {fl : List (Nat × ByteArray)} {z : ByteArray} {j : Nat} (h : owner fl z = some j) (r : List (Nat × ByteArray)) : owner (fl ++ r) z = some j := by
  unfold owner at h ⊢
  rw [List.find?_append]
  cases hf : fl.find? fun q => decide (q.2 = z) with
  | some q => rw [hf] at h; simpa using h
  | none => rw [hf] at h; cases h
/-- No clash so far. -/
def Calm (l : List E) (fl : List (Nat × ByteArray)) : Prop := ∀ p ∈ fl, clash l fl p = false
theorem owner_mem {fl : List (Nat × ByteArray)} {p : Nat × ByteArray} (h : p ∈ fl) : ∃ j, owner fl p.2 = some j := by
  unfold owner
  cases hf : fl.find? fun q => decide (q.2 = p.2) with
  | some q => exact ⟨q.1, rfl⟩
  | none =>
    have := List.find?_eq_none.1 hf p h
    simp at this
theorem Calm.new {l : List E} {fl : List (Nat × ByteArray)} {i : Nat} {z : ByteArray} (h : Calm l fl) (hn : ∀ j, owner fl z = some j → keyAt l j = keyAt l i) : Calm l (fl ++ [(i, z)]) := by
  intro p hp
  rcases List.mem_append.1 hp with hp | hp
  · have h1 := h p hp
    obtain ⟨j, hj⟩ := owner_mem hp
    unfold clash at h1 ⊢
    rw [owner_app hj]
    rw [hj] at h1
    exact h1
  · rw [List.mem_singleton.1 hp]
    unfold clash
    rw [owner_snoc]
    cases ho : owner fl z with
    | some j =>
      simp only [decide_eq_false_iff_not, Decidable.not_not]
      exact hn j ho
    | none => simp
theorem shared_no {l : List E} (h : Calm l (flat l 0)) : shared l = false := by
  unfold shared
  rw [List.any_eq_false]
  intro p hp
  rw [h p hp]
  simp
theorem shared_yes {l : List E} {fl r : List (Nat × ByteArray)} {i j : Nat} {z : ByteArray} (he : flat l 0 = fl ++ (i, z) :: r) (ho : owner fl z = some j) (hk : keyAt l j ≠ keyAt l i) : shared l = true := by
  unfold shared
  rw [List.any_eq_true]
  refine ⟨(i, z), by rw [he]; simp, ?_⟩
  unfold clash
  rw [he, owner_app ho]
  simpa using hk
theorem flat_app : ∀ (a b : List E) (i : Nat), flat (a ++ b) i = flat a i ++ flat b (i + a.length)
  | [], b, i => by simp [flat]
  | e :: a, b, i => by
    rw [List.cons_append, flat, flat, flat_app a b (i + 1), List.append_assoc, List.length_cons]
    rw [show i + 1 + a.length = i + (a.length + 1) by omega]
/-- What has come when m zones of the entry at k are over. -/
def come (l : List E) (k m : Nat) (zs : List ByteArray) : List (Nat × ByteArray) := flat (l.take k) 0 ++ (zs.take m).map fun z => (k, z)
theorem come_zero (l : List E) (k : Nat) (zs : List ByteArray) : come l k 0 zs = flat (l.take k) 0 := by unfold come; simp
theorem come_next {l : List E} {k m : Nat} {zs : List ByteArray} {z : ByteArray} (h : zs[m]? = some z) : come l k (m + 1) zs = come l k m zs ++ [(k, z)] := by
  unfold come
  rw [take_next h, List.map_append, List.append_assoc]
  rfl
theorem come_all {l : List E} {k : Nat} {x : E} (h : l[k]? = some x) : come l k x.zones.length x.zones = flat (l.take (k + 1)) 0 := by
  have hk : k < l.length := (List.getElem?_eq_some_iff.1 h).1
  unfold come
  rw [take_next h, flat_app, List.take_of_length_le (Nat.le_refl _)]
  congr 1
  rw [List.length_take, Nat.zero_add, Nat.min_eq_left (by omega)]
  unfold flat
  unfold flat
  simp
theorem come_split {l : List E} {k m : Nat} {x : E} {z : ByteArray} (h : l[k]? = some x) (hz : x.zones[m]? = some z) : ∃ r, flat l 0 = come l k m x.zones ++ (k, z) :: r := by
  have hk : k < l.length := (List.getElem?_eq_some_iff.1 h).1
  have e1 : l = l.take (k + 1) ++ l.drop (k + 1) := (List.take_append_drop _ _).symm
  have e2 : x.zones = x.zones.take (m + 1) ++ x.zones.drop (m + 1) := (List.take_append_drop _ _).symm
  have e3 : come l k x.zones.length x.zones = come l k (m + 1) x.zones ++ (x.zones.drop (m + 1)).map fun z => (k, z) := by
    unfold come
    rw [List.append_assoc, ← List.map_append, List.take_append_drop, List.take_of_length_le (Nat.le_refl _)]
  refine ⟨(x.zones.drop (m + 1)).map (fun z => (k, z)) ++ flat (l.drop (k + 1)) (0 + (l.take (k + 1)).length), ?_⟩
  rw [e1]
  rw [flat_app, ← e1, ← come_all h, e3, come_next hz]
  simp
theorem come_len {l : List E} {k m : Nat} {zs : List ByteArray} (h : ∀ e ∈ l, e.zones.length ≤ 32) (hm : (zs.take m).length ≤ 32) : (come l k m zs).length ≤ l.length * 32 + 32 := by
  unfold come
  have hf : ∀ (a : List E) (i : Nat), (∀ e ∈ a, e.zones.length ≤ 32) → (flat a i).length ≤ a.length * 32 := by
    intro a
    induction a with
    | nil => intro i _; simp [flat]
    | cons e a ih =>
      intro i ha
      unfold flat
      rw [List.length_append, List.length_map, List.length_cons]
      have h1 := ha e List.mem_cons_self
      have h2 := ih (i + 1) (fun x hx => ha x (List.mem_cons_of_mem _ hx))
      omega
  have h1 := hf (l.take k) 0 (fun e he => h e (List.mem_of_mem_take he))
  rw [List.length_append, List.length_map]
  have h2 : (l.take k).length ≤ l.length := by rw [List.length_take]; omega
  have h3 : (l.take k).length * 32 ≤ l.length * 32 := Nat.mul_le_mul_right _ h2
  omega
theorem owner_lt {l : List E} {k m : Nat} {x : E} {z : ByteArray} {j : Nat} (h : l[k]? = some x) (ho : owner (come l k m x.zones) z = some j) : j < l.length := by
  have hk : k < l.length := (List.getElem?_eq_some_iff.1 h).1
  unfold owner at ho
  cases hf : (come l k m x.zones).find? fun q => decide (q.2 = z) with
  | none => rw [hf] at ho; cases ho
  | some q =>
    rw [hf] at ho
    have hq : q.1 = j := by simpa using ho
    have hm := List.mem_of_find?_eq_some hf
    unfold come at hm
    rcases List.mem_append.1 hm with hm | hm
    · obtain ⟨i, e, h1, h2, _⟩ := (flat_mem _ 0 q.1 q.2).1 hm
      have h3 := (List.getElem?_eq_some_iff.1 h1).1
      rw [List.length_take] at h3
      omega
    · obtain ⟨y, _, hy⟩ := List.mem_map.1 hm
      rw [← hq, ← hy]
      exact hk
end Ca
set_option maxHeartbeats 4000000 in
set_option maxRecDepth 100000 in
theorem caShared_any (l : List Ca.E) (A : Option Addr) (n c : Nat) (evs : List Value) (w : World) (hR : Ca.EntR w w.heap.size l (.slice A n c) evs) (hl : l.length = n) (hW : Ca.Wd l) (hz : ∀ e ∈ l, e.zones.length ≤ 32) :
    Calls Tryd.prog 27 #[.slice A n c] w fun e w' => e = .returned (.bool (Ca.shared l)) ∧ Below w.heap.size w w' := by
  have hn : n ≤ 4096 := by rw [← hl]; exact hW.n
  obtain ⟨X, hX⟩ : ∃ X, Ca.shared l = X := ⟨_, rfl⟩
  rw [hX]
  obtain ⟨bm, hbm⟩ : ∃ b, w.heap.size = b := ⟨_, rfl⟩
  obtain ⟨W0, hW0⟩ : ∃ W, w.alloc (.map #[] 0) = W := ⟨_, rfl⟩
  have hB0 : Below w.heap.size w W0 := by rw [← hW0]; exact bal1 _ _
  have hM0 : MapF Tryd.prog 9 W0 bm 0 (Ca.of []) := by
    rw [← hW0, ← hbm]
    exact MapF.made w
  have HR := Lib.hid hR
  have HL := Lib.hid hl
  have HW := Lib.hid hW
  have HZ := Lib.hid hz
  have HX := Lib.hid hX
  have HB0 := Lib.hid hB0
  have HM0 := Lib.hid hM0
  have HBm := Lib.hid hbm
  have HW0 := Lib.hid hW0
  clear hR hl hW hX hB0 hM0 hbm hW0 hz
  have hmk := make_int (n : Int)
  go_enter Tryd.func27, Tryd.ntmps27
  go_wp2_with fail
  rw [HW0.out, HBm.out]
  go_loopw [15] (fun i wr => ∃ k : Nat, k ≤ n ∧ i = .int .i64 (k : Int) ∧ Hid (Below w.heap.size w wr) ∧ Hid (MapF Tryd.prog 9 wr bm (Ca.flat (l.take k) 0).length (Ca.of (Ca.flat (l.take k) 0))) ∧ Hid (Ca.Calm l (Ca.flat (l.take k) 0))) (fun i _ => n - (intOf i).toNat)
  case atStart => exact ⟨0, Nat.zero_le _, rfl, HB0.out, HM0.out, fun p hp => by cases hp⟩
  case round =>
    clear hmk
    obtain ⟨k, hk, rfl, HB, HM, HC⟩ := hrel
    by_cases hlt : k < n
    · have q1 : (0 : Int) ≤ (k : Int) := by omega
      have q2 : (k : Int) < (n : Int) := by omega
      obtain ⟨ad, x, zA, mm, zc, hAe, hab, Hx, c0', c1', c2', HZl, hz1, hz2, HZr, HEv⟩ := HR.out.at_ HL.out hlt
      subst hAe
      have c0 := (HB.out.cell (p := ad.add (k * 3)) (by rw [block_of_add]; exact hab)).trans c0'
      have c1 := (HB.out.cell (p := ⟨(ad.add (k * 3)).block, (ad.add (k * 3)).off + 1, none⟩) (by show (ad.add (k * 3)).block < _; rw [block_of_add]; exact hab)).trans c1'
      have c2 := (HB.out.cell (p := ⟨(ad.add (k * 3)).block, (ad.add (k * 3)).off + 2, none⟩) (by show (ad.add (k * 3)).block < _; rw [block_of_add]; exact hab)).trans c2'
      obtain ⟨h1, h2, h3⟩ := HW.out.all x (List.mem_of_getElem? Hx.out)
      have hm32 : mm ≤ 32 := by rw [← HZl.out]; exact HZ.out x (List.mem_of_getElem? Hx.out)
      have H3 := Lib.hid h3
      obtain ⟨G, hG⟩ : ∃ G, wr.heap.size = G := ⟨_, rfl⟩
      have hGb : bm < G := by rw [← hG]; exact HM.out.lt
      have HBe := Lib.hid (bal HB.out (.cells #[.string x.key, .string x.terr, .slice zA mm zc] 49))
      have HMe : Hid (MapF Tryd.prog 9 (wr.alloc (.cells #[.string x.key, .string x.terr, .slice zA mm zc] 49)) bm (Ca.come l k 0 x.zones).length (Ca.of (Ca.come l k 0 x.zones))) := by
        show MapF _ _ _ _ _ _
        rw [Ca.come_zero]
        exact HM.out.alloc _
      have HCe : Hid (Ca.Calm l (Ca.come l k 0 x.zones)) := by
        show Ca.Calm _ _
        rw [Ca.come_zero]
        exact HC.out
      have HAe : Hid (At (wr.alloc (.cells #[.string x.key, .string x.terr, .slice zA mm zc] 49)) G [.string x.key, .string x.terr, .slice zA mm zc]) := by
        show At _ _ _
        rw [← hG]
        exact At.new _ _ _
      have HG := Lib.hid hG
      clear c0' c1' c2' h3 h1 h2 HEv HM HC hG
      go_wp2_with fail
      rw [HG.out]
      go_loopw [23] (fun i wi => ∃ m : Nat, m ≤ mm ∧ i = .int .i64 (m : Int) ∧ Hid (Below w.heap.size w wi) ∧ Hid (MapF Tryd.prog 9 wi bm (Ca.come l k m x.zones).length (Ca.of (Ca.come l k m x.zones))) ∧ Hid (Ca.Calm l (Ca.come l k m x.zones)) ∧ Hid (At wi G [.string x.key, .string x.terr, .slice zA mm zc])) (fun i _ => mm - (intOf i).toNat)
      case atStart => exact ⟨0, Nat.zero_le _, rfl, HBe.out, HMe.out, HCe.out, HAe.out⟩
      case round =>
        clear c0 c1 c2 HBe HMe HCe HAe HB
        obtain ⟨m, hm, rfl, HB, HM, HC, HA⟩ := hrel
        by_cases hlt2 : m < mm
        · have q3 : (0 : Int) ≤ (m : Int) := by omega
          have q4 : (m : Int) < (mm : Int) := by omega
          obtain ⟨ad2, z, hzA, Hz, hcell⟩ : ∃ ad2 nm, zA = some ad2 ∧ Hid (x.zones[m]? = some nm) ∧ wr.cell? (ad2.add m) = some (.string nm) := reads_str (HZr.out.below HB.out) hlt2
          subst hzA
          have hzs := H3.out z (List.mem_of_getElem? Hz.out)
          have HN := Lib.hid (Ca.come_next (l := l) (k := k) Hz.out)
          have hpl : (Ca.come l k m x.zones).length < maxLen := by
            have h := Ca.come_len (l := l) (k := k) (m := m) (zs := x.zones) HZ.out (by rw [List.length_take, HZl.out]; omega)
            rw [HL.out] at h
            unfold maxLen
            omega
          have HPl := Lib.hid hpl
          cases ho : Ca.owner (Ca.come l k m x.zones) z with
          | none =>
            have hu : (Ca.of (Ca.come l k m x.zones) z).getD (.int .i64 0) = .int .i64 0 := by unfold Ca.of; rw [ho]; rfl
            have hq : (Ca.of (Ca.come l k m x.zones) z).isSome = false := by unfold Ca.of; rw [ho]; rfl
            have HNw := Lib.hid (Ca.of_new (i := k) ho)
            have HCn := Lib.hid (HC.out.new (i := k) (z := z) (fun j hj => by rw [ho] at hj; cases hj))
            clear ho hpl
            go_wp2_with (first | (at_lookup; refine look_num _ rfl _ _ bm _ _ z hzs rfl rfl rfl HM.out _ hu false hq ?_) | (at_mapUpdate; refine store_num _ rfl _ _ _ bm _ _ z hzs HPl.out (k : Int) rfl rfl rfl rfl HM.out ?_; intro w3 hM3 hg3; have HM3 := Lib.hid hM3; have HG3 := Lib.hid hg3; clear hM3 hg3))
            go_roundw
            case rel => exact ⟨m + 1, by omega, by go_num, HB.out.grown HG3.out HB.out.size (fun j e => by cases e; exact Nat.le_of_eq HBm.out), by show MapF _ _ _ _ _ _; rw [HN.out, ← HNw.out, List.length_append]; exact HM3.out, by show Ca.Calm _ _; rw [HN.out]; exact HCn.out, Sc.At.grownO HA.out HG3.out (fun j e => by cases e; omega)⟩
            case measure => simp [intOf]; omega
          | some j =>
            have hu : (Ca.of (Ca.come l k m x.zones) z).getD (.int .i64 0) = .int .i64 (j : Int) := by unfold Ca.of; rw [ho]; rfl
            have hq : (Ca.of (Ca.come l k m x.zones) z).isSome = true := by unfold Ca.of; rw [ho]; rfl
            have hj : j < n := by rw [← HL.out]; exact Ca.owner_lt Hx.out ho
            have HOl := Lib.hid (Ca.of_old (i := k) ho)
            obtain ⟨ad3, y, yA, ym, yc, hAy, hay, Hy, y0', _, _, _, _, _, _, _⟩ := HR.out.at_ HL.out hj
            injection hAy with hAy
            subst hAy
            have y0 := (HB.out.cell (p := ad.add (j * 3)) (by rw [block_of_add]; exact hay)).trans y0'
            have q5 : (0 : Int) ≤ (j : Int) := by omega
            have q6 : (j : Int) < (n : Int) := by omega
            have a0 := HA.out.cell 0 _ rfl
            have a1 := HA.out.cell 1 _ rfl
            have a2 := HA.out.cell 2 _ rfl
            have HO := Lib.hid ho
            obtain ⟨ky, hky⟩ : ∃ t, y.key = t := ⟨_, rfl⟩
            obtain ⟨kx, hkx⟩ : ∃ t, x.key = t := ⟨_, rfl⟩
            have HKy := Lib.hid ((Ca.keyAt_of Hy.out).trans hky)
            have HKx := Lib.hid ((Ca.keyAt_of Hx.out).trans hkx)
            rw [hky] at y0
            rw [hkx] at a0
            clear y0' hpl ho hky hay
            by_cases he : ky = kx
            · have qe := Ca.bytes_eq he
              have qe' : ky.toList = kx.toList := by rw [he]
              have HCn := Lib.hid (HC.out.new (i := k) (z := z) (fun i hi => by
                rw [HO.out] at hi
                cases hi
                rw [HKy.out, HKx.out, he]))
              clear he hkx
              go_wp2_with (at_lookup; refine look_num _ rfl _ _ bm _ _ z hzs rfl rfl rfl HM.out _ hu true hq ?_)
              go_quiet (fail)
              go_wp2
              go_roundw
              case rel => exact ⟨m + 1, by omega, by go_num, by first | exact HB.out | exact below_drew HB.out ⟨_, rfl⟩, by show MapF _ _ _ _ _ _; rw [HN.out, HOl.out, List.length_append]; exact HM.out.more (Nat.le_succ _), by show Ca.Calm _ _; rw [HN.out]; exact HCn.out, by first | exact HA.out | exact HA.out.drew ⟨_, rfl⟩⟩
              case measure => simp [intOf]; omega
            · obtain ⟨qe, qe'⟩ := Ca.bytes_ne he
              have HE : Hid (X = true) := by
                show X = true
                rw [← HX.out]
                obtain ⟨r, hr⟩ := Ca.come_split (l := l) Hx.out Hz.out
                exact Ca.shared_yes hr HO.out (by rw [HKy.out, HKx.out]; exact he)
              clear he hkx
              go_wp2_with (at_lookup; refine look_num _ rfl _ _ bm _ _ z hzs rfl rfl rfl HM.out _ hu true hq ?_)
              go_quiet (fail)
              go_wp2
              go_ret
              exact ⟨ret_bool HE.out.symm, by first | exact HB.out | exact below_drew HB.out ⟨_, rfl⟩⟩
        · have p2 : ¬ (m : Int) < (mm : Int) := by omega
          have HMn : Hid (MapF Tryd.prog 9 wr bm (Ca.flat (l.take (k + 1)) 0).length (Ca.of (Ca.flat (l.take (k + 1)) 0)) ∧ Ca.Calm l (Ca.flat (l.take (k + 1)) 0)) := by
            have hme : m = x.zones.length := by rw [HZl.out]; omega
            have h1 := HM.out
            have h2 := HC.out
            rw [hme, Ca.come_all Hx.out] at h1 h2
            exact ⟨h1, h2⟩
          go_wp2
          go_roundw
          case rel => exact ⟨k + 1, by omega, by go_num, HB.out, HMn.out.1, HMn.out.2⟩
          case measure => simp [intOf]; omega
    · have p2 : ¬ (k : Int) < (n : Int) := by omega
      have HE : Hid (X = false) := by
        show X = false
        rw [← HX.out]
        have h := HC.out
        rw [List.take_of_length_le (by rw [HL.out]; omega)] at h
        exact Ca.shared_no h
      go_wp2
      go_ret
      exact ⟨ret_bool HE.out.symm, HB.out⟩
end Go.Proofs.YthmhadgbhakdlaaDoor

/- chart.Check. -/
namespace Go.Proofs.YthmhadgbhakdlaaDoor
open Go.RowKit

set_option maxHeartbeats 1000000 in
set_option maxRecDepth 100000 in
theorem caWrong_any (x : Ca.E) (A : Option Addr) (n c : Nat) (w : World) (hn : x.zones.length = n) (hr : Reads w w.heap.size 1 A n (x.zones.map Value.string)) (hc : n ≤ c) (h1 : x.key.size ≤ maxLen) (h2 : x.terr.size ≤ maxLen) (h3 : ∀ z ∈ x.zones, z.size ≤ maxLen) :
    Calls Tryd.prog 24 #[.agg #[.string x.key, .string x.terr, .slice A n c]] w fun e w' => e = .returned (.bool (!Ca.right x)) ∧ Below w.heap.size w w' := by
  subst hn
  obtain ⟨W0, hW0⟩ : ∃ W, w.alloc (.cells #[.string x.key, .string x.terr, .slice A x.zones.length c] 49) = W := ⟨_, rfl⟩
  have hB0 : Below w.heap.size w W0 := by rw [← hW0]; exact bal1 _ _
  have hA0 : At W0 w.heap.size [.string x.key, .string x.terr, .slice A x.zones.length c] := by rw [← hW0]; exact At.new _ _ _
  obtain ⟨c0, c1, c2, _⟩ := hA0.three
  have hC := caRight_any x A c W0 ((hr.below hB0).more hB0.size) hc h1 h2 h3
  obtain ⟨b, hb⟩ : ∃ b, Ca.right x = b := ⟨_, rfl⟩
  obtain ⟨m, hm⟩ : ∃ m, x.zones.length = m := ⟨_, rfl⟩
  rw [hb] at hC ⊢
  rw [hm] at hC hW0 c2 ⊢
  have HC := Lib.hid hC
  have HB0 := Lib.hid hB0
  have HW0 := Lib.hid hW0
  clear hC hB0 hW0 hA0 hr hc h1 h2 h3 hb hm
  go_enter Tryd.func24, Tryd.ntmps24
  go_wp2_with fail
  rw [HW0.out]
  go_wp2_with fail
  refine HC.out.mono ?_
  rintro e w1 ⟨rfl, hb1⟩
  have HB1 := Lib.hid (below_then HB0.out hb1)
  clear hb1
  go_wp2
  go_ret
  exact ⟨rfl, HB1.out⟩
set_option maxHeartbeats 1000000 in
set_option maxRecDepth 100000 in
theorem caCheck_any (l : List Ca.E) (A : Option Addr) (n c : Nat) (evs : List Value) (w : World) (hR : Ca.EntR w w.heap.size l (.slice A n c) evs) (hl : l.length = n) (hW : Ca.Wd l) :
    Calls Tryd.prog 11 #[.slice A n c] w fun e w' => e = .returned (.int .i64 (Ca.chk l)) ∧ Below w.heap.size w w' := by
  have hn : n ≤ 4096 := by rw [← hl]; exact hW.n
  have q0 : ¬ (4096 : Int) < (n : Int) := by omega
  obtain ⟨X, hX⟩ : ∃ X, Ca.chk l = X := ⟨_, rfl⟩
  rw [hX]
  unfold Ca.chk at hX
  have hr := hR.row
  rw [hl] at hr
  obtain ⟨A', c', e9, _, hc9, hr9⟩ := hr
  injection e9 with e91 e92 e93
  rw [← e91] at hr9
  have hlz : (l.zip evs).length = n := by rw [List.length_zip, hR.len, hl]; omega
  have hzz : ∀ p ∈ l.zip evs, ∃ A m c, p.2 = .slice A m c := fun p hp => by
    obtain ⟨A2, c2, e2, _⟩ := hR.zns p hp
    exact ⟨A2, _, c2, e2⟩
  have hT : Ix.Tells 24 #[] Ca.ev (fun q => !Ca.right q.1) (l.zip evs) w := by
    intro W p hp hb
    obtain ⟨A2, c2, e2, h1, _, h3⟩ := hR.zns p hp
    obtain ⟨k1, k2, k3⟩ := hW.all _ (Ca.mem_zip_fst hp)
    have := caWrong_any p.1 A2 _ c2 W rfl ((h3.below hb).more hb.size) h1 k1 k2 k3
    unfold Ca.ev
    rw [e2]
    exact this.mono fun e w' h => ⟨h.1, below_then hb h.2⟩
  have hH := has_entry (fun q => !Ca.right q.1) 24 #[] (enters_of Tryd.func24 (by kernel_rfl) rfl) A n c (l.zip evs) w (by unfold maxLen; omega) hlz hr9 hzz hT
  rw [Ca.any_zip (fun e => !Ca.right e) l evs hR.len] at hH
  have HT := Lib.hid fun W (hb : Below w.heap.size w W) => caTwice_any l A n c evs W (hR.call hb) hl hW
  have HA := Lib.hid fun W (hb : Below w.heap.size w W) => caAlone_any l A n c evs W (hR.call hb) hl hW
  have HS := Lib.hid fun W (hb : Below w.heap.size w W) hz => caShared_any l A n c evs W (hR.call hb) hl hW hz
  obtain ⟨b1, hb1⟩ : ∃ b, (l.any fun e => !Ca.right e) = b := ⟨_, rfl⟩
  obtain ⟨b2, hb2⟩ : ∃ b, Ca.dup l = b := ⟨_, rfl⟩
  obtain ⟨b3, hb3⟩ : ∃ b, Ca.alone l = b := ⟨_, rfl⟩
  obtain ⟨b4, hb4⟩ : ∃ b, Ca.shared l = b := ⟨_, rfl⟩
  rw [hb1] at hH hX
  rw [hb2] at HT hX
  rw [hb3] at HA hX
  rw [hb4] at HS hX
  have hz : b1 = false → ∀ e ∈ l, e.zones.length ≤ 32 := by
    intro hb e he
    rw [hb, List.any_eq_false] at hb1
    have h := hb1 e he
    have h2 : Ca.right e = true := by simpa using h
    unfold Ca.right at h2
    simp only [Bool.and_eq_true, decide_eq_true_eq] at h2
    exact h2.1.2.2
  have HH := Lib.hid hH
  have HZ := Lib.hid hz
  have HX := Lib.hid hX
  clear hR hl hW hX hr9 e91 e92 e93 hc9 hlz hzz hT hH hb1 hb2 hb3 hb4 hz
  go_enter Tryd.func11, Tryd.ntmps11
  go_wp2_with fail
  refine HH.out.mono ?_
  rintro e w1 ⟨rfl, hb⟩
  have HB1 := Lib.hid hb
  clear hb
  cases b1 with
  | true =>
    have HE : Hid (X = 2) := HX.out.symm
    go_wp2
    go_ret
    exact ⟨ret_int HE.out.symm, HB1.out⟩
  | false =>
    have HZf : Hid (∀ e ∈ l, e.zones.length ≤ 32) := HZ.out (Eq.refl false)
    clear HZ
    go_wp2_with fail
    refine (HT.out _ HB1.out).mono ?_
    rintro e w2 ⟨rfl, hb⟩
    have HB2 := Lib.hid (below_then HB1.out hb)
    clear hb
    cases b2 with
    | true =>
      have HE : Hid (X = 8) := HX.out.symm
      go_wp2
      go_ret
      exact ⟨ret_int HE.out.symm, HB2.out⟩
    | false =>
      go_wp2_with fail
      refine (HA.out _ HB2.out).mono ?_
      rintro e w3 ⟨rfl, hb⟩
      have HB3 := Lib.hid (below_then HB2.out hb)
      clear hb
      cases b3 with
      | false =>
        have HE : Hid (X = 3) := HX.out.symm
        go_wp2
        go_ret
        exact ⟨ret_int HE.out.symm, HB3.out⟩
      | true =>
        go_wp2_with fail
        refine (HS.out _ HB3.out HZf.out).mono ?_
        rintro e w4 ⟨rfl, hb⟩
        have HB4 := Lib.hid (below_then HB3.out hb)
        clear hb
        cases b4 with
        | true =>
          have HE : Hid (X = 7) := HX.out.symm
          go_wp2
          go_ret
          exact ⟨ret_int HE.out.symm, HB4.out⟩
        | false =>
          have HE : Hid (X = 0) := HX.out.symm
          go_wp2
          go_ret
          exact ⟨ret_int HE.out.symm, HB4.out⟩
end Go.Proofs.YthmhadgbhakdlaaDoor

/- atlas.find, atlas.Zones, atlas.Default. -/
namespace Go.Proofs.YthmhadgbhakdlaaDoor
open Go.RowKit

namespace Ca
theorem at_find (p : E → Bool) : ∀ (l : List E) (i : Nat), (l.find? p = none ∧ Ix.at_ p l (i : Int) = -1) ∨ ∃ j e, l[j]? = some e ∧ l.find? p = some e ∧ Ix.at_ p l (i : Int) = ((i + j : Nat) : Int)
  | [], i => .inl ⟨rfl, rfl⟩
  | x :: l, i => by
    cases hx : p x with
    | true =>
      right
      refine ⟨0, x, rfl, by rw [List.find?_cons, hx], ?_⟩
      unfold Ix.at_
      rw [if_pos hx]
      simp
    | false =>
      have e1 : Ix.at_ p (x :: l) (i : Int) = Ix.at_ p l ((i + 1 : Nat) : Int) := by
        rw [Ix.at_, if_neg (by rw [hx]; decide)]
        rfl
      rw [List.find?_cons, hx, e1]
      rcases at_find p l (i + 1) with ⟨h1, h2⟩ | ⟨j, e, h1, h2, h3⟩
      · exact .inl ⟨h1, h2⟩
      · exact .inr ⟨j + 1, e, by simpa using h1, h2, by rw [h3]; congr 1; omega⟩
theorem at_zip (p : E → Bool) : ∀ (l : List E) (evs : List Value) (i : Int), evs.length = l.length → Ix.at_ (fun q => p q.1) (l.zip evs) i = Ix.at_ p l i
  | [], _, _, _ => rfl
  | x :: l, [], _, h => by simp at h
  | x :: l, v :: evs, i, h => by
    rw [List.zip_cons_cons, Ix.at_, Ix.at_, at_zip p l evs (i + 1) (by simpa using h)]
/-- Where atlas.find finds. -/
def at2 (l : List E) (k t : ByteArray) : Int := Ix.at_ (fun e => decide (e.key = k ∧ e.terr = t)) l 0
theorem at2_cases (l : List E) (k t : ByteArray) : (fnd l k t = none ∧ at2 l k t = -1) ∨ ∃ (j : Nat) (e : E), l[j]? = some e ∧ fnd l k t = some e ∧ at2 l k t = (j : Int) := by
  unfold fnd at2
  rcases at_find (fun e => decide (e.key = k ∧ e.terr = t)) l 0 with h | ⟨j, e, h1, h2, h3⟩
  · exact .inl h
  · exact .inr ⟨j, e, h1, h2, by simpa using h3⟩
end Ca
/-- What atlas.Zones hands back. -/
def Ca.ZnRet (r : List ByteArray × Int) (w : World) (e : Ending) (w' : World) : Prop :=
  ∃ A c, e = .returned (.tuple #[.slice A r.1.length c, .int .i64 r.2]) ∧ r.1.length ≤ c ∧ c ≤ maxLen ∧ Reads w' w'.heap.size 1 A r.1.length (r.1.map Value.string) ∧ Below w.heap.size w w'
theorem Ca.ZnRet.nil (k : Int) {w w' : World} (hb : Below w.heap.size w w') : Ca.ZnRet ([], k) w (.returned (.tuple #[.slice none 0 0, .int .i64 k])) w' :=
  ⟨none, 0, rfl, Nat.le_refl _, by unfold maxLen; omega, Reads.none_, hb⟩
end Go.Proofs.YthmhadgbhakdlaaDoor

/- atlas.Default and chart.Keys. -/
namespace Go.Proofs.YthmhadgbhakdlaaDoor
open Go.RowKit

theorem add_zero (ad : Addr) : ad.add 0 = ad := by unfold Addr.add; rw [if_pos rfl]
namespace Ca
theorem keys_next {l : List E} {k : Nat} {x : E} (h : l[k]? = some x) : keys (l.take (k + 1)) = keyStep (keys (l.take k)) x := by
  unfold keys
  rw [take_next h, List.foldl_append]
  rfl
theorem keys_len (l : List E) : (keys l).length ≤ l.length := by
  unfold keys
  have h : ∀ (l : List E) (a : List ByteArray), (l.foldl keyStep a).length ≤ a.length + l.length := by
    intro l
    induction l with
    | nil => intro a; simp
    | cons x l ih =>
      intro a
      rw [List.foldl_cons, List.length_cons]
      refine Nat.le_trans (ih _) ?_
      unfold keyStep
      split
      · omega
      · rw [List.length_append, List.length_singleton]; omega
  simpa using h l []
end Ca
end Go.Proofs.YthmhadgbhakdlaaDoor

/- atlas.leads: where names lead, each asked for once. -/
namespace Go.Proofs.YthmhadgbhakdlaaDoor
open Go.RowKit

namespace Ca
/-- A map that holds one value at all of these. -/
def nf (v : Value) (l : List ByteArray) : Mp.Fn := fun s => if has l s = true then some v else none
theorem nf_nil (v : Value) : nf v [] = fun _ => none := rfl
theorem nf_put (v : Value) (l : List ByteArray) (s : ByteArray) : Mp.put (nf v l) s v = nf v (l ++ [s]) := by
  funext t
  unfold Mp.put nf
  by_cases h : t = s
  · subst h
    rw [if_pos rfl, if_pos (has_iff.2 (List.mem_append_right _ (List.mem_singleton.2 rfl)))]
  · rw [if_neg h]
    by_cases h2 : t ∈ l
    · rw [if_pos (has_iff.2 h2), if_pos (has_iff.2 (List.mem_append_left _ h2))]
    · rw [if_neg (fun q => h2 (has_iff.1 q)), if_neg (fun q => by
        rcases List.mem_append.1 (has_iff.1 q) with q | q
        · exact h2 q
        · exact h (List.mem_singleton.1 q))]
/-- What the map of atlas.leads holds, these names having been asked for. -/
def lf (s : Src.S) (A : List ByteArray) : Mp.Fn := fun z => if has (Src.names s) z = true then some (.int .i64 (if has A z = true then lead s z else -2)) else none
theorem lf_nil (s : Src.S) : nf (.int .i64 (-2)) (Src.names s) = lf s [] := by
  funext z
  unfold nf lf
  rfl
theorem lf_out {s : Src.S} {A : List ByteArray} {z : ByteArray} (h : z ∉ Src.names s) : lf s A z = none := by
  unfold lf
  rw [if_neg (fun q => h (has_iff.1 q))]
theorem lf_in {s : Src.S} {A : List ByteArray} {z : ByteArray} (h : z ∈ Src.names s) (ha : z ∈ A) : lf s A z = some (.int .i64 (lead s z)) := by
  unfold lf
  rw [if_pos (has_iff.2 h), if_pos (has_iff.2 ha)]
theorem lf_new {s : Src.S} {A : List ByteArray} {z : ByteArray} (h : z ∈ Src.names s) (ha : z ∉ A) : lf s A z = some (.int .i64 (-2)) := by
  unfold lf
  rw [if_pos (has_iff.2 h), if_neg (fun q => ha (has_iff.1 q))]
theorem lf_put {s : Src.S} {A : List ByteArray} {z : ByteArray} (hz : z ∈ Src.names s) : Mp.put (lf s A) z (.int .i64 (lead s z)) = lf s (A ++ [z]) := by
  funext t
  unfold Mp.put
  by_cases h : t = z
  · rw [if_pos h, h, lf_in hz (List.mem_append_right _ (List.mem_singleton.2 rfl))]
  · rw [if_neg h]
    by_cases h1 : t ∈ Src.names s
    · by_cases h2 : t ∈ A
      · rw [lf_in h1 h2, lf_in h1 (List.mem_append_left _ h2)]
      · rw [lf_new h1 h2, lf_new h1 (fun q => by
          rcases List.mem_append.1 q with q | q
          · exact h2 q
          · exact h (List.mem_singleton.1 q))]
    · rw [lf_out h1, lf_out h1]
theorem lead_ge (s : Src.S) (z : ByteArray) : -1 ≤ lead s z := by
  unfold lead
  split
  · have := walk_pos s z
    omega
  · omega
theorem lead_out {s : Src.S} {z : ByteArray} (h : z ∉ Src.names s) : lead s z = -1 := by
  have h1 : Lk.first (Lk.zn s) z = none := Lk.first_none.2 (fun q => h (List.mem_append_left _ q))
  have h2 : Lk.first (Lk.ln s) z = none := Lk.first_none.2 (fun q => h (List.mem_append_right _ q))
  unfold lead Lk.walk
  rw [Lk.find]
  simp only [h1, h2]
  rfl
/-- What atlas.leads has laid: its source, its map, the map's box. -/
structure Ld (s : Src.S) (rv zv lv : Value) (h : Nat) (A : List ByteArray) (w : World) : Prop where
  box : At w (h + 2) [.map (some (h + 1))]
  src : At w h [rv, zv, lv]
  map : MapF Tryd.prog 9 w (h + 1) ((Src.names s).length + A.length) (lf s A)
  nodup : A.Nodup
  sub : ∀ a ∈ A, a ∈ Src.names s
theorem Ld.call {s : Src.S} {rv zv lv : Value} {h : Nat} {A : List ByteArray} {w w' : World} (k : Ld s rv zv lv h A w) (hb : Below w.heap.size w w') : Ld s rv zv lv h A w' :=
  ⟨k.box.call hb, k.src.call hb, k.map.below hb, k.nodup, k.sub⟩
/-- What a name's question leaves. -/
def LeadRet (s : Src.S) (rv zv lv : Value) (h : Nat) (z : ByteArray) (w : World) (e : Ending) (w' : World) : Prop :=
  e = .returned (.int .i64 (lead s z)) ∧ (∃ A, Ld s rv zv lv h A w') ∧ w.grownBy w' (some (h + 1))
theorem grown_of {w w1 : World} (hb : Below w.heap.size w w1) (row : Option Nat) : w.grownBy w1 row := ⟨hb.os, hb.tape, hb.output, hb.size, fun k hk _ => hb.block k hk⟩
theorem grown_then {w w1 w2 : World} {row : Option Nat} (hb : Below w.heap.size w w1) (hg : w1.grownBy w2 row) : w.grownBy w2 row :=
  ⟨hg.os.trans hb.os, hg.tape.trans hb.tape, hg.output.trans hb.output, Nat.le_trans hb.size hg.size, fun k hk hne => (hg.block k (by have := hb.size; omega) hne).trans (hb.block k hk)⟩
end Ca
end Go.Proofs.YthmhadgbhakdlaaDoor
