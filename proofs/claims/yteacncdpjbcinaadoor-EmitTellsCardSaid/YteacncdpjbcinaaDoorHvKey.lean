/- hive.checkKey and hive.Check: whether keys, and hives, are right. -/
import Derived.Test.YteacncdpjbcinaaDoorHvVal
import Derived.Test.YteacncdpjbcinaaDoorHvPath
namespace Go.Proofs.YteacncdpjbcinaaDoor
open Go.RowKit

namespace Hv
def names (l : List V) : List ByteArray := l.map V.name
def paths (l : List K) : List ByteArray := l.map K.path
/-- What a loop over a key's values finds, behind names that are there. -/
def valsB : List ByteArray → List V → Bool
  | _, [] => true
  | seen, v :: l => valB v && (!has seen v.name && valsB (seen ++ [v.name]) l)
def keyB (k : K) : Bool := path k.path && (decide (k.vals.length ≤ 512) && valsB [] k.vals)
def keysB : List ByteArray → List K → Bool
  | _, [] => true
  | seen, k :: l => keyB k && (!has seen k.path && keysB (seen ++ [k.path]) l)
def hiveB (l : List K) : Bool := decide (l.length ≤ 4096) && keysB [] l
theorem names_next {l : List V} {k : Nat} {v : V} (h : l[k]? = some v) : names (l.take (k + 1)) = names (l.take k) ++ [v.name] := by
  unfold names
  rw [take_next h, List.map_append]
  rfl
theorem paths_next {l : List K} {k : Nat} {v : K} (h : l[k]? = some v) : paths (l.take (k + 1)) = paths (l.take k) ++ [v.path] := by
  unfold paths
  rw [take_next h, List.map_append]
  rfl
theorem drop_next {α : Type} {l : List α} {k : Nat} {v : α} (h : l[k]? = some v) : l.drop k = v :: l.drop (k + 1) := by
  rw [List.drop_eq_getElem_cons (List.getElem?_eq_some_iff.1 h).1, (List.getElem?_eq_some_iff.1 h).2]
end Hv
set_option maxHeartbeats 4000000 in
set_option maxRecDepth 100000 in
theorem hvKey_any (p : ByteArray) (hp : p.size ≤ maxLen) (l : List Hv.V) (hl : ∀ v ∈ l, v.Ok) (A : Option Addr) (n c : Nat) (w : World) (hn : l.length = n) (hnm : n ≤ maxLen) (hr : Reads w w.heap.size 5 A n (l.flatMap Hv.V.cells)) (hW : Wl w) :
    Calls Tryd.prog 23 #[.agg #[.string p, .slice A n c]] w fun e w' => e = .returned (.bool (Hv.keyB ⟨p, l⟩)) ∧ Below w.heap.size w w' := by
  have hmk := Hv.make_set (n : Int)
  have HP : Hid (∀ W, Below w.heap.size w W → Calls Tryd.prog 31 #[.string p] W fun e w' => e = .returned (.bool (Hv.path p)) ∧ Below W.heap.size W w') := fun W hb => hvPath_any p hp W (hW.below hb)
  obtain ⟨X, hX⟩ : ∃ X, Hv.keyB ⟨p, l⟩ = X := ⟨_, rfl⟩
  rw [hX]
  unfold Hv.keyB at hX
  simp only at hX
  rw [hn] at hX
  obtain ⟨pb, hpb⟩ : ∃ b, Hv.path p = b := ⟨_, rfl⟩
  rw [hpb] at HP hX
  have HR := Lib.hid hr
  have HN := Lib.hid hn
  have HO := Lib.hid hl
  have HX := Lib.hid hX
  unfold maxLen at hnm
  obtain ⟨W0, hW0⟩ : ∃ W, w.alloc (.cells #[.string p, .slice A n c] 40) = W := ⟨_, rfl⟩
  have HB0 : Hid (Below w.heap.size w W0) := by show Below _ _ _; rw [← hW0]; exact Hv.bl1 _ _
  have HA0 : Hid (At W0 w.heap.size [.string p, .slice A n c]) := by show At _ _ _; rw [← hW0]; exact At.new _ _ _
  have HW0 := Lib.hid hW0
  have a0 := HA0.out.cell 0 _ rfl
  clear hW0 hX hpb hr hn hl hW hp
  go_enter Tryd.func23, Tryd.ntmps23
  go_wp2_with fail
  rw [HW0.out]
  go_wp2_with fail
  refine (HP.out _ HB0.out).mono ?_
  rintro e w1 ⟨rfl, hb⟩
  have HB1 := Lib.hid (below_then HB0.out hb)
  have a1 := (HA0.out.call hb).cell 1 _ rfl
  have hlt1 := (HA0.out.call hb).lt
  clear hb a0 HW0 HP
  cases pb with
  | false =>
    have HE : Hid (X = false) := HX.out.symm
    go_wp2
    go_ret
    exact ⟨by rw [HE.out]; rfl, HB1.out⟩
  | true =>
    have hx := HX.out
    rw [Bool.true_and] at hx
    clear HX
    by_cases hn5 : n ≤ 512
    case neg =>
      have p5 : (512 : Int) < (n : Int) := by omega
      rw [decide_eq_false hn5] at hx
      have HE : Hid (X = false) := hx.symm
      go_wp2
      go_ret
      exact ⟨by rw [HE.out]; rfl, HB1.out⟩
    have p5 : ¬ (512 : Int) < (n : Int) := by omega
    rw [decide_eq_true hn5, Bool.true_and] at hx
    have HX := Lib.hid hx
    obtain ⟨bm, hbm⟩ : ∃ b, w1.heap.size = b := ⟨_, rfl⟩
    obtain ⟨W2, hW2⟩ : ∃ W, w1.alloc (.map #[] 0) = W := ⟨_, rfl⟩
    have HB2 : Hid (Below w.heap.size w W2) := by show Below _ _ _; rw [← hW2]; exact Hv.bl HB1.out _
    have HM2 : Hid (MapF Tryd.prog 9 W2 bm 0 (Hv.sf [])) := by show MapF _ _ _ _ _ _; rw [← hW2, ← hbm]; exact MapF.made w1
    have HBm : Hid (w.heap.size ≤ bm) := by show _ ≤ _; rw [← hbm]; exact HB1.out.size
    have HW2 := Lib.hid hW2
    have HBq := Lib.hid hbm
    clear hW2 hbm hx
    go_wp2_with fail
    rw [HW2.out, HBq.out]
    clear hmk a1 hlt1
    go_loopw [25] (fun i wr => ∃ k : Nat, k ≤ n ∧ i = .int .i64 (k : Int) ∧ Hid (Below w.heap.size w wr) ∧ Hid (MapF Tryd.prog 9 wr bm k (Hv.sf (Hv.names (l.take k)))) ∧ Hid (Hv.valsB (Hv.names (l.take k)) (l.drop k) = X)) (fun i _ => n - (intOf i).toNat)
    case atStart => exact ⟨0, Nat.zero_le _, rfl, HB2.out, HM2.out, HX.out⟩
    case round =>
      obtain ⟨k, hk, rfl, HB, HM, HV⟩ := hrel
      by_cases hlt : k < n
      · have q1 : (0 : Int) ≤ (k : Int) := by omega
        have q2 : (k : Int) < (n : Int) := by omega
        obtain ⟨ad, x, rfl, hab, Hx, c0, c1, c2, c3, c4⟩ := Hv.val_at (HR.out.below HB.out) HN.out hlt
        have hxo := HO.out x (List.mem_of_getElem? Hx.out)
        have h1 := hxo.name
        have HCv := Lib.hid fun W => hvValue_any x hxo W
        have hv := HV.out
        rw [Hv.drop_next Hx.out] at hv
        unfold Hv.valsB at hv
        obtain ⟨nm, kd, tx, nu, bs⟩ := x
        simp only at c0 c1 c2 c3 c4 h1 hv
        obtain ⟨vb, hvb⟩ : ∃ b, Hv.valB ⟨nm, kd, tx, nu, bs⟩ = b := ⟨_, rfl⟩
        rw [hvb] at hv HCv
        have HT := Lib.hid (Hv.names_next Hx.out)
        obtain ⟨W3, hW3⟩ : ∃ W, wr.alloc (.cells #[.string nm, .int .u8 kd, .string tx, .int .u32 nu, .string bs] 28) = W := ⟨_, rfl⟩
        have HB3 : Hid (Below w.heap.size w W3) := by show Below _ _ _; rw [← hW3]; exact Hv.bl HB.out _
        have HM3 : Hid (MapF Tryd.prog 9 W3 bm k (Hv.sf (Hv.names (l.take k)))) := by show MapF _ _ _ _ _ _; rw [← hW3]; exact HM.out.alloc _
        have HA3 : Hid (At W3 wr.heap.size [.string nm, .int .u8 kd, .string tx, .int .u32 nu, .string bs]) := by show At _ _ _; rw [← hW3]; exact At.new _ _ _
        have HW3 := Lib.hid hW3
        have HCv : Hid (∀ W, Calls Tryd.prog 19 #[.agg #[.string nm, .int .u8 kd, .string tx, .int .u32 nu, .string bs]] W fun e w' => e = .returned (.int .i64 (if vb = true then 0 else 2)) ∧ Below W.heap.size W w') := HCv.out
        have hkm : k < maxLen := by unfold maxLen; omega
        clear hW3 hvb hxo
        go_wp2_with fail
        rw [HW3.out]
        go_wp2_with fail
        refine (HCv.out _).mono ?_
        rintro e w4 ⟨rfl, hb4⟩
        have HB4 := Lib.hid (below_then HB3.out hb4)
        have HM4 := Lib.hid (HM3.out.below hb4)
        have HA4 := Lib.hid (HA3.out.call hb4)
        have d0 := HA4.out.cell 0 _ rfl
        have hlt4 := HA4.out.lt
        clear hb4 c0 c1 c2 c3 c4 HCv HW3 HA3 HB3 HM3
        cases vb with
        | false =>
          have HE : Hid (X = false) := hv.symm
          go_wp2
          go_ret
          exact ⟨by rw [HE.out]; rfl, HB4.out⟩
        | true =>
          rw [Bool.true_and] at hv
          obtain ⟨N, hN⟩ : ∃ N, Hv.names (l.take k) = N := ⟨_, rfl⟩
          rw [hN] at hv HM4 HT
          by_cases hin : nm ∈ N
          · have hq := Hv.has_iff.2 hin
            rw [hq] at hv
            have HE : Hid (X = false) := hv.symm
            have HB5 := Lib.hid (Hv.bl HB4.out (.cells #[] 57))
            clear hin hN hv
            go_wp2_with (at_lookup; refine Hv.look_set _ rfl _ _ bm k _ nm h1 rfl rfl rfl HM4.out true hq ?_)
            go_ret
            exact ⟨by rw [HE.out]; rfl, HB5.out⟩
          · have hq := Hv.has_not hin
            rw [hq, Bool.not_false, Bool.true_and] at hv
            have HB5 := Lib.hid (Hv.bl HB4.out (.cells #[] 57))
            have HM5 := Lib.hid (HM4.out.alloc (.cells #[] 57))
            have HV2 := Lib.hid hv
            clear hin hN hv
            go_wp2_with (first | (at_lookup; refine Hv.look_set _ rfl _ _ bm k _ nm h1 rfl rfl rfl HM4.out false hq ?_) | (at_mapUpdate; refine Hv.store_set _ rfl _ _ _ bm k _ nm h1 hkm rfl rfl rfl rfl HM5.out ?_; intro w6 hM6 hg6; have HM6 := Lib.hid hM6; have HB6 := Lib.hid (HB5.out.grown hg6 HB5.out.size (fun j e => by cases e; exact HBm.out)); clear hM6 hg6))
            go_roundw
            case rel => exact ⟨k + 1, by omega, by go_num, HB6.out, by show MapF _ _ _ _ _ _; rw [HT.out]; exact HM6.out, by show Hv.valsB _ _ = X; rw [HT.out]; exact HV2.out⟩
            case measure => simp [intOf]; omega
      · have q2 : ¬ (k : Int) < (n : Int) := by omega
        have HE : Hid (X = true) := by
          show X = true
          rw [← HV.out, List.drop_eq_nil_of_le (by rw [HN.out]; omega)]
          rfl
        go_wp2
        go_ret
        exact ⟨by rw [HE.out]; rfl, HB.out⟩
end Go.Proofs.YteacncdpjbcinaaDoor
