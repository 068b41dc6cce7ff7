/- hive.checkKey and hive.Check: whether keys, and hives, are right. -/
import Derived.Test.YtmnolcjmnddbnaaGreatDoorP03
import Derived.Test.YtmnolcjmnddbnaaGreatDoorP01
import Derived.Lib.Join
import Derived.StillTail
import Derived.Lib.QuietBelow
import Derived.WalkKit

namespace Go.Proofs.YtmnolcjmnddbnaaGreatDoor
open Go.RowKit

namespace Hv
def names (l : List V) : List ByteArray := l.map V.name
def paths (l : List K) : List ByteArray := l.map K.path
/-- What a loop over a key's values finds, behind names that are there. -/
def valsB : List ByteArray → List V → Bool
  | _, [] => true
  | seen, v :: l => valB v && (!has seen v.name && valsB (seen ++ [v.name]) l)
def keyB (k : K) : Bool := path k.path && (decide (k.vals.length ≤ 512) && valsB [] k.vals)
def keysB : List ByteArray → List K → Bool
  | _, [] => true
  | seen, k :: l => keyB k && (!has seen k.path && keysB (seen ++ [k.path]) l)
def hiveB (l : List K) : Bool := decide (l.length ≤ 4096) && keysB [] l
theorem names_next {l : List V} {k : Nat} {v : V} (h : l[k]? = some v) : names (l.take (k + 1)) = names (l.take k) ++ [v.name] := by
  unfold names
  rw [take_next h, List.map_append]
  rfl
theorem paths_next {l : List K} {k : Nat} {v : K} (h : l[k]? = some v) : paths (l.take (k + 1)) = paths (l.take k) ++ [v.path] := by
  unfold paths
  rw [take_next h, List.map_append]
  rfl
theorem drop_next {α : Type} {l : List α} {k : Nat} {v : α} (h : l[k]? = some v) : l.drop k = v :: l.drop (k + 1) := by
  rw [List.drop_eq_getElem_cons (List.getElem?_eq_some_iff.1 h).1, (List.getElem?_eq_some_iff.1 h).2]
end Hv
set_option maxHeartbeats 4000000 in
set_option maxRecDepth 100000 in
theorem hvKey_any (p : ByteArray) (hp : p.size ≤ maxLen) (l : List Hv.V) (hl : ∀ v ∈ l, v.Ok) (A : Option Addr) (n c : Nat) (w : World) (hn : l.length = n) (hnm : n ≤ maxLen) (hr : Reads w w.heap.size 5 A n (l.flatMap Hv.V.cells)) (hW : Wl w) :
    Calls Tryz.prog 52 #[.agg #[.string p, .slice A n c]] w fun e w' => e = .returned (.bool (Hv.keyB ⟨p, l⟩)) ∧ Below w.heap.size w w' := by
  have hmk := Hv.make_set (n : Int)
  have HP : Hid (∀ W, Below w.heap.size w W → Calls Tryz.prog 9 #[.string p] W fun e w' => e = .returned (.bool (Hv.path p)) ∧ Below W.heap.size W w') := fun W hb => hvPath_any p hp W (hW.below hb)
  obtain ⟨X, hX⟩ : ∃ X, Hv.keyB ⟨p, l⟩ = X := ⟨_, rfl⟩
  rw [hX]
  unfold Hv.keyB at hX
  simp only at hX
  rw [hn] at hX
  obtain ⟨pb, hpb⟩ : ∃ b, Hv.path p = b := ⟨_, rfl⟩
  rw [hpb] at HP hX
  have HR := Lib.hid hr
  have HN := Lib.hid hn
  have HO := Lib.hid hl
  have HX := Lib.hid hX
  unfold maxLen at hnm
  obtain ⟨W0, hW0⟩ : ∃ W, w.alloc (.cells #[.string p, .slice A n c] 44) = W := ⟨_, rfl⟩
  have HB0 : Hid (Below w.heap.size w W0) := by show Below _ _ _; rw [← hW0]; exact Hv.bl1 _ _
  have HA0 : Hid (At W0 w.heap.size [.string p, .slice A n c]) := by show At _ _ _; rw [← hW0]; exact At.new _ _ _
  have HW0 := Lib.hid hW0
  have a0 := HA0.out.cell 0 _ rfl
  clear hW0 hX hpb hr hn hl hW hp
  go_enter Tryz.func52, Tryz.ntmps52
  go_wp2_with fail
  rw [HW0.out]
  go_wp2_with fail
  refine (HP.out _ HB0.out).mono ?_
  rintro e w1 ⟨rfl, hb⟩
  have HB1 := Lib.hid (below_then HB0.out hb)
  have a1 := (HA0.out.call hb).cell 1 _ rfl
  have hlt1 := (HA0.out.call hb).lt
  clear hb a0 HW0 HP
  cases pb with
  | false =>
    have HE : Hid (X = false) := HX.out.symm
    go_wp2
    go_ret
    exact ⟨by rw [HE.out]; rfl, HB1.out⟩
  | true =>
    have hx := HX.out
    rw [Bool.true_and] at hx
    clear HX
    by_cases hn5 : n ≤ 512
    case neg =>
      have p5 : (512 : Int) < (n : Int) := by omega
      rw [decide_eq_false hn5] at hx
      have HE : Hid (X = false) := hx.symm
      go_wp2
      go_ret
      exact ⟨by rw [HE.out]; rfl, HB1.out⟩
    have p5 : ¬ (512 : Int) < (n : Int) := by omega
    rw [decide_eq_true hn5, Bool.true_and] at hx
    have HX := Lib.hid hx
    obtain ⟨bm, hbm⟩ : ∃ b, w1.heap.size = b := ⟨_, rfl⟩
    obtain ⟨W2, hW2⟩ : ∃ W, w1.alloc (.map #[] 0) = W := ⟨_, rfl⟩
    have HB2 : Hid (Below w.heap.size w W2) := by show Below _ _ _; rw [← hW2]; exact Hv.bl HB1.out _
    have HM2 : Hid (MapF Tryz.prog 9 W2 bm 0 (Hv.sf [])) := by show MapF _ _ _ _ _ _; rw [← hW2, ← hbm]; exact MapF.made w1
    have HBm : Hid (w.heap.size ≤ bm) := by show _ ≤ _; rw [← hbm]; exact HB1.out.size
    have HW2 := Lib.hid hW2
    have HBq := Lib.hid hbm
    clear hW2 hbm hx
    go_wp2_with fail
    rw [HW2.out, HBq.out]
    clear hmk a1 hlt1
    go_loopw [25] (fun i wr => ∃ k : Nat, k ≤ n ∧ i = .int .i64 (k : Int) ∧ Hid (Below w.heap.size w wr) ∧ Hid (MapF Tryz.prog 9 wr bm k (Hv.sf (Hv.names (l.take k)))) ∧ Hid (Hv.valsB (Hv.names (l.take k)) (l.drop k) = X)) (fun i _ => n - (intOf i).toNat)
    case atStart => exact ⟨0, Nat.zero_le _, rfl, HB2.out, HM2.out, HX.out⟩
    case round =>
      obtain ⟨k, hk, rfl, HB, HM, HV⟩ := hrel
      by_cases hlt : k < n
      · have q1 : (0 : Int) ≤ (k : Int) := by omega
        have q2 : (k : Int) < (n : Int) := by omega
        obtain ⟨ad, x, rfl, hab, Hx, c0, c1, c2, c3, c4⟩ := Hv.val_at (HR.out.below HB.out) HN.out hlt
        have hxo := HO.out x (List.mem_of_getElem? Hx.out)
        have h1 := hxo.name
        have HCv := Lib.hid fun W => hvValue_any x hxo W
        have hv := HV.out
        rw [Hv.drop_next Hx.out] at hv
        unfold Hv.valsB at hv
        obtain ⟨nm, kd, tx, nu, bs⟩ := x
        simp only at c0 c1 c2 c3 c4 h1 hv
        obtain ⟨vb, hvb⟩ : ∃ b, Hv.valB ⟨nm, kd, tx, nu, bs⟩ = b := ⟨_, rfl⟩
        rw [hvb] at hv HCv
        have HT := Lib.hid (Hv.names_next Hx.out)
        obtain ⟨W3, hW3⟩ : ∃ W, wr.alloc (.cells #[.string nm, .int .u8 kd, .string tx, .int .u32 nu, .string bs] 25) = W := ⟨_, rfl⟩
        have HB3 : Hid (Below w.heap.size w W3) := by show Below _ _ _; rw [← hW3]; exact Hv.bl HB.out _
        have HM3 : Hid (MapF Tryz.prog 9 W3 bm k (Hv.sf (Hv.names (l.take k)))) := by show MapF _ _ _ _ _ _; rw [← hW3]; exact HM.out.alloc _
        have HA3 : Hid (At W3 wr.heap.size [.string nm, .int .u8 kd, .string tx, .int .u32 nu, .string bs]) := by show At _ _ _; rw [← hW3]; exact At.new _ _ _
        have HW3 := Lib.hid hW3
        have HCv : Hid (∀ W, Calls Tryz.prog 14 #[.agg #[.string nm, .int .u8 kd, .string tx, .int .u32 nu, .string bs]] W fun e w' => e = .returned (.int .i64 (if vb = true then 0 else 2)) ∧ Below W.heap.size W w') := HCv.out
        have hkm : k < maxLen := by unfold maxLen; omega
        clear hW3 hvb hxo
        go_wp2_with fail
        rw [HW3.out]
        go_wp2_with fail
        refine (HCv.out _).mono ?_
        rintro e w4 ⟨rfl, hb4⟩
        have HB4 := Lib.hid (below_then HB3.out hb4)
        have HM4 := Lib.hid (HM3.out.below hb4)
        have HA4 := Lib.hid (HA3.out.call hb4)
        have d0 := HA4.out.cell 0 _ rfl
        have hlt4 := HA4.out.lt
        clear hb4 c0 c1 c2 c3 c4 HCv HW3 HA3 HB3 HM3
        cases vb with
        | false =>
          have HE : Hid (X = false) := hv.symm
          go_wp2
          go_ret
          exact ⟨by rw [HE.out]; rfl, HB4.out⟩
        | true =>
          rw [Bool.true_and] at hv
          obtain ⟨N, hN⟩ : ∃ N, Hv.names (l.take k) = N := ⟨_, rfl⟩
          rw [hN] at hv HM4 HT
          by_cases hin : nm ∈ N
          · have hq := Hv.has_iff.2 hin
            rw [hq] at hv
            have HE : Hid (X = false) := hv.symm
            have HB5 := Lib.hid (Hv.bl HB4.out (.cells #[] 99))
            clear hin hN hv
            go_wp2_with (at_lookup; refine Hv.look_set _ rfl _ _ bm k _ nm h1 rfl rfl rfl HM4.out true hq ?_)
            go_ret
            exact ⟨by rw [HE.out]; rfl, HB5.out⟩
          · have hq := Hv.has_not hin
            rw [hq, Bool.not_false, Bool.true_and] at hv
            have HB5 := Lib.hid (Hv.bl HB4.out (.cells #[] 99))
            have HM5 := Lib.hid (HM4.out.alloc (.cells #[] 99))
            have HV2 := Lib.hid hv
            clear hin hN hv
            go_wp2_with (first | (at_lookup; refine Hv.look_set _ rfl _ _ bm k _ nm h1 rfl rfl rfl HM4.out false hq ?_) | (at_mapUpdate; refine Hv.store_set _ rfl _ _ _ bm k _ nm h1 hkm rfl rfl rfl rfl HM5.out ?_; intro w6 hM6 hg6; have HM6 := Lib.hid hM6; have HB6 := Lib.hid (HB5.out.grown hg6 HB5.out.size (fun j e => by cases e; exact HBm.out)); clear hM6 hg6))
            go_roundw
            case rel => exact ⟨k + 1, by omega, by go_num, HB6.out, by show MapF _ _ _ _ _ _; rw [HT.out]; exact HM6.out, by show Hv.valsB _ _ = X; rw [HT.out]; exact HV2.out⟩
            case measure => simp [intOf]; omega
      · have q2 : ¬ (k : Int) < (n : Int) := by omega
        have HE : Hid (X = true) := by
          show X = true
          rw [← HV.out, List.drop_eq_nil_of_le (by rw [HN.out]; omega)]
          rfl
        go_wp2
        go_ret
        exact ⟨by rw [HE.out]; rfl, HB.out⟩
end Go.Proofs.YtmnolcjmnddbnaaGreatDoor

/- A hive's text, in plain words. -/
namespace Go.Proofs.YtmnolcjmnddbnaaGreatDoor
open Go.RowKit

namespace Em
/-- What stands behind a value's name. -/
def rest (v : Hv.V) : Txt :=
  if v.kind = 1 then quote (tl v.text) else if v.kind = 2 then [110, 117, 109, 98, 101, 114, 58] ++ num v.num.toNat else if v.kind = 3 then [98, 121, 116, 101, 115, 58] ++ bytes (tl v.bytes) else []
def val (v : Hv.V) : Txt := quote (tl v.name) ++ 61 :: rest v
theorem val_len (v : Hv.V) : (val v).length ≤ 2 * v.name.size + 2 * v.text.size + 65 * v.bytes.size + 25 := by
  have h1 := quote_len (tl v.name)
  have h2 := quote_len (tl v.text)
  have h3 := bytes_len (tl v.bytes)
  have h4 := num_len v.num.toNat
  rw [tl_length] at h1 h2 h3
  unfold val rest
  rw [List.length_append, List.length_cons]
  split
  · omega
  · split
    · rw [List.length_append]; simp; omega
    · split
      · rw [List.length_append]; simp; omega
      · simp only [List.length_nil]; omega
def vals (l : List Hv.V) : Txt := l.flatMap fun v => val v ++ [10]
def head : Txt := [82, 69, 71, 73, 83, 84, 69, 82, 32, 49, 10]
def keyHead (k : Hv.K) : Txt := [10, 91] ++ tl k.path ++ [93, 10]
def key (k : Hv.K) : Txt := keyHead k ++ vals k.vals
def text (l : List Hv.K) : Txt := head ++ l.flatMap key
theorem vals_snoc (l : List Hv.V) (v : Hv.V) : vals (l ++ [v]) = vals l ++ (val v ++ [10]) := by unfold vals; rw [List.flatMap_append]; simp
theorem text_snoc (l : List Hv.K) (k : Hv.K) : text (l ++ [k]) = text l ++ key k := by unfold text; rw [List.flatMap_append]; simp [List.append_assoc]
theorem val_small {v : Hv.V} (h : Hv.valB v = true) : v.name.size ≤ 64 ∧ v.text.size ≤ 4096 ∧ v.bytes.size ≤ 4096 ∧ (v.kind = 1 ∨ v.kind = 2 ∨ v.kind = 3) ∧ Te.plain v.name = true := by
  unfold Hv.valB Hv.nameB Hv.kindB at h
  simp only [Bool.and_eq_true, decide_eq_true_eq] at h
  obtain ⟨⟨h1, h2, h3⟩, h4⟩ := h
  split at h4
  · rename_i hk
    simp only [Bool.and_eq_true, decide_eq_true_eq] at h4
    exact ⟨h2, h4.1, by omega, .inl hk, h3⟩
  · split at h4
    · rename_i hk
      simp only [Bool.and_eq_true, decide_eq_true_eq] at h4
      exact ⟨h2, by omega, by omega, .inr (.inl hk), h3⟩
    · split at h4
      · rename_i hk
        simp only [Bool.and_eq_true, decide_eq_true_eq] at h4
        exact ⟨h2, by omega, h4.1, .inr (.inr hk), h3⟩
      · cases h4
theorem val_len2 {v : Hv.V} (h : Hv.valB v = true) : (val v).length ≤ 300000 := by
  have h1 := val_small h
  have h2 := val_len v
  omega
theorem valsB_all : ∀ (l : List Hv.V) (seen : List ByteArray), Hv.valsB seen l = true → ∀ v ∈ l, Hv.valB v = true
  | [], _, _, v, h => by cases h
  | x :: l, seen, hb, v, h => by
    unfold Hv.valsB at hb
    simp only [Bool.and_eq_true] at hb
    rcases List.mem_cons.1 h with rfl | h
    · exact hb.1
    · exact valsB_all l _ hb.2.2 v h
theorem keysB_all : ∀ (l : List Hv.K) (seen : List ByteArray), Hv.keysB seen l = true → ∀ k ∈ l, Hv.keyB k = true
  | [], _, _, v, h => by cases h
  | x :: l, seen, hb, v, h => by
    unfold Hv.keysB at hb
    simp only [Bool.and_eq_true] at hb
    rcases List.mem_cons.1 h with rfl | h
    · exact hb.1
    · exact keysB_all l _ hb.2.2 v h
theorem key_parts {k : Hv.K} (h : Hv.keyB k = true) : k.path.size ≤ 256 ∧ k.vals.length ≤ 512 ∧ ∀ v ∈ k.vals, Hv.valB v = true := by
  unfold Hv.keyB at h
  simp only [Bool.and_eq_true, decide_eq_true_eq] at h
  exact ⟨Hv.path_size h.1, h.2.1, valsB_all _ _ h.2.2⟩
theorem vals_len (l : List Hv.V) (h : ∀ v ∈ l, Hv.valB v = true) : (vals l).length ≤ 300001 * l.length := by
  unfold vals
  induction l with
  | nil => simp
  | cons v r ih =>
    have h1 := val_len2 (h v (by simp))
    have h2 := ih fun x hx => h x (by simp [hx])
    rw [List.flatMap_cons, List.length_append, List.length_append, List.length_cons]
    simp only [List.length_cons, List.length_nil]
    omega
theorem key_len {k : Hv.K} (h : Hv.keyB k = true) : (key k).length ≤ 160000000 := by
  obtain ⟨h1, h2, h3⟩ := key_parts h
  have h4 := vals_len k.vals h3
  unfold key keyHead
  rw [List.length_append, List.length_append, List.length_append, tl_length]
  simp only [List.length_cons, List.length_nil]
  omega
theorem text_len (l : List Hv.K) (h : ∀ k ∈ l, Hv.keyB k = true) : (text l).length ≤ 11 + 160000000 * l.length := by
  unfold text
  rw [List.length_append]
  have h5 : head.length = 11 := rfl
  have : (l.flatMap key).length ≤ 160000000 * l.length := by
    induction l with
    | nil => simp
    | cons k r ih =>
      have h1 := key_len (h k (by simp))
      have h2 := ih fun x hx => h x (by simp [hx])
      rw [List.flatMap_cons, List.length_append, List.length_cons]
      omega
  omega
end Em
end Go.Proofs.YtmnolcjmnddbnaaGreatDoor

/- intake: what the lines of a hive's text tell, in plain words. -/
namespace Go.Proofs.YtmnolcjmnddbnaaGreatDoor
open Go.RowKit

namespace Ink
open Em
/-- What a quoted text is, behind its first sign, and what is behind it. -/
def uqIn : Txt → Txt → Option (Txt × Txt)
  | [], _ => none
  | [c], out => if c = 34 then some (out, []) else none
  | c :: d :: r, out => if c = 34 then some (out, d :: r) else if c = 92 then (if d = 34 ∨ d = 92 then uqIn r (out ++ [d]) else none) else uqIn (d :: r) (out ++ [c])
def uq : Txt → Option (Txt × Txt)
  | [] => none
  | c :: r => if c = 34 then uqIn r [] else none
theorem uqIn_hit (r out : Txt) : uqIn (34 :: r) out = some (out, r) := by
  cases r <;> simp [uqIn]
theorem uqIn_plain {c : UInt8} {r : Txt} (out : Txt) (h1 : c ≠ 34) (h2 : c ≠ 92) (hr : r ≠ []) : uqIn (c :: r) out = uqIn r (out ++ [c]) := by
  cases r with
  | nil => exact absurd rfl hr
  | cons d r => rw [uqIn, if_neg h1, if_neg h2]
theorem uqIn_esc {d : UInt8} {r : Txt} (out : Txt) (h : d = 34 ∨ d = 92) : uqIn (92 :: d :: r) out = uqIn r (out ++ [d]) := by
  rw [uqIn, if_neg (by decide), if_pos rfl, if_pos h]
theorem uqIn_quote : ∀ (t r out : Txt), uqIn (esc t ++ 34 :: r) out = some (out ++ t, r)
  | [], r, out => by
    show uqIn (34 :: r) out = _
    rw [uqIn_hit, List.append_nil]
  | b :: t, r, out => by
    have e : esc (b :: t) = esc1 b ++ esc t := by simp [esc]
    rw [e]
    by_cases hb : b = 92 ∨ b = 34
    · rw [show esc1 b = [92, b] by unfold esc1; rw [if_pos hb]]
      show uqIn (92 :: b :: (esc t ++ 34 :: r)) out = _
      rw [uqIn_esc _ hb.symm, uqIn_quote t r]
      simp
    · rw [show esc1 b = [b] by unfold esc1; rw [if_neg hb]]
      show uqIn (b :: (esc t ++ 34 :: r)) out = _
      rw [uqIn_plain _ (fun h => hb (.inr h)) (fun h => hb (.inl h)) (by simp), uqIn_quote t r]
      simp
theorem uq_quote (t r : Txt) : uq (quote t ++ r) = some (t, r) := by
  have e : quote t ++ r = 34 :: (esc t ++ 34 :: r) := by simp [quote]
  rw [e, uq, if_pos rfl, uqIn_quote, List.nil_append]
/-- What a digit tells; -1 if it is none. -/
def dig (b : UInt8) : Int := if 48 ≤ (b.toNat : Int) ∧ (b.toNat : Int) ≤ 57 then (b.toNat : Int) - 48 else if 97 ≤ (b.toNat : Int) ∧ (b.toNat : Int) ≤ 102 then (b.toNat : Int) - 97 + 10 else if 65 ≤ (b.toNat : Int) ∧ (b.toNat : Int) ≤ 70 then (b.toNat : Int) - 65 + 10 else -1
/-- The bytes that digits tell, parted by any one sign. -/
def unh : Txt → Option Txt
  | [] => some []
  | [a, b] => if 0 ≤ dig a ∧ 0 ≤ dig b then some [UInt8.ofNat (dig a * 16 + dig b).toNat] else none
  | a :: b :: c :: r => if 0 ≤ dig a ∧ 0 ≤ dig b ∧ c = 44 then (unh r).map (UInt8.ofNat (dig a * 16 + dig b).toNat :: ·) else none
  | [_] => none
theorem dig_hexd : ∀ n, n < 16 → dig (hexd n) = n := by decide
theorem hex_two (b : UInt8) : UInt8.ofNat (dig (hexd (b.toNat / 16)) * 16 + dig (hexd (b.toNat % 16))).toNat = b := by
  have h := b.toNat_lt
  rw [dig_hexd _ (by omega), dig_hexd _ (by omega)]
  have e : ((b.toNat / 16 : Nat) : Int) * 16 + ((b.toNat % 16 : Nat) : Int) = (b.toNat : Int) := by omega
  rw [e, Int.toNat_natCast]
  exact UInt8.ofNat_toNat
/-- A digit's capital letter. -/
def up (b : UInt8) : UInt8 := if 97 ≤ b ∧ b ≤ 102 then b - 32 else b
theorem dig_up_hexd : ∀ n, n < 16 → dig (up (hexd n)) = n := by decide
def upIf (m : Bool) (l : Txt) : Txt := if m then l.map up else l
def hexbM (m : Bool) (b : UInt8) : Txt := upIf m (hexb b)
/-- Bytes as digits, capital letters or not. -/
def hexsM (m : Bool) : Txt → Txt
  | [] => []
  | b :: r => hexbM m b ++ r.flatMap fun c => 44 :: hexbM m c
theorem hexsM_cons (m : Bool) (b c : UInt8) (r : Txt) : hexsM m (b :: c :: r) = hexbM m b ++ 44 :: hexsM m (c :: r) := by
  simp [hexsM]
theorem hexbM_two (m : Bool) (b : UInt8) : ∃ x y, hexbM m b = [x, y] ∧ 0 ≤ dig x ∧ 0 ≤ dig y ∧ UInt8.ofNat (dig x * 16 + dig y).toNat = b := by
  have h := b.toNat_lt
  have h1 := dig_hexd (b.toNat / 16) (by omega)
  have h2 := dig_hexd (b.toNat % 16) (by omega)
  have h3 := dig_up_hexd (b.toNat / 16) (by omega)
  have h4 := dig_up_hexd (b.toNat % 16) (by omega)
  have ht := hex_two b
  cases m with
  | false => exact ⟨_, _, rfl, by omega, by omega, ht⟩
  | true =>
    refine ⟨_, _, rfl, by omega, by omega, ?_⟩
    rw [h3, h4, ← h1, ← h2]
    exact ht
theorem unh_hexs (m : Bool) : ∀ l : Txt, unh (hexsM m l) = some l
  | [] => rfl
  | [b] => by
    obtain ⟨x, y, e, h1, h2, h3⟩ := hexbM_two m b
    show unh (hexbM m b ++ []) = _
    rw [e]
    show unh [x, y] = _
    rw [unh, if_pos ⟨h1, h2⟩, h3]
  | b :: c :: r => by
    obtain ⟨x, y, e, h1, h2, h3⟩ := hexbM_two m b
    obtain ⟨x', y', e', _⟩ := hexbM_two m c
    have ih := unh_hexs m (c :: r)
    rw [hexsM_cons, e]
    have e2 : hexsM m (c :: r) = x' :: y' :: (r.flatMap fun c => 44 :: hexbM m c) := by simp [hexsM, e']
    show unh (x :: y :: 44 :: hexsM m (c :: r)) = _
    rw [unh, if_pos ⟨h1, h2, rfl⟩, ih, h3]
    rfl
theorem hexsM_len (m : Bool) : ∀ l : Txt, (hexsM m l).length = 3 * l.length - 1
  | [] => rfl
  | [b] => by
    obtain ⟨x, y, e, _⟩ := hexbM_two m b
    show (hexbM m b ++ []).length = _
    rw [e]
    rfl
  | b :: c :: r => by
    obtain ⟨x, y, e, _⟩ := hexbM_two m b
    have ih := hexsM_len m (c :: r)
    rw [hexsM_cons, e]
    simp only [List.length_append, List.length_cons, List.length_nil] at ih ⊢
    omega
theorem hexsM_false : ∀ l : Txt, hexsM false l = hexs l
  | [] => rfl
  | _ :: _ => rfl
/-- What digits tell, one behind the other. -/
def valL : Txt → Nat → Nat
  | [], n => n
  | c :: r, n => valL r (n * 16 + (dig c).toNat)
theorem valL_app : ∀ (a b : Txt) (n : Nat), valL (a ++ b) n = valL b (valL a n)
  | [], _, _ => rfl
  | c :: a, b, n => by rw [List.cons_append, valL, valL, valL_app a b]
theorem valL_zeros : ∀ k : Nat, valL (List.replicate k 48) 0 = 0
  | 0 => rfl
  | k + 1 => by rw [List.replicate_succ, valL]; exact valL_zeros k
theorem digs_val : ∀ (f n : Nat) (acc : Txt), n < 16 ^ (f + 1) → ∃ d, digs f n acc = d ++ acc ∧ valL d 0 = n ∧ ∀ c ∈ d, 0 ≤ dig c
  | 0, n, acc, h => by
    have hn : n < 16 := by simpa using h
    have hd := dig_hexd n hn
    refine ⟨[hexd n], rfl, ?_, ?_⟩
    · show 0 * 16 + (dig (hexd n)).toNat = n
      rw [hd]; simp
    · intro c hc
      rw [List.mem_singleton.1 hc, hd]; omega
  | f + 1, n, acc, h => by
    unfold digs
    by_cases h16 : 16 ≤ n
    · rw [if_pos h16]
      have h2 : n / 16 < 16 ^ (f + 1) := by
        rw [Nat.div_lt_iff_lt_mul (by omega)]
        rw [Nat.pow_succ] at h
        exact h
      obtain ⟨d, e, hv, ha⟩ := digs_val f (n / 16) (hexd (n % 16) :: acc) h2
      have hd := dig_hexd (n % 16) (by omega)
      refine ⟨d ++ [hexd (n % 16)], by rw [e]; simp, ?_, ?_⟩
      · rw [valL_app, hv]
        show n / 16 * 16 + (dig (hexd (n % 16))).toNat = n
        rw [hd]
        simp only [Int.toNat_natCast]
        omega
      · intro c hc
        rcases List.mem_append.1 hc with hc | hc
        · exact ha c hc
        · rw [List.mem_singleton.1 hc, hd]; omega
    · rw [if_neg h16]
      have hd := dig_hexd n (by omega)
      refine ⟨[hexd n], rfl, ?_, ?_⟩
      · show 0 * 16 + (dig (hexd n)).toNat = n
        rw [hd]; simp
      · intro c hc
        rw [List.mem_singleton.1 hc, hd]; omega
theorem num_val (n : Nat) (h : n < 4294967296) : valL (num n) 0 = n ∧ ∀ c ∈ num n, 0 ≤ dig c := by
  obtain ⟨d, e, hv, ha⟩ := digs_val 7 n [] h
  rw [List.append_nil] at e
  unfold num
  rw [e]
  refine ⟨by rw [valL_app, valL_zeros, hv], ?_⟩
  intro c hc
  rcases List.mem_append.1 hc with hc | hc
  · rw [(List.mem_replicate.1 hc).2]; decide
  · exact ha c hc
end Ink
end Go.Proofs.YtmnolcjmnddbnaaGreatDoor

/- solsticelaw34.Small: 0, or 1 and the hive is small. -/
namespace Go.Proofs.YtmnolcjmnddbnaaGreatDoor
open Go.RowKit

namespace Hv
/-- No text is longer than a machine bears. -/
def far (s : ByteArray) : Prop := s.size ≤ 140737488355328
def V.Far (v : V) : Prop := far v.name ∧ far v.text ∧ far v.bytes
def SmV (v : V) : Prop := v.name.size + v.text.size + v.bytes.size ≤ 10000
def SmK (k : K) : Prop := k.path.size ≤ 1000 ∧ k.vals.length ≤ 60 ∧ ∀ v ∈ k.vals, SmV v
structure Few (l : List K) : Prop where
  n : l.length ≤ 30
  all : ∀ k ∈ l, SmK k
def SmRet (l : List K) (w : World) (e : Ending) (w' : World) : Prop := (e = .returned (.int .i64 0) ∨ (e = .returned (.int .i64 1) ∧ Few l)) ∧ Below w.heap.size w w'
theorem all_next {α : Type} {P : α → Prop} {l : List α} {k : Nat} {x : α} (h : ∀ a ∈ l.take k, P a) (hx : l[k]? = some x) (hp : P x) : ∀ a ∈ l.take (k + 1), P a := by
  rw [take_next hx]
  intro a ha
  rcases List.mem_append.1 ha with ha | ha
  · exact h a ha
  · rw [List.mem_singleton.1 ha]; exact hp
end Hv
end Go.Proofs.YtmnolcjmnddbnaaGreatDoor

/- intake: a hive's text as lines; what the lines are read as. -/
namespace Go.Proofs.YtmnolcjmnddbnaaGreatDoor
open Go.RowKit

namespace Ink
open Em
/-- A value of bytes, line by line, without what stands ahead of each. -/
def bl : List Txt → List Txt
  | [] => [[]]
  | [p] => [hexs p]
  | p :: r => (hexs p ++ [44, 92]) :: bl r
def bpre (v : Hv.V) : Txt := quote (tl v.name) ++ [61, 98, 121, 116, 101, 115, 58]
def two : Txt := [32, 32]
/-- The lines of a value. -/
def vlines (v : Hv.V) : List Txt :=
  if v.kind = 3 then (match bl (parts (tl v.bytes).length (tl v.bytes)) with
    | [] => []
    | h :: t => (bpre v ++ h) :: t.map (two ++ ·))
  else [val v]
def unl (l : List Txt) : Txt := l.flatMap (· ++ [10])
theorem bl_cons : ∀ ps : List Txt, ∃ h t, bl ps = h :: t
  | [] => ⟨_, _, rfl⟩
  | [_] => ⟨_, _, rfl⟩
  | _ :: _ :: _ => ⟨_, _, rfl⟩
theorem joined_cons (p q : Txt) (r : List Txt) : joined (p :: q :: r) = hexs p ++ go ++ joined (q :: r) := by simp [joined]
theorem bl_joined : ∀ (ps : List Txt) (h : Txt) (t : List Txt), bl ps = h :: t → h ++ [10] ++ unl (t.map (two ++ ·)) = joined ps ++ [10]
  | [], h, t, e => by injection e with e1 e2; subst e1 e2; rfl
  | [p], h, t, e => by injection e with e1 e2; subst e1 e2; simp [unl, joined]
  | p :: q :: r, h, t, e => by
    obtain ⟨h', t', e'⟩ := bl_cons (q :: r)
    have ih := bl_joined (q :: r) h' t' e'
    have e2 : bl (p :: q :: r) = (hexs p ++ [44, 92]) :: bl (q :: r) := rfl
    rw [e2, e'] at e
    injection e with e3 e4
    subst e3 e4
    rw [joined_cons, List.append_assoc _ (joined (q :: r)), ← ih]
    simp [unl, go, two]
theorem val_bytes {v : Hv.V} (h : v.kind = 3) : val v = bpre v ++ Em.bytes (tl v.bytes) := by
  unfold val rest bpre
  rw [if_neg (by omega), if_neg (by omega), if_pos h]
  simp
theorem unl_vlines (v : Hv.V) : unl (vlines v) = val v ++ [10] := by
  unfold vlines
  by_cases h : v.kind = 3
  · rw [if_pos h, val_bytes h]
    obtain ⟨x, t, e⟩ := bl_cons (parts (tl v.bytes).length (tl v.bytes))
    rw [e]
    have h2 := bl_joined _ x t e
    show unl ((bpre v ++ x) :: t.map (two ++ ·)) = _
    unfold Em.bytes
    rw [List.append_assoc, ← h2]
    simp [unl]
  · rw [if_neg h]
    simp [unl]
/-- What a part of a text tells. -/
inductive It where
  | blank
  | path (p : ByteArray)
  | val (v : Hv.V)
def It.ls : It → List Txt
  | .blank => [[]]
  | .path p => [91 :: (tl p ++ [93])]
  | .val v => vlines v
def kits (k : Hv.K) : List It := .blank :: .path k.path :: k.vals.map .val
def its (l : List Hv.K) : List It := l.flatMap kits
def lns (l : List It) : List Txt := l.flatMap It.ls
def headL : Txt := [82, 69, 71, 73, 83, 84, 69, 82, 32, 49]
theorem unl_app (a b : List Txt) : unl (a ++ b) = unl a ++ unl b := by simp [unl]
theorem lns_app (a b : List It) : lns (a ++ b) = lns a ++ lns b := by simp [lns]
theorem unl_vals (l : List Hv.V) : unl (lns (l.map .val)) = vals l := by
  induction l with
  | nil => rfl
  | cons v l ih =>
    have e : lns ((v :: l).map .val) = vlines v ++ lns (l.map .val) := by simp [lns, It.ls]
    rw [e, unl_app, ih, unl_vlines]
    simp [vals]
theorem unl_key (k : Hv.K) : unl (lns (kits k)) = key k := by
  have e : lns (kits k) = [[], 91 :: (tl k.path ++ [93])] ++ lns (k.vals.map .val) := by simp [lns, kits, It.ls]
  rw [e, unl_app, unl_vals]
  simp [unl, key, keyHead]
theorem unl_keys (l : List Hv.K) : unl (lns (its l)) = l.flatMap key := by
  induction l with
  | nil => rfl
  | cons k l ih =>
    have e : lns (its (k :: l)) = lns (kits k) ++ lns (its l) := by simp [lns, its]
    rw [e, unl_app, unl_key, ih, List.flatMap_cons]
theorem text_lines (l : List Hv.K) : text l = unl (headL :: lns (its l)) := by
  have e : unl (headL :: lns (its l)) = headL ++ [10] ++ unl (lns (its l)) := by simp [unl]
  rw [e, unl_keys]
  rfl
theorem unl_join : ∀ l : List Txt, unl l = Lib.join (l ++ [[]]) [10]
  | [] => rfl
  | x :: l => by
    have e : unl (x :: l) = x ++ [10] ++ unl l := by simp [unl]
    rw [e, unl_join l]
    cases l with
    | nil => simp [Lib.join, List.intercalate]
    | cons y r => simp [Lib.join, List.intercalate]
/-- Two texts, one behind the other, without the second one's first line. -/
theorem two_texts (a b : List Hv.K) : text a ++ (text b).drop 11 = Lib.join (headL :: lns (its a ++ its b ++ [.blank])) [10] := by
  have e1 : (text b).drop 11 = unl (lns (its b)) := by
    rw [unl_keys]
    rfl
  rw [e1, text_lines, ← unl_app, List.cons_append, ← lns_app, unl_join]
  congr 1
  rw [lns_app (its a ++ its b)]
  rfl
/-- A line that neither has an end nor ends with a return, or so that it goes on. -/
structure Fl (x : Txt) : Prop where
  no : ∀ b ∈ x, b ≠ 10
  cr : x.getLast? ≠ some 13
theorem hexd_plain : ∀ n, n < 16 → hexd n ≠ 10 ∧ hexd n ≠ 13 ∧ hexd n ≠ 92 ∧ hexd n ≠ 32 ∧ hexd n ≠ 9 ∧ hexd n ≠ 34 := by decide
theorem hexb_plain (b : UInt8) : ∀ c ∈ hexb b, c ≠ 10 ∧ c ≠ 13 ∧ c ≠ 92 ∧ c ≠ 32 ∧ c ≠ 9 ∧ c ≠ 34 := by
  have h := b.toNat_lt
  intro c hc
  unfold hexb at hc
  rcases List.mem_cons.1 hc with rfl | hc
  · exact hexd_plain _ (by omega)
  · rw [List.mem_singleton.1 hc]
    exact hexd_plain _ (by omega)
theorem hexs_plain : ∀ l : Txt, ∀ c ∈ hexs l, c ≠ 10 ∧ c ≠ 13 ∧ c ≠ 92 ∧ c ≠ 32 ∧ c ≠ 9 ∧ c ≠ 34
  | [], c, h => by cases h
  | b :: r, c, h => by
    rcases List.mem_append.1 h with h | h
    · exact hexb_plain b c h
    · obtain ⟨d, _, hd⟩ := List.mem_flatMap.1 h
      rcases List.mem_cons.1 hd with rfl | hd
      · decide
      · exact hexb_plain d c hd
theorem hexs_app (p r : Txt) (hp : p ≠ []) (hr : r ≠ []) : hexs (p ++ r) = hexs p ++ 44 :: hexs r := by
  cases p with
  | nil => exact absurd rfl hp
  | cons a p =>
    cases r with
    | nil => exact absurd rfl hr
    | cons b r => simp [hexs]
/-- What the n-th line of bytes has, without what stands ahead of it. -/
def bline (ps : List Txt) (n : Nat) : Txt := hexs (ps.getD n []) ++ (if n + 1 < ps.length then [44, 92] else [])
theorem bl_get : ∀ (ps : List Txt) (n : Nat), n < ps.length → (bl ps)[n]? = some (bline ps n)
  | [], n, h => by simp at h
  | [p], n, h => by
    have h0 : n = 0 := by simpa using h
    subst h0
    simp [bl, bline]
  | p :: q :: r, 0, _ => by simp [bl, bline]
  | p :: q :: r, n + 1, h => by
    have ih := bl_get (q :: r) n (by simpa using h)
    show (bl (q :: r))[n]? = _
    rw [ih]
    simp [bline]
theorem bl_len : ∀ ps : List Txt, (bl ps).length = if ps = [] then 1 else ps.length
  | [] => rfl
  | [_] => rfl
  | p :: q :: r => by
    have ih := bl_len (q :: r)
    show (bl (q :: r)).length + 1 = _
    rw [ih]
    simp
/-- So far: the bytes of the first n parts. -/
def bsum (ps : List Txt) (n : Nat) : Txt := hexs ((ps.take n).flatten) ++ (if n < ps.length then [44, 92] else [])
theorem bsum_next {ps : List Txt} (hne : ∀ p ∈ ps, p ≠ []) {n : Nat} (h0 : 0 < n) (hn : n < ps.length) : (bsum ps n).dropLast ++ bline ps n = bsum ps (n + 1) := by
  obtain ⟨p, hp⟩ : ∃ p, ps[n]? = some p := ⟨_, List.getElem?_eq_getElem hn⟩
  have ht : ps.take (n + 1) = ps.take n ++ [p] := by rw [List.take_add_one, hp]; rfl
  have hpn : p ≠ [] := hne p (List.mem_of_getElem? hp)
  have hf : (ps.take n).flatten ≠ [] := by
    intro e
    rw [List.flatten_eq_nil_iff] at e
    obtain ⟨q, hq⟩ : ∃ q, ps[0]? = some q := ⟨_, List.getElem?_eq_getElem (by omega)⟩
    have hq2 : q ∈ ps.take n := by
      have : (ps.take n)[0]? = some q := by rw [List.getElem?_take, if_pos h0]; exact hq
      exact List.mem_of_getElem? this
    exact hne q (List.mem_of_getElem? hq) (e q hq2)
  unfold bsum bline
  rw [if_pos hn, ht, List.flatten_append, List.flatten_singleton, hexs_app _ _ hf hpn, List.getD_eq_getElem?_getD, hp, Option.getD_some]
  have e : (hexs (ps.take n).flatten ++ [44, 92] : Txt).dropLast = hexs (ps.take n).flatten ++ [44] := by
    rw [show ([44, 92] : Txt) = [44] ++ [92] from rfl, ← List.append_assoc, List.dropLast_concat]
  rw [e]
  simp
theorem bsum_one {ps : List Txt} (h : ps ≠ []) : bline ps 0 = bsum ps 1 := by
  cases ps with
  | nil => exact absurd rfl h
  | cons p r => simp [bline, bsum]
theorem parts_flat : ∀ (f : Nat) (l : Txt), l.length ≤ f → (parts f l).flatten = l
  | 0, l, h => by
    have : l = [] := List.length_eq_zero_iff.1 (by omega)
    subst this
    rfl
  | f + 1, l, h => by
    unfold parts
    split
    · rw [List.flatten_cons, parts_flat f _ (by rw [List.length_drop]; omega), List.take_append_drop]
    · split
      · rename_i h2; rw [h2]; rfl
      · simp
theorem parts_ne : ∀ (f : Nat) (l : Txt), ∀ p ∈ parts f l, p ≠ []
  | 0, l, p, h => by simp [parts] at h
  | f + 1, l, p, h => by
    unfold parts at h
    split at h
    · rcases List.mem_cons.1 h with rfl | h
      · intro e
        have := congrArg List.length e
        rw [List.length_take, List.length_nil] at this
        omega
      · exact parts_ne f _ p h
    · split at h
      · cases h
      · rw [List.mem_singleton.1 h]; assumption
/-- A value's line, put together to one. -/
def vline (v : Hv.V) : Txt := if v.kind = 3 then bpre v ++ hexs (tl v.bytes) else val v
theorem bsum_all {ps : List Txt} : bsum ps ps.length = hexs ps.flatten := by
  unfold bsum
  rw [if_neg (by omega), List.take_length, List.append_nil]
/-- A line that goes on ends so. -/
theorem bsum_goes {ps : List Txt} {n : Nat} (pre : Txt) (h : n < ps.length) : ∃ x, pre ++ bsum ps n = x ++ [44, 92] := ⟨pre ++ hexs ((ps.take n).flatten), by unfold bsum; rw [if_pos h, List.append_assoc]⟩
theorem last_hexs {pre : Txt} {l : Txt} (h : pre.getLast? = some 58) : (pre ++ hexs l).getLast? ≠ some 92 ∧ (pre ++ hexs l).getLast? ≠ some 13 := by
  rw [List.getLast?_append]
  cases e : (hexs l).getLast? with
  | none =>
    rw [Option.none_or, h]
    decide
  | some c =>
    have := hexs_plain l c (List.mem_of_getLast? e)
    rw [Option.some_or]
    exact ⟨fun x => this.2.2.1 (Option.some.inj x), fun x => this.2.1 (Option.some.inj x)⟩
theorem bpre_last (v : Hv.V) : (bpre v).getLast? = some 58 := by
  unfold bpre
  rw [List.getLast?_append]
  rfl
theorem esc_no {l : Txt} (h : ∀ b ∈ l, b ≠ 10) : ∀ b ∈ esc l, b ≠ 10 := by
  intro b hb
  obtain ⟨c, hc, hb⟩ := List.mem_flatMap.1 hb
  unfold esc1 at hb
  split at hb
  · rcases List.mem_cons.1 hb with rfl | hb
    · decide
    · rw [List.mem_singleton.1 hb]; exact h c hc
  · rw [List.mem_singleton.1 hb]; exact h c hc
theorem quote_no {l : Txt} (h : ∀ b ∈ l, b ≠ 10) : ∀ b ∈ quote l, b ≠ 10 := by
  intro b hb
  unfold quote at hb
  rcases List.mem_cons.1 hb with rfl | hb
  · decide
  · rcases List.mem_append.1 hb with hb | hb
    · exact esc_no h b hb
    · rw [List.mem_singleton.1 hb]; decide
theorem quote_last (l : Txt) : (quote l).getLast? = some 34 := by
  unfold quote
  rw [show (34 :: (esc l ++ [34])) = (34 :: esc l) ++ [34] from rfl, List.getLast?_append]
  rfl
theorem num_dig (n : Nat) (h : n < 4294967296) : ∀ c ∈ num n, c ≠ 10 ∧ c ≠ 13 ∧ c ≠ 92 := by
  intro c hc
  have h0 := (num_val n h).2 c hc
  refine ⟨?_, ?_, ?_⟩ <;> (intro e; rw [e] at h0; revert h0; decide)
end Ink
end Go.Proofs.YtmnolcjmnddbnaaGreatDoor

/- intake: what the parts of a hive's text make, one behind the other. -/
namespace Go.Proofs.YtmnolcjmnddbnaaGreatDoor
open Go.RowKit

namespace Ink
open Em
theorem plain_no {s : ByteArray} (h : Te.plain s = true) : ∀ b ∈ tl s, b ≠ 10 ∧ b ≠ 13 := by
  intro b hb
  have h2 := Te.plain_tl s h b hb
  constructor
  · intro e; rw [e] at h2; revert h2; decide
  · intro e; rw [e] at h2; revert h2; decide
theorem val_parts {v : Hv.V} (h : Hv.valB v = true) : (v.kind = 1 ∧ Te.plain v.text = true) ∨ v.kind = 2 ∨ v.kind = 3 := by
  unfold Hv.valB Hv.kindB at h
  rw [Bool.and_eq_true] at h
  have h4 := h.2
  split at h4
  · rename_i hk
    simp only [Bool.and_eq_true, decide_eq_true_eq] at h4
    exact .inl ⟨hk, h4.2.1⟩
  · split at h4
    · rename_i hk; exact .inr (.inl hk)
    · split at h4
      · rename_i hk; exact .inr (.inr hk)
      · cases h4
/-- A right value's lines: none has an end, none ends with a return. -/
theorem vlines_fl {v : Hv.V} (h : Hv.valB v = true) (ho : v.Ok) : ∀ x ∈ vlines v, Fl x := by
  have hn := plain_no (val_small h).2.2.2.2
  have hq : ∀ b ∈ quote (tl v.name), b ≠ 10 := quote_no fun b hb => (hn b hb).1
  have hpre : ∀ b ∈ bpre v, b ≠ 10 := by
    intro b hb
    unfold bpre at hb
    rcases List.mem_append.1 hb with hb | hb
    · exact hq b hb
    · exact (show ∀ b ∈ ([61, 98, 121, 116, 101, 115, 58] : Txt), b ≠ 10 by decide) b hb
  have hbl : ∀ ps n, (∀ b ∈ bline ps n, b ≠ 10) ∧ (bline ps n).getLast? ≠ some 13 := by
    intro ps n
    unfold bline
    refine ⟨fun b hb => ?_, ?_⟩
    · rcases List.mem_append.1 hb with hb | hb
      · exact (hexs_plain _ b hb).1
      · split at hb
        · exact (show ∀ b ∈ ([44, 92] : Txt), b ≠ 10 by decide) b hb
        · cases hb
    · rw [List.getLast?_append]
      split
      · show (some 92).or _ ≠ _
        rw [Option.some_or]
        decide
      · show (none : Option UInt8).or _ ≠ _
        rw [Option.none_or]
        intro e
        exact (hexs_plain _ 13 (List.mem_of_getLast? e)).2.1 rfl
  unfold vlines
  rcases val_parts h with ⟨h1, h2⟩ | h1 | h1
  · rw [if_neg (by omega)]
    intro x hx
    rw [List.mem_singleton.1 hx]
    have ht := plain_no h2
    unfold val rest
    rw [if_pos h1]
    refine ⟨fun b hb => ?_, ?_⟩
    · rcases List.mem_append.1 hb with hb | hb
      · exact hq b hb
      · rcases List.mem_cons.1 hb with rfl | hb
        · decide
        · exact quote_no (fun b hb => (ht b hb).1) b hb
    · rw [List.getLast?_append, List.getLast?_cons, quote_last, Option.getD_some, Option.some_or]
      decide
  · rw [if_neg (by omega)]
    intro x hx
    rw [List.mem_singleton.1 hx]
    have hnum := num_dig v.num.toNat (by have h1 := ho.n0; have h2 := ho.n1; omega)
    unfold val rest
    rw [if_neg (by omega), if_pos h1]
    refine ⟨fun b hb => ?_, ?_⟩
    · rcases List.mem_append.1 hb with hb | hb
      · exact hq b hb
      · rcases List.mem_cons.1 hb with rfl | hb
        · decide
        · rcases List.mem_append.1 hb with hb | hb
          · exact (show ∀ b ∈ ([110, 117, 109, 98, 101, 114, 58] : Txt), b ≠ 10 by decide) b hb
          · exact (hnum b hb).1
    · have hl : (num v.num.toNat).length = 8 := num_len _
      rw [List.getLast?_append, List.getLast?_cons, List.getLast?_append]
      cases e : (num v.num.toNat).getLast? with
      | none => rw [List.getLast?_eq_none_iff] at e; rw [e] at hl; cases hl
      | some c =>
        have := (hnum c (List.mem_of_getLast? e)).2.1
        intro x
        exact this (by simpa using x)
  · rw [if_pos h1]
    obtain ⟨x0, t, e⟩ := bl_cons (parts (tl v.bytes).length (tl v.bytes))
    rw [e]
    by_cases hp : parts (tl v.bytes).length (tl v.bytes) = []
    · rw [hp] at e
      injection e with e1 e2
      subst e1 e2
      intro x hx
      rw [List.mem_singleton.1 hx, List.append_nil]
      exact ⟨hpre, by rw [bpre_last]; decide⟩
    · have hall : ∀ x ∈ bl (parts (tl v.bytes).length (tl v.bytes)), ∃ n, x = bline (parts (tl v.bytes).length (tl v.bytes)) n := by
        intro x hx
        obtain ⟨n, hn, hx⟩ := List.mem_iff_getElem.1 hx
        have hl := bl_len (parts (tl v.bytes).length (tl v.bytes))
        rw [if_neg hp] at hl
        have h2 := bl_get (parts (tl v.bytes).length (tl v.bytes)) n (by omega)
        rw [List.getElem?_eq_getElem hn, hx] at h2
        exact ⟨n, Option.some.inj h2⟩
      rw [e] at hall
      intro x hx
      rcases List.mem_cons.1 hx with rfl | hx
      · obtain ⟨n, rfl⟩ := hall x0 List.mem_cons_self
        refine ⟨fun b hb => ?_, ?_⟩
        · rcases List.mem_append.1 hb with hb | hb
          · exact hpre b hb
          · exact (hbl _ _).1 b hb
        · rw [List.getLast?_append]
          cases e2 : (bline (parts (tl v.bytes).length (tl v.bytes)) n).getLast? with
          | none => rw [Option.none_or, bpre_last]; decide
          | some c => rw [Option.some_or]; intro q; exact (hbl _ _).2 (by rw [e2]; exact q)
      · obtain ⟨y, hy, rfl⟩ := List.mem_map.1 hx
        obtain ⟨n, rfl⟩ := hall y (List.mem_cons_of_mem _ hy)
        refine ⟨fun b hb => ?_, ?_⟩
        · rcases List.mem_append.1 hb with hb | hb
          · exact (show ∀ b ∈ two, b ≠ 10 by decide) b hb
          · exact (hbl _ _).1 b hb
        · rw [List.getLast?_append]
          cases e2 : (bline (parts (tl v.bytes).length (tl v.bytes)) n).getLast? with
          | none => decide
          | some c => rw [Option.some_or]; intro q; exact (hbl _ _).2 (by rw [e2]; exact q)
/-- What a part makes of the keys so far; or why it can't. -/
def step (st : List Hv.K) : It → Int ⊕ List Hv.K
  | .blank => .inr st
  | .path p => if Hv.path p = true then (if Hv.has (Hv.paths st) p = true then .inl 8 else if 4096 ≤ st.length then .inl 6 else .inr (st ++ [⟨p, []⟩])) else .inl 2
  | .val v => match st.getLast? with
    | none => .inl 12
    | some k => if Hv.has (Hv.names k.vals) v.name = true then .inl 8 else if 512 ≤ k.vals.length then .inl 6 else .inr (st.dropLast ++ [⟨k.path, k.vals ++ [v]⟩])
def run : List Hv.K → List It → Int ⊕ List Hv.K
  | st, [] => .inr st
  | st, i :: l => match step st i with
    | .inl e => .inl e
    | .inr st' => run st' l
theorem run_app : ∀ (a b : List It) (st : List Hv.K), run st (a ++ b) = (match run st a with | .inl e => Sum.inl e | .inr st' => run st' b)
  | [], _, _ => rfl
  | i :: a, b, st => by
    show (match step st i with | .inl e => Sum.inl e | .inr st' => run st' (a ++ b)) = _
    rw [run]
    cases step st i with
    | inl e => rfl
    | inr st' => exact run_app a b st'
theorem names_app (a b : List Hv.V) : Hv.names (a ++ b) = Hv.names a ++ Hv.names b := List.map_append
/-- A right key's values, put to a key. -/
theorem run_vals : ∀ (l done : List Hv.V) (st : List Hv.K) (p : ByteArray), Hv.valsB (Hv.names done) l = true → done.length + l.length ≤ 512 → run (st ++ [⟨p, done⟩]) (l.map .val) = .inr (st ++ [⟨p, done ++ l⟩])
  | [], done, st, p, _, _ => by rw [List.append_nil]; rfl
  | v :: l, done, st, p, h, hn => by
    unfold Hv.valsB at h
    simp only [Bool.and_eq_true, Bool.not_eq_true'] at h
    have e : step (st ++ [⟨p, done⟩]) (.val v) = .inr (st ++ [⟨p, done ++ [v]⟩]) := by
      unfold step
      simp only [List.getLast?_concat, List.dropLast_concat]
      rw [h.2.1, if_neg (by simp), if_neg (by rw [List.length_cons] at hn; omega)]
    rw [List.map_cons, run, e]
    simp only
    have h2 : Hv.valsB (Hv.names (done ++ [v])) l = true := by rw [names_app]; exact h.2.2
    rw [run_vals l (done ++ [v]) st p h2 (by rw [List.length_append]; rw [List.length_cons] at hn; simp only [List.length_cons, List.length_nil]; omega), List.append_assoc]
    rfl
/-- A right key behind others. -/
theorem run_key (k : Hv.K) (st : List Hv.K) (hk : Hv.keyB k = true) (hn : st.length < 4096) : run st (kits k) = if Hv.has (Hv.paths st) k.path = true then .inl 8 else .inr (st ++ [k]) := by
  unfold Hv.keyB at hk
  simp only [Bool.and_eq_true, decide_eq_true_eq] at hk
  show run st (.path k.path :: k.vals.map .val) = _
  rw [run]
  by_cases h : Hv.has (Hv.paths st) k.path = true
  · have e : step st (.path k.path) = .inl 8 := by unfold step; simp only; rw [if_pos hk.1, if_pos h]
    rw [e, if_pos h]
  · have e : step st (.path k.path) = .inr (st ++ [⟨k.path, []⟩]) := by unfold step; simp only; rw [if_pos hk.1, if_neg h, if_neg (by omega)]
    rw [e, if_neg h]
    simp only
    rw [run_vals k.vals [] st k.path hk.2.2 (by simpa using hk.2.1)]
    rfl
theorem paths_app (a b : List Hv.K) : Hv.paths (a ++ b) = Hv.paths a ++ Hv.paths b := List.map_append
theorem has_cong {a b : List ByteArray} (h : ∀ x, x ∈ a ↔ x ∈ b) (k : ByteArray) : Hv.has a k = Hv.has b k := by
  cases e : Hv.has b k with
  | true => exact Hv.has_iff.2 ((h k).2 (Hv.has_iff.1 e))
  | false =>
    cases e2 : Hv.has a k with
    | false => rfl
    | true => rw [Hv.has_iff.2 ((h k).1 (Hv.has_iff.1 e2))] at e; cases e
/-- Right keys behind others: all of them, if no path is there twice. -/
theorem run_keys : ∀ (l : List Hv.K) (st : List Hv.K), (∀ k ∈ l, Hv.keyB k = true) → st.length + l.length ≤ 4096 → run st (its l) = if Hv.keysB (Hv.paths st) l = true then .inr (st ++ l) else .inl 8
  | [], st, _, _ => by
    show Sum.inr st = _
    rw [List.append_nil]
    rfl
  | k :: l, st, h, hn => by
    have hk := h k List.mem_cons_self
    rw [List.length_cons] at hn
    have e : its (k :: l) = kits k ++ its l := by simp [its]
    rw [e, run_app, run_key k st hk (by omega)]
    unfold Hv.keysB
    rw [hk, Bool.true_and]
    by_cases hh : Hv.has (Hv.paths st) k.path = true
    · rw [if_pos hh, hh]
      rfl
    · rw [if_neg hh]
      simp only
      have h0 : Hv.has (Hv.paths st) k.path = false := by simpa using hh
      rw [h0, Bool.not_false, Bool.true_and, run_keys l (st ++ [k]) (fun x hx => h x (List.mem_cons_of_mem _ hx)) (by rw [List.length_append]; simp only [List.length_cons, List.length_nil]; omega), paths_app, List.append_assoc]
      rfl
theorem keysB_app : ∀ (a b : List Hv.K) (seen : List ByteArray), Hv.keysB seen (a ++ b) = (Hv.keysB seen a && Hv.keysB (seen ++ Hv.paths a) b)
  | [], b, seen => by
    show Hv.keysB seen b = (true && Hv.keysB (seen ++ []) b)
    rw [List.append_nil, Bool.true_and]
  | k :: a, b, seen => by
    have e1 : ∀ (s : List ByteArray) (l : List Hv.K), Hv.keysB s (k :: l) = (Hv.keyB k && (!Hv.has s k.path && Hv.keysB (s ++ [k.path]) l)) := fun _ _ => rfl
    rw [List.cons_append, e1, e1, keysB_app a b (seen ++ [k.path]), Bool.and_assoc, Bool.and_assoc, List.append_assoc]
    rfl
/-- Two right hives, one behind the other. -/
theorem run_two (a b : List Hv.K) (ha : Hv.hiveB a = true) (hb : Hv.hiveB b = true) (hn : a.length + b.length ≤ 4096) : run [] (its a ++ its b ++ [.blank]) = if Hv.hiveB (a ++ b) = true then .inr (a ++ b) else .inl 8 := by
  unfold Hv.hiveB at ha hb
  simp only [Bool.and_eq_true, decide_eq_true_eq] at ha hb
  have h1 := run_keys a [] (Em.keysB_all a [] ha.2) (by simpa using ha.1)
  rw [show Hv.paths ([] : List Hv.K) = [] from rfl, if_pos ha.2, List.nil_append] at h1
  have h2 := run_keys b a (Em.keysB_all b [] hb.2) hn
  have h3 := keysB_app a b []
  rw [ha.2, Bool.true_and, List.nil_append] at h3
  rw [run_app, run_app, h1]
  simp only
  rw [h2]
  unfold Hv.hiveB
  rw [List.length_append, decide_eq_true hn, Bool.true_and, h3]
  cases Hv.keysB (Hv.paths a) b <;> rfl
end Ink
end Go.Proofs.YtmnolcjmnddbnaaGreatDoor

/- A region that draws its order: calls that only make memory, and at its end operations in one order (a slice that is built of their results, or a store). One walk, in the order of the text. -/
namespace Go.Proofs.YtmnolcjmnddbnaaGreatDoor
open Go.RowKit Go.Sort

section
variable {P : Program} {ops : Array Oper} {md : Region.Mode} {C : World → Prop}

/-- The first n operations in whatever order, each quiet in the class; behind them L. -/
def headAll (P : Program) (md : Region.Mode) (ops : Array Oper) (C : World → Prop) (n : Nat) (L : Array Bool → Act → Prop) : Nat → Array Bool → Act → Prop
  | 0, s, a => L s a
  | f + 1, s, a => Region.ready md ops s ≠ [] ∧ ∀ i ∈ Region.ready md ops s, i < n ∧ qOp P ops C i (headAll P md ops C n L f (s.setIfInBounds i true)) a

theorem any_of_head {n g : Nat} {L : Array Bool → Act → Prop} {Q : Exit → Act → World → Prop} (hL : ∀ s a w, C w → L s a → wpAny P md ops Q g s a w) :
    ∀ (f : Nat) (s : Array Bool) (a : Act) (w : World), C w → headAll P md ops C n L f s a → wpAny P md ops Q (f + g) s a w
  | 0, s, a, w, hw, h => by rw [Nat.zero_add]; exact hL _ _ _ hw h
  | f + 1, s, a, w, hw, h => by
    rw [show f + 1 + g = (f + g) + 1 by omega]
    exact ⟨fun h0 => absurd h0 h.1, fun i hi => wpOp_of_qOp hw (fun a' w' hw' h' => any_of_head hL f _ a' w' hw' h') (h.2 i hi).2⟩

theorem head_first {n i : Nat} {oi : Oper} {v : Value} {L : Array Bool → Act → Prop} (hi : ops[i]? = some oi) (hsel : ∀ (j : Nat) (o : Oper) cs b, ops[j]? = some o → o.op ≠ .select cs b)
    (hs : Region.sinkB md ops n = true) (hc : Region.chainB md ops n = true) (hn : n < ops.size) (hin : i < n) (hdone : ∀ s a, L s a → ∀ j ∈ Region.ready md ops s, n ≤ j) :
    ∀ (f : Nat) (s : Array Bool) (a : Act), HeadInv md ops n s →
      (∀ j oj, ops[j]? = some oj → j ≠ i → s.getD j true = false → (∀ e ∈ oj.after, Region.binds md e = true → e.on ≠ i) → oi.apart ops oj = true) →
      i ∈ Region.ready md ops s → YieldsIn P ops C oi v a →
      headAll P md ops C n L f (s.setIfInBounds i true) (a.put oi.dst v) → headAll P md ops C n L (f + 1) s a := by
  intro f
  induction f with
  | zero =>
    intro s a inv _ hr hy H
    have hun := (mem_ready.1 hr).1
    refine ⟨fun h => (by rw [h] at hr; cases hr), fun j hj => ?_⟩
    have hjn : j < n := by
      rcases Nat.lt_or_ge j n with h | h
      · exact h
      · exact absurd hj (tail_waits hs hc hn inv _ i rfl hin hun j h)
    refine ⟨hjn, ?_⟩
    by_cases hji : j = i
    · subst hji; exact hy.qOp hi H
    · have := hdone _ _ H j (ready_mono hj hji)
      omega
  | succ f ih =>
    intro s a inv hfree hr hy H
    have hun := (mem_ready.1 hr).1
    refine ⟨fun h => (by rw [h] at hr; cases hr), fun j hj => ?_⟩
    have hjn : j < n := by
      rcases Nat.lt_or_ge j n with h | h
      · exact h
      · exact absurd hj (tail_waits hs hc hn inv _ i rfl hin hun j h)
    refine ⟨hjn, ?_⟩
    by_cases hji : j = i
    · subst hji; exact hy.qOp hi H
    · have h1 := (H.2 j (ready_mono hj hji)).2
      obtain ⟨hjun, oj, hoj, hall⟩ := mem_ready.1 hj
      have hnot : ∀ e ∈ oj.after, Region.binds md e = true → e.on ≠ i := fun e he hb heq => by
        have h1 := hall e he hb
        rw [heq, getD_both hun] at h1
        cases h1
      have h2 := qOp_put hoj (hfree j oj hoj hji hjun hnot) (fun cs b => hsel i oi cs b hi) (fun cs b => hsel j oj cs b hoj) hy h1
      have hfree' : ∀ k ok, ops[k]? = some ok → k ≠ i → (s.setIfInBounds j true).getD k true = false →
          (∀ e ∈ ok.after, Region.binds md e = true → e.on ≠ i) → oi.apart ops ok = true := fun k ok hk hki hu hno => by
        refine hfree k ok hk hki ?_ hno
        by_cases hjk : j = k
        · subst hjk; exact hjun
        · rw [getD_set_ne true hjk] at hu; exact hu
      refine qOp_mono (fun a' h3 => ih (s.setIfInBounds j true) a' (inv.set hj hjn) hfree' (ready_mono hr (Ne.symm hji)) h3.1 ?_) h2
      rw [Array.setIfInBounds_comm _ _ hji]
      exact h3.2

theorem head_lex {n g : Nat} {Lq : Act → Prop} (hsel : Region.noSelect ops = true) (hs : Region.sinkB md ops n = true) (hc : Region.chainB md ops n = true) (hn : n < ops.size) :
    ∀ (l : List Oper) (k : Nat) (s : Array Bool) (a : Act), (∀ j, j < l.length → l[j]? = ops[k + j]?) → k + l.length = n → HeadInv md ops n s →
    Region.lexHead md ops g l.length k s = true → wpQuiet P ops C Lq l a →
    headAll P md ops C n (fun s' a' => Region.seqB md ops g n s' = true ∧ Lq a') l.length s a
  | [], k, s, a, _, hk, _, hB, h => by
    have : k = n := by simpa using hk
    subst this
    exact ⟨by simpa [Region.lexHead] using hB, h⟩
  | o :: l, k, s, a, hl, hk, inv, hB, h => by
    have h0 : ops[k]? = some o := by simpa using (hl 0 (by simp)).symm
    simp only [List.length_cons, Region.lexHead, Bool.and_eq_true] at hB
    obtain ⟨⟨hr, hf⟩, hB'⟩ := hB
    have hkn : k < n := by simp only [List.length_cons] at hk; omega
    have hr' : k ∈ Region.ready md ops s := by simpa using hr
    have hst : qOp P ops C k (wpQuiet P ops C Lq l) a := by unfold qOp; simp only [h0]; exact h
    obtain ⟨v, hy, hK⟩ := yieldsIn_of_qOp h0 hst
    exact head_first h0 (Region.noSelect_spec hsel) hs hc hn hkn (fun s' a' hL => seqB_ready hL.1) l.length s a inv (Region.free_spec h0 hf) hr' hy
      (head_lex hsel hs hc hn l (k + 1) _ _ (fun j hj => by have := hl (j + 1) (by simp; omega); simpa [Nat.add_assoc, Nat.add_comm 1 j] using this) (by simp only [List.length_cons] at hk; omega) (inv.set hr' hkn) hB' hK)

/-- The region, n operations of it quiet in the class, the others in their order behind them. -/
theorem wp_region_quiet_tail {id : Nat} {Q : Exit → Act → World → Prop} {a : Act} {w : World} {l : List Oper} (n : Nat) (hm : P.follows .mixedOrders = true) (hB : Region.lexTailB .any l.toArray n = true) (hC : C { w with drawn := w.drawn + 1 })
    (h : wpQuiet P l.toArray C (fun a' => ∀ w', C w' → wpList P l.toArray Q (l.drop n) a' w') (l.take n) a) : (Code.region id l.toArray true).wp P Q a w := by
  simp only [Region.lexTailB, Bool.and_eq_true, decide_eq_true_eq] at hB
  obtain ⟨⟨⟨⟨hsel, hn⟩, hs⟩, hc⟩, hlex⟩ := hB
  have hn' : n < l.length := by simpa using hn
  have htl : (l.take n).length = n := by simp; omega
  have hdl : (l.drop n).length = l.toArray.size - n := by simp
  have inv0 : HeadInv .any l.toArray n (Array.replicate l.toArray.size false) :=
    ⟨by simp, fun j oj _ hl => (by rw [getD_replicate_false] at hl; cases hl), fun t _ ht => getD_in (by simpa using ht) (getD_replicate_false _ _)⟩
  have H := head_lex (md := .any) (g := l.toArray.size - n) hsel hs hc hn (l.take n) 0 _ a (fun j hj => by
    have hj' : j < n := by rw [htl] at hj; exact hj
    simp [hj']) (by simpa using htl) inv0 (by rw [htl]; exact hlex) h
  refine wp_region_any hm ?_
  have := any_of_head (Q := Q) (g := l.toArray.size - n) (fun s a' w' hw' hL => by
    have := wpAny_of_seq (md := .any) (Q' := Q) (l.drop n) n s a' w' (fun j => by simp [List.getElem?_drop]) (by rw [hdl]; exact hL.1) (hL.2 w' hw')
    rwa [hdl] at this) _ _ _ _ hC H
  rw [htl, show n + (l.toArray.size - n) = l.toArray.size by omega] at this
  exact this
/-- The same at the class of the worlds that have some blocks more. -/
theorem wp_region_tail {id : Nat} {Q : Exit → Act → World → Prop} {a : Act} {w : World} {l : List Oper} (n : Nat) (hm : P.follows .mixedOrders = true) (hB : Region.lexTailB .any l.toArray n = true)
    (h : wpQuiet P l.toArray (fun w' => ∃ p : Regrown, w' = grow (redrawn w p.d) p.os) (fun a' => ∀ w', (∃ p : Regrown, w' = grow (redrawn w p.d) p.os) → wpList P l.toArray Q (l.drop n) a' w') (l.take n) a) : (Code.region id l.toArray true).wp P Q a w :=
  wp_region_quiet_tail (C := fun w' => ∃ p : Regrown, w' = grow (redrawn w p.d) p.os) n hm hB ⟨⟨w.drawn + 1, #[]⟩, by rw [grow_empty]; rfl⟩ h
end
end Go.Proofs.YtmnolcjmnddbnaaGreatDoor
