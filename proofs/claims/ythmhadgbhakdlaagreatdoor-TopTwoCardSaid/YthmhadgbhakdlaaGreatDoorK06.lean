/- intake: what the lines of a hive's text tell, in plain words. -/
import Derived.Test.YthmhadgbhakdlaaGreatDoorK05
import Derived.Test.YthmhadgbhakdlaaGreatDoorK01
import Derived.Lib.Join

namespace Go.Proofs.YthmhadgbhakdlaaGreatDoor
open Go.RowKit

namespace Ink
open Em
/-- What a quoted text is, behind its first sign, and what is behind it. -/
def uqIn : Txt → Txt → Option (Txt × Txt)
  | [], _ => none
  | [c], out => if c = 34 then some (out, []) else none
  | c :: d :: r, out => if c = 34 then some (out, d :: r) else if c = 92 then (if d = 34 ∨ d = 92 then uqIn r (out ++ [d]) else none) else uqIn (d :: r) (out ++ [c])
def uq : Txt → Option (Txt × Txt)
  | [] => none
  | c :: r => if c = 34 then uqIn r [] else none
theorem uqIn_hit (r out : Txt) : uqIn (34 :: r) out = some (out, r) := by
  cases r <;> simp [uqIn]
theorem uqIn_plain {c : UInt8} {r : Txt} (out : Txt) (h1 : c ≠ 34) (h2 : c ≠ 92) (hr : r ≠ []) : uqIn (c :: r) out = uqIn r (out ++ [c]) := by
  cases r with
  | nil => exact absurd rfl hr
  | cons d r => rw [uqIn, if_neg h1, if_neg h2]
theorem uqIn_esc {d : UInt8} {r : Txt} (out : Txt) (h : d = 34 ∨ d = 92) : uqIn (92 :: d :: r) out = uqIn r (out ++ [d]) := by
  rw [uqIn, if_neg (by decide), if_pos rfl, if_pos h]
theorem uqIn_quote : ∀ (t r out : Txt), uqIn (esc t ++ 34 :: r) out = some (out ++ t, r)
  | [], r, out => by
    show uqIn (34 :: r) out = _
    rw [uqIn_hit, List.append_nil]
  | b :: t, r, out => by
    have e : esc (b :: t) = esc1 b ++ esc t := by simp [esc]
    rw [e]
    by_cases hb : b = 92 ∨ b = 34
    · rw [show esc1 b = [92, b] by unfold esc1; rw [if_pos hb]]
      show uqIn (92 :: b :: (esc t ++ 34 :: r)) out = _
      rw [uqIn_esc _ hb.symm, uqIn_quote t r]
      simp
    · rw [show esc1 b = [b] by unfold esc1; rw [if_neg hb]]
      show uqIn (b :: (esc t ++ 34 :: r)) out = _
      rw [uqIn_plain _ (fun h => hb (.inr h)) (fun h => hb (.inl h)) (by simp), uqIn_quote t r]
      simp
theorem uq_quote (t r : Txt) : uq (quote t ++ r) = some (t, r) := by
  have e : quote t ++ r = 34 :: (esc t ++ 34 :: r) := by simp [quote]
  rw [e, uq, if_pos rfl, uqIn_quote, List.nil_append]
/-- What a digit tells; -1 if it is none. -/
def dig (b : UInt8) : Int := if 48 ≤ (b.toNat : Int) ∧ (b.toNat : Int) ≤ 57 then (b.toNat : Int) - 48 else if 97 ≤ (b.toNat : Int) ∧ (b.toNat : Int) ≤ 102 then (b.toNat : Int) - 97 + 10 else if 65 ≤ (b.toNat : Int) ∧ (b.toNat : Int) ≤ 70 then (b.toNat : Int) - 65 + 10 else -1
/-- The bytes that digits tell, parted by any one sign. -/
def unh : Txt → Option Txt
  | [] => some []
  | [a, b] => if 0 ≤ dig a ∧ 0 ≤ dig b then some [UInt8.ofNat (dig a * 16 + dig b).toNat] else none
  | a :: b :: c :: r => if 0 ≤ dig a ∧ 0 ≤ dig b ∧ c = 44 then (unh r).map (UInt8.ofNat (dig a * 16 + dig b).toNat :: ·) else none
  | [_] => none
theorem dig_hexd : ∀ n, n < 16 → dig (hexd n) = n := by decide
theorem hex_two (b : UInt8) : UInt8.ofNat (dig (hexd (b.toNat / 16)) * 16 + dig (hexd (b.toNat % 16))).toNat = b := by
  have h := b.toNat_lt
  rw [dig_hexd _ (by omega), dig_hexd _ (by omega)]
  have e : ((b.toNat / 16 : Nat) : Int) * 16 + ((b.toNat % 16 : Nat) : Int) = (b.toNat : Int) := by omega
  rw [e, Int.toNat_natCast]
  exact UInt8.ofNat_toNat
/-- A digit's capital letter. -/
def up (b : UInt8) : UInt8 := if 97 ≤ b ∧ b ≤ 102 then b - 32 else b
theorem dig_up_hexd : ∀ n, n < 16 → dig (up (hexd n)) = n := by decide
def upIf (m : Bool) (l : Txt) : Txt := if m then l.map up else l
def hexbM (m : Bool) (b : UInt8) : Txt := upIf m (hexb b)
/-- Bytes as digits, capital letters or not. -/
def hexsM (m : Bool) : Txt → Txt
  | [] => []
  | b :: r => hexbM m b ++ r.flatMap fun c => 44 :: hexbM m c
theorem hexsM_cons (m : Bool) (b c : UInt8) (r : Txt) : hexsM m (b :: c :: r) = hexbM m b ++ 44 :: hexsM m (c :: r) := by
  simp [hexsM]
theorem hexbM_two (m : Bool) (b : UInt8) : ∃ x y, hexbM m b = [x, y] ∧ 0 ≤ dig x ∧ 0 ≤ dig y ∧ UInt8.ofNat (dig x * 16 + dig y).toNat = b := by
  have h := b.toNat_lt
  have h1 := dig_hexd (b.toNat / 16) (by omega)
  have h2 := dig_hexd (b.toNat % 16) (by omega)
  have h3 := dig_up_hexd (b.toNat / 16) (by omega)
  have h4 := dig_up_hexd (b.toNat % 16) (by omega)
  have ht := hex_two b
  cases m with
  | false => exact ⟨_, _, rfl, by omega, by omega, ht⟩
  | true =>
    refine ⟨_, _, rfl, by omega, by omega, ?_⟩
    rw [h3, h4, ← h1, ← h2]
    exact ht
theorem unh_hexs (m : Bool) : ∀ l : Txt, unh (hexsM m l) = some l
  | [] => rfl
  | [b] => by
    obtain ⟨x, y, e, h1, h2, h3⟩ := hexbM_two m b
    show unh (hexbM m b ++ []) = _
    rw [e]
    show unh [x, y] = _
    rw [unh, if_pos ⟨h1, h2⟩, h3]
  | b :: c :: r => by
    obtain ⟨x, y, e, h1, h2, h3⟩ := hexbM_two m b
    obtain ⟨x', y', e', _⟩ := hexbM_two m c
    have ih := unh_hexs m (c :: r)
    rw [hexsM_cons, e]
    have e2 : hexsM m (c :: r) = x' :: y' :: (r.flatMap fun c => 44 :: hexbM m c) := by simp [hexsM, e']
    show unh (x :: y :: 44 :: hexsM m (c :: r)) = _
    rw [unh, if_pos ⟨h1, h2, rfl⟩, ih, h3]
    rfl
theorem hexsM_len (m : Bool) : ∀ l : Txt, (hexsM m l).length = 3 * l.length - 1
  | [] => rfl
  | [b] => by
    obtain ⟨x, y, e, _⟩ := hexbM_two m b
    show (hexbM m b ++ []).length = _
    rw [e]
    rfl
  | b :: c :: r => by
    obtain ⟨x, y, e, _⟩ := hexbM_two m b
    have ih := hexsM_len m (c :: r)
    rw [hexsM_cons, e]
    simp only [List.length_append, List.length_cons, List.length_nil] at ih ⊢
    omega
theorem hexsM_false : ∀ l : Txt, hexsM false l = hexs l
  | [] => rfl
  | _ :: _ => rfl
/-- What digits tell, one behind the other. -/
def valL : Txt → Nat → Nat
  | [], n => n
  | c :: r, n => valL r (n * 16 + (dig c).toNat)
theorem valL_app : ∀ (a b : Txt) (n : Nat), valL (a ++ b) n = valL b (valL a n)
  | [], _, _ => rfl
  | c :: a, b, n => by rw [List.cons_append, valL, valL, valL_app a b]
theorem valL_zeros : ∀ k : Nat, valL (List.replicate k 48) 0 = 0
  | 0 => rfl
  | k + 1 => by rw [List.replicate_succ, valL]; exact valL_zeros k
theorem digs_val : ∀ (f n : Nat) (acc : Txt), n < 16 ^ (f + 1) → ∃ d, digs f n acc = d ++ acc ∧ valL d 0 = n ∧ ∀ c ∈ d, 0 ≤ dig c
  | 0, n, acc, h => by
    have hn : n < 16 := by simpa using h
    have hd := dig_hexd n hn
    refine ⟨[hexd n], rfl, ?_, ?_⟩
    · show 0 * 16 + (dig (hexd n)).toNat = n
      rw [hd]; simp
    · intro c hc
      rw [List.mem_singleton.1 hc, hd]; omega
  | f + 1, n, acc, h => by
    unfold digs
    by_cases h16 : 16 ≤ n
    · rw [if_pos h16]
      have h2 : n / 16 < 16 ^ (f + 1) := by
        rw [Nat.div_lt_iff_lt_mul (by omega)]
        rw [Nat.pow_succ] at h
        exact h
      obtain ⟨d, e, hv, ha⟩ := digs_val f (n / 16) (hexd (n % 16) :: acc) h2
      have hd := dig_hexd (n % 16) (by omega)
      refine ⟨d ++ [hexd (n % 16)], by rw [e]; simp, ?_, ?_⟩
      · rw [valL_app, hv]
        show n / 16 * 16 + (dig (hexd (n % 16))).toNat = n
        rw [hd]
        simp only [Int.toNat_natCast]
        omega
      · intro c hc
        rcases List.mem_append.1 hc with hc | hc
        · exact ha c hc
        · rw [List.mem_singleton.1 hc, hd]; omega
    · rw [if_neg h16]
      have hd := dig_hexd n (by omega)
      refine ⟨[hexd n], rfl, ?_, ?_⟩
      · show 0 * 16 + (dig (hexd n)).toNat = n
        rw [hd]; simp
      · intro c hc
        rw [List.mem_singleton.1 hc, hd]; omega
theorem num_val (n : Nat) (h : n < 4294967296) : valL (num n) 0 = n ∧ ∀ c ∈ num n, 0 ≤ dig c := by
  obtain ⟨d, e, hv, ha⟩ := digs_val 7 n [] h
  rw [List.append_nil] at e
  unfold num
  rw [e]
  refine ⟨by rw [valL_app, valL_zeros, hv], ?_⟩
  intro c hc
  rcases List.mem_append.1 hc with hc | hc
  · rw [(List.mem_replicate.1 hc).2]; decide
  · exact ha c hc
end Ink
end Go.Proofs.YthmhadgbhakdlaaGreatDoor

/- solsticelaw34.Small: 0, or 1 and the hive is small. -/
namespace Go.Proofs.YthmhadgbhakdlaaGreatDoor
open Go.RowKit

namespace Hv
/-- No text is longer than a machine bears. -/
def far (s : ByteArray) : Prop := s.size ≤ 140737488355328
def V.Far (v : V) : Prop := far v.name ∧ far v.text ∧ far v.bytes
def SmV (v : V) : Prop := v.name.size + v.text.size + v.bytes.size ≤ 10000
def SmK (k : K) : Prop := k.path.size ≤ 1000 ∧ k.vals.length ≤ 60 ∧ ∀ v ∈ k.vals, SmV v
structure Few (l : List K) : Prop where
  n : l.length ≤ 30
  all : ∀ k ∈ l, SmK k
def SmRet (l : List K) (w : World) (e : Ending) (w' : World) : Prop := (e = .returned (.int .i64 0) ∨ (e = .returned (.int .i64 1) ∧ Few l)) ∧ Below w.heap.size w w'
theorem all_next {α : Type} {P : α → Prop} {l : List α} {k : Nat} {x : α} (h : ∀ a ∈ l.take k, P a) (hx : l[k]? = some x) (hp : P x) : ∀ a ∈ l.take (k + 1), P a := by
  rw [take_next hx]
  intro a ha
  rcases List.mem_append.1 ha with ha | ha
  · exact h a ha
  · rw [List.mem_singleton.1 ha]; exact hp
end Hv
set_option maxHeartbeats 4000000 in
set_option maxRecDepth 100000 in
theorem small34_any (l : List Hv.K) (hl : ∀ k ∈ l, k.path.size ≤ maxLen ∧ ∀ v ∈ k.vals, v.Far) (A : Option Addr) (n c : Nat) (evs : List Value) (w : World) (hn : l.length = n) (hnm : n ≤ maxLen) (hr : Hv.HR w w.heap.size l (.slice A n c) evs) :
    Calls Tryz.prog 19 #[.agg #[.slice A n c]] w (Hv.SmRet l w) := by
  have HR := Lib.hid hr
  have HN := Lib.hid hn
  have HO := Lib.hid hl
  unfold maxLen at hnm
  obtain ⟨W0, hW0⟩ : ∃ W, w.alloc (.cells #[.slice A n c] 43) = W := ⟨_, rfl⟩
  have HB0 : Hid (Below w.heap.size w W0) := by show Below _ _ _; rw [← hW0]; exact Hv.bl1 _ _
  have HA0 : Hid (At W0 w.heap.size [.slice A n c]) := by show At _ _ _; rw [← hW0]; exact At.new _ _ _
  have a0 := HA0.out.cell 0 _ rfl
  have HW0 := Lib.hid hW0
  clear hW0 hr hn hl
  go_enter Tryz.func19, Tryz.ntmps19
  by_cases hn5 : n ≤ 30
  case neg =>
    have p5 : (30 : Int) < (n : Int) := by omega
    go_wp2_with fail
    rw [HW0.out]
    go_ret
    exact ⟨.inl rfl, HB0.out⟩
  have p5 : ¬ (30 : Int) < (n : Int) := by omega
  go_wp2_with fail
  rw [HW0.out]
  go_wp2_with fail
  clear a0
  go_loopw [14] (fun i wr => ∃ k : Nat, k ≤ n ∧ i = .int .i64 (k : Int) ∧ Hid (Below w.heap.size w wr) ∧ Hid (∀ x ∈ l.take k, Hv.SmK x)) (fun i _ => n - (intOf i).toNat)
  case atStart => exact ⟨0, Nat.zero_le _, rfl, HB0.out, fun x hx => by cases hx⟩
  case round =>
    obtain ⟨k, hk, rfl, HB, HS⟩ := hrel
    by_cases hlt : k < n
    · have q1 : (0 : Int) ≤ (k : Int) := by omega
      have q2 : (k : Int) < (n : Int) := by omega
      obtain ⟨ad, x, vA, m, vc, rfl, hab, Hx, c0, c1, HVl, hv1, hv2, HRv⟩ := (HR.out.below HB.out).at_ HN.out hlt
      have hxo := HO.out x (List.mem_of_getElem? Hx.out)
      obtain ⟨pt, vs⟩ := x
      simp only at c0 c1 HVl HRv hxo
      have h1 := hxo.1
      unfold maxLen at h1 hv2
      have HF := Lib.hid hxo.2
      obtain ⟨W3, hW3⟩ : ∃ W, wr.alloc (.cells #[.string pt, .slice vA m vc] 64) = W := ⟨_, rfl⟩
      have HB3 : Hid (Below w.heap.size w W3) := by show Below _ _ _; rw [← hW3]; exact Hv.bl HB.out _
      have HB3r : Hid (Below wr.heap.size wr W3) := by show Below _ _ _; rw [← hW3]; exact Hv.bl1 _ _
      have HRv3 := Lib.hid (((HRv.out.more HB.out.size).below HB3r.out).more HB3r.out.size)
      have HW3 := Lib.hid hW3
      clear hW3 hxo
      by_cases hp1 : pt.size ≤ 1000
      case neg =>
        have p6 : (1000 : Int) < (pt.size : Int) := by omega
        go_wp2_with fail
        rw [HW3.out]
        go_ret
        exact ⟨.inl rfl, HB3.out⟩
      have p6 : ¬ (1000 : Int) < (pt.size : Int) := by omega
      by_cases hm1 : m ≤ 60
      case neg =>
        have p7 : (60 : Int) < (m : Int) := by omega
        go_wp2_with fail
        rw [HW3.out]
        go_ret
        exact ⟨.inl rfl, HB3.out⟩
      have p7 : ¬ (60 : Int) < (m : Int) := by omega
      go_wp2_with fail
      rw [HW3.out]
      go_wp2_with fail
      clear c0 c1
      go_loopw [31] (fun i wv => ∃ j : Nat, j ≤ m ∧ i = .int .i64 (j : Int) ∧ Hid (Below W3.heap.size W3 wv) ∧ Hid (∀ x ∈ vs.take j, Hv.SmV x)) (fun i _ => m - (intOf i).toNat)
      case atStart => exact ⟨0, Nat.zero_le _, rfl, Below.refl _ _, fun x hx => by cases hx⟩
      case round =>
        obtain ⟨j, hj, rfl, HBj, HSj⟩ := hrel
        have HBw := Lib.hid (below_then HB3.out HBj.out)
        by_cases hlj : j < m
        · have t1 : (0 : Int) ≤ (j : Int) := by omega
          have t2 : (j : Int) < (m : Int) := by omega
          obtain ⟨ad, y, rfl, hab, Hy, d0, d1, d2, d3, d4⟩ := Hv.val_at (HRv3.out.below HBj.out) HVl.out hlj
          obtain ⟨f1, f2, f3⟩ := HF.out y (List.mem_of_getElem? Hy.out)
          obtain ⟨nm, kd, tx, nu, bs⟩ := y
          unfold Hv.far at f1 f2 f3
          simp only at d0 d1 d2 d3 d4 f1 f2 f3
          have w1 : IntKind.i64.wrap ((nm.size : Int) + (tx.size : Int)) = (nm.size : Int) + (tx.size : Int) := IntWalk.i64_in _ (by omega)
          have w2 : IntKind.i64.wrap ((nm.size : Int) + (tx.size : Int) + (bs.size : Int)) = (nm.size : Int) + (tx.size : Int) + (bs.size : Int) := IntWalk.i64_in _ (by omega)
          have HB5 := Lib.hid (Hv.bl HBw.out (.cells #[.string nm, .int .u8 kd, .string tx, .int .u32 nu, .string bs] 55))
          have HB5j := Lib.hid (Hv.bl HBj.out (.cells #[.string nm, .int .u8 kd, .string tx, .int .u32 nu, .string bs] 55))
          by_cases hs : nm.size + tx.size + bs.size ≤ 10000
          · have p8 : ¬ (10000 : Int) < (nm.size : Int) + (tx.size : Int) + (bs.size : Int) := by omega
            have HS2 : Hid (∀ x ∈ vs.take (j + 1), Hv.SmV x) := Hv.all_next HSj.out Hy.out hs
            clear hs
            go_wp2
            go_roundw
            case rel => exact ⟨j + 1, by omega, by go_num, HB5j.out, HS2.out⟩
            case measure => simp [intOf]; omega
          · have p8 : (10000 : Int) < (nm.size : Int) + (tx.size : Int) + (bs.size : Int) := by omega
            clear hs
            go_wp2
            go_ret
            exact ⟨.inl rfl, HB5.out⟩
        · have t2 : ¬ (j : Int) < (m : Int) := by omega
          have HS2 : Hid (∀ x ∈ l.take (k + 1), Hv.SmK x) := by
            refine Hv.all_next HS.out Hx.out ⟨hp1, ?_, ?_⟩
            · show vs.length ≤ 60
              rw [HVl.out]; exact hm1
            · have h := HSj.out
              rwa [List.take_of_length_le (by rw [HVl.out]; omega)] at h
          go_wp2
          go_roundw
          case rel => exact ⟨k + 1, by omega, by go_num, HBw.out, HS2.out⟩
          case measure => simp [intOf]; omega
    · have q2 : ¬ (k : Int) < (n : Int) := by omega
      have HE : Hid (Hv.Few l) := by
        have h := HS.out
        rw [List.take_of_length_le (by rw [HN.out]; omega)] at h
        exact ⟨by rw [HN.out]; exact hn5, h⟩
      go_wp2
      go_ret
      exact ⟨.inr ⟨rfl, HE.out⟩, HB.out⟩
end Go.Proofs.YthmhadgbhakdlaaGreatDoor

/- intake: a hive's text as lines; what the lines are read as. -/
namespace Go.Proofs.YthmhadgbhakdlaaGreatDoor
open Go.RowKit

namespace Ink
open Em
/-- A value of bytes, line by line, without what stands ahead of each. -/
def bl : List Txt → List Txt
  | [] => [[]]
  | [p] => [hexs p]
  | p :: r => (hexs p ++ [44, 92]) :: bl r
def bpre (v : Hv.V) : Txt := quote (tl v.name) ++ [61, 98, 121, 116, 101, 115, 58]
def two : Txt := [32, 32]
/-- The lines of a value. -/
def vlines (v : Hv.V) : List Txt :=
  if v.kind = 3 then (match bl (parts (tl v.bytes).length (tl v.bytes)) with
    | [] => []
    | h :: t => (bpre v ++ h) :: t.map (two ++ ·))
  else [val v]
def unl (l : List Txt) : Txt := l.flatMap (· ++ [10])
theorem bl_cons : ∀ ps : List Txt, ∃ h t, bl ps = h :: t
  | [] => ⟨_, _, rfl⟩
  | [_] => ⟨_, _, rfl⟩
  | _ :: _ :: _ => ⟨_, _, rfl⟩
theorem joined_cons (p q : Txt) (r : List Txt) : joined (p :: q :: r) = hexs p ++ go ++ joined (q :: r) := by simp [joined]
theorem bl_joined : ∀ (ps : List Txt) (h : Txt) (t : List Txt), bl ps = h :: t → h ++ [10] ++ unl (t.map (two ++ ·)) = joined ps ++ [10]
  | [], h, t, e => by injection e with e1 e2; subst e1 e2; rfl
  | [p], h, t, e => by injection e with e1 e2; subst e1 e2; simp [unl, joined]
  | p :: q :: r, h, t, e => by
    obtain ⟨h', t', e'⟩ := bl_cons (q :: r)
    have ih := bl_joined (q :: r) h' t' e'
    have e2 : bl (p :: q :: r) = (hexs p ++ [44, 92]) :: bl (q :: r) := rfl
    rw [e2, e'] at e
    injection e with e3 e4
    subst e3 e4
    rw [joined_cons, List.append_assoc _ (joined (q :: r)), ← ih]
    simp [unl, go, two]
theorem val_bytes {v : Hv.V} (h : v.kind = 3) : val v = bpre v ++ Em.bytes (tl v.bytes) := by
  unfold val rest bpre
  rw [if_neg (by omega), if_neg (by omega), if_pos h]
  simp
theorem unl_vlines (v : Hv.V) : unl (vlines v) = val v ++ [10] := by
  unfold vlines
  by_cases h : v.kind = 3
  · rw [if_pos h, val_bytes h]
    obtain ⟨x, t, e⟩ := bl_cons (parts (tl v.bytes).length (tl v.bytes))
    rw [e]
    have h2 := bl_joined _ x t e
    show unl ((bpre v ++ x) :: t.map (two ++ ·)) = _
    unfold Em.bytes
    rw [List.append_assoc, ← h2]
    simp [unl]
  · rw [if_neg h]
    simp [unl]
/-- What a part of a text tells. -/
inductive It where
  | blank
  | path (p : ByteArray)
  | val (v : Hv.V)
def It.ls : It → List Txt
  | .blank => [[]]
  | .path p => [91 :: (tl p ++ [93])]
  | .val v => vlines v
def kits (k : Hv.K) : List It := .blank :: .path k.path :: k.vals.map .val
def its (l : List Hv.K) : List It := l.flatMap kits
def lns (l : List It) : List Txt := l.flatMap It.ls
def headL : Txt := [82, 69, 71, 73, 83, 84, 69, 82, 32, 49]
theorem unl_app (a b : List Txt) : unl (a ++ b) = unl a ++ unl b := by simp [unl]
theorem lns_app (a b : List It) : lns (a ++ b) = lns a ++ lns b := by simp [lns]
theorem unl_vals (l : List Hv.V) : unl (lns (l.map .val)) = vals l := by
  induction l with
  | nil => rfl
  | cons v l ih =>
    have e : lns ((v :: l).map .val) = vlines v ++ lns (l.map .val) := by simp [lns, It.ls]
    rw [e, unl_app, ih, unl_vlines]
    simp [vals]
theorem unl_key (k : Hv.K) : unl (lns (kits k)) = key k := by
  have e : lns (kits k) = [[], 91 :: (tl k.path ++ [93])] ++ lns (k.vals.map .val) := by simp [lns, kits, It.ls]
  rw [e, unl_app, unl_vals]
  simp [unl, key, keyHead]
theorem unl_keys (l : List Hv.K) : unl (lns (its l)) = l.flatMap key := by
  induction l with
  | nil => rfl
  | cons k l ih =>
    have e : lns (its (k :: l)) = lns (kits k) ++ lns (its l) := by simp [lns, its]
    rw [e, unl_app, unl_key, ih, List.flatMap_cons]
theorem text_lines (l : List Hv.K) : text l = unl (headL :: lns (its l)) := by
  have e : unl (headL :: lns (its l)) = headL ++ [10] ++ unl (lns (its l)) := by simp [unl]
  rw [e, unl_keys]
  rfl
theorem unl_join : ∀ l : List Txt, unl l = Lib.join (l ++ [[]]) [10]
  | [] => rfl
  | x :: l => by
    have e : unl (x :: l) = x ++ [10] ++ unl l := by simp [unl]
    rw [e, unl_join l]
    cases l with
    | nil => simp [Lib.join, List.intercalate]
    | cons y r => simp [Lib.join, List.intercalate]
/-- Two texts, one behind the other, without the second one's first line. -/
theorem two_texts (a b : List Hv.K) : text a ++ (text b).drop 11 = Lib.join (headL :: lns (its a ++ its b ++ [.blank])) [10] := by
  have e1 : (text b).drop 11 = unl (lns (its b)) := by
    rw [unl_keys]
    rfl
  rw [e1, text_lines, ← unl_app, List.cons_append, ← lns_app, unl_join]
  congr 1
  rw [lns_app (its a ++ its b)]
  rfl
/-- A line that neither has an end nor ends with a return, or so that it goes on. -/
structure Fl (x : Txt) : Prop where
  no : ∀ b ∈ x, b ≠ 10
  cr : x.getLast? ≠ some 13
theorem hexd_plain : ∀ n, n < 16 → hexd n ≠ 10 ∧ hexd n ≠ 13 ∧ hexd n ≠ 92 ∧ hexd n ≠ 32 ∧ hexd n ≠ 9 ∧ hexd n ≠ 34 := by decide
theorem hexb_plain (b : UInt8) : ∀ c ∈ hexb b, c ≠ 10 ∧ c ≠ 13 ∧ c ≠ 92 ∧ c ≠ 32 ∧ c ≠ 9 ∧ c ≠ 34 := by
  have h := b.toNat_lt
  intro c hc
  unfold hexb at hc
  rcases List.mem_cons.1 hc with rfl | hc
  · exact hexd_plain _ (by omega)
  · rw [List.mem_singleton.1 hc]
    exact hexd_plain _ (by omega)
theorem hexs_plain : ∀ l : Txt, ∀ c ∈ hexs l, c ≠ 10 ∧ c ≠ 13 ∧ c ≠ 92 ∧ c ≠ 32 ∧ c ≠ 9 ∧ c ≠ 34
  | [], c, h => by cases h
  | b :: r, c, h => by
    rcases List.mem_append.1 h with h | h
    · exact hexb_plain b c h
    · obtain ⟨d, _, hd⟩ := List.mem_flatMap.1 h
      rcases List.mem_cons.1 hd with rfl | hd
      · decide
      · exact hexb_plain d c hd
theorem hexs_app (p r : Txt) (hp : p ≠ []) (hr : r ≠ []) : hexs (p ++ r) = hexs p ++ 44 :: hexs r := by
  cases p with
  | nil => exact absurd rfl hp
  | cons a p =>
    cases r with
    | nil => exact absurd rfl hr
    | cons b r => simp [hexs]
/-- What the n-th line of bytes has, without what stands ahead of it. -/
def bline (ps : List Txt) (n : Nat) : Txt := hexs (ps.getD n []) ++ (if n + 1 < ps.length then [44, 92] else [])
theorem bl_get : ∀ (ps : List Txt) (n : Nat), n < ps.length → (bl ps)[n]? = some (bline ps n)
  | [], n, h => by simp at h
  | [p], n, h => by
    have h0 : n = 0 := by simpa using h
    subst h0
    simp [bl, bline]
  | p :: q :: r, 0, _ => by simp [bl, bline]
  | p :: q :: r, n + 1, h => by
    have ih := bl_get (q :: r) n (by simpa using h)
    show (bl (q :: r))[n]? = _
    rw [ih]
    simp [bline]
theorem bl_len : ∀ ps : List Txt, (bl ps).length = if ps = [] then 1 else ps.length
  | [] => rfl
  | [_] => rfl
  | p :: q :: r => by
    have ih := bl_len (q :: r)
    show (bl (q :: r)).length + 1 = _
    rw [ih]
    simp
/-- So far: the bytes of the first n parts. -/
def bsum (ps : List Txt) (n : Nat) : Txt := hexs ((ps.take n).flatten) ++ (if n < ps.length then [44, 92] else [])
theorem bsum_next {ps : List Txt} (hne : ∀ p ∈ ps, p ≠ []) {n : Nat} (h0 : 0 < n) (hn : n < ps.length) : (bsum ps n).dropLast ++ bline ps n = bsum ps (n + 1) := by
  obtain ⟨p, hp⟩ : ∃ p, ps[n]? = some p := ⟨_, List.getElem?_eq_getElem hn⟩
  have ht : ps.take (n + 1) = ps.take n ++ [p] := by rw [List.take_add_one, hp]; rfl
  have hpn : p ≠ [] := hne p (List.mem_of_getElem? hp)
  have hf : (ps.take n).flatten ≠ [] := by
    intro e
    rw [List.flatten_eq_nil_iff] at e
    obtain ⟨q, hq⟩ : ∃ q, ps[0]? = some q := ⟨_, List.getElem?_eq_getElem (by omega)⟩
    have hq2 : q ∈ ps.take n := by
      have : (ps.take n)[0]? = some q := by rw [List.getElem?_take, if_pos h0]; exact hq
      exact List.mem_of_getElem? this
    exact hne q (List.mem_of_getElem? hq) (e q hq2)
  unfold bsum bline
  rw [if_pos hn, ht, List.flatten_append, List.flatten_singleton, hexs_app _ _ hf hpn, List.getD_eq_getElem?_getD, hp, Option.getD_some]
  have e : (hexs (ps.take n).flatten ++ [44, 92] : Txt).dropLast = hexs (ps.take n).flatten ++ [44] := by
    rw [show ([44, 92] : Txt) = [44] ++ [92] from rfl, ← List.append_assoc, List.dropLast_concat]
  rw [e]
  simp
theorem bsum_one {ps : List Txt} (h : ps ≠ []) : bline ps 0 = bsum ps 1 := by
  cases ps with
  | nil => exact absurd rfl h
  | cons p r => simp [bline, bsum]
theorem parts_flat : ∀ (f : Nat) (l : Txt), l.length ≤ f → (parts f l).flatten = l
  | 0, l, h => by
    have : l = [] := List.length_eq_zero_iff.1 (by omega)
    subst this
    rfl
  | f + 1, l, h => by
    unfold parts
    split
    · rw [List.flatten_cons, parts_flat f _ (by rw [List.length_drop]; omega), List.take_append_drop]
    · split
      · rename_i h2; rw [h2]; rfl
      · simp
theorem parts_ne : ∀ (f : Nat) (l : Txt), ∀ p ∈ parts f l, p ≠ []
  | 0, l, p, h => by simp [parts] at h
  | f + 1, l, p, h => by
    unfold parts at h
    split at h
    · rcases List.mem_cons.1 h with rfl | h
      · intro e
        have := congrArg List.length e
        rw [List.length_take, List.length_nil] at this
        omega
      · exact parts_ne f _ p h
    · split at h
      · cases h
      · rw [List.mem_singleton.1 h]; assumption
/-- A value's line, put together to one. -/
def vline (v : Hv.V) : Txt := if v.kind = 3 then bpre v ++ hexs (tl v.bytes) else val v
theorem bsum_all {ps : List Txt} : bsum ps ps.length = hexs ps.flatten := by
  unfold bsum
  rw [if_neg (by omega), List.take_length, List.append_nil]
/-- A line that goes on ends so. -/
theorem bsum_goes {ps : List Txt} {n : Nat} (pre : Txt) (h : n < ps.length) : ∃ x, pre ++ bsum ps n = x ++ [44, 92] := ⟨pre ++ hexs ((ps.take n).flatten), by unfold bsum; rw [if_pos h, List.append_assoc]⟩
theorem last_hexs {pre : Txt} {l : Txt} (h : pre.getLast? = some 58) : (pre ++ hexs l).getLast? ≠ some 92 ∧ (pre ++ hexs l).getLast? ≠ some 13 := by
  rw [List.getLast?_append]
  cases e : (hexs l).getLast? with
  | none =>
    rw [Option.none_or, h]
    decide
  | some c =>
    have := hexs_plain l c (List.mem_of_getLast? e)
    rw [Option.some_or]
    exact ⟨fun x => this.2.2.1 (Option.some.inj x), fun x => this.2.1 (Option.some.inj x)⟩
theorem bpre_last (v : Hv.V) : (bpre v).getLast? = some 58 := by
  unfold bpre
  rw [List.getLast?_append]
  rfl
theorem esc_no {l : Txt} (h : ∀ b ∈ l, b ≠ 10) : ∀ b ∈ esc l, b ≠ 10 := by
  intro b hb
  obtain ⟨c, hc, hb⟩ := List.mem_flatMap.1 hb
  unfold esc1 at hb
  split at hb
  · rcases List.mem_cons.1 hb with rfl | hb
    · decide
    · rw [List.mem_singleton.1 hb]; exact h c hc
  · rw [List.mem_singleton.1 hb]; exact h c hc
theorem quote_no {l : Txt} (h : ∀ b ∈ l, b ≠ 10) : ∀ b ∈ quote l, b ≠ 10 := by
  intro b hb
  unfold quote at hb
  rcases List.mem_cons.1 hb with rfl | hb
  · decide
  · rcases List.mem_append.1 hb with hb | hb
    · exact esc_no h b hb
    · rw [List.mem_singleton.1 hb]; decide
theorem quote_last (l : Txt) : (quote l).getLast? = some 34 := by
  unfold quote
  rw [show (34 :: (esc l ++ [34])) = (34 :: esc l) ++ [34] from rfl, List.getLast?_append]
  rfl
theorem num_dig (n : Nat) (h : n < 4294967296) : ∀ c ∈ num n, c ≠ 10 ∧ c ≠ 13 ∧ c ≠ 92 := by
  intro c hc
  have h0 := (num_val n h).2 c hc
  refine ⟨?_, ?_, ?_⟩ <;> (intro e; rw [e] at h0; revert h0; decide)
end Ink
end Go.Proofs.YthmhadgbhakdlaaGreatDoor

/- intake: what the parts of a hive's text make, one behind the other. -/
namespace Go.Proofs.YthmhadgbhakdlaaGreatDoor
open Go.RowKit

namespace Ink
open Em
theorem plain_no {s : ByteArray} (h : Te.plain s = true) : ∀ b ∈ tl s, b ≠ 10 ∧ b ≠ 13 := by
  intro b hb
  have h2 := Te.plain_tl s h b hb
  constructor
  · intro e; rw [e] at h2; revert h2; decide
  · intro e; rw [e] at h2; revert h2; decide
theorem val_parts {v : Hv.V} (h : Hv.valB v = true) : (v.kind = 1 ∧ Te.plain v.text = true) ∨ v.kind = 2 ∨ v.kind = 3 := by
  unfold Hv.valB Hv.kindB at h
  rw [Bool.and_eq_true] at h
  have h4 := h.2
  split at h4
  · rename_i hk
    simp only [Bool.and_eq_true, decide_eq_true_eq] at h4
    exact .inl ⟨hk, h4.2.1⟩
  · split at h4
    · rename_i hk; exact .inr (.inl hk)
    · split at h4
      · rename_i hk; exact .inr (.inr hk)
      · cases h4
/-- A right value's lines: none has an end, none ends with a return. -/
theorem vlines_fl {v : Hv.V} (h : Hv.valB v = true) (ho : v.Ok) : ∀ x ∈ vlines v, Fl x := by
  have hn := plain_no (val_small h).2.2.2.2
  have hq : ∀ b ∈ quote (tl v.name), b ≠ 10 := quote_no fun b hb => (hn b hb).1
  have hpre : ∀ b ∈ bpre v, b ≠ 10 := by
    intro b hb
    unfold bpre at hb
    rcases List.mem_append.1 hb with hb | hb
    · exact hq b hb
    · exact (show ∀ b ∈ ([61, 98, 121, 116, 101, 115, 58] : Txt), b ≠ 10 by decide) b hb
  have hbl : ∀ ps n, (∀ b ∈ bline ps n, b ≠ 10) ∧ (bline ps n).getLast? ≠ some 13 := by
    intro ps n
    unfold bline
    refine ⟨fun b hb => ?_, ?_⟩
    · rcases List.mem_append.1 hb with hb | hb
      · exact (hexs_plain _ b hb).1
      · split at hb
        · exact (show ∀ b ∈ ([44, 92] : Txt), b ≠ 10 by decide) b hb
        · cases hb
    · rw [List.getLast?_append]
      split
      · show (some 92).or _ ≠ _
        rw [Option.some_or]
        decide
      · show (none : Option UInt8).or _ ≠ _
        rw [Option.none_or]
        intro e
        exact (hexs_plain _ 13 (List.mem_of_getLast? e)).2.1 rfl
  unfold vlines
  rcases val_parts h with ⟨h1, h2⟩ | h1 | h1
  · rw [if_neg (by omega)]
    intro x hx
    rw [List.mem_singleton.1 hx]
    have ht := plain_no h2
    unfold val rest
    rw [if_pos h1]
    refine ⟨fun b hb => ?_, ?_⟩
    · rcases List.mem_append.1 hb with hb | hb
      · exact hq b hb
      · rcases List.mem_cons.1 hb with rfl | hb
        · decide
        · exact quote_no (fun b hb => (ht b hb).1) b hb
    · rw [List.getLast?_append, List.getLast?_cons, quote_last, Option.getD_some, Option.some_or]
      decide
  · rw [if_neg (by omega)]
    intro x hx
    rw [List.mem_singleton.1 hx]
    have hnum := num_dig v.num.toNat (by have h1 := ho.n0; have h2 := ho.n1; omega)
    unfold val rest
    rw [if_neg (by omega), if_pos h1]
    refine ⟨fun b hb => ?_, ?_⟩
    · rcases List.mem_append.1 hb with hb | hb
      · exact hq b hb
      · rcases List.mem_cons.1 hb with rfl | hb
        · decide
        · rcases List.mem_append.1 hb with hb | hb
          · exact (show ∀ b ∈ ([110, 117, 109, 98, 101, 114, 58] : Txt), b ≠ 10 by decide) b hb
          · exact (hnum b hb).1
    · have hl : (num v.num.toNat).length = 8 := num_len _
      rw [List.getLast?_append, List.getLast?_cons, List.getLast?_append]
      cases e : (num v.num.toNat).getLast? with
      | none => rw [List.getLast?_eq_none_iff] at e; rw [e] at hl; cases hl
      | some c =>
        have := (hnum c (List.mem_of_getLast? e)).2.1
        intro x
        exact this (by simpa using x)
  · rw [if_pos h1]
    obtain ⟨x0, t, e⟩ := bl_cons (parts (tl v.bytes).length (tl v.bytes))
    rw [e]
    by_cases hp : parts (tl v.bytes).length (tl v.bytes) = []
    · rw [hp] at e
      injection e with e1 e2
      subst e1 e2
      intro x hx
      rw [List.mem_singleton.1 hx, List.append_nil]
      exact ⟨hpre, by rw [bpre_last]; decide⟩
    · have hall : ∀ x ∈ bl (parts (tl v.bytes).length (tl v.bytes)), ∃ n, x = bline (parts (tl v.bytes).length (tl v.bytes)) n := by
        intro x hx
        obtain ⟨n, hn, hx⟩ := List.mem_iff_getElem.1 hx
        have hl := bl_len (parts (tl v.bytes).length (tl v.bytes))
        rw [if_neg hp] at hl
        have h2 := bl_get (parts (tl v.bytes).length (tl v.bytes)) n (by omega)
        rw [List.getElem?_eq_getElem hn, hx] at h2
        exact ⟨n, Option.some.inj h2⟩
      rw [e] at hall
      intro x hx
      rcases List.mem_cons.1 hx with rfl | hx
      · obtain ⟨n, rfl⟩ := hall x0 List.mem_cons_self
        refine ⟨fun b hb => ?_, ?_⟩
        · rcases List.mem_append.1 hb with hb | hb
          · exact hpre b hb
          · exact (hbl _ _).1 b hb
        · rw [List.getLast?_append]
          cases e2 : (bline (parts (tl v.bytes).length (tl v.bytes)) n).getLast? with
          | none => rw [Option.none_or, bpre_last]; decide
          | some c => rw [Option.some_or]; intro q; exact (hbl _ _).2 (by rw [e2]; exact q)
      · obtain ⟨y, hy, rfl⟩ := List.mem_map.1 hx
        obtain ⟨n, rfl⟩ := hall y (List.mem_cons_of_mem _ hy)
        refine ⟨fun b hb => ?_, ?_⟩
        · rcases List.mem_append.1 hb with hb | hb
          · exact (show ∀ b ∈ two, b ≠ 10 by decide) b hb
          · exact (hbl _ _).1 b hb
        · rw [List.getLast?_append]
          cases e2 : (bline (parts (tl v.bytes).length (tl v.bytes)) n).getLast? with
          | none => decide
          | some c => rw [Option.some_or]; intro q; exact (hbl _ _).2 (by rw [e2]; exact q)
/-- What a part makes of the keys so far; or why it can't. -/
def step (st : List Hv.K) : It → Int ⊕ List Hv.K
  | .blank => .inr st
  | .path p => if Hv.path p = true then (if Hv.has (Hv.paths st) p = true then .inl 8 else if 4096 ≤ st.length then .inl 6 else .inr (st ++ [⟨p, []⟩])) else .inl 2
  | .val v => match st.getLast? with
    | none => .inl 12
    | some k => if Hv.has (Hv.names k.vals) v.name = true then .inl 8 else if 512 ≤ k.vals.length then .inl 6 else .inr (st.dropLast ++ [⟨k.path, k.vals ++ [v]⟩])
def run : List Hv.K → List It → Int ⊕ List Hv.K
  | st, [] => .inr st
  | st, i :: l => match step st i with
    | .inl e => .inl e
    | .inr st' => run st' l
theorem run_app : ∀ (a b : List It) (st : List Hv.K), run st (a ++ b) = (match run st a with | .inl e => Sum.inl e | .inr st' => run st' b)
  | [], _, _ => rfl
  | i :: a, b, st => by
    show (match step st i with | .inl e => Sum.inl e | .inr st' => run st' (a ++ b)) = _
    rw [run]
    cases step st i with
    | inl e => rfl
    | inr st' => exact run_app a b st'
theorem names_app (a b : List Hv.V) : Hv.names (a ++ b) = Hv.names a ++ Hv.names b := List.map_append
/-- A right key's values, put to a key. -/
theorem run_vals : ∀ (l done : List Hv.V) (st : List Hv.K) (p : ByteArray), Hv.valsB (Hv.names done) l = true → done.length + l.length ≤ 512 → run (st ++ [⟨p, done⟩]) (l.map .val) = .inr (st ++ [⟨p, done ++ l⟩])
  | [], done, st, p, _, _ => by rw [List.append_nil]; rfl
  | v :: l, done, st, p, h, hn => by
    unfold Hv.valsB at h
    simp only [Bool.and_eq_true, Bool.not_eq_true'] at h
    have e : step (st ++ [⟨p, done⟩]) (.val v) = .inr (st ++ [⟨p, done ++ [v]⟩]) := by
      unfold step
      simp only [List.getLast?_concat, List.dropLast_concat]
      rw [h.2.1, if_neg (by simp), if_neg (by rw [List.length_cons] at hn; omega)]
    rw [List.map_cons, run, e]
    simp only
    have h2 : Hv.valsB (Hv.names (done ++ [v])) l = true := by rw [names_app]; exact h.2.2
    rw [run_vals l (done ++ [v]) st p h2 (by rw [List.length_append]; rw [List.length_cons] at hn; simp only [List.length_cons, List.length_nil]; omega), List.append_assoc]
    rfl
/-- A right key behind others. -/
theorem run_key (k : Hv.K) (st : List Hv.K) (hk : Hv.keyB k = true) (hn : st.length < 4096) : run st (kits k) = if Hv.has (Hv.paths st) k.path = true then .inl 8 else .inr (st ++ [k]) := by
  unfold Hv.keyB at hk
  simp only [Bool.and_eq_true, decide_eq_true_eq] at hk
  show run st (.path k.path :: k.vals.map .val) = _
  rw [run]
  by_cases h : Hv.has (Hv.paths st) k.path = true
  · have e : step st (.path k.path) = .inl 8 := by unfold step; simp only; rw [if_pos hk.1, if_pos h]
    rw [e, if_pos h]
  · have e : step st (.path k.path) = .inr (st ++ [⟨k.path, []⟩]) := by unfold step; simp only; rw [if_pos hk.1, if_neg h, if_neg (by omega)]
    rw [e, if_neg h]
    simp only
    rw [run_vals k.vals [] st k.path hk.2.2 (by simpa using hk.2.1)]
    rfl
theorem paths_app (a b : List Hv.K) : Hv.paths (a ++ b) = Hv.paths a ++ Hv.paths b := List.map_append
theorem has_cong {a b : List ByteArray} (h : ∀ x, x ∈ a ↔ x ∈ b) (k : ByteArray) : Hv.has a k = Hv.has b k := by
  cases e : Hv.has b k with
  | true => exact Hv.has_iff.2 ((h k).2 (Hv.has_iff.1 e))
  | false =>
    cases e2 : Hv.has a k with
    | false => rfl
    | true => rw [Hv.has_iff.2 ((h k).1 (Hv.has_iff.1 e2))] at e; cases e
/-- Right keys behind others: all of them, if no path is there twice. -/
theorem run_keys : ∀ (l : List Hv.K) (st : List Hv.K), (∀ k ∈ l, Hv.keyB k = true) → st.length + l.length ≤ 4096 → run st (its l) = if Hv.keysB (Hv.paths st) l = true then .inr (st ++ l) else .inl 8
  | [], st, _, _ => by
    show Sum.inr st = _
    rw [List.append_nil]
    rfl
  | k :: l, st, h, hn => by
    have hk := h k List.mem_cons_self
    rw [List.length_cons] at hn
    have e : its (k :: l) = kits k ++ its l := by simp [its]
    rw [e, run_app, run_key k st hk (by omega)]
    unfold Hv.keysB
    rw [hk, Bool.true_and]
    by_cases hh : Hv.has (Hv.paths st) k.path = true
    · rw [if_pos hh, hh]
      rfl
    · rw [if_neg hh]
      simp only
      have h0 : Hv.has (Hv.paths st) k.path = false := by simpa using hh
      rw [h0, Bool.not_false, Bool.true_and, run_keys l (st ++ [k]) (fun x hx => h x (List.mem_cons_of_mem _ hx)) (by rw [List.length_append]; simp only [List.length_cons, List.length_nil]; omega), paths_app, List.append_assoc]
      rfl
theorem keysB_app : ∀ (a b : List Hv.K) (seen : List ByteArray), Hv.keysB seen (a ++ b) = (Hv.keysB seen a && Hv.keysB (seen ++ Hv.paths a) b)
  | [], b, seen => by
    show Hv.keysB seen b = (true && Hv.keysB (seen ++ []) b)
    rw [List.append_nil, Bool.true_and]
  | k :: a, b, seen => by
    have e1 : ∀ (s : List ByteArray) (l : List Hv.K), Hv.keysB s (k :: l) = (Hv.keyB k && (!Hv.has s k.path && Hv.keysB (s ++ [k.path]) l)) := fun _ _ => rfl
    rw [List.cons_append, e1, e1, keysB_app a b (seen ++ [k.path]), Bool.and_assoc, Bool.and_assoc, List.append_assoc]
    rfl
/-- Two right hives, one behind the other. -/
theorem run_two (a b : List Hv.K) (ha : Hv.hiveB a = true) (hb : Hv.hiveB b = true) (hn : a.length + b.length ≤ 4096) : run [] (its a ++ its b ++ [.blank]) = if Hv.hiveB (a ++ b) = true then .inr (a ++ b) else .inl 8 := by
  unfold Hv.hiveB at ha hb
  simp only [Bool.and_eq_true, decide_eq_true_eq] at ha hb
  have h1 := run_keys a [] (Em.keysB_all a [] ha.2) (by simpa using ha.1)
  rw [show Hv.paths ([] : List Hv.K) = [] from rfl, if_pos ha.2, List.nil_append] at h1
  have h2 := run_keys b a (Em.keysB_all b [] hb.2) hn
  have h3 := keysB_app a b []
  rw [ha.2, Bool.true_and, List.nil_append] at h3
  rw [run_app, run_app, h1]
  simp only
  rw [h2]
  unfold Hv.hiveB
  rw [List.length_append, decide_eq_true hn, Bool.true_and, h3]
  cases Hv.keysB (Hv.paths a) b <;> rfl
end Ink
end Go.Proofs.YthmhadgbhakdlaaGreatDoor
