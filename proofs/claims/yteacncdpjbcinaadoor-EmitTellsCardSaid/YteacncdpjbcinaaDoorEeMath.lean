/- EmitEach, plain: how many commas a value's lines have; a hive's text is its keys'. -/
import Derived.Test.YteacncdpjbcinaaDoorEmMath
namespace Go.Proofs.YteacncdpjbcinaaDoor
open Go.RowKit

namespace Ee
open Em
def st (m : Bool) (c : Nat) (b : UInt8) : Nat := if b = 10 then 0 else if b = 44 ∧ m = true then c + 1 else c
def run (m : Bool) (c : Nat) (l : Txt) : Nat := l.foldl (st m) c
def ok (m : Bool) (B : Nat) : Nat → Txt → Bool
  | _, [] => true
  | c, b :: r => decide (st m c b ≤ B) && ok m B (st m c b) r
theorem ok_app (m : Bool) (B : Nat) : ∀ (a b : Txt) (c : Nat), ok m B c (a ++ b) = (ok m B c a && ok m B (run m c a) b)
  | [], b, c => by simp [ok, run]
  | x :: a, b, c => by
    rw [List.cons_append, ok, ok, ok_app m B a b]
    simp [run, Bool.and_assoc]
theorem run_app (m : Bool) (a b : Txt) (c : Nat) : run m c (a ++ b) = run m (run m c a) b := by unfold run; rw [List.foldl_append]
theorem st_le (m : Bool) (c : Nat) (b : UInt8) : st m c b ≤ c + List.count 44 [b] := by
  unfold st
  split
  · omega
  · split
    · rename_i h
      rw [h.1]
      simp
    · omega
theorem ok_cnt (m : Bool) (B : Nat) : ∀ (l : Txt) (c : Nat), c + l.count 44 ≤ B → ok m B c l = true ∧ run m c l ≤ c + l.count 44
  | [], c, h => by simp [ok, run]
  | b :: r, c, h => by
    have h1 := st_le m c b
    have h2 : (b :: r).count 44 = List.count 44 [b] + r.count 44 := by rw [show b :: r = [b] ++ r from rfl, List.count_append]
    rw [h2] at h
    obtain ⟨h3, h4⟩ := ok_cnt m B r (st m c b) (by omega)
    refine ⟨?_, ?_⟩
    · unfold ok
      rw [decide_eq_true (by omega), h3]; rfl
    · rw [h2]
      have : run m c (b :: r) = run m (st m c b) r := rfl
      omega
theorem ok_off (B : Nat) : ∀ l : Txt, ok false B 0 l = true
  | [] => rfl
  | b :: r => by
    have h : st false 0 b = 0 := by unfold st; split <;> simp
    unfold ok
    rw [h, ok_off B r]
    simp
theorem hexd_not (n : Nat) (h : n < 16) : hexd n ≠ 44 := by
  have : ∀ n : Fin 16, hexd n.val ≠ 44 := by decide
  exact this ⟨n, h⟩
theorem cnt_hexb (b : UInt8) : (hexb b).count 44 = 0 := by
  have h := b.toNat_lt
  rw [List.count_eq_zero]
  intro hm
  unfold hexb at hm
  rcases List.mem_cons.1 hm with h1 | h1
  · exact hexd_not _ (by omega) h1.symm
  · exact hexd_not _ (by omega) (List.mem_singleton.1 h1).symm
theorem cnt_flat (r : Txt) : (r.flatMap fun c => 44 :: hexb c).count 44 = r.length := by
  induction r with
  | nil => rfl
  | cons b r ih =>
    rw [List.flatMap_cons, List.count_append, ih, List.count_cons_self, cnt_hexb, List.length_cons]
    omega
theorem cnt_hexs (l : Txt) : (hexs l).count 44 ≤ l.length - 1 := by
  cases l with
  | nil => exact Nat.le_refl _
  | cons b r =>
    unfold hexs
    rw [List.count_append, cnt_hexb, cnt_flat]
    simp
theorem cnt_esc (l : Txt) : (esc l).count 44 ≤ l.length := by
  unfold esc
  induction l with
  | nil => simp
  | cons b r ih =>
    rw [List.flatMap_cons, List.count_append, List.length_cons]
    have : (esc1 b).count 44 ≤ 1 := by
      unfold esc1
      split
      · rename_i h
        rcases h with rfl | rfl <;> decide
      · rw [List.count_singleton]
        split <;> omega
    omega
theorem cnt_quote (l : Txt) : (quote l).count 44 ≤ l.length := by
  have h := cnt_esc l
  unfold quote
  rw [List.count_cons, List.count_append]
  simp
  exact h
theorem run_go (c : Nat) : run true c go = 0 := by unfold run go; simp [st]
theorem ok_go (B c : Nat) (h : c + 1 ≤ B) : ok true B c go = true := by
  unfold go
  simp [ok, st]
  omega
theorem ok_rest (B S : Nat) (hB : 20 + S ≤ B) : ∀ (r : List Txt) (c : Nat), c ≤ S + 19 → (∀ q ∈ r, q.length ≤ 20) → ok true B c (r.flatMap fun q => go ++ hexs q) = true
  | [], c, _, _ => rfl
  | q :: r, c, hc, hr => by
    have h1 := cnt_hexs q
    have h2 := hr q (by simp)
    obtain ⟨h3, h4⟩ := ok_cnt true B (hexs q) 0 (by omega)
    rw [List.flatMap_cons, ok_app, ok_app, run_app, run_go, ok_go B c (by omega), h3, ok_rest B S hB r _ (by omega) fun x hx => hr x (by simp [hx])]
    rfl
theorem ok_joined (B S c : Nat) (hB : 20 + S ≤ B) (hc : c ≤ S) (l : List Txt) (hl : ∀ q ∈ l, q.length ≤ 20) : ok true B c (joined l) = true := by
  cases l with
  | nil => rfl
  | cons p r =>
    have h1 := cnt_hexs p
    have h2 := hl p (by simp)
    obtain ⟨h3, h4⟩ := ok_cnt true B (hexs p) c (by omega)
    unfold joined
    rw [ok_app, h3, ok_rest B S hB r _ (by omega) fun x hx => hl x (by simp [hx])]
    rfl
/-- What the law asks of a value's lines. -/
theorem val_ok (v : Hv.V) (m : Bool) (hm : m = true → v.kind = 3) : ok m (20 + v.name.size) 0 (val v) = true := by
  cases m with
  | false => exact ok_off _ _
  | true =>
    have hk := hm rfl
    have h1 := cnt_quote (tl v.name)
    rw [tl_length] at h1
    have hv : val v = (quote (tl v.name) ++ (61 :: [98, 121, 116, 101, 115, 58])) ++ Em.bytes (tl v.bytes) := by
      unfold val rest
      rw [if_neg (by omega), if_neg (by omega), if_pos hk]
      simp
    have h2 : (quote (tl v.name) ++ (61 :: [98, 121, 116, 101, 115, 58])).count 44 ≤ v.name.size := by
      rw [List.count_append, show List.count (44 : UInt8) (61 :: [98, 121, 116, 101, 115, 58]) = 0 by decide]
      exact h1
    obtain ⟨h3, h4⟩ := ok_cnt true (20 + v.name.size) (quote (tl v.name) ++ (61 :: [98, 121, 116, 101, 115, 58])) 0 (by omega)
    rw [hv, ok_app, h3, Em.bytes, ok_joined (20 + v.name.size) v.name.size _ (Nat.le_refl _) (by omega) _ (parts_le _ _)]
    rfl
theorem drop_byte (s : ByteArray) (k : Nat) (h : k < s.size) : (tl s).drop k = s[k] :: (tl s).drop (k + 1) := by
  rw [List.drop_eq_getElem_cons (by rw [tl_length]; exact h)]
  rfl
theorem ok_next {m : Bool} {B c : Nat} {b : UInt8} {r : Txt} (h : ok m B c (b :: r) = true) : st m c b ≤ B ∧ ok m B (st m c b) r = true := by
  unfold ok at h
  rw [Bool.and_eq_true, decide_eq_true_eq] at h
  exact h
theorem text_one (k : Hv.K) : text [k] = head ++ key k := by unfold text; simp
theorem hive_one {k : Hv.K} (h : Hv.keyB k = true) : Hv.hiveB [k] = true := by
  unfold Hv.hiveB Hv.keysB Hv.keysB
  rw [h]
  rfl
theorem text_nil : text [] = head := by unfold text; simp
/-- What the law has put together of a key behind so many values. -/
def mine (k : Hv.K) (j : Nat) : Txt := head ++ keyHead k ++ vals (k.vals.take j)
theorem mine_next {k : Hv.K} {j : Nat} {v : Hv.V} (h : k.vals[j]? = some v) : mine k (j + 1) = mine k j ++ (val v ++ [10]) := by
  unfold mine
  rw [Hv.take_next h, vals_snoc]
  simp only [List.append_assoc]
theorem mine_all (k : Hv.K) (j : Nat) (h : k.vals.length ≤ j) : mine k j = text [k] := by
  unfold mine
  rw [List.take_of_length_le h, text_one, key, List.append_assoc]
theorem bts_app (a b : Txt) : bts a ++ bts b = bts (a ++ b) := by
  apply ByteArray.ext
  unfold bts
  simp
theorem bts_ext0 (a b : Txt) (n : Nat) (h : n = a.length) : (bts (a ++ b)).extract 0 n = bts a := by
  subst h
  apply ByteArray.ext
  unfold bts
  apply Array.toList_inj.1
  rw [ByteArray.data_extract, Array.toList_extract]
  simp [List.extract]
theorem bts_ext1 (a b : Txt) (n N : Nat) (h : n = a.length) (hN : N = (a ++ b).length) : (bts (a ++ b)).extract n N = bts b := by
  subst h
  subst hN
  apply ByteArray.ext
  unfold bts
  apply Array.toList_inj.1
  rw [ByteArray.data_extract, Array.toList_extract]
  simp [List.extract]
end Ee
end Go.Proofs.YteacncdpjbcinaaDoor
