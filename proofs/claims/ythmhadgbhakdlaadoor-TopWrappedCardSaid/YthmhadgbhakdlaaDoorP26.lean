/- link.Zone and link.Chain. -/
import Derived.Test.YthmhadgbhakdlaaDoorP25
import Derived.Deep.QuietTactic
import Derived.BigQuiet
import Derived.Test.YthmhadgbhakdlaaDoorP01
import Derived.Test.YthmhadgbhakdlaaDoorP12
import Derived.Test.YthmhadgbhakdlaaDoorP24
import Derived.DeepKeys4

namespace Go.Proofs.YthmhadgbhakdlaaDoor
open Go.RowKit

namespace Lk
def walk (s : Src.S) (x : ByteArray) : List ByteArray × Fd := find (zn s) (ln s) (tg s) (s.links.length + 1) (fun _ => none) x
theorem walk_zone {s : Src.S} {x : ByteArray} {i : Nat} (h : first (zn s) x = some i) : walk s x = ([x], ((i : Int), 0)) := by
  unfold walk find
  simp only [h]
/-- What a source must be for its names to be looked up. -/
structure Nm (s : Src.S) : Prop where
  nz : s.zones.length ≤ 1000000
  nl : s.links.length ≤ 1000000
  z : ∀ z ∈ s.zones, z.1.length ≤ maxLen
  l : ∀ k ∈ s.links, k.1.length ≤ maxLen ∧ k.2.length ≤ maxLen
theorem Nm.zn {s : Src.S} (h : Nm s) : ∀ x ∈ Lk.zn s, x.size ≤ maxLen := by
  intro x hx
  unfold Lk.zn at hx
  obtain ⟨z, hz, rfl⟩ := List.mem_map.1 hx
  exact h.z z hz
theorem Nm.ln {s : Src.S} (h : Nm s) : ∀ x ∈ Lk.ln s, x.size ≤ maxLen := by
  intro x hx
  unfold Lk.ln at hx
  obtain ⟨k, hk, rfl⟩ := List.mem_map.1 hx
  exact (h.l k hk).2
end Lk
theorem below_gb {a b c : World} {r : Nat} (h : Below a.heap.size a b) (k : b.grownBy c (some r)) (hr : a.heap.size ≤ r) : Below a.heap.size a c :=
  h.grown k h.size (fun j e => by cases e; exact hr)
def Lk.ZAt (s : Src.S) (w : World) (h : Nat) (rv zv lv : Value) (x : ByteArray) (i : Value) (wr : World) : Prop :=
  ∃ k : Nat, k ≤ s.zones.length ∧ i = .int .i64 k ∧ Hid (x ∉ (Lk.zn s).take k) ∧ Hid (At wr h [rv, zv, lv]) ∧ Hid (Below w.heap.size w wr)
theorem first_take {l : List ByteArray} {x : ByteArray} : ∀ {k : Nat}, x ∉ l.take k → l[k]? = some x → Lk.first l x = some k := by
  induction l with
  | nil => intro k _ h; simp at h
  | cons y l ih =>
    intro k hn h
    unfold Lk.first
    cases k with
    | zero =>
      have : y = x := by simpa using h
      rw [if_pos this]
    | succ k =>
      rw [List.take_succ_cons, List.mem_cons, not_or] at hn
      rw [if_neg (fun e => hn.1 e.symm), ih hn.2 (by simpa using h)]
      rfl
/-- What link.Chain hands back. -/
def Lk.ChRet (s : Src.S) (x : ByteArray) (w : World) (e : Ending) (w' : World) : Prop :=
  (∃ A c, e = .returned (.slice A (Lk.walk s x).1.length c) ∧ Reads w' w'.heap.size 1 A (Lk.walk s x).1.length ((Lk.walk s x).1.map Value.string)) ∧ Below w.heap.size w w'
end Go.Proofs.YthmhadgbhakdlaaDoor

/- Charts in plain words: what chart.Check asks, what chart.Keys and atlas answer; what follows of a right chart. -/
namespace Go.Proofs.YthmhadgbhakdlaaDoor
open Go.RowKit

namespace Ca
structure E where
  key : ByteArray
  terr : ByteArray
  zones : List ByteArray
def world : ByteArray := ⟨#[48, 48, 49]⟩
/-- An entry's cells, with its zones' slice. -/
def ec (p : E × Value) : List Value := [.string p.1.key, .string p.1.terr, p.2]
def ev (p : E × Value) : Value := .agg #[.string p.1.key, .string p.1.terr, p.2]
def sign (c : UInt8) : Bool := (decide (65 ≤ c.toNat) && decide (c.toNat ≤ 90)) || (decide (48 ≤ c.toNat) && decide (c.toNat ≤ 57))
def terrB (l : List UInt8) : Bool := decide (1 ≤ l.length ∧ l.length ≤ 8) && l.all sign
def right (e : E) : Bool := Te.key e.key && terrB (tl e.terr) && decide (1 ≤ e.zones.length ∧ e.zones.length ≤ 32) && e.zones.all fun z => Ru.name (tl z)
/-- What an entry is told apart by: its key and its territory, as one text. -/
def kb (e : E) : ByteArray := ⟨(keyBytes [.string e.key.data.toList, .string e.terr.data.toList]).toArray⟩
def dup (l : List E) : Bool := !decide (l.map kb).Nodup
/-- How many zones the last entry of a key has in the territory of all. -/
def zn (l : List E) (k : ByteArray) : Option Nat := ((l.filter fun e => decide (e.terr = world ∧ e.key = k)).getLast?).map fun e => e.zones.length
def cnt (l : List E) (k : ByteArray) : Nat := (zn l k).getD 0
def alone (l : List E) : Bool := !(l.any fun e => decide (cnt l e.key ≠ 1))
/-- All zones, each with its entry's place. -/
def flat : List E → Nat → List (Nat × ByteArray)
  | [], _ => []
  | e :: r, i => e.zones.map (fun z => (i, z)) ++ flat r (i + 1)
def owner (fl : List (Nat × ByteArray)) (z : ByteArray) : Option Nat := (fl.find? fun p => decide (p.2 = z)).map (·.1)
def keyAt (l : List E) (i : Nat) : ByteArray := (l[i]?.map (·.key)).getD ⟨#[]⟩
def clash (l : List E) (fl : List (Nat × ByteArray)) (p : Nat × ByteArray) : Bool := match owner fl p.2 with
  | some j => decide (keyAt l j ≠ keyAt l p.1)
  | none => false
def shared (l : List E) : Bool := (flat l 0).any (clash l (flat l 0))
def chk (l : List E) : Int :=
  if l.any fun e => !right e then 2 else if dup l then 8 else if !alone l then 3 else if shared l then 7 else 0
def has (a : List ByteArray) (k : ByteArray) : Bool := a.any fun x => decide (x = k)
theorem has_iff {a : List ByteArray} {k : ByteArray} : has a k = true ↔ k ∈ a := by
  unfold has
  rw [List.any_eq_true]
  constructor
  · rintro ⟨x, hx, h⟩
    rw [← of_decide_eq_true h]
    exact hx
  · exact fun h => ⟨k, h, by simp⟩
def keyStep (a : List ByteArray) (e : E) : List ByteArray := if has a e.key = true then a else a ++ [e.key]
def keys (l : List E) : List ByteArray := l.foldl keyStep []
def fnd (l : List E) (k t : ByteArray) : Option E := l.find? fun e => decide (e.key = k ∧ e.terr = t)
def zonesA (l : List E) (k t : ByteArray) : List ByteArray × Int :=
  if chk l = 0 then (match fnd l k t with
    | some e => (e.zones, 0)
    | none => match fnd l k world with
      | some e => (e.zones, 0)
      | none => ([], 3)) else ([], chk l)
def defA (l : List E) (k : ByteArray) : ByteArray × Int :=
  if chk l = 0 then (match fnd l k world with
    | some e => (e.zones.getD 0 ⟨#[]⟩, 0)
    | none => (⟨#[]⟩, 3)) else (⟨#[]⟩, chk l)
/-- Where a name leads; -1: nowhere. -/
def lead (s : Src.S) (z : ByteArray) : Int := if (Lk.walk s z).2.2 = 0 then (Lk.walk s z).2.1 else -1
noncomputable def keyA (l : List E) (s : Src.S) (name : ByteArray) : ByteArray × Int :=
  if chk l = 0 then (if Src.srcB s = true then (match (flat l 0).find? fun p => decide (p.2 = name) with
    | some p => (keyAt l p.1, 0)
    | none => if (Lk.walk s name).2.2 = 0 then (match (flat l 0).find? fun p => decide (lead s p.2 = (Lk.walk s name).2.1) with
      | some p => (keyAt l p.1, 0)
      | none => (⟨#[]⟩, 3)) else (⟨#[]⟩, (Lk.walk s name).2.2)) else (⟨#[]⟩, 2)) else (⟨#[]⟩, chk l)
def missStep (s : Src.S) (a : List ByteArray) (seen : List ByteArray) (z : ByteArray) : List ByteArray := if has seen z = true then a else if lead s z < 0 then a ++ [z] else a
/-- The names that lead nowhere, each once. -/
def miss (s : Src.S) : List ByteArray → List ByteArray → List ByteArray → List ByteArray
  | [], _, a => a
  | z :: r, seen, a => miss s r (seen ++ [z]) (missStep s a seen z)
def missing (l : List E) (s : Src.S) : List ByteArray := miss s ((flat l 0).map (·.2)) [] []

theorem flat_mem : ∀ (l : List E) (i k : Nat) (z : ByteArray), (k, z) ∈ flat l i ↔ ∃ j e, l[j]? = some e ∧ k = i + j ∧ z ∈ e.zones
  | [], i, k, z => by simp [flat]
  | e :: r, i, k, z => by
    unfold flat
    rw [List.mem_append, flat_mem r (i + 1) k z]
    constructor
    · rintro (h | ⟨j, e', h1, h2, h3⟩)
      · obtain ⟨z', hz, h⟩ := List.mem_map.1 h
        injection h with h1 h2
        subst h1 h2
        exact ⟨0, e, rfl, rfl, hz⟩
      · exact ⟨j + 1, e', by simpa using h1, by omega, h3⟩
    · rintro ⟨j, e', h1, h2, h3⟩
      cases j with
      | zero =>
        left
        simp at h1
        subst h1
        rw [h2]
        exact List.mem_map.2 ⟨z, h3, rfl⟩
      | succ j =>
        right
        exact ⟨j, e', by simpa using h1, by omega, h3⟩
theorem keyAt_of {l : List E} {j : Nat} {e : E} (h : l[j]? = some e) : keyAt l j = e.key := by unfold keyAt; rw [h]; rfl
theorem keys_go : ∀ (l : List E) (a : List ByteArray) (k : ByteArray), k ∈ l.foldl keyStep a ↔ k ∈ a ∨ ∃ e ∈ l, e.key = k
  | [], a, k => by simp
  | e :: r, a, k => by
    rw [List.foldl_cons, keys_go r _ k]
    unfold keyStep
    by_cases h : e.key ∈ a
    · rw [if_pos (has_iff.2 h)]
      constructor
      · rintro (h' | ⟨x, hx, e'⟩)
        · exact .inl h'
        · exact .inr ⟨x, List.mem_cons_of_mem _ hx, e'⟩
      · rintro (h' | ⟨x, hx, e'⟩)
        · exact .inl h'
        · rcases List.mem_cons.1 hx with rfl | hx
          · exact .inl (e' ▸ h)
          · exact .inr ⟨x, hx, e'⟩
    · rw [if_neg (fun q => h (has_iff.1 q))]
      constructor
      · rintro (h' | ⟨x, hx, e'⟩)
        · rcases List.mem_append.1 h' with h' | h'
          · exact .inl h'
          · exact .inr ⟨e, List.mem_cons_self, (List.mem_singleton.1 h').symm⟩
        · exact .inr ⟨x, List.mem_cons_of_mem _ hx, e'⟩
      · rintro (h' | ⟨x, hx, e'⟩)
        · exact .inl (List.mem_append_left _ h')
        · rcases List.mem_cons.1 hx with rfl | hx
          · exact .inl (List.mem_append_right _ (by rw [e']; exact List.mem_singleton.2 rfl))
          · exact .inr ⟨x, hx, e'⟩
theorem keys_mem {l : List E} {k : ByteArray} : k ∈ keys l ↔ ∃ e ∈ l, e.key = k := by
  unfold keys
  rw [keys_go]
  simp
/-- What a right chart says. -/
theorem chk_parts {l : List E} (h : chk l = 0) : (∀ e ∈ l, right e = true) ∧ dup l = false ∧ (∀ e ∈ l, cnt l e.key = 1) ∧ ∀ p ∈ flat l 0, clash l (flat l 0) p = false := by
  unfold chk at h
  split at h
  · omega
  · rename_i h1
    split at h
    · omega
    · rename_i h2
      split at h
      · omega
      · rename_i h3
        split at h
        · omega
        · rename_i h4
          refine ⟨fun e he => ?_, by simpa using h2, fun e he => ?_, fun p hp => ?_⟩
          · cases hr : right e with
            | true => rfl
            | false => exact absurd (List.any_eq_true.2 ⟨e, he, by rw [hr]; rfl⟩) h1
          · have h5 : alone l = true := by simpa using h3
            unfold alone at h5
            rw [Bool.not_eq_true', List.any_eq_false] at h5
            simpa using h5 e he
          · cases hc : clash l (flat l 0) p with
            | false => rfl
            | true => exact absurd (List.any_eq_true.2 ⟨p, hp, hc⟩) h4
theorem zones_ne {e : E} (h : right e = true) : 1 ≤ e.zones.length := by
  unfold right at h
  simp only [Bool.and_eq_true, decide_eq_true_eq] at h
  exact h.1.2.1
/-- A zone's name has one key. -/
theorem key_of_zone {l : List E} {s : Src.S} (h : chk l = 0) (hs : Src.srcB s = true) {e : E} {z : ByteArray} (he : e ∈ l) (hz : z ∈ e.zones) : keyA l s z = (e.key, 0) := by
  obtain ⟨j, hj⟩ := List.mem_iff_getElem?.1 he
  have hm : (j, z) ∈ flat l 0 := (flat_mem l 0 j z).2 ⟨j, e, hj, by omega, hz⟩
  have hc := (chk_parts h).2.2.2 _ hm
  unfold keyA
  rw [if_pos h, if_pos hs]
  cases hf : (flat l 0).find? fun p => decide (p.2 = z) with
  | none =>
    have := List.find?_eq_none.1 hf _ hm
    simp at this
  | some p =>
    unfold clash owner at hc
    simp only [hf, Option.map_some, decide_eq_false_iff_not, Decidable.not_not] at hc
    simp only
    rw [hc, keyAt_of hj]
theorem nodup_kb {l : List E} (h : dup l = false) {e e' : E} (he : e ∈ l) (he' : e' ∈ l) (h1 : e.key = e'.key) (h2 : e.terr = e'.terr) : e = e' := by
  have hn : (l.map kb).Nodup := by
    unfold dup at h
    simpa using h
  obtain ⟨i, hi⟩ := List.mem_iff_getElem?.1 he
  obtain ⟨j, hj⟩ := List.mem_iff_getElem?.1 he'
  have hk : kb e = kb e' := by unfold kb; rw [h1, h2]
  have hij : i = j := by
    have g1 : (l.map kb)[i]? = some (kb e) := by rw [List.getElem?_map, hi]; rfl
    have g2 : (l.map kb)[j]? = some (kb e) := by rw [List.getElem?_map, hj, hk]; rfl
    have := (List.getElem?_inj (List.getElem?_eq_some_iff.1 g1).1 hn).1 (g1.trans g2.symm)
    exact this
  subst hij
  exact Option.some.inj (hi.symm.trans hj)
/-- The one entry of a key in the territory of all. -/
theorem one_world {l : List E} (h : chk l = 0) {k : ByteArray} (hk : k ∈ keys l) : ∃ e ∈ l, ∃ d, fnd l k world = some e ∧ e.key = k ∧ e.terr = world ∧ e.zones = [d] := by
  obtain ⟨hr, hd, ha, _⟩ := chk_parts h
  obtain ⟨e0, he0, hk0⟩ := keys_mem.1 hk
  have hc := ha e0 he0
  rw [hk0] at hc
  unfold cnt zn at hc
  cases hg : (l.filter fun e => decide (e.terr = world ∧ e.key = k)).getLast? with
  | none => rw [hg] at hc; simp at hc
  | some e1 =>
    rw [hg] at hc
    simp only [Option.map_some, Option.getD_some] at hc
    have hm := List.mem_of_getLast? hg
    rw [List.mem_filter] at hm
    simp only [decide_eq_true_eq] at hm
    obtain ⟨hm1, ht, hk1⟩ := hm
    obtain ⟨d, hd1⟩ : ∃ d, e1.zones = [d] := List.length_eq_one_iff.1 hc
    cases hf : fnd l k world with
    | none =>
      have := List.find?_eq_none.1 hf e1 hm1
      simp [hk1, ht] at this
    | some e2 =>
      have h2 := List.find?_some hf
      simp only [decide_eq_true_eq] at h2
      have hm2 := List.mem_of_find?_eq_some hf
      have he : e2 = e1 := nodup_kb hd hm2 hm1 (h2.1.trans hk1.symm) (h2.2.trans ht.symm)
      subst he
      exact ⟨e2, hm2, d, rfl, hk1, ht, hd1⟩
theorem def_of {l : List E} (h : chk l = 0) {k : ByteArray} (hk : k ∈ keys l) : ∃ e ∈ l, ∃ d, d ∈ e.zones ∧ e.key = k ∧ defA l k = (d, 0) := by
  obtain ⟨e, he, d, hf, h1, _, h3⟩ := one_world h hk
  refine ⟨e, he, d, by rw [h3]; exact List.mem_singleton.2 rfl, h1, ?_⟩
  unfold defA
  rw [if_pos h, hf]
  simp [h3]
theorem zones_of {l : List E} (h : chk l = 0) {k : ByteArray} (hk : k ∈ keys l) (t : ByteArray) : ∃ e ∈ l, e.key = k ∧ 1 ≤ e.zones.length ∧ zonesA l k t = (e.zones, 0) := by
  have hr := (chk_parts h).1
  unfold zonesA
  rw [if_pos h]
  cases hf : fnd l k t with
  | some e =>
    have h2 := List.find?_some hf
    simp only [decide_eq_true_eq] at h2
    have hm := List.mem_of_find?_eq_some hf
    exact ⟨e, hm, h2.1, zones_ne (hr e hm), rfl⟩
  | none =>
    obtain ⟨e, he, d, hw, h1, _, _⟩ := one_world h hk
    rw [hw]
    exact ⟨e, he, h1, zones_ne (hr e he), rfl⟩
theorem miss_mem (s : Src.S) : ∀ (r seen a : List ByteArray), (∀ z, z ∈ a ↔ z ∈ seen ∧ lead s z < 0) → ∀ z, z ∈ miss s r seen a ↔ (z ∈ seen ∨ z ∈ r) ∧ lead s z < 0
  | [], seen, a, h, z => by unfold miss; rw [h]; simp
  | x :: r, seen, a, h, z => by
    unfold miss
    rw [miss_mem s r (seen ++ [x]) (missStep s a seen x) ?_ z]
    · simp only [List.mem_append, List.mem_cons, List.not_mem_nil, or_false, or_assoc]
    · intro y
      unfold missStep
      split
      · rename_i hx
        replace hx := has_iff.1 hx
        rw [h]
        constructor
        · rintro ⟨h1, h2⟩
          exact ⟨List.mem_append_left _ h1, h2⟩
        · rintro ⟨h1, h2⟩
          rcases List.mem_append.1 h1 with h1 | h1
          · exact ⟨h1, h2⟩
          · rw [List.mem_singleton.1 h1]
            exact ⟨hx, by rw [List.mem_singleton.1 h1] at h2; exact h2⟩
      · split
        · rename_i hl
          rw [List.mem_append, List.mem_append, h, List.mem_singleton]
          constructor
          · rintro (⟨h1, h2⟩ | rfl)
            · exact ⟨.inl h1, h2⟩
            · exact ⟨.inr rfl, hl⟩
          · rintro ⟨h1 | rfl, h2⟩
            · exact .inl ⟨h1, h2⟩
            · exact .inr rfl
        · rename_i hl
          rw [List.mem_append, h, List.mem_singleton]
          constructor
          · rintro ⟨h1, h2⟩
            exact ⟨.inl h1, h2⟩
          · rintro ⟨h1 | rfl, h2⟩
            · exact ⟨h1, h2⟩
            · exact absurd h2 hl
theorem find_pos (zn ln tg : List ByteArray) : ∀ (f : Nat) (K : Lk.Kn) (x : ByteArray), (∀ y e, K y = some e → 0 ≤ e.1) → 0 ≤ (Lk.find zn ln tg f K x).2.1
  | 0, K, x, _ => by unfold Lk.find; exact Int.le_refl _
  | f + 1, K, x, h => by
    unfold Lk.find
    split
    · rename_i e he
      exact h x e he
    · split
      · simp
      · split
        · unfold Lk.gone; simp
        · refine find_pos zn ln tg f _ _ fun y e he => ?_
          unfold Lk.mark at he
          split at he
          · cases he
            unfold Lk.loop
            simp
          · exact h y e he
theorem walk_pos (s : Src.S) (x : ByteArray) : 0 ≤ (Lk.walk s x).2.1 := find_pos _ _ _ _ _ _ fun y e h => by cases h
theorem lead_neg (s : Src.S) (z : ByteArray) : lead s z < 0 ↔ (Lk.walk s z).2.2 ≠ 0 := by
  unfold lead
  split
  · rename_i h
    constructor
    · intro h'
      have := walk_pos s z
      omega
    · intro h'
      exact absurd h h'
  · rename_i h
    exact ⟨fun _ => h, fun _ => by omega⟩
/-- The names that are missing are those of the chart that lead nowhere. -/
theorem missing_mem {l : List E} {s : Src.S} {e : E} {z : ByteArray} (he : e ∈ l) (hz : z ∈ e.zones) : z ∈ missing l s ↔ (Lk.walk s z).2.2 ≠ 0 := by
  unfold missing
  rw [miss_mem s _ [] [] (by simp) z, lead_neg]
  obtain ⟨j, hj⟩ := List.mem_iff_getElem?.1 he
  have hm : (j, z) ∈ flat l 0 := (flat_mem l 0 j z).2 ⟨j, e, hj, by omega, hz⟩
  constructor
  · exact fun h => h.2
  · exact fun h => ⟨.inr (List.mem_map.2 ⟨_, hm, rfl⟩), h⟩
/-- All zones of a key. -/
def zall (l : List E) (k : ByteArray) : List ByteArray := l.flatMap fun e => if e.key = k then e.zones else []
/-- A name that has a key is one of its zones, or leads where one of them does. -/
theorem key_why {l : List E} {s : Src.S} {name k : ByteArray} (h : keyA l s name = (k, 0)) : ∃ n ∈ zall l k, n = name ∨ ((Lk.walk s name).2.2 = 0 ∧ (Lk.walk s n).2.2 = 0 ∧ (Lk.walk s n).2.1 = (Lk.walk s name).2.1) := by
  have hin : ∀ p ∈ flat l 0, keyAt l p.1 = k → p.2 ∈ zall l k := by
    rintro ⟨i, z⟩ hp hk
    obtain ⟨j, e, hj, e1, hz⟩ := (flat_mem l 0 i z).1 hp
    rw [Nat.zero_add] at e1
    subst e1
    simp only at hk ⊢
    rw [keyAt_of hj] at hk
    exact List.mem_flatMap.2 ⟨e, List.mem_of_getElem? hj, by rw [if_pos hk]; exact hz⟩
  unfold keyA at h
  split at h
  · split at h
    · split at h
      · rename_i p hf
        injection h with h1 _
        have hm := List.mem_of_find?_eq_some hf
        have h2 := List.find?_some hf
        simp only [decide_eq_true_eq] at h2
        exact ⟨p.2, hin p hm h1, .inl h2⟩
      · split at h
        · rename_i h0
          split at h
          · rename_i p hf
            injection h with h1 _
            have hm := List.mem_of_find?_eq_some hf
            have h2 := List.find?_some hf
            simp only [decide_eq_true_eq] at h2
            refine ⟨p.2, hin p hm h1, .inr ⟨h0, ?_⟩⟩
            unfold lead at h2
            split at h2
            · rename_i h3
              exact ⟨h3, by omega⟩
            · have := walk_pos s name
              omega
          · injection h with _ h1
            omega
        · rename_i h0
          injection h with _ h1
          exact absurd h1 h0
    · injection h with _ h1
      omega
  · rename_i h0
    injection h with _ h1
    exact absurd h1 h0
theorem key_bad {l : List E} {s : Src.S} {name : ByteArray} (h : (keyA l s name).2 ≠ 0) : (keyA l s name).1 = ⟨#[]⟩ := by
  unfold keyA at h ⊢
  split
  · rename_i h0
    rw [if_pos h0] at h
    split
    · rename_i h1
      rw [if_pos h1] at h
      split
      · rename_i p hf
        rw [hf] at h
        exact absurd rfl h
      · rename_i hf
        rw [hf] at h
        simp only at h
        split
        · rename_i h2
          rw [if_pos h2] at h
          split
          · rename_i p hg
            rw [hg] at h
            exact absurd rfl h
          · rfl
        · rfl
    · rfl
  · rfl
end Ca
end Go.Proofs.YthmhadgbhakdlaaDoor

/- Maps of the call's own whose keys are structs: told by their bytes. -/
namespace Go.Proofs.YthmhadgbhakdlaaDoor
open Go.RowKit
open Go.Maps Go.WideShapes Go.ChangeShapes Go.WideMaps

section
variable {P : Program} (w : World) {ops : Array Oper} {rest : List Oper} {o : Oper} {a : Act} {Q : Exit → Act → World → Prop}
/-- 'v, ok := m[k]' -/
theorem wpList_look_okK (hg : o.guard = none) (m x : Operand) (t k e : TypeId) (hop : o.op = Op.lookup t m x true) (K : Keyed P k) (ht : P.underlying t = some (.map k e)) {z : Value} (hz : ∀ W, (zeroValue e).run P W = .ok z W)
    (b n : Nat) (f : Mp.Fn) (kv : Value) (s : ByteArray) (hkey : keyOf P k kv = some (Mp.kl s)) (hm : a.eval m = .map (some b)) (hx : a.eval x = kv) (h : MapF P k w b n f)
    (hK : wpList P ops Q rest (a.put o.dst (.tuple #[(f s).getD z, .bool (f s).isSome])) w) : wpList P ops Q (o :: rest) a w := by
  obtain ⟨D, hD, hf⟩ := h
  refine wpList_lookup_own_ok w hg m x t hop k e K ht Mp.rv (hz w) (.held z) [] rfl b n D hm hD kv (Mp.kl s) hx hkey ?_
  intro v ps hv
  rw [(hf s).2 z] at hv
  have e1 : v = (f s).getD z := by
    unfold Mp.rv at hv
    injection hv with hv
    injection hv with hv _
    injection hv
  rw [e1, (hf s).1]
  exact hK
/-- 'm[k] = v' -/
theorem wpList_storeK (hg : o.guard = none) (m x v : Operand) (t k e : TypeId) (hop : o.op = Op.mapUpdate t m x v) (K : Keyed P k) (ht : P.underlying t = some (.map k e))
    (b n : Nat) (f : Mp.Fn) (kv : Value) (s : ByteArray) (hkey : keyOf P k kv = some (Mp.kl s)) (hn : n < maxLen) (val : Value) (hm : a.eval m = .map (some b)) (hx : a.eval x = kv) (hv : a.eval v = val) (h : MapF P k w b n f)
    (hK : ∀ w', MapF P k w' b (n + 1) (Mp.put f s val) → w.grownBy w' (some b) → wpList P ops Q rest (a.put o.dst undef) w') : wpList P ops Q (o :: rest) a w := by
  obtain ⟨D, hD, hf⟩ := h
  refine wpList_mapUpdate_own w hg m x v t hop k e K ht Mp.rv b n D hm hD hn kv val (Mp.kl s) hx hv hkey (.held val) [] rfl ?_
  intro w' hD' hg'
  exact hK w' (MapF.put_ hD hf hD') hg'
end
theorem two_of {α : Type} : ∀ {l : List α}, l.length = 2 → ∃ a b, l = [a, b]
  | [a, b], _ => ⟨a, b, rfl⟩
/-- A key of two texts. -/
theorem keyOf_two {P : Program} {k s : TypeId} {fs : Array Field} (hu : P.underlying k = some (.struct fs)) (hs : P.underlying s = some .string) (hc : P.cellsOf k = 2) (hcs : P.cellsOf s = 1) (hkt : P.keyType k = true)
    (hf : fs.toList.map (fun f => (f.type, f.offset)) = [(s, 0), (s, 1)]) (hn : fs.all (·.name != "_") = true) (hsz : 1 ≤ P.types.size) (a b : ByteArray) (ha : a.size ≤ maxLen) (hb : b.size ≤ maxLen) :
    keyOf P k (.agg #[.string a, .string b]) = some (Mp.kl ⟨(keyBytes [.string a.data.toList, .string b.data.toList]).toArray⟩) := by
  obtain ⟨d, hd⟩ : ∃ d, P.types.size = d + 1 := ⟨P.types.size - 1, by omega⟩
  have hform : (Value.agg #[.string a, .string b]).formed P k = true := by simp [Value.formed, hu, hc]
  have hlits : P.keyLits (P.types.size + 1) k (Value.agg #[.string a, .string b]).cells.toList = some [.string a.data.toList, .string b.data.toList] := by
    unfold Program.keyLits
    simp only [hu]
    have e1 : ((Value.agg #[.string a, .string b]).cells.toList) = [.string a, .string b] := rfl
    rw [e1, if_pos ⟨by rw [hc]; rfl, hn⟩]
    have e2 : ∀ l : List Field, l.map (fun f => (f.type, f.offset)) = [(s, 0), (s, 1)] → (l.mapM fun f => P.keyLits P.types.size f.type (([Value.string a, Value.string b].drop f.offset).take (P.cellsOf f.type))) = some [[.string a.data.toList], [.string b.data.toList]] := by
      intro l hl
      obtain ⟨f0, f1, rfl⟩ : ∃ f0 f1, l = [f0, f1] := two_of (by have := congrArg List.length hl; simpa using this)
      · simp only [List.map_cons, List.map_nil, List.cons.injEq, Prod.mk.injEq, and_true] at hl
        obtain ⟨⟨h1, h2⟩, h3, h4⟩ := hl
        simp [h1, h2, h3, h4, hcs, hd, Program.keyLits, hs, ha, hb]
    rw [e2 _ hf]
    rfl
  unfold keyOf
  simp only [hu]
  rw [hkt, hform, hlits]
  rfl
end Go.Proofs.YthmhadgbhakdlaaDoor

/- A chart as the program holds it. -/
namespace Go.Proofs.YthmhadgbhakdlaaDoor
open Go.RowKit

namespace Ca
/-- A chart's entries: three cells each, and one slice for each entry's zones. -/
structure EntR (w : World) (B : Nat) (l : List E) (v : Value) (evs : List Value) : Prop where
  row : Src.RowR w B 3 l.length v ((l.zip evs).flatMap ec)
  len : evs.length = l.length
  zns : ∀ p ∈ l.zip evs, Src.RowR w B 1 p.1.zones.length p.2 (p.1.zones.map Value.string)
section
variable {w w' : World} {B B' : Nat} {l : List E} {v : Value} {evs : List Value}
theorem EntR.below (h : EntR w B l v evs) (hb : Below B w w') : EntR w' B l v evs := ⟨h.row.below hb, h.len, fun p hp => (h.zns p hp).below hb⟩
theorem EntR.more (h : EntR w B l v evs) (hb : B ≤ B') : EntR w B' l v evs := ⟨h.row.more hb, h.len, fun p hp => (h.zns p hp).more hb⟩
theorem EntR.call (h : EntR w w.heap.size l v evs) (hb : Below w.heap.size w w') : EntR w' w'.heap.size l v evs := (h.below hb).more hb.size
/-- An entry, out of all. -/
theorem EntR.at_ {n k c : Nat} {A : Option Addr} (h : EntR w B l (.slice A n c) evs) (hl : l.length = n) (hk : k < n) :
    ∃ ad e zA m zc, A = some ad ∧ ad.block < B ∧ Hid (l[k]? = some e) ∧ w.cell? (ad.add (k * 3)) = some (.string e.key) ∧ w.cell? ⟨(ad.add (k * 3)).block, (ad.add (k * 3)).off + 1, none⟩ = some (.string e.terr) ∧
      w.cell? ⟨(ad.add (k * 3)).block, (ad.add (k * 3)).off + 2, none⟩ = some (.slice zA m zc) ∧ Hid (e.zones.length = m) ∧ m ≤ zc ∧ zc ≤ maxLen ∧ Hid (Reads w B 1 zA m (e.zones.map Value.string)) ∧ Hid (evs[k]? = some (.slice zA m zc)) := by
  obtain ⟨A', c', e9, _, _, hr⟩ := h.row
  rw [hl] at e9 hr
  injection e9 with e91 e92 e93
  rw [← e91] at hr
  have hlz : (l.zip evs).length = n := by rw [List.length_zip, h.len, hl]; omega
  obtain ⟨ad, p, e1, hab, hx, hL⟩ := Ix.reads_cells (enc := ec) (m := 3) (fun _ => rfl) hlz hr hk
  have hx := hx.out
  have hL := hL.out
  obtain ⟨zA, zc, e2, h1, h2, h3⟩ := h.zns p (List.mem_of_getElem? hx)
  have hz := List.getElem?_zip_eq_some.1 hx
  have c2 := hL 2 _ rfl
  rw [e2] at c2
  exact ⟨ad, p.1, zA, p.1.zones.length, zc, e1, hab, hz.1, hL 0 _ rfl, hL 1 _ rfl, c2, rfl, h1, h2, h3, by show _ = _; rw [hz.2, e2]⟩
end
/-- How wide a chart may be. -/
structure Wd (l : List E) : Prop where
  n : l.length ≤ 4096
  all : ∀ e ∈ l, e.key.size ≤ maxLen ∧ e.terr.size ≤ maxLen ∧ ∀ z ∈ e.zones, z.size ≤ maxLen
end Ca
end Go.Proofs.YthmhadgbhakdlaaDoor

/- The maps of chart and atlas: sets of texts, sets of keys, numbers. -/
namespace Go.Proofs.YthmhadgbhakdlaaDoor
open Go.RowKit
open Go.Maps Go.WideShapes Go.ChangeShapes Go.WideMaps

namespace Ca
/-- A set of texts, as a map's contents. -/
def sf (l : List ByteArray) : Mp.Fn := fun s => if has l s = true then some (.agg #[]) else none
theorem sf_nil : sf [] = fun _ => none := rfl
theorem sf_put (l : List ByteArray) (s : ByteArray) : Mp.put (sf l) s (.agg #[]) = sf (l ++ [s]) := by
  funext t
  unfold Mp.put sf
  by_cases h : t = s
  · subst h
    rw [if_pos rfl, if_pos (has_iff.2 (List.mem_append_right _ (List.mem_singleton.2 rfl)))]
  · rw [if_neg h]
    by_cases h2 : t ∈ l
    · rw [if_pos (has_iff.2 h2), if_pos (has_iff.2 (List.mem_append_left _ h2))]
    · rw [if_neg (fun q => h2 (has_iff.1 q)), if_neg (fun q => by
        rcases List.mem_append.1 (has_iff.1 q) with q | q
        · exact h2 q
        · exact h (List.mem_singleton.1 q))]
theorem sf_get (l : List ByteArray) (s : ByteArray) : (sf l s).getD (.agg #[]) = .agg #[] ∧ (sf l s).isSome = has l s := by
  unfold sf
  by_cases h : has l s = true
  · rw [if_pos h, h]; exact ⟨rfl, rfl⟩
  · rw [if_neg h]
    cases hq : has l s with
    | true => exact absurd hq h
    | false => exact ⟨rfl, rfl⟩
end Ca
theorem zero_unit (W : World) : (zeroValue 87).run Tryd.prog W = .ok (.agg #[]) W := by kernel_rfl
theorem row_cells : Tryd.prog.cellsOf 86 = 2 := by kernel_rfl
theorem row_laid : laidOutB Tryd.prog = true := by kernel_rfl
theorem row_keyed : Keyed Tryd.prog 86 :=
  Keyed.of_law (deep_law_laid row_laid (m := 3) (by omega) (of_decide_eq_true (by kernel_rfl)) (by kernel_rfl) (by rw [Tryd.underlying86]))
theorem row_key (a b : ByteArray) (ha : a.size ≤ maxLen) (hb : b.size ≤ maxLen) : keyOf Tryd.prog 86 (.agg #[.string a, .string b]) = some (Mp.kl ⟨(keyBytes [.string a.data.toList, .string b.data.toList]).toArray⟩) :=
  keyOf_two Tryd.underlying86 Tryd.underlying9 row_cells (by kernel_rfl) (by kernel_rfl) rfl (by kernel_rfl) (of_decide_eq_true (by kernel_rfl)) a b ha hb
theorem make_row (c : Int) (W : World) : (Instr.makeMap 84 (some (.int .i64 c))).run Tryd.prog W = .ok (.map (some W.heap.size)) (W.alloc (.map #[] 0)) := by
  simp [Instr.makeMap, run_underlying Tryd.underlying84]
  rfl
theorem make_int (c : Int) (W : World) : (Instr.makeMap 89 (some (.int .i64 c))).run Tryd.prog W = .ok (.map (some W.heap.size)) (W.alloc (.map #[] 0)) := by
  simp [Instr.makeMap, run_underlying Tryd.underlying89]
  rfl
section
variable (w : World) {ops : Array Oper} {rest : List Oper} {o : Oper} {a : Act} {Q : Exit → Act → World → Prop}
theorem look_row (hg : o.guard = none) (m x : Operand) (b n : Nat) (l : List ByteArray) (e : Ca.E) (h1 : e.key.size ≤ maxLen) (h2 : e.terr.size ≤ maxLen) (hop : o.op = Op.lookup 84 m x true)
    (hm : a.eval m = .map (some b)) (hx : a.eval x = .agg #[.string e.key, .string e.terr]) (h : MapF Tryd.prog 86 w b n (Ca.sf l)) (q : Bool) (hq : Ca.has l (Ca.kb e) = q)
    (hK : wpList Tryd.prog ops Q rest (a.put o.dst (.tuple #[.agg #[], .bool q])) w) : wpList Tryd.prog ops Q (o :: rest) a w := by
  refine wpList_look_okK w hg m x 84 86 87 hop row_keyed Tryd.underlying84 zero_unit b n _ _ (Ca.kb e) (row_key _ _ h1 h2) hm hx h ?_
  rw [(Ca.sf_get _ _).1, (Ca.sf_get _ _).2, hq]
  exact hK
theorem store_row (hg : o.guard = none) (m x v : Operand) (b n : Nat) (l : List ByteArray) (e : Ca.E) (h1 : e.key.size ≤ maxLen) (h2 : e.terr.size ≤ maxLen) (hn : n < maxLen) (hop : o.op = Op.mapUpdate 84 m x v)
    (hm : a.eval m = .map (some b)) (hx : a.eval x = .agg #[.string e.key, .string e.terr]) (hv : a.eval v = .agg #[]) (h : MapF Tryd.prog 86 w b n (Ca.sf l))
    (hK : ∀ w', MapF Tryd.prog 86 w' b (n + 1) (Ca.sf (l ++ [Ca.kb e])) → w.grownBy w' (some b) → wpList Tryd.prog ops Q rest (a.put o.dst undef) w') : wpList Tryd.prog ops Q (o :: rest) a w := by
  refine wpList_storeK w hg m x v 84 86 87 hop row_keyed Tryd.underlying84 b n _ _ (Ca.kb e) (row_key _ _ h1 h2) hn _ hm hx hv h ?_
  intro w' hM hg'
  rw [Ca.sf_put] at hM
  exact hK w' hM hg'
theorem look_num (hg : o.guard = none) (m x : Operand) (b n : Nat) (f : Mp.Fn) (s : ByteArray) (hs : s.size ≤ maxLen) (hop : o.op = Op.lookup 89 m x true)
    (hm : a.eval m = .map (some b)) (hx : a.eval x = .string s) (h : MapF Tryd.prog 9 w b n f) (u : Value) (hu : (f s).getD (.int .i64 0) = u) (q : Bool) (hq : (f s).isSome = q)
    (hK : wpList Tryd.prog ops Q rest (a.put o.dst (.tuple #[u, .bool q])) w) : wpList Tryd.prog ops Q (o :: rest) a w := by
  subst hu hq
  exact wpList_look_ok w hg m x 89 9 3 hop Tryd.underlying9 Tryd.underlying89 (fun W => by kernel_rfl) b n f s hs hm hx h hK
theorem look_num1 (hg : o.guard = none) (m x : Operand) (b n : Nat) (f : Mp.Fn) (s : ByteArray) (hs : s.size ≤ maxLen) (hop : o.op = Op.lookup 89 m x false)
    (hm : a.eval m = .map (some b)) (hx : a.eval x = .string s) (h : MapF Tryd.prog 9 w b n f) (u : Value) (hu : (f s).getD (.int .i64 0) = u)
    (hK : wpList Tryd.prog ops Q rest (a.put o.dst u) w) : wpList Tryd.prog ops Q (o :: rest) a w := by
  subst hu
  exact wpList_look w hg m x 89 9 3 hop Tryd.underlying9 Tryd.underlying89 (fun W => by kernel_rfl) b n f s hs hm hx h hK
theorem store_num (hg : o.guard = none) (m x v : Operand) (b n : Nat) (f : Mp.Fn) (s : ByteArray) (hs : s.size ≤ maxLen) (hn : n < maxLen) (e : Int) (hop : o.op = Op.mapUpdate 89 m x v)
    (hm : a.eval m = .map (some b)) (hx : a.eval x = .string s) (hv : a.eval v = .int .i64 e) (h : MapF Tryd.prog 9 w b n f)
    (hK : ∀ w', MapF Tryd.prog 9 w' b (n + 1) (Mp.put f s (.int .i64 e)) → w.grownBy w' (some b) → wpList Tryd.prog ops Q rest (a.put o.dst undef) w') : wpList Tryd.prog ops Q (o :: rest) a w :=
  wpList_store w hg m x v 89 9 3 hop Tryd.underlying9 Tryd.underlying89 b n f s hs hn _ hm hx hv h hK
end
end Go.Proofs.YthmhadgbhakdlaaDoor

/- slices.IndexFunc and slices.ContainsFunc at a chart's entries. -/
namespace Go.Proofs.YthmhadgbhakdlaaDoor
open Go.RowKit

set_option maxHeartbeats 2000000 in
set_option maxRecDepth 100000 in
theorem idx_entry (p : (Ca.E × Value) → Bool) (g : FuncId) (lb : Array Value) (eg : ∀ args w, (callFunc g args).run Tryd.prog w = .ok (.enter g args) w) (A : Option Addr) (n c : Nat) (xs : List (Ca.E × Value)) (w : World) (hn : n ≤ maxLen) (hl : xs.length = n)
    (hr : Reads w w.heap.size 3 A n (xs.flatMap Ca.ec)) (hz : ∀ x ∈ xs, ∃ A m c, x.2 = .slice A m c) (hp : Ix.Tells g lb Ca.ev p xs w) :
    Calls Tryd.prog 40 #[.slice A n c, .func (.func g) #[] lb] w fun e w' => e = .returned (.int .i64 (Ix.at_ p xs 0)) ∧ Below w.heap.size w w' := by
  unfold maxLen at hn
  obtain ⟨X, hX⟩ : ∃ X, Ix.at_ p xs 0 = X := ⟨_, rfl⟩
  rw [hX]
  have HX := Lib.hid hX
  have HR := Lib.hid hr
  have HP := Lib.hid hp
  have HL := Lib.hid hl
  have HZ := Lib.hid hz
  clear hX hr hp hl hz
  go_enter Tryd.func40, Tryd.ntmps40
  go_wp2
  go_loopw [5, 8] (fun _ i wr => ∃ k : Nat, k ≤ n ∧ i = .int .i64 k ∧ Hid (X = Ix.at_ p (xs.drop k) k) ∧ Hid (Below w.heap.size w wr)) (fun _ i _ => n - (intOf i).toNat)
  case atStart => exact ⟨0, Nat.zero_le _, rfl, HX.out.symm, Below.refl _ _⟩
  case round =>
    obtain ⟨k, hk, rfl, HK, HB⟩ := hrel
    by_cases hlt : k < n
    · have q2 : (k : Int) < (n : Int) := by omega
      have q1 : (0 : Int) ≤ (k : Int) := by omega
      obtain ⟨ad, x, rfl, hab, Hx, HL0⟩ := Ix.reads_cells (enc := Ca.ec) (m := 3) (fun _ => rfl) HL.out (HR.out.below HB.out) hlt
      obtain ⟨zA, m, zc, hx2⟩ := HZ.out x (List.mem_of_getElem? Hx.out)
      have hc0 : wr.cell? (ad.add (k * 3)) = some (.string x.1.key) := HL0.out 0 _ rfl
      have hc1 : wr.cell? ⟨(ad.add (k * 3)).block, (ad.add (k * 3)).off + 1, none⟩ = some (.string x.1.terr) := HL0.out 1 _ rfl
      have hc2 : wr.cell? ⟨(ad.add (k * 3)).block, (ad.add (k * 3)).off + 2, none⟩ = some (.slice zA m zc) := by
        have h := HL0.out 2 _ rfl
        rw [hx2] at h
        exact h
      have HC := HP.out wr x (List.mem_of_getElem? Hx.out) HB.out
      unfold Ca.ev at HC
      rw [hx2] at HC
      have HN := Ix.at_next HK.out Hx.out
      cases hq : p x with
      | true =>
        rw [hq] at HC HN
        replace HN := Lib.hid (HN.trans (if_pos rfl))
        replace HC := Lib.hid HC
        clear hq
        go_wp2_with (go_at_fn g; refine HC.out.mono ?_; rintro e w' ⟨rfl, hb⟩)
        go_ret
        exact ⟨ret_int HN.out.symm, hb⟩
      | false =>
        rw [hq] at HC HN
        replace HN := Lib.hid (HN.trans (if_neg (by decide)))
        replace HC := Lib.hid HC
        clear hq
        go_wp2_with (go_at_fn g; refine HC.out.mono ?_; rintro e w' ⟨rfl, hb⟩)
        go_roundw
        case rel => exact ⟨k + 1, by omega, by go_num, HN.out, hb⟩
        case measure => simp [intOf]; omega
    · have q2 : ¬ (k : Int) < (n : Int) := by omega
      have HE := Lib.hid (Ix.at_end HK.out (by rw [HL.out]; omega))
      go_wp2
      go_ret
      exact ⟨ret_int HE.out.symm, HB.out⟩
set_option maxHeartbeats 400000 in
theorem has_entry (p : (Ca.E × Value) → Bool) (g : FuncId) (lb : Array Value) (eg : ∀ args w, (callFunc g args).run Tryd.prog w = .ok (.enter g args) w) (A : Option Addr) (n c : Nat) (xs : List (Ca.E × Value)) (w : World) (hn : n ≤ maxLen) (hl : xs.length = n)
    (hr : Reads w w.heap.size 3 A n (xs.flatMap Ca.ec)) (hz : ∀ x ∈ xs, ∃ A m c, x.2 = .slice A m c) (hp : Ix.Tells g lb Ca.ev p xs w) :
    Calls Tryd.prog 23 #[.slice A n c, .func (.func g) #[] lb] w fun e w' => e = .returned (.bool (xs.any p)) ∧ Below w.heap.size w w' := by
  have h := idx_entry p g lb eg A n c xs w hn hl hr hz hp
  have hb := Ix.at_bd p xs 0
  rw [← Ix.at_any p xs 0 (by omega)]
  obtain ⟨X, hX⟩ : ∃ X, Ix.at_ p xs 0 = X := ⟨_, rfl⟩
  rw [hX] at h ⊢
  have H := Lib.hid h
  clear h hX hr hp hb hz
  go_enter Tryd.func23, Tryd.ntmps23
  go_wp2_with fail
  refine H.out.mono ?_
  rintro e w1 ⟨rfl, hb⟩
  have HB := Lib.hid hb
  clear hb
  go_wp2
  go_ret
  exact ⟨rfl, HB.out⟩
end Go.Proofs.YthmhadgbhakdlaaDoor
