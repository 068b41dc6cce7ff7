/- Plain law of the words: what Pick means. -/
import Derived.Test.YtlhoggalhjadgaaGreatDoorChecked
import Derived.Test.YtlhoggalhjadgaaGreatDoorK01
import Derived.WalkKit
import Derived.Outline
import Derived.Deep.QuietTactic
import Derived.BigQuiet
import Derived.Deep.DeepFit
import Derived.Lib.Hide
import Derived.IntWalk
import Derived.WalkSpells
import Derived.WalkLawsBesides

namespace Go.Proofs.YtlhoggalhjadgaaGreatDoor.Wd
def low (c : UInt8) : UInt8 := if 65 ≤ c ∧ c ≤ 90 then c + 32 else c
def lows (l : List UInt8) : List UInt8 := l.map low
def same (a b : List UInt8) : Bool := decide (lows a = lows b)
def begins (n s : List UInt8) : Bool := decide (s.length ≤ n.length) && same (n.take s.length) s
def pickLoop (s : List UInt8) : List (List UInt8) → Nat → Int → Nat → Int
  | [], _, b, c => if c = 1 then b else -1
  | n :: r, i, b, c => if begins n s = true then (if n.length = s.length then (i : Int) else pickLoop s r (i + 1) i (c + 1)) else pickLoop s r (i + 1) b c
def pick (s : List UInt8) (names : List (List UInt8)) : Int := if s = [] then -1 else pickLoop s names 0 (-1) 0

theorem pickLoop_append (s m : List UInt8) (h : begins m s = false) : ∀ (l : List (List UInt8)) (i : Nat) (b : Int) (c : Nat), pickLoop s (l ++ [m]) i b c = pickLoop s l i b c := by
  intro l
  induction l with
  | nil => intro i b c; simp [pickLoop, h]
  | cons n r ih => intro i b c; simp only [List.cons_append, pickLoop, ih]
theorem pick_append (s m : List UInt8) (l : List (List UInt8)) (h : begins m s = false) : pick s (l ++ [m]) = pick s l := by
  unfold pick; rw [pickLoop_append s m h]

/-- What the loop gives: what it brought with it, none, or the place of a name that begins so. -/
theorem pickLoop_form (s : List UInt8) : ∀ (l : List (List UInt8)) (i : Nat) (b : Int) (c : Nat),
    pickLoop s l i b c = -1 ∨ pickLoop s l i b c = b ∨ ∃ k n, pickLoop s l i b c = ((i + k : Nat) : Int) ∧ l[k]? = some n ∧ begins n s = true := by
  intro l
  induction l with
  | nil => intro i b c; simp only [pickLoop]; split <;> simp
  | cons n r ih =>
    intro i b c
    simp only [pickLoop]
    by_cases h : begins n s = true
    · rw [if_pos h]
      by_cases h2 : n.length = s.length
      · rw [if_pos h2]; exact .inr (.inr ⟨0, n, by simp, by simp, h⟩)
      · rw [if_neg h2]
        rcases ih (i + 1) i (c + 1) with h3 | h3 | ⟨k, m, h3, h4, h5⟩
        · exact .inl h3
        · exact .inr (.inr ⟨0, n, by simpa using h3, by simp, h⟩)
        · exact .inr (.inr ⟨k + 1, m, by rw [h3]; omega, by simpa using h4, h5⟩)
    · rw [if_neg h]
      rcases ih (i + 1) b c with h3 | h3 | ⟨k, m, h3, h4, h5⟩
      · exact .inl h3
      · exact .inr (.inl h3)
      · exact .inr (.inr ⟨k + 1, m, by rw [h3]; omega, by simpa using h4, h5⟩)
theorem pick_form (s : List UInt8) (l : List (List UInt8)) : pick s l = -1 ∨ ∃ (k : Nat) (n : List UInt8), pick s l = (k : Int) ∧ l[k]? = some n ∧ begins n s = true := by
  unfold pick
  split
  · exact .inl rfl
  · rcases pickLoop_form s l 0 (-1) 0 with h | h | ⟨k, n, h, h1, h2⟩
    · exact .inl h
    · exact .inl h
    · exact .inr ⟨k, n, by rw [h]; omega, h1, h2⟩

/-- None of these begins so. -/
theorem pickLoop_none (s : List UInt8) : ∀ (l : List (List UInt8)) (i : Nat) (b : Int) (c : Nat), (∀ n ∈ l, begins n s = false) → pickLoop s l i b c = if c = 1 then b else -1 := by
  intro l
  induction l with
  | nil => intro i b c _; rfl
  | cons n r ih => intro i b c h; simp only [pickLoop]; rw [if_neg (by simp [h n])]; exact ih _ _ _ fun m hm => h m (by simp [hm])

/-- One alone begins so. -/
theorem pickLoop_one (s : List UInt8) : ∀ (l : List (List UInt8)) (i : Nat) (b : Int) (k : Nat) (n : List UInt8), l[k]? = some n → begins n s = true → (∀ j m, l[j]? = some m → j ≠ k → begins m s = false) →
    pickLoop s l i b 0 = ((i + k : Nat) : Int) := by
  intro l
  induction l with
  | nil => intro i b k n h; simp at h
  | cons x r ih =>
    intro i b k n hk hb ho
    simp only [pickLoop]
    cases k with
    | zero =>
      obtain rfl : x = n := by simpa using hk
      rw [if_pos hb]
      split
      · simp
      · rw [pickLoop_none s r _ _ _ fun m hm => ?_]
        · simp
        · obtain ⟨j, hj⟩ := List.mem_iff_getElem?.1 hm
          exact ho (j + 1) m (by simpa using hj) (by omega)
    | succ k =>
      rw [if_neg (by simp [ho 0 x (by simp) (by omega)])]
      rw [ih (i + 1) b k n (by simpa using hk) hb fun j m hj hne => ho (j + 1) m (by simpa using hj) (by omega)]
      omega

/-- What is found and is longer is the only one. -/
theorem pickLoop_only (s : List UInt8) : ∀ (l : List (List UInt8)) (i : Nat) (b : Int) (c : Nat) (k : Nat) (n : List UInt8), b < i → pickLoop s l i b c = ((i + k : Nat) : Int) → l[k]? = some n → n.length ≠ s.length →
    c = 0 ∧ ∀ j m, l[j]? = some m → j ≠ k → begins m s = false := by
  intro l
  induction l with
  | nil => intro i b c k n _ _ h; simp at h
  | cons x r ih =>
    intro i b c k n hb hp hk hl
    simp only [pickLoop] at hp
    by_cases h : begins x s = true
    · rw [if_pos h] at hp
      by_cases h2 : x.length = s.length
      · rw [if_pos h2] at hp
        have : k = 0 := by omega
        subst this
        obtain rfl : x = n := by simpa using hk
        exact absurd h2 hl
      · rw [if_neg h2] at hp
        cases k with
        | succ k =>
          have := ih (i + 1) i (c + 1) k n (by omega) (by rw [hp]; omega) (by simpa using hk) hl
          omega
        | zero =>
          -- the place is this one: nothing behind begins so
          have key : ∀ (r : List (List UInt8)) (i' : Nat) (c' : Nat), (i : Int) < i' → 1 ≤ c' → pickLoop s r i' (i : Int) c' = (i : Int) → c' = 1 ∧ ∀ m ∈ r, begins m s = false := by
            intro r
            induction r with
            | nil => intro i' c' _ _ hh; simp only [pickLoop] at hh; split at hh
                     · exact ⟨by assumption, by simp⟩
                     · omega
            | cons y r ih2 =>
              intro i' c' hi hc hh
              simp only [pickLoop] at hh
              by_cases hy : begins y s = true
              · rw [if_pos hy] at hh
                exfalso
                split at hh
                · omega
                · rcases pickLoop_form s r (i' + 1) i' (c' + 1) with h3 | h3 | ⟨k, m, h3, _, _⟩ <;> omega
              · rw [if_neg hy] at hh
                obtain ⟨h5, h6⟩ := ih2 (i' + 1) c' (by omega) hc hh
                refine ⟨h5, fun m hm => ?_⟩
                rcases List.mem_cons.1 hm with rfl | hm
                · simpa using hy
                · exact h6 m hm
          obtain ⟨h5, h6⟩ := key r (i + 1) (c + 1) (by omega) (by omega) (by simpa using hp)
          refine ⟨by omega, fun j m hj hne => ?_⟩
          cases j with
          | zero => omega
          | succ j => exact h6 m (List.mem_iff_getElem?.2 ⟨j, by simpa using hj⟩)
    · rw [if_neg h] at hp
      cases k with
      | zero =>
        exfalso
        rcases pickLoop_form s r (i + 1) b c with h3 | h3 | ⟨k, m, h3, _, _⟩ <;> omega
      | succ k =>
        obtain ⟨h5, h6⟩ := ih (i + 1) b c k n (by omega) (by rw [hp]; omega) (by simpa using hk) hl
        refine ⟨h5, fun j m hj hne => ?_⟩
        cases j with
        | zero =>
          obtain rfl : x = m := by simpa using hj
          simpa using h
        | succ j => exact h6 j m (by simpa using hj) (by omega)

theorem pick_bd (s : List UInt8) (l : List (List UInt8)) (h : l.length ≤ 1000000) : -1 ≤ pick s l ∧ pick s l < 1000000 := by
  rcases pick_form s l with e | ⟨k, n, e, e1, _⟩
  · omega
  · have := (List.getElem?_eq_some_iff.1 e1).1
    omega

theorem lows_take (l : List UInt8) (k : Nat) : lows (l.take k) = (lows l).take k := by simp [lows, List.map_take]
theorem begins_iff (n s : List UInt8) : begins n s = true ↔ s.length ≤ n.length ∧ (lows n).take s.length = lows s := by
  simp [begins, same, lows_take]
/-- What begins with more begins with less. -/
theorem begins_less (n t s : List UInt8) (h : begins n t = true) (h2 : begins t s = true) : begins n s = true := by
  rw [begins_iff] at h h2 ⊢
  obtain ⟨a, b⟩ := h
  obtain ⟨c, d⟩ := h2
  refine ⟨by omega, ?_⟩
  rw [← d, ← b, List.take_take, Nat.min_eq_left c]
theorem begins_take (n s : List UInt8) (k : Nat) (hk : s.length ≤ k) (h : begins n s = true) : begins (n.take k) s = true := by
  rw [begins_iff] at h ⊢
  obtain ⟨a, b⟩ := h
  refine ⟨by rw [List.length_take]; omega, ?_⟩
  rw [lows_take, List.take_take, Nat.min_eq_left hk, b]
theorem begins_own (n : List UInt8) (k : Nat) (hk : k ≤ n.length) : begins n (n.take k) = true := by
  rw [begins_iff]
  have : (n.take k).length = k := by rw [List.length_take]; omega
  rw [this, lows_take]; exact ⟨hk, rfl⟩

/-- With a letter more the same is meant. -/
theorem pick_more (s n : List UInt8) (l : List (List UInt8)) (k : Nat) (h : pick s l = (k : Int)) (hk : l[k]? = some n) (hl : s.length < n.length) : pick (n.take (s.length + 1)) l = (k : Int) := by
  have hs : s ≠ [] := by intro e; subst e; simp [pick] at h
  have hp : pickLoop s l 0 (-1) 0 = ((0 + k : Nat) : Int) := by unfold pick at h; rw [if_neg hs] at h; rw [h]; omega
  obtain ⟨_, ho⟩ := pickLoop_only s l 0 (-1) 0 k n (by omega) hp hk (by omega)
  have hbs : begins n s = true := by
    rcases pick_form s l with e | ⟨k', n', e, e1, e2⟩
    · omega
    · have : k' = k := by omega
      subst this
      rw [hk] at e1
      obtain rfl : n = n' := by simpa using e1
      exact e2
  have hne : n.take (s.length + 1) ≠ [] := by intro e; have := congrArg List.length e; rw [List.length_take] at this; simp only [List.length_nil] at this; omega
  unfold pick
  rw [if_neg hne, pickLoop_one _ l 0 (-1) k n hk (begins_own n _ (by omega)) fun j m hj hne => ?_]
  · simp
  · cases hm : begins m (n.take (s.length + 1))
    · rfl
    · have := begins_less m _ s hm (begins_take n s _ (by omega) hbs)
      rw [ho j m hj hne] at this
      cases this
end Go.Proofs.YtlhoggalhjadgaaGreatDoor.Wd

/- The contracts of package word: small, Same, Pick, the tables of names. -/
namespace Go.Proofs.YtlhoggalhjadgaaGreatDoor
open Go.RowKit

def lowI (x : Int) : Int := if 65 ≤ x ∧ x ≤ 90 then x + 32 else x

theorem small_any (x : Int) (w : World) (h0 : 0 ≤ x) (h1 : x ≤ 255) :
    Calls Tryz.prog 105 #[.int .u8 x] w fun e w' => e = .returned (.int .u8 (lowI x)) ∧ w' = w := by
  go_enter Tryz.func105, Tryz.ntmps105
  go_wp2
  · go_ret
    exact ⟨ret_int (by unfold lowI; rw [if_pos ⟨‹_›, ‹_›⟩]; omega), rfl⟩
  · go_ret
    exact ⟨ret_int (by unfold lowI; rw [if_neg (by omega)]), rfl⟩
  · go_ret
    exact ⟨ret_int (by unfold lowI; rw [if_neg (by omega)]), rfl⟩

theorem lowI_low (c : UInt8) : lowI (c.toNat : Int) = ((Wd.low c).toNat : Int) := by
  unfold lowI Wd.low
  have e : (65 ≤ c ∧ c ≤ 90) ↔ (65 ≤ (c.toNat : Int) ∧ (c.toNat : Int) ≤ 90) := by
    simp [UInt8.le_iff_toNat_le]; omega
  by_cases h : 65 ≤ c ∧ c ≤ 90
  · rw [if_pos h, if_pos (e.1 h), UInt8.toNat_add]
    have := e.1 h
    simp; omega
  · rw [if_neg h, if_neg (fun h' => h (e.2 h'))]
theorem lowI_eq (c d : UInt8) : lowI (c.toNat : Int) = lowI (d.toNat : Int) ↔ Wd.low c = Wd.low d := by
  rw [lowI_low, lowI_low]
  constructor
  · intro h; exact UInt8.toNat_inj.1 (by omega)
  · intro h; rw [h]

theorem same_len (a b : ByteArray) (h : ¬ a.size = b.size) : Wd.same a.data.toList b.data.toList = false := by
  simp only [Wd.same, decide_eq_false_iff_not]
  intro e
  have := congrArg List.length e
  simp [Wd.lows] at this
  exact h this
theorem same_step (a b : ByteArray) (k : Nat) (hla : k < a.size) (hlb : k < b.size) (H : ∀ j (_ : j < k) (_ : k ≤ a.size) (_ : k ≤ b.size), Wd.low a[j] = Wd.low b[j]) (e : Wd.low a[k] = Wd.low b[k]) :
    ∀ j (_ : j < k + 1) (_ : k + 1 ≤ a.size) (_ : k + 1 ≤ b.size), Wd.low a[j] = Wd.low b[j] := by
  intro j hj ha hb
  by_cases h : j = k
  · subst h; exact e
  · exact H j (by omega) (by omega) (by omega)
theorem same_no (a b : ByteArray) (k : Nat) (hla : k < a.size) (hlb : k < b.size) (e : ¬ Wd.low a[k] = Wd.low b[k]) : Wd.same a.data.toList b.data.toList = false := by
  simp only [Wd.same, decide_eq_false_iff_not]
  intro h
  have h2 : (Wd.lows a.data.toList)[k]? = (Wd.lows b.data.toList)[k]? := by rw [h]
  simp only [Wd.lows, List.getElem?_map] at h2
  rw [List.getElem?_eq_getElem (by simpa using hla), List.getElem?_eq_getElem (by simpa using hlb)] at h2
  simp only [Option.map_some, Option.some.injEq, Array.getElem_toList] at h2
  exact e h2
theorem same_yes (a b : ByteArray) (hl : a.size = b.size) (H : ∀ j (_ : j < a.size) (_ : a.size ≤ a.size) (_ : a.size ≤ b.size), Wd.low a[j] = Wd.low b[j]) : Wd.same a.data.toList b.data.toList = true := by
  simp only [Wd.same, decide_eq_true_eq]
  refine List.ext_getElem (by simpa [Wd.lows] using hl) fun j h1 h2 => ?_
  simp only [Wd.lows, List.getElem_map]
  have hj : j < a.size := by simpa [Wd.lows] using h1
  simp only [Array.getElem_toList]
  exact H j hj (by omega) (by omega)

set_option maxHeartbeats 400000 in
theorem same_any (a b : ByteArray) (w : World) (ha : a.size ≤ maxLen) :
    Calls Tryz.prog 89 #[.string a, .string b] w fun e w' => e = .returned (.bool (Wd.same a.data.toList b.data.toList)) ∧ Drew w w' := by
  unfold maxLen at ha
  by_cases hl : a.size = b.size
  · have Hl := Lib.hid hl
    have t1 : ((a.size : Int) == (b.size : Int)) = true := by simp [hl]
    have t2 : ((a.size : Int) != (b.size : Int)) = false := by simp [hl]
    clear hl
    go_enter Tryz.func89, Tryz.ntmps89
    go_wp2
    go_loopw [13] (fun i wr => ∃ k : Nat, k ≤ a.size ∧ i = .int .i64 k ∧ Hid (∀ j (h : j < k) (ha : k ≤ a.size) (hb : k ≤ b.size), Wd.low a[j] = Wd.low b[j]) ∧ Hid (Drew w wr)) (fun i _ => a.size - (intOf i).toNat)
    case atStart => exact ⟨0, Nat.zero_le _, rfl, fun j hj => absurd hj (by omega), Drew.refl w⟩
    case round =>
      obtain ⟨k, hk, rfl, Hall, HD⟩ := hrel
      by_cases hlt : k < a.size
      · have hlb : k < b.size := by have := Hl.out; omega
        have q1 : (0 : Int) ≤ (k : Int) := by omega
        have q2 : (k : Int) < (a.size : Int) := by omega
        have q3 : (k : Int) < (b.size : Int) := by omega
        have b1 := u8_bd a[k]
        have b2 := u8_bd b[k]
        go_wp2_with fail
        go_quiet ((go_at_call 105; exact Calls.quiet_of_same (small_any _ _ (by omega) (by omega))))
        by_cases he : lowI (a[k].toNat : Int) = lowI (b[k].toNat : Int)
        · have t3 : (lowI (a[k].toNat : Int) != lowI (b[k].toNat : Int)) = false := by simp [he]
          have He := Lib.hid he
          clear he
          go_wp2
          go_roundw
          case rel => exact ⟨k + 1, by omega, by go_num, same_step a b k hlt hlb Hall.out ((lowI_eq _ _).1 He.out), HD.out.drewN _⟩
          case measure => simp [intOf]; omega
        · have t3 : (lowI (a[k].toNat : Int) != lowI (b[k].toNat : Int)) = true := by simp [he]
          have He := Lib.hid he
          clear he
          go_wp2
          go_ret
          exact ⟨ret_bool (same_no a b k hlt hlb fun e => He.out ((lowI_eq _ _).2 e)).symm, HD.out.drewN _⟩
      · obtain rfl : k = a.size := by omega
        go_wp2
        go_ret
        exact ⟨ret_bool (same_yes a b Hl.out Hall.out).symm, HD.out⟩
  · have t1 : ((a.size : Int) == (b.size : Int)) = false := by simp; omega
    have t2 : ((a.size : Int) != (b.size : Int)) = true := by simp; omega
    have Hl := Lib.hid hl
    clear hl
    go_enter Tryz.func89, Tryz.ntmps89
    go_wp2
    go_ret
    refine ⟨ret_bool ?_, Drew.refl w⟩
    exact (same_len a b Hl.out).symm


theorem reads_str {w : World} {B : Nat} {A : Option Addr} {n k : Nat} {ss : List ByteArray} (h : Reads w B 1 A n (ss.map Value.string)) (hk : k < n) :
    ∃ ad nm, A = some ad ∧ Hid (ss[k]? = some nm) ∧ w.cell? (ad.add k) = some (.string nm) := by
  obtain ⟨ad, u, e, _, hx, hc⟩ := h.at_ hk
  rw [List.getElem?_map] at hx
  match hs : ss[k]? with
  | none => rw [hs] at hx; simp at hx
  | some nm =>
    rw [hs] at hx
    obtain rfl : Value.string nm = u := by simpa using hx
    exact ⟨ad, nm, e, rfl, hc⟩
theorem pick_start (s : ByteArray) (ss : List ByteArray) (h : ¬ s.toList = []) : Wd.pick (tl s) (ss.map tl) = Wd.pickLoop (tl s) ((ss.map tl).drop 0) 0 (-1) 0 := by
  unfold Wd.pick
  rw [if_neg (show ¬ tl s = [] from fun e => h (by rw [ByteArray.toList_eq]; exact e)), List.drop_zero]
theorem drop_of {α : Type} {l : List α} {k : Nat} {a : α} (h : l[k]? = some a) : l.drop k = a :: l.drop (k + 1) := by
  obtain ⟨hk, e⟩ := List.getElem?_eq_some_iff.1 h
  rw [List.drop_eq_getElem_cons hk, e]
theorem pick_next1 (s : ByteArray) (ss : List ByteArray) (k : Nat) (bg : Int) (cnt : Nat) (nm : ByteArray) (h : Wd.pick (tl s) (ss.map tl) = Wd.pickLoop (tl s) ((ss.map tl).drop k) k bg cnt) (hn : ss[k]? = some nm) (hs : nm.size < s.size) :
    Wd.pick (tl s) (ss.map tl) = Wd.pickLoop (tl s) ((ss.map tl).drop (k + 1)) (k + 1) bg cnt := by
  rw [h, drop_of (a := tl nm) (by simp [hn]), Wd.pickLoop, if_neg]
  simp only [Wd.begins, tl_length, Bool.and_eq_true, decide_eq_true_eq]
  omega

theorem begins_of (s nm : ByteArray) (hs : ¬ nm.size < s.size) : Wd.begins (tl nm) (tl s) = Wd.same (nm.extract 0 s.size).data.toList s.data.toList := by
  have e : (nm.extract 0 s.size).data.toList = (tl nm).take (tl s).length := by
    rw [tl_length]; simp [tl]
  unfold Wd.begins
  rw [e]
  have : (tl s).length ≤ (tl nm).length := by rw [tl_length, tl_length]; omega
  simp [this]; rfl
theorem pick_next2 (s : ByteArray) (ss : List ByteArray) (k : Nat) (bg : Int) (cnt : Nat) (nm : ByteArray) (h : Wd.pick (tl s) (ss.map tl) = Wd.pickLoop (tl s) ((ss.map tl).drop k) k bg cnt) (hn : ss[k]? = some nm) (hs : ¬ nm.size < s.size)
    (hb : Wd.same (nm.extract 0 s.size).data.toList s.data.toList = false) :
    Wd.pick (tl s) (ss.map tl) = Wd.pickLoop (tl s) ((ss.map tl).drop (k + 1)) (k + 1) bg cnt := by
  rw [h, drop_of (a := tl nm) (by simp [hn]), Wd.pickLoop, if_neg]
  rw [begins_of s nm hs, hb]; simp
theorem pick_next3 (s : ByteArray) (ss : List ByteArray) (k : Nat) (bg : Int) (cnt : Nat) (nm : ByteArray) (h : Wd.pick (tl s) (ss.map tl) = Wd.pickLoop (tl s) ((ss.map tl).drop k) k bg cnt) (hn : ss[k]? = some nm) (hs : nm.size = s.size)
    (hb : Wd.same (nm.extract 0 s.size).data.toList s.data.toList = true) :
    Wd.pick (tl s) (ss.map tl) = (k : Int) := by
  rw [h, drop_of (a := tl nm) (by simp [hn]), Wd.pickLoop, if_pos (by rw [begins_of s nm (by omega), hb]), if_pos (by rw [tl_length, tl_length, hs])]
theorem pick_next4 (s : ByteArray) (ss : List ByteArray) (k : Nat) (bg : Int) (cnt : Nat) (nm : ByteArray) (h : Wd.pick (tl s) (ss.map tl) = Wd.pickLoop (tl s) ((ss.map tl).drop k) k bg cnt) (hn : ss[k]? = some nm) (hs : ¬ nm.size < s.size) (hne : ¬ nm.size = s.size)
    (hb : Wd.same (nm.extract 0 s.size).data.toList s.data.toList = true) :
    Wd.pick (tl s) (ss.map tl) = Wd.pickLoop (tl s) ((ss.map tl).drop (k + 1)) (k + 1) k (cnt + 1) := by
  rw [h, drop_of (a := tl nm) (by simp [hn]), Wd.pickLoop, if_pos (by rw [begins_of s nm hs, hb]), if_neg (by rw [tl_length, tl_length]; exact hne)]
theorem pick_end (s : ByteArray) (ss : List ByteArray) (k : Nat) (bg : Int) (cnt : Nat) (h : Wd.pick (tl s) (ss.map tl) = Wd.pickLoop (tl s) ((ss.map tl).drop k) k bg cnt) (hk : ss.length = k) :
    Wd.pick (tl s) (ss.map tl) = if cnt = 1 then bg else -1 := by
  rw [h, List.drop_eq_nil_of_le (by simp; omega)]; rfl

set_option maxHeartbeats 1000000 in
theorem pick_any (s : ByteArray) (A : Option Addr) (n c : Nat) (ss : List ByteArray) (w : World) (hs : s.size ≤ maxLen) (hn : n ≤ maxLen) (hr : Reads w w.heap.size 1 A n (ss.map Value.string)) :
    Calls Tryz.prog 72 #[.string s, .slice A n c] w fun e w' => e = .returned (.int .i64 (Wd.pick (tl s) (ss.map tl))) ∧ Drew w w' := by
  unfold maxLen at hs hn
  by_cases he : s.toList = []
  · have t1 : s.toList.isEmpty = true := by simp [he]
    have hE : Wd.pick (tl s) (ss.map tl) = -1 := by unfold Wd.pick; rw [if_pos (show tl s = [] by rw [← he, ByteArray.toList_eq]; rfl)]
    have HE := Lib.hid hE
    clear he hE hr
    go_enter Tryz.func72, Tryz.ntmps72
    go_wp2
    go_ret
    exact ⟨ret_int HE.out.symm, Drew.refl w⟩
  · have t1 : s.toList.isEmpty = false := by simp [he]
    have He := Lib.hid he
    clear he
    have HR := Lib.hid hr
    clear hr
    go_enter Tryz.func72, Tryz.ntmps72
    go_wp2
    go_loopw [5, 6, 13] (fun b cn i wr => ∃ (k cnt : Nat) (bg : Int), k ≤ n ∧ cnt ≤ k ∧ b = .int .i64 bg ∧ cn = .int .i64 cnt ∧ i = .int .i64 k ∧ Hid (Wd.pick (tl s) (ss.map tl) = Wd.pickLoop (tl s) ((ss.map tl).drop k) k bg cnt) ∧ Hid (Drew w wr)) (fun _ _ i _ => n - (intOf i).toNat)
    case atStart => exact ⟨0, 0, -1, Nat.zero_le _, Nat.le_refl _, rfl, rfl, rfl, pick_start s ss He.out, Drew.refl w⟩
    case round =>
      obtain ⟨k, cnt, bg, hk, hcnt, rfl, rfl, rfl, HP, HD⟩ := hrel
      by_cases hlt : k < n
      · obtain ⟨ad, nm, rfl, hnm, hcell⟩ : ∃ ad nm, A = some ad ∧ Hid (ss[k]? = some nm) ∧ wr.cell? (ad.add k) = some (.string nm) := reads_str (HR.out.of_drew HD.out) hlt
        have q1 : (0 : Int) ≤ (k : Int) := by omega
        have q2 : (k : Int) < (n : Int) := by omega
        by_cases hsz : nm.size < s.size
        · go_wp2
          go_roundw
          case rel => exact ⟨k + 1, cnt, bg, by omega, by omega, rfl, rfl, by go_num, pick_next1 s ss k bg cnt nm HP.out hnm.out hsz, HD⟩
          case measure => simp [intOf]; omega
        · have q3 : (s.size : Int) ≤ (nm.size : Int) := by omega
          have q4 : (nm.extract 0 s.size).size ≤ maxLen := by simp only [ByteArray.size_extract, maxLen]; omega
          cases hsm : Wd.same (nm.extract 0 s.size).data.toList s.data.toList
          · have Hsm := Lib.hid hsm
            clear hsm
            go_wp2_with (go_at_call 89; refine (same_any _ _ _ q4).mono ?_; rw [Hsm.out]; rintro e w' ⟨rfl, HD2⟩)
            go_roundw
            case rel => exact ⟨k + 1, cnt, bg, by omega, by omega, rfl, rfl, by go_num, pick_next2 s ss k bg cnt nm HP.out hnm.out hsz Hsm.out, HD.out.trans HD2⟩
            case measure => simp [intOf]; omega
          · have Hsm := Lib.hid hsm
            clear hsm
            by_cases heq : nm.size = s.size
            · have t2 : ((nm.size : Int) == (s.size : Int)) = true := by simp [heq]
              have Heq := Lib.hid heq
              clear heq
              go_wp2_with (go_at_call 89; refine (same_any _ _ _ q4).mono ?_; rw [Hsm.out]; rintro e w' ⟨rfl, HD2⟩)
              go_ret
              exact ⟨ret_int (pick_next3 s ss k bg cnt nm HP.out hnm.out Heq.out Hsm.out).symm, HD.out.trans HD2⟩
            · have t2 : ((nm.size : Int) == (s.size : Int)) = false := by simp; omega
              have Heq := Lib.hid heq
              clear heq
              go_wp2_with (go_at_call 89; refine (same_any _ _ _ q4).mono ?_; rw [Hsm.out]; rintro e w' ⟨rfl, HD2⟩)
              go_roundw
              case rel => exact ⟨k + 1, cnt + 1, k, by omega, by omega, rfl, by go_num, by go_num, pick_next4 s ss k bg cnt nm HP.out hnm.out hsz Heq.out Hsm.out, HD.out.trans HD2⟩
              case measure => simp [intOf]; omega
      · obtain rfl : k = n := by omega
        have hE := pick_end s ss k bg cnt HP.out (by have := HR.out.1; simpa using this)
        by_cases h1 : cnt = 1
        · have t2 : ((cnt : Int) != 1) = false := by simp [h1]
          rw [if_pos h1] at hE
          have HE := Lib.hid hE
          clear hE h1
          go_wp2
          go_ret
          exact ⟨ret_int HE.out.symm, HD.out⟩
        · have t2 : ((cnt : Int) != 1) = true := by simp; omega
          rw [if_neg h1] at hE
          have HE := Lib.hid hE
          clear hE h1
          go_wp2
          go_ret
          exact ⟨ret_int HE.out.symm, HD.out⟩
end Go.Proofs.YtlhoggalhjadgaaGreatDoor

/- The contracts of package word: the days of the week. -/
namespace Go.Proofs.YtlhoggalhjadgaaGreatDoor
open Go.RowKit

def Days : List ByteArray := [⟨#[83, 117, 110, 100, 97, 121]⟩, ⟨#[77, 111, 110, 100, 97, 121]⟩, ⟨#[84, 117, 101, 115, 100, 97, 121]⟩, ⟨#[87, 101, 100, 110, 101, 115, 100, 97, 121]⟩, ⟨#[84, 104, 117, 114, 115, 100, 97, 121]⟩, ⟨#[70, 114, 105, 100, 97, 121]⟩, ⟨#[83, 97, 116, 117, 114, 100, 97, 121]⟩]
def strCells (l : List ByteArray) : Array Value := (l.map Value.string).toArray

theorem weekdays_any (w : World) :
    Calls Tryz.prog 92 #[] w fun e w' => e = .returned (.slice (some ⟨w.heap.size, 0, none⟩) 7 7) ∧ w' = w.alloc (.cells (strCells Days) 9) := by
  go_enter Tryz.func92, Tryz.ntmps92
  go_wp2
  go_ret
  exact ⟨rfl, rfl⟩

theorem reads_new (w : World) (l : List ByteArray) (t : TypeId) : Reads (w.alloc (.cells (strCells l) t)) (w.alloc (.cells (strCells l) t)).heap.size 1 (some ⟨w.heap.size, 0, none⟩) l.length (l.map Value.string) := by
  refine ⟨by simp, fun _ => ⟨_, rfl, by simp, fun j u hu => ?_⟩⟩
  have h := cell_of_row (w.alloc (.cells (strCells l) t)) w.heap.size j (strCells l) t (0, 0) (heap_alloc_new w _)
  have e : (⟨w.heap.size, 0, none⟩ : Addr).add j = ⟨w.heap.size, j, none⟩ := by
    unfold Addr.add
    split
    · subst_vars; rfl
    · simp
  rw [e, h]
  simpa [strCells] using hu

theorem weekday_any (s : ByteArray) (w : World) (hs : s.size ≤ maxLen) :
    Calls Tryz.prog 130 #[.string s] w fun e w' => e = .returned (.int .i64 (Wd.pick (tl s) (Days.map tl))) ∧ Below w.heap.size w w' := by
  go_enter Tryz.func130, Tryz.ntmps130
  go_wp2_with fail
  refine (weekdays_any _).mono ?_
  rintro e w1 ⟨rfl, rfl⟩
  go_wp2_with fail
  refine (pick_any s _ 7 7 Days _ hs (by unfold maxLen; omega) (reads_new w Days 9)).mono ?_
  rintro e w2 ⟨rfl, HD⟩
  go_wp2
  go_ret
  exact ⟨rfl, ((Below.refl _ _).alloc (Nat.le_refl _) _).trans (HD.below _)⟩

/-- How a month, a day is written. -/
def textOf (l : List ByteArray) (i : Int) : ByteArray := if 0 ≤ i ∧ i < l.length then (l.getD i.toNat ByteArray.empty).extract 0 3 else ByteArray.empty

theorem textOf_out (l : List ByteArray) (i : Int) (h : ¬ (0 ≤ i ∧ i < l.length)) : textOf l i = ByteArray.empty := by unfold textOf; rw [if_neg h]
theorem days_len (k : Nat) (hk : k < 7) : ∃ nm, Days[k]? = some nm ∧ 3 ≤ nm.size ∧ textOf Days (k : Int) = nm.extract 0 3 := by
  have : k = 0 ∨ k = 1 ∨ k = 2 ∨ k = 3 ∨ k = 4 ∨ k = 5 ∨ k = 6 := by omega
  rcases this with rfl | rfl | rfl | rfl | rfl | rfl | rfl <;> exact ⟨_, rfl, by decide, rfl⟩

theorem cell_new (w : World) (l : List ByteArray) (t : TypeId) (k : Nat) (nm : ByteArray) (h : l[k]? = some nm) : (w.alloc (.cells (strCells l) t)).cell? ⟨w.heap.size, k, none⟩ = some (.string nm) := by
  rw [cell_of_row (w.alloc (.cells (strCells l) t)) w.heap.size k (strCells l) t (0, 0) (heap_alloc_new w _)]
  simp [strCells, h]

theorem weekdayText_any (m : Int) (w : World) :
    Calls Tryz.prog 77 #[.int .i64 m] w fun e w' => e = .returned (.string (textOf Days m)) ∧ Below w.heap.size w w' := by
  by_cases h1 : m < 0
  · have HE := Lib.hid (textOf_out Days m (by omega))
    go_enter Tryz.func77, Tryz.ntmps77
    go_wp2
    go_ret
    exact ⟨by rw [HE.out]; rfl, Below.refl _ _⟩
  · by_cases h2 : 6 < m
    · have HE := Lib.hid (textOf_out Days m (by simp [Days]; omega))
      go_enter Tryz.func77, Tryz.ntmps77
      go_wp2
      go_ret
      exact ⟨by rw [HE.out]; rfl, Below.refl _ _⟩
    · obtain ⟨k, rfl⟩ : ∃ k : Nat, m = (k : Int) := ⟨m.toNat, by omega⟩
      obtain ⟨nm, h3, h4, h5⟩ := days_len k (by omega)
      have hc := cell_new w Days 9 k nm h3
      have H5 := Lib.hid h5
      have q1 : (0 : Int) ≤ (k : Int) := by omega
      have q2 : (k : Int) < 7 := by omega
      clear h5 h3 h1 h2
      go_enter Tryz.func77, Tryz.ntmps77
      go_wp2_with fail
      refine (weekdays_any _).mono ?_
      rintro e w1 ⟨rfl, rfl⟩
      go_wp2
      go_ret
      exact ⟨ret_str H5.out.symm, (Below.refl _ _).alloc (Nat.le_refl _) _⟩

theorem day_text (n : Int) : (textOf Days n).toList.isEmpty = !(decide (0 ≤ n) && decide (n ≤ 6)) ∧ (textOf Days n).size ≤ maxLen ∧ (0 ≤ n ∧ n ≤ 6 → Wd.pick (tl (textOf Days n)) (Days.map tl) = n) := by
  by_cases h : 0 ≤ n ∧ n ≤ 6
  · have : n = 0 ∨ n = 1 ∨ n = 2 ∨ n = 3 ∨ n = 4 ∨ n = 5 ∨ n = 6 := by omega
    rcases this with rfl | rfl | rfl | rfl | rfl | rfl | rfl <;> exact ⟨by rw [ByteArray.toList_eq]; decide, by decide, fun _ => by decide⟩
  · rw [textOf_out Days n (by simp [Days]; omega)]
    refine ⟨?_, by decide, fun h' => absurd h' h⟩
    have : (decide (0 ≤ n) && decide (n ≤ 6)) = false := by simpa using h
    rw [this, ByteArray.toList_eq]; rfl
end Go.Proofs.YtlhoggalhjadgaaGreatDoor
