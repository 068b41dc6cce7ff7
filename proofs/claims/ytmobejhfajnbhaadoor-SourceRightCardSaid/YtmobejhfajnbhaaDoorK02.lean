/- The contract of scan.kind; the fields of a line in plain words. -/
import Derived.Test.YtmobejhfajnbhaaDoorK01
namespace Go.Proofs.YtmobejhfajnbhaaDoor
open Go.RowKit

namespace Sc
/-- The kind of a byte: 1 parts, 2 is bad, 3 begins a comment, 4 quotes. -/
def kind (c : Int) : Int := if c = 32 ∨ c = 9 ∨ c = 13 then 1 else if c < 32 ∨ c = 127 then 2 else if c = 35 then 3 else if c = 34 then 4 else 0
theorem cases_ (c : Int) (h0 : 0 ≤ c) (h1 : c ≤ 255) : (0 ≤ c ∧ c ≤ 8) ∨ (c = 9) ∨ (10 ≤ c ∧ c ≤ 12) ∨ (c = 13) ∨ (14 ≤ c ∧ c ≤ 31) ∨ (c = 32) ∨ (c = 33) ∨ (c = 34) ∨ (c = 35) ∨ (36 ≤ c ∧ c ≤ 126) ∨ (c = 127) ∨ (128 ≤ c ∧ c ≤ 255) := by omega
/-- Where the scanner is: between fields; within one (where it began, what it has); within quotes (where they began). -/
inductive Mode where
  | b
  | f (begin : Int) (text : List UInt8)
  | q (quote begin : Int) (text : List UInt8)
/-- The fields, each with its column; or the column, and why. -/
inductive Res where
  | ok (l : List (List UInt8 × Int))
  | bad (col why : Int)
def scan : List UInt8 → Int → Mode → List (List UInt8 × Int) → Res
  | [], _, .b, acc => .ok acc
  | [], _, .f b t, acc => .ok (acc ++ [(t, b)])
  | [], _, .q q _ _, _ => .bad q 5
  | c :: l, at_, .b, acc =>
    if kind c.toNat = 1 then scan l (at_ + 1) .b acc else if kind c.toNat = 3 then .ok acc else if kind c.toNat = 2 then .bad (at_ + 1) 4
    else if acc.length = 24 then .bad (at_ + 1) 6 else if kind c.toNat = 4 then scan l (at_ + 1) (.q (at_ + 1) (at_ + 1) []) acc else scan l (at_ + 1) (.f (at_ + 1) [c]) acc
  | c :: l, at_, .f b t, acc =>
    if kind c.toNat = 1 then scan l (at_ + 1) .b (acc ++ [(t, b)]) else if kind c.toNat = 3 then .ok (acc ++ [(t, b)]) else if kind c.toNat = 2 then .bad (at_ + 1) 4
    else if kind c.toNat = 4 then scan l (at_ + 1) (.q (at_ + 1) b t) acc else scan l (at_ + 1) (.f b (t ++ [c])) acc
  | c :: l, at_, .q q b t, acc =>
    if kind c.toNat = 2 then .bad (at_ + 1) 4 else if kind c.toNat = 4 then scan l (at_ + 1) (.f b t) acc else scan l (at_ + 1) (.q q b (t ++ [c])) acc
/-- The fields of a line. -/
def fields (s : List UInt8) : Res := if 2048 < s.length then .bad 2049 6 else scan s 0 .b []
theorem kind_bd (c : Int) : kind c = 0 ∨ kind c = 1 ∨ kind c = 2 ∨ kind c = 3 ∨ kind c = 4 := by
  unfold kind
  split
  · simp
  · split
    · simp
    · split
      · simp
      · split <;> simp
section
variable {c : UInt8} {l : List UInt8} {a b q : Int} {t : List UInt8} {acc : List (List UInt8 × Int)}
theorem b_1 (h : kind c.toNat = 1) : scan (c :: l) a .b acc = scan l (a + 1) .b acc := by rw [scan, if_pos h]
theorem b_3 (h : kind c.toNat = 3) : scan (c :: l) a .b acc = .ok acc := by rw [scan, if_neg (by omega), if_pos h]
theorem b_2 (h : kind c.toNat = 2) : scan (c :: l) a .b acc = .bad (a + 1) 4 := by rw [scan, if_neg (by omega), if_neg (by omega), if_pos h]
theorem b_long (h : kind c.toNat = 0 ∨ kind c.toNat = 4) (hl : acc.length = 24) : scan (c :: l) a .b acc = .bad (a + 1) 6 := by rw [scan, if_neg (by omega), if_neg (by omega), if_neg (by omega), if_pos hl]
theorem f_b (h : kind c.toNat = 1 ∨ kind c.toNat = 3) : scan (c :: l) a (.f b t) acc = scan (c :: l) a .b (acc ++ [(t, b)]) := by
  rcases h with h | h
  · rw [b_1 h, scan, if_pos h]
  · rw [b_3 h, scan, if_neg (by omega), if_pos h]
theorem f_end : scan [] a (.f b t) acc = scan [] a .b (acc ++ [(t, b)]) := rfl
theorem f_2 (h : kind c.toNat = 2) : scan (c :: l) a (.f b t) acc = .bad (a + 1) 4 := by rw [scan, if_neg (by omega), if_neg (by omega), if_pos h]
theorem f_4 (h : kind c.toNat = 4) : scan (c :: l) a (.f b t) acc = scan l (a + 1) (.q (a + 1) b t) acc := by rw [scan, if_neg (by omega), if_neg (by omega), if_neg (by omega), if_pos h]
theorem f_0 (h : kind c.toNat = 0) : scan (c :: l) a (.f b t) acc = scan l (a + 1) (.f b (t ++ [c])) acc := by rw [scan, if_neg (by omega), if_neg (by omega), if_neg (by omega), if_neg (by omega)]
theorem b_f (h : kind c.toNat = 0 ∨ kind c.toNat = 4) (hl : acc.length ≠ 24) : scan (c :: l) a .b acc = scan (c :: l) a (.f (a + 1) []) acc := by
  rcases h with h | h
  · rw [f_0 h, scan, if_neg (by omega), if_neg (by omega), if_neg (by omega), if_neg hl, if_neg (by omega)]
    rfl
  · rw [f_4 h, scan, if_neg (by omega), if_neg (by omega), if_neg (by omega), if_neg hl, if_pos h]
theorem q_2 (h : kind c.toNat = 2) : scan (c :: l) a (.q q b t) acc = .bad (a + 1) 4 := by rw [scan, if_pos h]
theorem q_4 (h : kind c.toNat = 4) : scan (c :: l) a (.q q b t) acc = scan l (a + 1) (.f b t) acc := by rw [scan, if_neg (by omega), if_pos h]
theorem q_0 (h : kind c.toNat ≠ 2) (h4 : kind c.toNat ≠ 4) : scan (c :: l) a (.q q b t) acc = scan l (a + 1) (.q q b (t ++ [c])) acc := by rw [scan, if_neg h, if_neg h4]
end
end Sc
theorem kind_is (c : UInt8) (w : World) (k : Int) (h : Sc.kind c.toNat = k) : Calls Tryd.prog 107 #[.int .u8 c.toNat] w fun e w' => e = .returned (.int .i64 k) ∧ w = w' := by
  subst h
  obtain ⟨b1, b2⟩ := u8_bd c
  obtain ⟨x, hx⟩ : ∃ x : Int, (c.toNat : Int) = x := ⟨_, rfl⟩
  rw [hx] at b1 b2 ⊢
  clear hx
  rcases Sc.cases_ x b1 b2 with h | h | h | h | h | h | h | h | h | h | h | h
  · have hk : Sc.kind x = 2 := by unfold Sc.kind; rw [if_neg (by omega), if_pos (by omega)]
    rw [hk]
    have e32 : (x == 32) = false := by rw [beq_eq_false_iff_ne]; omega
    have e9 : (x == 9) = false := by rw [beq_eq_false_iff_ne]; omega
    have e13 : (x == 13) = false := by rw [beq_eq_false_iff_ne]; omega
    have e127 : (x == 127) = false := by rw [beq_eq_false_iff_ne]; omega
    have e35 : (x == 35) = false := by rw [beq_eq_false_iff_ne]; omega
    have e34 : (x == 34) = false := by rw [beq_eq_false_iff_ne]; omega
    have l32 : x < 32 := by omega
    clear hk b1 b2 h
    go_enter Tryd.func107, Tryd.ntmps107
    go_wp2
    go_ret
    exact ⟨rfl, rfl⟩
  · have hk : Sc.kind x = 1 := by unfold Sc.kind; rw [if_pos (by omega)]
    rw [hk]
    subst h
    clear hk b1 b2
    go_enter Tryd.func107, Tryd.ntmps107
    go_wp2
    go_ret
    exact ⟨rfl, rfl⟩
  · have hk : Sc.kind x = 2 := by unfold Sc.kind; rw [if_neg (by omega), if_pos (by omega)]
    rw [hk]
    have e32 : (x == 32) = false := by rw [beq_eq_false_iff_ne]; omega
    have e9 : (x == 9) = false := by rw [beq_eq_false_iff_ne]; omega
    have e13 : (x == 13) = false := by rw [beq_eq_false_iff_ne]; omega
    have e127 : (x == 127) = false := by rw [beq_eq_false_iff_ne]; omega
    have e35 : (x == 35) = false := by rw [beq_eq_false_iff_ne]; omega
    have e34 : (x == 34) = false := by rw [beq_eq_false_iff_ne]; omega
    have l32 : x < 32 := by omega
    clear hk b1 b2 h
    go_enter Tryd.func107, Tryd.ntmps107
    go_wp2
    go_ret
    exact ⟨rfl, rfl⟩
  · have hk : Sc.kind x = 1 := by unfold Sc.kind; rw [if_pos (by omega)]
    rw [hk]
    subst h
    clear hk b1 b2
    go_enter Tryd.func107, Tryd.ntmps107
    go_wp2
    go_ret
    exact ⟨rfl, rfl⟩
  · have hk : Sc.kind x = 2 := by unfold Sc.kind; rw [if_neg (by omega), if_pos (by omega)]
    rw [hk]
    have e32 : (x == 32) = false := by rw [beq_eq_false_iff_ne]; omega
    have e9 : (x == 9) = false := by rw [beq_eq_false_iff_ne]; omega
    have e13 : (x == 13) = false := by rw [beq_eq_false_iff_ne]; omega
    have e127 : (x == 127) = false := by rw [beq_eq_false_iff_ne]; omega
    have e35 : (x == 35) = false := by rw [beq_eq_false_iff_ne]; omega
    have e34 : (x == 34) = false := by rw [beq_eq_false_iff_ne]; omega
    have l32 : x < 32 := by omega
    clear hk b1 b2 h
    go_enter Tryd.func107, Tryd.ntmps107
    go_wp2
    go_ret
    exact ⟨rfl, rfl⟩
  · have hk : Sc.kind x = 1 := by unfold Sc.kind; rw [if_pos (by omega)]
    rw [hk]
    subst h
    clear hk b1 b2
    go_enter Tryd.func107, Tryd.ntmps107
    go_wp2
    go_ret
    exact ⟨rfl, rfl⟩
  · have hk : Sc.kind x = 0 := by unfold Sc.kind; rw [if_neg (by omega), if_neg (by omega), if_neg (by omega), if_neg (by omega)]
    rw [hk]
    subst h
    clear hk b1 b2
    go_enter Tryd.func107, Tryd.ntmps107
    go_wp2
    go_ret
    exact ⟨rfl, rfl⟩
  · have hk : Sc.kind x = 4 := by unfold Sc.kind; rw [if_neg (by omega), if_neg (by omega), if_neg (by omega), if_pos (by omega)]
    rw [hk]
    subst h
    clear hk b1 b2
    go_enter Tryd.func107, Tryd.ntmps107
    go_wp2
    go_ret
    exact ⟨rfl, rfl⟩
  · have hk : Sc.kind x = 3 := by unfold Sc.kind; rw [if_neg (by omega), if_neg (by omega), if_pos (by omega)]
    rw [hk]
    subst h
    clear hk b1 b2
    go_enter Tryd.func107, Tryd.ntmps107
    go_wp2
    go_ret
    exact ⟨rfl, rfl⟩
  · have hk : Sc.kind x = 0 := by unfold Sc.kind; rw [if_neg (by omega), if_neg (by omega), if_neg (by omega), if_neg (by omega)]
    rw [hk]
    have e32 : (x == 32) = false := by rw [beq_eq_false_iff_ne]; omega
    have e9 : (x == 9) = false := by rw [beq_eq_false_iff_ne]; omega
    have e13 : (x == 13) = false := by rw [beq_eq_false_iff_ne]; omega
    have e127 : (x == 127) = false := by rw [beq_eq_false_iff_ne]; omega
    have e35 : (x == 35) = false := by rw [beq_eq_false_iff_ne]; omega
    have e34 : (x == 34) = false := by rw [beq_eq_false_iff_ne]; omega
    have l32 : ¬ x < 32 := by omega
    clear hk b1 b2 h
    go_enter Tryd.func107, Tryd.ntmps107
    go_wp2
    go_ret
    exact ⟨rfl, rfl⟩
  · have hk : Sc.kind x = 2 := by unfold Sc.kind; rw [if_neg (by omega), if_pos (by omega)]
    rw [hk]
    subst h
    clear hk b1 b2
    go_enter Tryd.func107, Tryd.ntmps107
    go_wp2
    go_ret
    exact ⟨rfl, rfl⟩
  · have hk : Sc.kind x = 0 := by unfold Sc.kind; rw [if_neg (by omega), if_neg (by omega), if_neg (by omega), if_neg (by omega)]
    rw [hk]
    have e32 : (x == 32) = false := by rw [beq_eq_false_iff_ne]; omega
    have e9 : (x == 9) = false := by rw [beq_eq_false_iff_ne]; omega
    have e13 : (x == 13) = false := by rw [beq_eq_false_iff_ne]; omega
    have e127 : (x == 127) = false := by rw [beq_eq_false_iff_ne]; omega
    have e35 : (x == 35) = false := by rw [beq_eq_false_iff_ne]; omega
    have e34 : (x == 34) = false := by rw [beq_eq_false_iff_ne]; omega
    have l32 : ¬ x < 32 := by omega
    clear hk b1 b2 h
    go_enter Tryd.func107, Tryd.ntmps107
    go_wp2
    go_ret
    exact ⟨rfl, rfl⟩
end Go.Proofs.YtmobejhfajnbhaaDoor
/- Plain law of the words: what Pick means. -/
namespace Go.Proofs.YtmobejhfajnbhaaDoor.Wd
def low (c : UInt8) : UInt8 := if 65 ≤ c ∧ c ≤ 90 then c + 32 else c
def lows (l : List UInt8) : List UInt8 := l.map low
def same (a b : List UInt8) : Bool := decide (lows a = lows b)
def begins (n s : List UInt8) : Bool := decide (s.length ≤ n.length) && same (n.take s.length) s
def pickLoop (s : List UInt8) : List (List UInt8) → Nat → Int → Nat → Int
  | [], _, b, c => if c = 1 then b else -1
  | n :: r, i, b, c => if begins n s = true then (if n.length = s.length then (i : Int) else pickLoop s r (i + 1) i (c + 1)) else pickLoop s r (i + 1) b c
def pick (s : List UInt8) (names : List (List UInt8)) : Int := if s = [] then -1 else pickLoop s names 0 (-1) 0

theorem pickLoop_append (s m : List UInt8) (h : begins m s = false) : ∀ (l : List (List UInt8)) (i : Nat) (b : Int) (c : Nat), pickLoop s (l ++ [m]) i b c = pickLoop s l i b c := by
  intro l
  induction l with
  | nil => intro i b c; simp [pickLoop, h]
  | cons n r ih => intro i b c; simp only [List.cons_append, pickLoop, ih]
theorem pick_append (s m : List UInt8) (l : List (List UInt8)) (h : begins m s = false) : pick s (l ++ [m]) = pick s l := by
  unfold pick; rw [pickLoop_append s m h]

/-- What the loop gives: what it brought with it, none, or the place of a name that begins so. -/
theorem pickLoop_form (s : List UInt8) : ∀ (l : List (List UInt8)) (i : Nat) (b : Int) (c : Nat),
    pickLoop s l i b c = -1 ∨ pickLoop s l i b c = b ∨ ∃ k n, pickLoop s l i b c = ((i + k : Nat) : Int) ∧ l[k]? = some n ∧ begins n s = true := by
  intro l
  induction l with
  | nil => intro i b c; simp only [pickLoop]; split <;> simp
  | cons n r ih =>
    intro i b c
    simp only [pickLoop]
    by_cases h : begins n s = true
    · rw [if_pos h]
      by_cases h2 : n.length = s.length
      · rw [if_pos h2]; exact .inr (.inr ⟨0, n, by simp, by simp, h⟩)
      · rw [if_neg h2]
        rcases ih (i + 1) i (c + 1) with h3 | h3 | ⟨k, m, h3, h4, h5⟩
        · exact .inl h3
        · exact .inr (.inr ⟨0, n, by simpa using h3, by simp, h⟩)
        · exact .inr (.inr ⟨k + 1, m, by rw [h3]; omega, by simpa using h4, h5⟩)
    · rw [if_neg h]
      rcases ih (i + 1) b c with h3 | h3 | ⟨k, m, h3, h4, h5⟩
      · exact .inl h3
      · exact .inr (.inl h3)
      · exact .inr (.inr ⟨k + 1, m, by rw [h3]; omega, by simpa using h4, h5⟩)
theorem pick_form (s : List UInt8) (l : List (List UInt8)) : pick s l = -1 ∨ ∃ (k : Nat) (n : List UInt8), pick s l = (k : Int) ∧ l[k]? = some n ∧ begins n s = true := by
  unfold pick
  split
  · exact .inl rfl
  · rcases pickLoop_form s l 0 (-1) 0 with h | h | ⟨k, n, h, h1, h2⟩
    · exact .inl h
    · exact .inl h
    · exact .inr ⟨k, n, by rw [h]; omega, h1, h2⟩

/-- None of these begins so. -/
theorem pickLoop_none (s : List UInt8) : ∀ (l : List (List UInt8)) (i : Nat) (b : Int) (c : Nat), (∀ n ∈ l, begins n s = false) → pickLoop s l i b c = if c = 1 then b else -1 := by
  intro l
  induction l with
  | nil => intro i b c _; rfl
  | cons n r ih => intro i b c h; simp only [pickLoop]; rw [if_neg (by simp [h n])]; exact ih _ _ _ fun m hm => h m (by simp [hm])

/-- One alone begins so. -/
theorem pickLoop_one (s : List UInt8) : ∀ (l : List (List UInt8)) (i : Nat) (b : Int) (k : Nat) (n : List UInt8), l[k]? = some n → begins n s = true → (∀ j m, l[j]? = some m → j ≠ k → begins m s = false) →
    pickLoop s l i b 0 = ((i + k : Nat) : Int) := by
  intro l
  induction l with
  | nil => intro i b k n h; simp at h
  | cons x r ih =>
    intro i b k n hk hb ho
    simp only [pickLoop]
    cases k with
    | zero =>
      obtain rfl : x = n := by simpa using hk
      rw [if_pos hb]
      split
      · simp
      · rw [pickLoop_none s r _ _ _ fun m hm => ?_]
        · simp
        · obtain ⟨j, hj⟩ := List.mem_iff_getElem?.1 hm
          exact ho (j + 1) m (by simpa using hj) (by omega)
    | succ k =>
      rw [if_neg (by simp [ho 0 x (by simp) (by omega)])]
      rw [ih (i + 1) b k n (by simpa using hk) hb fun j m hj hne => ho (j + 1) m (by simpa using hj) (by omega)]
      omega

/-- What is found and is longer is the only one. -/
theorem pickLoop_only (s : List UInt8) : ∀ (l : List (List UInt8)) (i : Nat) (b : Int) (c : Nat) (k : Nat) (n : List UInt8), b < i → pickLoop s l i b c = ((i + k : Nat) : Int) → l[k]? = some n → n.length ≠ s.length →
    c = 0 ∧ ∀ j m, l[j]? = some m → j ≠ k → begins m s = false := by
  intro l
  induction l with
  | nil => intro i b c k n _ _ h; simp at h
  | cons x r ih =>
    intro i b c k n hb hp hk hl
    simp only [pickLoop] at hp
    by_cases h : begins x s = true
    · rw [if_pos h] at hp
      by_cases h2 : x.length = s.length
      · rw [if_pos h2] at hp
        have : k = 0 := by omega
        subst this
        obtain rfl : x = n := by simpa using hk
        exact absurd h2 hl
      · rw [if_neg h2] at hp
        cases k with
        | succ k =>
          have := ih (i + 1) i (c + 1) k n (by omega) (by rw [hp]; omega) (by simpa using hk) hl
          omega
        | zero =>
          -- the place is this one: nothing behind begins so
          have key : ∀ (r : List (List UInt8)) (i' : Nat) (c' : Nat), (i : Int) < i' → 1 ≤ c' → pickLoop s r i' (i : Int) c' = (i : Int) → c' = 1 ∧ ∀ m ∈ r, begins m s = false := by
            intro r
            induction r with
            | nil => intro i' c' _ _ hh; simp only [pickLoop] at hh; split at hh
                     · exact ⟨by assumption, by simp⟩
                     · omega
            | cons y r ih2 =>
              intro i' c' hi hc hh
              simp only [pickLoop] at hh
              by_cases hy : begins y s = true
              · rw [if_pos hy] at hh
                exfalso
                split at hh
                · omega
                · rcases pickLoop_form s r (i' + 1) i' (c' + 1) with h3 | h3 | ⟨k, m, h3, _, _⟩ <;> omega
              · rw [if_neg hy] at hh
                obtain ⟨h5, h6⟩ := ih2 (i' + 1) c' (by omega) hc hh
                refine ⟨h5, fun m hm => ?_⟩
                rcases List.mem_cons.1 hm with rfl | hm
                · simpa using hy
                · exact h6 m hm
          obtain ⟨h5, h6⟩ := key r (i + 1) (c + 1) (by omega) (by omega) (by simpa using hp)
          refine ⟨by omega, fun j m hj hne => ?_⟩
          cases j with
          | zero => omega
          | succ j => exact h6 m (List.mem_iff_getElem?.2 ⟨j, by simpa using hj⟩)
    · rw [if_neg h] at hp
      cases k with
      | zero =>
        exfalso
        rcases pickLoop_form s r (i + 1) b c with h3 | h3 | ⟨k, m, h3, _, _⟩ <;> omega
      | succ k =>
        obtain ⟨h5, h6⟩ := ih (i + 1) b c k n (by omega) (by rw [hp]; omega) (by simpa using hk) hl
        refine ⟨h5, fun j m hj hne => ?_⟩
        cases j with
        | zero =>
          obtain rfl : x = m := by simpa using hj
          simpa using h
        | succ j => exact h6 j m (by simpa using hj) (by omega)

theorem pick_bd (s : List UInt8) (l : List (List UInt8)) (h : l.length ≤ 1000000) : -1 ≤ pick s l ∧ pick s l < 1000000 := by
  rcases pick_form s l with e | ⟨k, n, e, e1, _⟩
  · omega
  · have := (List.getElem?_eq_some_iff.1 e1).1
    omega

theorem lows_take (l : List UInt8) (k : Nat) : lows (l.take k) = (lows l).take k := by simp [lows, List.map_take]
theorem begins_iff (n s : List UInt8) : begins n s = true ↔ s.length ≤ n.length ∧ (lows n).take s.length = lows s := by
  simp [begins, same, lows_take]
/-- What begins with more begins with less. -/
theorem begins_less (n t s : List UInt8) (h : begins n t = true) (h2 : begins t s = true) : begins n s = true := by
  rw [begins_iff] at h h2 ⊢
  obtain ⟨a, b⟩ := h
  obtain ⟨c, d⟩ := h2
  refine ⟨by omega, ?_⟩
  rw [← d, ← b, List.take_take, Nat.min_eq_left c]
theorem begins_take (n s : List UInt8) (k : Nat) (hk : s.length ≤ k) (h : begins n s = true) : begins (n.take k) s = true := by
  rw [begins_iff] at h ⊢
  obtain ⟨a, b⟩ := h
  refine ⟨by rw [List.length_take]; omega, ?_⟩
  rw [lows_take, List.take_take, Nat.min_eq_left hk, b]
theorem begins_own (n : List UInt8) (k : Nat) (hk : k ≤ n.length) : begins n (n.take k) = true := by
  rw [begins_iff]
  have : (n.take k).length = k := by rw [List.length_take]; omega
  rw [this, lows_take]; exact ⟨hk, rfl⟩

/-- With a letter more the same is meant. -/
theorem pick_more (s n : List UInt8) (l : List (List UInt8)) (k : Nat) (h : pick s l = (k : Int)) (hk : l[k]? = some n) (hl : s.length < n.length) : pick (n.take (s.length + 1)) l = (k : Int) := by
  have hs : s ≠ [] := by intro e; subst e; simp [pick] at h
  have hp : pickLoop s l 0 (-1) 0 = ((0 + k : Nat) : Int) := by unfold pick at h; rw [if_neg hs] at h; rw [h]; omega
  obtain ⟨_, ho⟩ := pickLoop_only s l 0 (-1) 0 k n (by omega) hp hk (by omega)
  have hbs : begins n s = true := by
    rcases pick_form s l with e | ⟨k', n', e, e1, e2⟩
    · omega
    · have : k' = k := by omega
      subst this
      rw [hk] at e1
      obtain rfl : n = n' := by simpa using e1
      exact e2
  have hne : n.take (s.length + 1) ≠ [] := by intro e; have := congrArg List.length e; rw [List.length_take] at this; simp only [List.length_nil] at this; omega
  unfold pick
  rw [if_neg hne, pickLoop_one _ l 0 (-1) k n hk (begins_own n _ (by omega)) fun j m hj hne => ?_]
  · simp
  · cases hm : begins m (n.take (s.length + 1))
    · rfl
    · have := begins_less m _ s hm (begins_take n s _ (by omega) hbs)
      rw [ho j m hj hne] at this
      cases this
end Go.Proofs.YtmobejhfajnbhaaDoor.Wd
