/- Plain law of moments and untils: each is read from its texts. -/
import Derived.Test.YtlhoggalhjadgaaGreatDoorK11

namespace Go.Proofs.YtlhoggalhjadgaaGreatDoor
open Go.RowKit

theorem u8_of (n : Nat) (h : n < 256) : (UInt8.ofNat n).toNat = n := by simp; omega
namespace Dy
theorem nl_app : ∀ (p q : List UInt8) (a : Int), 0 ≤ a → numLoop p a ≠ -1 → numLoop (p ++ q) a = numLoop q (numLoop p a)
  | [], q, a, _, _ => rfl
  | c :: r, q, a, h0, h => by
    simp only [List.cons_append, numLoop] at h ⊢
    by_cases hb : (c.toNat : Int) < 48 ∨ 57 < (c.toNat : Int)
    · rw [if_pos hb] at h; exact absurd rfl h
    · rw [if_neg hb] at h
      rw [if_neg hb, if_neg hb]
      exact nl_app r q _ (by omega) h
theorem nl_one (d : Nat) (h : d < 10) (a : Int) : numLoop [UInt8.ofNat (48 + d)] a = a * 10 + d := by
  have e : (UInt8.ofNat (48 + d)).toNat = 48 + d := u8_of _ (by omega)
  simp only [numLoop, e]
  rw [if_neg (by omega)]
  omega
theorem nl_dec : ∀ (n : Nat), numLoop (Lib.decDigits n) 0 = n := by
  intro n
  induction n using Nat.strongRecOn with
  | _ n ih =>
    rw [Lib.decDigits]
    by_cases h : n < 10
    · rw [dif_pos h, nl_one n h]; omega
    · rw [dif_neg h, nl_app _ _ _ (by omega) (by rw [ih (n / 10) (by omega)]; omega), ih (n / 10) (by omega), nl_one (n % 10) (by omega)]
      omega
theorem dec_len (n : Nat) (h : n < 10000) : 1 ≤ (Lib.decDigits n).length ∧ (Lib.decDigits n).length ≤ 4 := by
  rw [Lib.decDigits]
  by_cases h1 : n < 10
  · rw [dif_pos h1]; simp
  · rw [dif_neg h1, Lib.decDigits]
    by_cases h2 : n / 10 < 10
    · rw [dif_pos h2]; simp
    · rw [dif_neg h2, Lib.decDigits]
      by_cases h3 : n / 10 / 10 < 10
      · rw [dif_pos h3]; simp
      · rw [dif_neg h3, Lib.decDigits, dif_pos (by omega)]; simp
end Dy
namespace Mo
theorem year_itoa (y : Int) (h1 : 1 ≤ y) (h2 : y ≤ 9999) : yearN (Lib.itoa y) = y := by
  unfold yearN Lib.itoa
  have hl := Dy.dec_len y.toNat (by omega)
  simp only [if_neg (show ¬ y < 0 by omega)]
  rw [if_neg (by omega), Dy.nl_dec]
  omega
theorem yearV_of (y : Int) (h : 1 ≤ y) : yearV y = y := by unfold yearV; rw [if_neg (by omega)]
theorem yearB_of (y : Int) (h1 : 1 ≤ y) (h2 : y ≤ 9999) : yearB y = true := by unfold yearB; rw [decide_eq_true ⟨h1, h2⟩]

/-- A time's text ends in a digit. -/
theorem text_last (s : Int) (h : IsTime s) : ∃ (X : List UInt8) (k : Nat), Ck.text s = X ++ [UInt8.ofNat (48 + k)] ∧ k < 10 ∧ 1 ≤ X.length := by
  unfold Ck.text Ck.body
  rw [if_pos h]
  obtain ⟨a, ha⟩ : ∃ a, (if s < 0 then -s else s) = a := ⟨_, rfl⟩
  have h0 : 0 ≤ a ∧ a ≤ 604800 := by obtain ⟨p, q⟩ := h; rw [← ha]; split <;> omega
  rw [ha]
  have e : ∀ n, Ck.two n = [58, UInt8.ofNat (48 + n.toNat / 10)] ++ [UInt8.ofNat (48 + n.toNat % 10)] := fun n => rfl
  by_cases hs : 0 < a % 3600 % 60
  · rw [if_pos hs, e (a % 3600 % 60)]
    exact ⟨Ck.sign s ++ (Lib.itoa (a / 3600) ++ Ck.two (a % 3600 / 60) ++ [58, UInt8.ofNat (48 + (a % 3600 % 60).toNat / 10)]), (a % 3600 % 60).toNat % 10, by simp, by omega, by simp; omega⟩
  · rw [if_neg hs, e (a % 3600 / 60), List.append_nil]
    exact ⟨Ck.sign s ++ (Lib.itoa (a / 3600) ++ [58, UInt8.ofNat (48 + (a % 3600 / 60).toNat / 10)]), (a % 3600 / 60).toNat % 10, by simp, by omega, by simp; omega⟩
theorem mk_get (X : List UInt8) (c : UInt8) (h : X.length < (⟨(X ++ [c]).toArray⟩ : ByteArray).size) : (⟨(X ++ [c]).toArray⟩ : ByteArray)[X.length]'h = c := by
  show (X ++ [c]).toArray[X.length]'_ = c
  simp
theorem mk_ext (X : List UInt8) (c : UInt8) : (⟨(X ++ [c]).toArray⟩ : ByteArray).extract 0 X.length = ⟨X.toArray⟩ := by
  apply ByteArray.ext
  simp [ByteArray.data_extract]
theorem cut_snoc (X : List UInt8) (c : UInt8) : cutS ⟨(X ++ [c]).toArray⟩ = if by_ (c.toNat : Int) = 3 then (⟨(X ++ [c]).toArray⟩, 0) else (⟨X.toArray⟩, by_ (c.toNat : Int)) := by
  have hsz : (⟨(X ++ [c]).toArray⟩ : ByteArray).size = X.length + 1 := by simp [ByteArray.size]
  obtain ⟨R, V, hc⟩ : ∃ R V, cutS ⟨(X ++ [c]).toArray⟩ = (R, V) := ⟨_, _, rfl⟩
  have h := cutS_pos _ X.length hsz (by omega) R V hc
  rw [mk_get, mk_ext] at h
  rw [hc]
  rcases h with ⟨h1, h2, h3⟩ | ⟨h1, h2, h3⟩
  · rw [if_pos h1, h2, h3]
  · rw [if_neg h1, h2, h3]
theorem ne_dash (l : List UInt8) (h : 2 ≤ l.length) : ¬ (⟨l.toArray⟩ : ByteArray) = ⟨#[45]⟩ := by
  intro e
  have : (⟨l.toArray⟩ : ByteArray).size = (⟨#[45]⟩ : ByteArray).size := by rw [e]
  simp [ByteArray.size] at this
  omega
/-- A right moment is read from its text. -/
theorem parse_text (s c : Int) (h : Ok s c) (h0 : 0 ≤ c) : parse ⟨(text s c).toArray⟩ = ((s, c), 0) := by
  obtain ⟨X, k, hX, hk, hl⟩ := text_last s h.1
  have hp := Ck.parse_text s h.1
  have hc : c = 0 ∨ c = 1 ∨ c = 2 := by have := h.2; omega
  have e48 : ((UInt8.ofNat (48 + k)).toNat : Int) = 48 + k := by rw [u8_of _ (by omega)]; omega
  have hpar : ∀ (S R : ByteArray) (V a : Int), ¬ S = ⟨#[45]⟩ → cutS S = (R, V) → Ck.parse R = (a, 0) → parse S = ((a, V), 0) := by
    intro S R V a h1 h2 h3
    unfold parse
    rw [if_neg h1, h2]
    simp only [h3, if_true]
  rcases hc with rfl | rfl | rfl
  · have e : text s 0 = X ++ [UInt8.ofNat (48 + k)] := by unfold text tail; rw [hX]; simp
    refine hpar _ ⟨(Ck.text s).toArray⟩ 0 s (ne_dash _ (by rw [e]; simp; omega)) ?_ hp
    rw [e, cut_snoc, if_pos (by unfold by_; rw [e48, if_neg (by omega), if_neg (by omega), if_neg (by omega)]), ← hX]
  · have e : text s 1 = Ck.text s ++ [115] := rfl
    have e2 : by_ ((115 : UInt8).toNat : Int) = 1 := by decide
    refine hpar _ ⟨(Ck.text s).toArray⟩ 1 s (ne_dash _ (by rw [e, hX]; simp)) ?_ hp
    rw [e, cut_snoc, e2]
    rfl
  · have e : text s 2 = Ck.text s ++ [117] := rfl
    have e2 : by_ ((117 : UInt8).toNat : Int) = 2 := by decide
    refine hpar _ ⟨(Ck.text s).toArray⟩ 2 s (ne_dash _ (by rw [e, hX]; simp)) ?_ hp
    rw [e, cut_snoc, e2]
    rfl
theorem by_bd (c : Int) : 0 ≤ by_ c ∧ by_ c ≤ 3 := by unfold by_; split <;> (try split) <;> (try split) <;> omega
theorem cut_bd (s : ByteArray) : 0 ≤ (cutS s).2 ∧ (cutS s).2 < 3 := by
  unfold cutS
  split
  · rename_i h
    have := by_bd (s[s.size - 1].toNat : Int)
    split
    · simp
    · simp only; omega
  · simp
/-- What is read is right. -/
theorem parse_ok (s : ByteArray) (a b : Int) (h : parse s = ((a, b), 0)) : Ok a b ∧ 0 ≤ b := by
  unfold parse at h
  split at h
  · simp at h
    obtain ⟨rfl, rfl⟩ := h
    exact ⟨by decide, by decide⟩
  · split at h
    · rename_i h2
      simp at h
      obtain ⟨rfl, rfl⟩ := h
      have hb := cut_bd s
      refine ⟨⟨?_, hb.2⟩, hb.1⟩
      refine Ck.parse_time (cutS s).1 _ ?_
      rw [← h2]
    · rename_i h2
      simp at h
      exact absurd h.2 h2
theorem parse_bad (s : ByteArray) (a b e : Int) (h : parse s = ((a, b), e)) (he : e ≠ 0) : a = 0 ∧ b = 0 := by
  unfold parse at h
  split at h
  · simp at h; omega
  · split at h
    · simp at h; omega
    · simp at h; exact ⟨h.1.1.symm, h.1.2.symm⟩
theorem pick_month (m : Int) (h1 : 1 ≤ m) (h2 : m ≤ 12) : Wd.pick (tl (textOf Months (m - 1))) (Months.map tl) + 1 = m := by
  have hm : m = 1 ∨ m = 2 ∨ m = 3 ∨ m = 4 ∨ m = 5 ∨ m = 6 ∨ m = 7 ∨ m = 8 ∨ m = 9 ∨ m = 10 ∨ m = 11 ∨ m = 12 := by omega
  rcases hm with rfl | rfl | rfl | rfl | rfl | rfl | rfl | rfl | rfl | rfl | rfl | rfl <;> decide +kernel
theorem pick_months_bd (t : List UInt8) : -1 ≤ Wd.pick t (Months.map tl) ∧ Wd.pick t (Months.map tl) < 12 := by
  rcases Wd.pick_form t (Months.map tl) with h | ⟨k, n, h, hk, _⟩
  · rw [h]; omega
  · rw [h]
    have := (List.getElem?_eq_some_iff.1 hk).1
    have e : (Months.map tl).length = 12 := rfl
    omega
section
variable (u : U)
/-- The steps at an until's own texts. -/
theorem step0 (v : U) (h : InCal u.y u.m) : step 0 v ⟨(Lib.itoa u.y).toArray⟩ = (⟨u.y, v.m, v.k, v.n, v.d, v.s, v.c⟩, 0) := by
  unfold step yearSt
  rw [if_pos rfl, tl_mk, year_itoa u.y h.1 h.2.1, yearV_of u.y h.1, yearB_of u.y h.1 h.2.1]
  rfl
theorem step1 (v : U) (h : InCal u.y u.m) : step 1 v (textOf Months (u.m - 1)) = (⟨v.y, u.m, v.k, v.n, v.d, v.s, v.c⟩, 0) := by
  unfold step monthSt
  rw [if_neg (by omega), if_pos rfl, pick_month u.m h.2.2.1 h.2.2.2, if_neg (by have := h.2.2.1; omega)]
theorem step2 (v : U) (h : Dy.Ok u.k u.n u.d) : step 2 v ⟨(Dy.text u.k u.n u.d).toArray⟩ = (⟨v.y, v.m, u.k, u.n, u.d, v.s, v.c⟩, 0) := by
  unfold step daySt
  rw [if_neg (by omega), if_neg (by omega), if_pos rfl, tl_mk, Dy.told_text u.k u.n u.d h]
  simp only
  rw [if_pos h]
theorem step3 (v : U) (h : Ok u.s u.c) (h0 : 0 ≤ u.c) : step 3 v ⟨(text u.s u.c).toArray⟩ = (⟨v.y, v.m, v.k, v.n, v.d, u.s, u.c⟩, 0) := by
  unfold step momSt
  rw [if_neg (by omega), if_neg (by omega), if_neg (by omega), parse_text u.s u.c h h0]
end
theorem u_eta (u : U) : (⟨u.y, u.m, u.k, u.n, u.d, u.s, u.c⟩ : U) = u := by cases u; rfl
theorem mom_zero (s c : Int) (h : Ok s c) (h0 : 0 ≤ c) : (⟨(text s c).toArray⟩ : ByteArray) = u3 ↔ s = 0 ∧ c = 0 := by
  constructor
  · intro e
    have a := parse_text s c h h0
    rw [e] at a
    have b : parse u3 = ((0, 0), 0) := by decide +kernel
    rw [b] at a
    simp at a
    exact ⟨a.1.symm, a.2.symm⟩
  · rintro ⟨rfl, rfl⟩
    unfold text
    rw [text_eq]
    decide +kernel
theorem day_one (k n d : Int) (h : Dy.Ok k n d) : (⟨(Dy.text k n d).toArray⟩ : ByteArray) = u2 ↔ k = 0 ∧ n = 1 ∧ d = 0 := by
  constructor
  · intro e
    have a := Dy.told_text k n d h
    have e2 : Dy.text k n d = [49] := by
      have := congrArg tl e
      rw [tl_mk] at this
      exact this
    rw [e2] at a
    have b : Dy.told [49] = (0, 1, 0) := by decide +kernel
    rw [b] at a
    simp at a
    exact ⟨a.1.symm, a.2.1.symm, a.2.2.symm⟩
  · rintro ⟨rfl, rfl, rfl⟩
    decide +kernel
theorem month_jan (m : Int) (h1 : 1 ≤ m) (h2 : m ≤ 12) : textOf Months (m - 1) = u1 ↔ m = 1 := by
  have hm : m = 1 ∨ m = 2 ∨ m = 3 ∨ m = 4 ∨ m = 5 ∨ m = 6 ∨ m = 7 ∨ m = 8 ∨ m = 9 ∨ m = 10 ∨ m = 11 ∨ m = 12 := by omega
  rcases hm with rfl | rfl | rfl | rfl | rfl | rfl | rfl | rfl | rfl | rfl | rfl | rfl <;> decide +kernel
/-- How many texts there are. -/
theorem count_of (u : U) (h : u.Ok) (hc : 0 ≤ u.c) : u.count = if u.s = 0 ∧ u.c = 0 then (if u.k = 0 ∧ u.n = 1 ∧ u.d = 0 then (if u.m = 1 then 1 else 2) else 3) else 4 := by
  obtain ⟨hi, hd, hm⟩ := h
  unfold U.count
  by_cases a : u.s = 0 ∧ u.c = 0
  · rw [if_pos a, if_pos ((mom_zero u.s u.c hm hc).2 a)]
    by_cases b : u.k = 0 ∧ u.n = 1 ∧ u.d = 0
    · rw [if_pos b, if_pos ((day_one u.k u.n u.d hd).2 b)]
      by_cases c : u.m = 1
      · rw [if_pos c, if_pos ((month_jan u.m hi.2.2.1 hi.2.2.2).2 c)]
      · rw [if_neg c, if_neg (fun x => c ((month_jan u.m hi.2.2.1 hi.2.2.2).1 x))]
    · rw [if_neg b, if_neg (fun x => b ((day_one u.k u.n u.d hd).1 x))]
  · rw [if_neg a, if_neg (fun x => a ((mom_zero u.s u.c hm hc).1 x))]
theorem uParse_run (l : List ByteArray) (h0 : l.length ≠ 0) (h4 : l.length ≤ 4) : uParse l = run l 0 U.one := by
  unfold uParse
  rw [if_neg h0, if_neg (by omega)]
/-- What the first j texts tell. -/
def first (u : U) (j : Nat) : U :=
  if j = 1 then ⟨u.y, 1, 0, 1, 0, 0, 0⟩ else if j = 2 then ⟨u.y, u.m, 0, 1, 0, 0, 0⟩ else if j = 3 then ⟨u.y, u.m, u.k, u.n, u.d, 0, 0⟩ else u
theorem parse_first (u : U) (h : u.Ok) (hc : 0 ≤ u.c) (j : Nat) (h1 : 1 ≤ j) (h4 : j ≤ 4) : uParse (u.full.take j) = (first u j, 0, 0) := by
  obtain ⟨hi, hd, hm⟩ := h
  have hj : j = 1 ∨ j = 2 ∨ j = 3 ∨ j = 4 := by omega
  have s0 := step0 u U.one hi
  have s1 := step1 u ⟨u.y, 1, 0, 1, 0, 0, 0⟩ hi
  have s2 := step2 u ⟨u.y, u.m, 0, 1, 0, 0, 0⟩ hd
  have s3 := step3 u ⟨u.y, u.m, u.k, u.n, u.d, 0, 0⟩ hm hc
  have e0 : (⟨u.y, U.one.m, U.one.k, U.one.n, U.one.d, U.one.s, U.one.c⟩ : U) = ⟨u.y, 1, 0, 1, 0, 0, 0⟩ := rfl
  rw [e0] at s0
  rcases hj with rfl | rfl | rfl | rfl
  · show uParse [⟨(Lib.itoa u.y).toArray⟩] = _
    rw [uParse_run _ (by simp) (by simp)]
    simp only [run, s0, if_true]
    rfl
  · show uParse [⟨(Lib.itoa u.y).toArray⟩, textOf Months (u.m - 1)] = _
    rw [uParse_run _ (by simp) (by simp)]
    simp only [run, s0, s1, if_true, Nat.zero_add]
    rfl
  · show uParse [⟨(Lib.itoa u.y).toArray⟩, textOf Months (u.m - 1), ⟨(Dy.text u.k u.n u.d).toArray⟩] = _
    rw [uParse_run _ (by simp) (by simp)]
    simp only [run, s0, s1, s2, if_true, Nat.zero_add]
    rfl
  · show uParse [⟨(Lib.itoa u.y).toArray⟩, textOf Months (u.m - 1), ⟨(Dy.text u.k u.n u.d).toArray⟩, ⟨(text u.s u.c).toArray⟩] = _
    rw [uParse_run _ (by simp) (by simp)]
    simp only [run, s0, s1, s2, s3, if_true, Nat.zero_add, u_eta]
    rfl
theorem count_bd (u : U) : 1 ≤ u.count ∧ u.count ≤ 4 := by
  unfold U.count
  split <;> (try split) <;> (try split) <;> omega
theorem texts_len (u : U) : u.texts.length = u.count := by
  have := count_bd u
  unfold U.texts U.full
  simp
  omega
/-- A right until is read from its texts. -/
theorem parse_texts (u : U) (h : u.Ok) (hc : 0 ≤ u.c) : uParse u.texts = (u, 0, 0) := by
  have hb := count_bd u
  unfold U.texts
  rw [parse_first u h hc u.count hb.1 hb.2]
  have e : first u u.count = u := by
    rw [count_of u h hc]
    by_cases a : u.s = 0 ∧ u.c = 0
    · rw [if_pos a]
      by_cases b : u.k = 0 ∧ u.n = 1 ∧ u.d = 0
      · rw [if_pos b]
        by_cases c : u.m = 1
        · rw [if_pos c]
          show (⟨u.y, 1, 0, 1, 0, 0, 0⟩ : U) = u
          obtain ⟨y, m, k, n, d, s, cc⟩ := u
          simp at a b c
          obtain ⟨rfl, rfl⟩ := a
          obtain ⟨rfl, rfl, rfl⟩ := b
          subst c
          rfl
        · rw [if_neg c]
          show (⟨u.y, u.m, 0, 1, 0, 0, 0⟩ : U) = u
          obtain ⟨y, m, k, n, d, s, cc⟩ := u
          simp at a b
          obtain ⟨rfl, rfl⟩ := a
          obtain ⟨rfl, rfl, rfl⟩ := b
          rfl
      · rw [if_neg b]
        show (⟨u.y, u.m, u.k, u.n, u.d, 0, 0⟩ : U) = u
        obtain ⟨y, m, k, n, d, s, cc⟩ := u
        simp at a
        obtain ⟨rfl, rfl⟩ := a
        rfl
    · rw [if_neg a]
      rfl
  rw [e]
/-- One text fewer tells another until. -/
theorem parse_fewer (u : U) (h : u.Ok) (hc : 0 ≤ u.c) : (uParse (u.texts.take (u.count - 1))).1 ≠ u := by
  have hb := count_bd u
  have ht : u.texts.take (u.count - 1) = u.full.take (u.count - 1) := by
    unfold U.texts
    rw [List.take_take, Nat.min_eq_left (by omega)]
  rw [ht]
  by_cases h1 : u.count = 1
  · rw [h1]
    show U.zero ≠ u
    intro e
    have : u.y = 0 := by rw [← e]; rfl
    have := h.1.1
    omega
  · rw [parse_first u h hc (u.count - 1) (by omega) (by omega)]
    have hco := count_of u h hc
    intro e
    by_cases a : u.s = 0 ∧ u.c = 0
    · rw [if_pos a] at hco
      by_cases b : u.k = 0 ∧ u.n = 1 ∧ u.d = 0
      · rw [if_pos b] at hco
        by_cases c : u.m = 1
        · rw [if_pos c] at hco; exact h1 hco
        · rw [if_neg c] at hco
          rw [hco] at e
          apply c
          rw [← e]; rfl
      · rw [if_neg b] at hco
        rw [hco] at e
        apply b
        rw [← e]
        exact ⟨rfl, rfl, rfl⟩
    · rw [if_neg a] at hco
      rw [hco] at e
      apply a
      rw [← e]
      exact ⟨rfl, rfl⟩
/-- Right but for the year. -/
def Half (u : U) : Prop := (1 ≤ u.m ∧ u.m ≤ 12) ∧ Dy.Ok u.k u.n u.d ∧ Ok u.s u.c ∧ 0 ≤ u.c
theorem step_ok (k : Nat) (u u' : U) (t : ByteArray) (h : step k u t = (u', 0)) (hu : Half u) : Half u' ∧ (k = 0 → 1 ≤ u'.y ∧ u'.y ≤ 9999) ∧ (k ≠ 0 → u'.y = u.y) := by
  obtain ⟨h1, h2, h3, h4⟩ := hu
  unfold step at h
  by_cases k0 : k = 0
  · rw [if_pos k0] at h
    unfold yearSt at h
    have e := Prod.mk.inj h
    rw [← e.1]
    refine ⟨⟨h1, h2, h3, h4⟩, fun _ => ?_, fun x => absurd k0 x⟩
    have hb : yearB (yearN (tl t)) = true := by
      cases hx : yearB (yearN (tl t))
      · rw [hx] at e; simp at e
      · rfl
    unfold yearB at hb
    rw [decide_eq_true_eq] at hb
    show 1 ≤ yearV (yearN (tl t)) ∧ yearV (yearN (tl t)) ≤ 9999
    unfold yearV
    rw [if_neg (by omega)]
    exact hb
  · rw [if_neg k0] at h
    refine ⟨?_, fun x => absurd x k0, fun _ => ?_⟩
    · by_cases k1 : k = 1
      · rw [if_pos k1] at h
        unfold monthSt at h
        have e := Prod.mk.inj h
        rw [← e.1]
        have hb := pick_months_bd (tl t)
        have hz : ¬ Wd.pick (tl t) (Months.map tl) + 1 = 0 := by intro x; rw [if_pos x] at e; simp at e
        exact ⟨⟨by show 1 ≤ _ + 1; omega, by show _ + 1 ≤ 12; omega⟩, h2, h3, h4⟩
      · rw [if_neg k1] at h
        by_cases k2 : k = 2
        · rw [if_pos k2] at h
          unfold daySt at h
          by_cases hd : Dy.Ok (Dy.told (tl t)).1 (Dy.told (tl t)).2.1 (Dy.told (tl t)).2.2
          · rw [if_pos hd] at h
            have e := Prod.mk.inj h
            rw [← e.1]
            exact ⟨h1, hd, h3, h4⟩
          · rw [if_neg hd] at h
            have e := (Prod.mk.inj h).2
            simp at e
        · rw [if_neg k2] at h
          unfold momSt at h
          have e := Prod.mk.inj h
          rw [← e.1]
          have hp := parse_ok t (parse t).1.1 (parse t).1.2 (by rw [← e.2])
          exact ⟨h1, h2, hp.1, hp.2⟩
    · by_cases k1 : k = 1
      · rw [if_pos k1] at h; rw [← (Prod.mk.inj h).1]
      · rw [if_neg k1] at h
        by_cases k2 : k = 2
        · rw [if_pos k2] at h
          unfold daySt at h
          split at h
          · rw [← (Prod.mk.inj h).1]
          · rw [← (Prod.mk.inj h).1]
        · rw [if_neg k2] at h; rw [← (Prod.mk.inj h).1]
theorem run_ok : ∀ (l : List ByteArray) (k : Nat) (u : U), Half u → (k ≠ 0 → 1 ≤ u.y ∧ u.y ≤ 9999) → (k = 0 → l ≠ []) →
    ((run l k u).2.2 = 0 ∧ (run l k u).2.1 = 0 ∧ (run l k u).1.Ok ∧ 0 ≤ (run l k u).1.c) ∨ ((run l k u).2.2 ≠ 0 ∧ (run l k u).1 = U.zero ∧ (k : Int) ≤ (run l k u).2.1 ∧ (run l k u).2.1 < k + l.length)
  | [], k, u, hu, hy, hk => by
    left
    have : k ≠ 0 := fun x => hk x rfl
    refine ⟨rfl, rfl, ⟨⟨(hy this).1, (hy this).2, hu.1.1, hu.1.2⟩, hu.2.1, hu.2.2.1⟩, hu.2.2.2⟩
  | t :: r, k, u, hu, hy, hk => by
    unfold run
    by_cases h : (step k u t).2 = 0
    · rw [if_pos h]
      have hs := step_ok k u (step k u t).1 t (by rw [← h]) hu
      have := run_ok r (k + 1) (step k u t).1 hs.1 (fun _ => by
        by_cases k0 : k = 0
        · exact hs.2.1 k0
        · rw [hs.2.2 k0]; exact hy k0) (fun x => by omega)
      rcases this with this | ⟨a, b, c, d⟩
      · exact .inl this
      · exact .inr ⟨a, b, by omega, by rw [List.length_cons]; omega⟩
    · rw [if_neg h]
      right
      exact ⟨h, rfl, by simp, by simp; omega⟩
theorem half_one : Half U.one := ⟨⟨by decide, by decide⟩, by decide, by decide, by decide⟩
/-- What is read is right; else the place that is told is one of the texts', or their end. -/
theorem uParse_ok (l : List ByteArray) : ((uParse l).2.2 = 0 ∧ (uParse l).2.1 = 0 ∧ (uParse l).1.Ok ∧ 0 ≤ (uParse l).1.c) ∨ ((uParse l).2.2 ≠ 0 ∧ (uParse l).1 = U.zero ∧ 0 ≤ (uParse l).2.1 ∧ (uParse l).2.1 ≤ 4 ∧ (uParse l).2.1 ≤ l.length) := by
  unfold uParse
  by_cases h0 : l.length = 0
  · rw [if_pos h0]; right; exact ⟨by decide, rfl, by decide, by decide, by simp⟩
  · rw [if_neg h0]
    by_cases h4 : 4 < l.length
    · rw [if_pos h4]; right; exact ⟨by decide, rfl, by decide, by decide, by show (4 : Int) ≤ _; omega⟩
    · rw [if_neg h4]
      rcases run_ok l 0 U.one half_one (fun x => absurd rfl x) (fun _ x => h0 (by rw [x]; rfl)) with a | ⟨a, b, c, d⟩
      · exact .inl a
      · exact .inr ⟨a, b, by omega, by omega, by omega⟩
end Mo
end Go.Proofs.YtlhoggalhjadgaaGreatDoor
