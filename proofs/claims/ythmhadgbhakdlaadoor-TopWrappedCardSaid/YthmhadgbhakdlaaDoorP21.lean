/- The contracts of package rule: Check, year, to. -/
import Derived.Test.YthmhadgbhakdlaaDoorP20
import Derived.Lib.BufferOwn
import Derived.WalkLawsBesides
import Derived.StillTail
import Derived.Lib.QuietBelow
import Derived.WalkKit

namespace Go.Proofs.YthmhadgbhakdlaaDoor
open Go.RowKit

namespace Ru
/-- A rule: its name, years, month, day (kind, number, day of the week), moment, what is saved, letter. -/
structure R where
  nm : ByteArray
  fr : Int
  tt : Int
  mo : Int
  k : Int
  n : Int
  d : Int
  s : Int
  c : Int
  sv : Int
  lt : ByteArray
def R.v (r : R) : Value := .agg #[.string r.nm, .int .i64 r.fr, .int .i64 r.tt, .int .i64 r.mo, .int .u8 r.k, .int .i64 r.n, .int .i64 r.d, .int .i64 r.s, .int .u8 r.c, .int .i64 r.sv, .string r.lt]
def R.cells (r : R) : List Value := [.string r.nm, .int .i64 r.fr, .int .i64 r.tt, .int .i64 r.mo, .int .u8 r.k, .int .i64 r.n, .int .i64 r.d, .int .i64 r.s, .int .u8 r.c, .int .i64 r.sv, .string r.lt]
def R.zero : R := ⟨⟨#[]⟩, 0, 0, 0, 0, 0, 0, 0, 0, 0, ⟨#[]⟩⟩
def R.Ok (r : R) : Prop := name (tl r.nm) = true ∧ (1 ≤ r.fr ∧ r.fr ≤ r.tt ∧ r.tt ≤ 9999) ∧ (1 ≤ r.mo ∧ r.mo ≤ 12) ∧ Dy.Ok r.k r.n r.d ∧ Mo.Ok r.s r.c ∧ IsTime r.sv ∧ Ab.letter r.lt = true
def only : ByteArray := ⟨#[111, 110, 108, 121]⟩
def maximum : ByteArray := ⟨#[109, 97, 120, 105, 109, 117, 109]⟩
/-- The last year that a text tells. -/
def toS (s : ByteArray) (f : Int) : Int × Int :=
  if Wd.pick (tl s) [tl only, tl maximum] = 0 then (f, 0) else if Wd.pick (tl s) [tl only, tl maximum] = 1 then (9999, 0)
  else if Mo.yearB (Mo.yearN (tl s)) = true then (if f ≤ Mo.yearV (Mo.yearN (tl s)) then (Mo.yearV (Mo.yearN (tl s)), 0) else (0, 10)) else (0, 4)
end Ru
theorem ru_two (w : World) : Reads (w.alloc (.cells #[.string ⟨#[111, 110, 108, 121]⟩, .string ⟨#[109, 97, 120, 105, 109, 117, 109]⟩] 9)) (w.alloc (.cells #[.string ⟨#[111, 110, 108, 121]⟩, .string ⟨#[109, 97, 120, 105, 109, 117, 109]⟩] 9)).heap.size 1 (some ⟨w.heap.size, 0, none⟩) 2 ([Ru.only, Ru.maximum].map Value.string) := reads_new w [Ru.only, Ru.maximum] _
end Go.Proofs.YthmhadgbhakdlaaDoor

/- Plain law of moments and untils: each is read from its texts. -/
namespace Go.Proofs.YthmhadgbhakdlaaDoor
open Go.RowKit

theorem u8_of (n : Nat) (h : n < 256) : (UInt8.ofNat n).toNat = n := by simp; omega
namespace Dy
theorem nl_app : ∀ (p q : List UInt8) (a : Int), 0 ≤ a → numLoop p a ≠ -1 → numLoop (p ++ q) a = numLoop q (numLoop p a)
  | [], q, a, _, _ => rfl
  | c :: r, q, a, h0, h => by
    simp only [List.cons_append, numLoop] at h ⊢
    by_cases hb : (c.toNat : Int) < 48 ∨ 57 < (c.toNat : Int)
    · rw [if_pos hb] at h; exact absurd rfl h
    · rw [if_neg hb] at h
      rw [if_neg hb, if_neg hb]
      exact nl_app r q _ (by omega) h
theorem nl_one (d : Nat) (h : d < 10) (a : Int) : numLoop [UInt8.ofNat (48 + d)] a = a * 10 + d := by
  have e : (UInt8.ofNat (48 + d)).toNat = 48 + d := u8_of _ (by omega)
  simp only [numLoop, e]
  rw [if_neg (by omega)]
  omega
theorem nl_dec : ∀ (n : Nat), numLoop (Lib.decDigits n) 0 = n := by
  intro n
  induction n using Nat.strongRecOn with
  | _ n ih =>
    rw [Lib.decDigits]
    by_cases h : n < 10
    · rw [dif_pos h, nl_one n h]; omega
    · rw [dif_neg h, nl_app _ _ _ (by omega) (by rw [ih (n / 10) (by omega)]; omega), ih (n / 10) (by omega), nl_one (n % 10) (by omega)]
      omega
theorem dec_len (n : Nat) (h : n < 10000) : 1 ≤ (Lib.decDigits n).length ∧ (Lib.decDigits n).length ≤ 4 := by
  rw [Lib.decDigits]
  by_cases h1 : n < 10
  · rw [dif_pos h1]; simp
  · rw [dif_neg h1, Lib.decDigits]
    by_cases h2 : n / 10 < 10
    · rw [dif_pos h2]; simp
    · rw [dif_neg h2, Lib.decDigits]
      by_cases h3 : n / 10 / 10 < 10
      · rw [dif_pos h3]; simp
      · rw [dif_neg h3, Lib.decDigits, dif_pos (by omega)]; simp
end Dy
namespace Mo
theorem year_itoa (y : Int) (h1 : 1 ≤ y) (h2 : y ≤ 9999) : yearN (Lib.itoa y) = y := by
  unfold yearN Lib.itoa
  have hl := Dy.dec_len y.toNat (by omega)
  simp only [if_neg (show ¬ y < 0 by omega)]
  rw [if_neg (by omega), Dy.nl_dec]
  omega
theorem yearV_of (y : Int) (h : 1 ≤ y) : yearV y = y := by unfold yearV; rw [if_neg (by omega)]
theorem yearB_of (y : Int) (h1 : 1 ≤ y) (h2 : y ≤ 9999) : yearB y = true := by unfold yearB; rw [decide_eq_true ⟨h1, h2⟩]

/-- A time's text ends in a digit. -/
theorem text_last (s : Int) (h : IsTime s) : ∃ (X : List UInt8) (k : Nat), Ck.text s = X ++ [UInt8.ofNat (48 + k)] ∧ k < 10 ∧ 1 ≤ X.length := by
  unfold Ck.text Ck.body
  rw [if_pos h]
  obtain ⟨a, ha⟩ : ∃ a, (if s < 0 then -s else s) = a := ⟨_, rfl⟩
  have h0 : 0 ≤ a ∧ a ≤ 604800 := by obtain ⟨p, q⟩ := h; rw [← ha]; split <;> omega
  rw [ha]
  have e : ∀ n, Ck.two n = [58, UInt8.ofNat (48 + n.toNat / 10)] ++ [UInt8.ofNat (48 + n.toNat % 10)] := fun n => rfl
  by_cases hs : 0 < a % 3600 % 60
  · rw [if_pos hs, e (a % 3600 % 60)]
    exact ⟨Ck.sign s ++ (Lib.itoa (a / 3600) ++ Ck.two (a % 3600 / 60) ++ [58, UInt8.ofNat (48 + (a % 3600 % 60).toNat / 10)]), (a % 3600 % 60).toNat % 10, by simp, by omega, by simp; omega⟩
  · rw [if_neg hs, e (a % 3600 / 60), List.append_nil]
    exact ⟨Ck.sign s ++ (Lib.itoa (a / 3600) ++ [58, UInt8.ofNat (48 + (a % 3600 / 60).toNat / 10)]), (a % 3600 / 60).toNat % 10, by simp, by omega, by simp; omega⟩
theorem mk_get (X : List UInt8) (c : UInt8) (h : X.length < (⟨(X ++ [c]).toArray⟩ : ByteArray).size) : (⟨(X ++ [c]).toArray⟩ : ByteArray)[X.length]'h = c := by
  show (X ++ [c]).toArray[X.length]'_ = c
  simp
theorem mk_ext (X : List UInt8) (c : UInt8) : (⟨(X ++ [c]).toArray⟩ : ByteArray).extract 0 X.length = ⟨X.toArray⟩ := by
  apply ByteArray.ext
  simp [ByteArray.data_extract]
theorem cut_snoc (X : List UInt8) (c : UInt8) : cutS ⟨(X ++ [c]).toArray⟩ = if by_ (c.toNat : Int) = 3 then (⟨(X ++ [c]).toArray⟩, 0) else (⟨X.toArray⟩, by_ (c.toNat : Int)) := by
  have hsz : (⟨(X ++ [c]).toArray⟩ : ByteArray).size = X.length + 1 := by simp [ByteArray.size]
  obtain ⟨R, V, hc⟩ : ∃ R V, cutS ⟨(X ++ [c]).toArray⟩ = (R, V) := ⟨_, _, rfl⟩
  have h := cutS_pos _ X.length hsz (by omega) R V hc
  rw [mk_get, mk_ext] at h
  rw [hc]
  rcases h with ⟨h1, h2, h3⟩ | ⟨h1, h2, h3⟩
  · rw [if_pos h1, h2, h3]
  · rw [if_neg h1, h2, h3]
theorem ne_dash (l : List UInt8) (h : 2 ≤ l.length) : ¬ (⟨l.toArray⟩ : ByteArray) = ⟨#[45]⟩ := by
  intro e
  have : (⟨l.toArray⟩ : ByteArray).size = (⟨#[45]⟩ : ByteArray).size := by rw [e]
  simp [ByteArray.size] at this
  omega
/-- A right moment is read from its text. -/
theorem parse_text (s c : Int) (h : Ok s c) (h0 : 0 ≤ c) : parse ⟨(text s c).toArray⟩ = ((s, c), 0) := by
  obtain ⟨X, k, hX, hk, hl⟩ := text_last s h.1
  have hp := Ck.parse_text s h.1
  have hc : c = 0 ∨ c = 1 ∨ c = 2 := by have := h.2; omega
  have e48 : ((UInt8.ofNat (48 + k)).toNat : Int) = 48 + k := by rw [u8_of _ (by omega)]; omega
  have hpar : ∀ (S R : ByteArray) (V a : Int), ¬ S = ⟨#[45]⟩ → cutS S = (R, V) → Ck.parse R = (a, 0) → parse S = ((a, V), 0) := by
    intro S R V a h1 h2 h3
    unfold parse
    rw [if_neg h1, h2]
    simp only [h3, if_true]
  rcases hc with rfl | rfl | rfl
  · have e : text s 0 = X ++ [UInt8.ofNat (48 + k)] := by unfold text tail; rw [hX]; simp
    refine hpar _ ⟨(Ck.text s).toArray⟩ 0 s (ne_dash _ (by rw [e]; simp; omega)) ?_ hp
    rw [e, cut_snoc, if_pos (by unfold by_; rw [e48, if_neg (by omega), if_neg (by omega), if_neg (by omega)]), ← hX]
  · have e : text s 1 = Ck.text s ++ [115] := rfl
    have e2 : by_ ((115 : UInt8).toNat : Int) = 1 := by decide
    refine hpar _ ⟨(Ck.text s).toArray⟩ 1 s (ne_dash _ (by rw [e, hX]; simp)) ?_ hp
    rw [e, cut_snoc, e2]
    rfl
  · have e : text s 2 = Ck.text s ++ [117] := rfl
    have e2 : by_ ((117 : UInt8).toNat : Int) = 2 := by decide
    refine hpar _ ⟨(Ck.text s).toArray⟩ 2 s (ne_dash _ (by rw [e, hX]; simp)) ?_ hp
    rw [e, cut_snoc, e2]
    rfl
theorem by_bd (c : Int) : 0 ≤ by_ c ∧ by_ c ≤ 3 := by unfold by_; split <;> (try split) <;> (try split) <;> omega
theorem cut_bd (s : ByteArray) : 0 ≤ (cutS s).2 ∧ (cutS s).2 < 3 := by
  unfold cutS
  split
  · rename_i h
    have := by_bd (s[s.size - 1].toNat : Int)
    split
    · simp
    · simp only; omega
  · simp
/-- What is read is right. -/
theorem parse_ok (s : ByteArray) (a b : Int) (h : parse s = ((a, b), 0)) : Ok a b ∧ 0 ≤ b := by
  unfold parse at h
  split at h
  · simp at h
    obtain ⟨rfl, rfl⟩ := h
    exact ⟨by decide, by decide⟩
  · split at h
    · rename_i h2
      simp at h
      obtain ⟨rfl, rfl⟩ := h
      have hb := cut_bd s
      refine ⟨⟨?_, hb.2⟩, hb.1⟩
      refine Ck.parse_time (cutS s).1 _ ?_
      rw [← h2]
    · rename_i h2
      simp at h
      exact absurd h.2 h2
theorem parse_bad (s : ByteArray) (a b e : Int) (h : parse s = ((a, b), e)) (he : e ≠ 0) : a = 0 ∧ b = 0 := by
  unfold parse at h
  split at h
  · simp at h; omega
  · split at h
    · simp at h; omega
    · simp at h; exact ⟨h.1.1.symm, h.1.2.symm⟩
theorem pick_month (m : Int) (h1 : 1 ≤ m) (h2 : m ≤ 12) : Wd.pick (tl (textOf Months (m - 1))) (Months.map tl) + 1 = m := by
  have hm : m = 1 ∨ m = 2 ∨ m = 3 ∨ m = 4 ∨ m = 5 ∨ m = 6 ∨ m = 7 ∨ m = 8 ∨ m = 9 ∨ m = 10 ∨ m = 11 ∨ m = 12 := by omega
  rcases hm with rfl | rfl | rfl | rfl | rfl | rfl | rfl | rfl | rfl | rfl | rfl | rfl <;> decide +kernel
theorem pick_months_bd (t : List UInt8) : -1 ≤ Wd.pick t (Months.map tl) ∧ Wd.pick t (Months.map tl) < 12 := by
  rcases Wd.pick_form t (Months.map tl) with h | ⟨k, n, h, hk, _⟩
  · rw [h]; omega
  · rw [h]
    have := (List.getElem?_eq_some_iff.1 hk).1
    have e : (Months.map tl).length = 12 := rfl
    omega
section
variable (u : U)
/-- The steps at an until's own texts. -/
theorem step0 (v : U) (h : InCal u.y u.m) : step 0 v ⟨(Lib.itoa u.y).toArray⟩ = (⟨u.y, v.m, v.k, v.n, v.d, v.s, v.c⟩, 0) := by
  unfold step yearSt
  rw [if_pos rfl, tl_mk, year_itoa u.y h.1 h.2.1, yearV_of u.y h.1, yearB_of u.y h.1 h.2.1]
  rfl
theorem step1 (v : U) (h : InCal u.y u.m) : step 1 v (textOf Months (u.m - 1)) = (⟨v.y, u.m, v.k, v.n, v.d, v.s, v.c⟩, 0) := by
  unfold step monthSt
  rw [if_neg (by omega), if_pos rfl, pick_month u.m h.2.2.1 h.2.2.2, if_neg (by have := h.2.2.1; omega)]
theorem step2 (v : U) (h : Dy.Ok u.k u.n u.d) : step 2 v ⟨(Dy.text u.k u.n u.d).toArray⟩ = (⟨v.y, v.m, u.k, u.n, u.d, v.s, v.c⟩, 0) := by
  unfold step daySt
  rw [if_neg (by omega), if_neg (by omega), if_pos rfl, tl_mk, Dy.told_text u.k u.n u.d h]
  simp only
  rw [if_pos h]
theorem step3 (v : U) (h : Ok u.s u.c) (h0 : 0 ≤ u.c) : step 3 v ⟨(text u.s u.c).toArray⟩ = (⟨v.y, v.m, v.k, v.n, v.d, u.s, u.c⟩, 0) := by
  unfold step momSt
  rw [if_neg (by omega), if_neg (by omega), if_neg (by omega), parse_text u.s u.c h h0]
end
theorem u_eta (u : U) : (⟨u.y, u.m, u.k, u.n, u.d, u.s, u.c⟩ : U) = u := by cases u; rfl
theorem mom_zero (s c : Int) (h : Ok s c) (h0 : 0 ≤ c) : (⟨(text s c).toArray⟩ : ByteArray) = u3 ↔ s = 0 ∧ c = 0 := by
  constructor
  · intro e
    have a := parse_text s c h h0
    rw [e] at a
    have b : parse u3 = ((0, 0), 0) := by decide +kernel
    rw [b] at a
    simp at a
    exact ⟨a.1.symm, a.2.symm⟩
  · rintro ⟨rfl, rfl⟩
    unfold text
    rw [text_eq]
    decide +kernel
theorem day_one (k n d : Int) (h : Dy.Ok k n d) : (⟨(Dy.text k n d).toArray⟩ : ByteArray) = u2 ↔ k = 0 ∧ n = 1 ∧ d = 0 := by
  constructor
  · intro e
    have a := Dy.told_text k n d h
    have e2 : Dy.text k n d = [49] := by
      have := congrArg tl e
      rw [tl_mk] at this
      exact this
    rw [e2] at a
    have b : Dy.told [49] = (0, 1, 0) := by decide +kernel
    rw [b] at a
    simp at a
    exact ⟨a.1.symm, a.2.1.symm, a.2.2.symm⟩
  · rintro ⟨rfl, rfl, rfl⟩
    decide +kernel
theorem month_jan (m : Int) (h1 : 1 ≤ m) (h2 : m ≤ 12) : textOf Months (m - 1) = u1 ↔ m = 1 := by
  have hm : m = 1 ∨ m = 2 ∨ m = 3 ∨ m = 4 ∨ m = 5 ∨ m = 6 ∨ m = 7 ∨ m = 8 ∨ m = 9 ∨ m = 10 ∨ m = 11 ∨ m = 12 := by omega
  rcases hm with rfl | rfl | rfl | rfl | rfl | rfl | rfl | rfl | rfl | rfl | rfl | rfl <;> decide +kernel
/-- How many texts there are. -/
theorem count_of (u : U) (h : u.Ok) (hc : 0 ≤ u.c) : u.count = if u.s = 0 ∧ u.c = 0 then (if u.k = 0 ∧ u.n = 1 ∧ u.d = 0 then (if u.m = 1 then 1 else 2) else 3) else 4 := by
  obtain ⟨hi, hd, hm⟩ := h
  unfold U.count
  by_cases a : u.s = 0 ∧ u.c = 0
  · rw [if_pos a, if_pos ((mom_zero u.s u.c hm hc).2 a)]
    by_cases b : u.k = 0 ∧ u.n = 1 ∧ u.d = 0
    · rw [if_pos b, if_pos ((day_one u.k u.n u.d hd).2 b)]
      by_cases c : u.m = 1
      · rw [if_pos c, if_pos ((month_jan u.m hi.2.2.1 hi.2.2.2).2 c)]
      · rw [if_neg c, if_neg (fun x => c ((month_jan u.m hi.2.2.1 hi.2.2.2).1 x))]
    · rw [if_neg b, if_neg (fun x => b ((day_one u.k u.n u.d hd).1 x))]
  · rw [if_neg a, if_neg (fun x => a ((mom_zero u.s u.c hm hc).1 x))]
theorem uParse_run (l : List ByteArray) (h0 : l.length ≠ 0) (h4 : l.length ≤ 4) : uParse l = run l 0 U.one := by
  unfold uParse
  rw [if_neg h0, if_neg (by omega)]
/-- What the first j texts tell. -/
def first (u : U) (j : Nat) : U :=
  if j = 1 then ⟨u.y, 1, 0, 1, 0, 0, 0⟩ else if j = 2 then ⟨u.y, u.m, 0, 1, 0, 0, 0⟩ else if j = 3 then ⟨u.y, u.m, u.k, u.n, u.d, 0, 0⟩ else u
theorem parse_first (u : U) (h : u.Ok) (hc : 0 ≤ u.c) (j : Nat) (h1 : 1 ≤ j) (h4 : j ≤ 4) : uParse (u.full.take j) = (first u j, 0, 0) := by
  obtain ⟨hi, hd, hm⟩ := h
  have hj : j = 1 ∨ j = 2 ∨ j = 3 ∨ j = 4 := by omega
  have s0 := step0 u U.one hi
  have s1 := step1 u ⟨u.y, 1, 0, 1, 0, 0, 0⟩ hi
  have s2 := step2 u ⟨u.y, u.m, 0, 1, 0, 0, 0⟩ hd
  have s3 := step3 u ⟨u.y, u.m, u.k, u.n, u.d, 0, 0⟩ hm hc
  have e0 : (⟨u.y, U.one.m, U.one.k, U.one.n, U.one.d, U.one.s, U.one.c⟩ : U) = ⟨u.y, 1, 0, 1, 0, 0, 0⟩ := rfl
  rw [e0] at s0
  rcases hj with rfl | rfl | rfl | rfl
  · show uParse [⟨(Lib.itoa u.y).toArray⟩] = _
    rw [uParse_run _ (by simp) (by simp)]
    simp only [run, s0, if_true]
    rfl
  · show uParse [⟨(Lib.itoa u.y).toArray⟩, textOf Months (u.m - 1)] = _
    rw [uParse_run _ (by simp) (by simp)]
    simp only [run, s0, s1, if_true, Nat.zero_add]
    rfl
  · show uParse [⟨(Lib.itoa u.y).toArray⟩, textOf Months (u.m - 1), ⟨(Dy.text u.k u.n u.d).toArray⟩] = _
    rw [uParse_run _ (by simp) (by simp)]
    simp only [run, s0, s1, s2, if_true, Nat.zero_add]
    rfl
  · show uParse [⟨(Lib.itoa u.y).toArray⟩, textOf Months (u.m - 1), ⟨(Dy.text u.k u.n u.d).toArray⟩, ⟨(text u.s u.c).toArray⟩] = _
    rw [uParse_run _ (by simp) (by simp)]
    simp only [run, s0, s1, s2, s3, if_true, Nat.zero_add, u_eta]
    rfl
theorem count_bd (u : U) : 1 ≤ u.count ∧ u.count ≤ 4 := by
  unfold U.count
  split <;> (try split) <;> (try split) <;> omega
theorem texts_len (u : U) : u.texts.length = u.count := by
  have := count_bd u
  unfold U.texts U.full
  simp
  omega
/-- A right until is read from its texts. -/
theorem parse_texts (u : U) (h : u.Ok) (hc : 0 ≤ u.c) : uParse u.texts = (u, 0, 0) := by
  have hb := count_bd u
  unfold U.texts
  rw [parse_first u h hc u.count hb.1 hb.2]
  have e : first u u.count = u := by
    rw [count_of u h hc]
    by_cases a : u.s = 0 ∧ u.c = 0
    · rw [if_pos a]
      by_cases b : u.k = 0 ∧ u.n = 1 ∧ u.d = 0
      · rw [if_pos b]
        by_cases c : u.m = 1
        · rw [if_pos c]
          show (⟨u.y, 1, 0, 1, 0, 0, 0⟩ : U) = u
          obtain ⟨y, m, k, n, d, s, cc⟩ := u
          simp at a b c
          obtain ⟨rfl, rfl⟩ := a
          obtain ⟨rfl, rfl, rfl⟩ := b
          subst c
          rfl
        · rw [if_neg c]
          show (⟨u.y, u.m, 0, 1, 0, 0, 0⟩ : U) = u
          obtain ⟨y, m, k, n, d, s, cc⟩ := u
          simp at a b
          obtain ⟨rfl, rfl⟩ := a
          obtain ⟨rfl, rfl, rfl⟩ := b
          rfl
      · rw [if_neg b]
        show (⟨u.y, u.m, u.k, u.n, u.d, 0, 0⟩ : U) = u
        obtain ⟨y, m, k, n, d, s, cc⟩ := u
        simp at a
        obtain ⟨rfl, rfl⟩ := a
        rfl
    · rw [if_neg a]
      rfl
  rw [e]
/-- One text fewer tells another until. -/
theorem parse_fewer (u : U) (h : u.Ok) (hc : 0 ≤ u.c) : (uParse (u.texts.take (u.count - 1))).1 ≠ u := by
  have hb := count_bd u
  have ht : u.texts.take (u.count - 1) = u.full.take (u.count - 1) := by
    unfold U.texts
    rw [List.take_take, Nat.min_eq_left (by omega)]
  rw [ht]
  by_cases h1 : u.count = 1
  · rw [h1]
    show U.zero ≠ u
    intro e
    have : u.y = 0 := by rw [← e]; rfl
    have := h.1.1
    omega
  · rw [parse_first u h hc (u.count - 1) (by omega) (by omega)]
    have hco := count_of u h hc
    intro e
    by_cases a : u.s = 0 ∧ u.c = 0
    · rw [if_pos a] at hco
      by_cases b : u.k = 0 ∧ u.n = 1 ∧ u.d = 0
      · rw [if_pos b] at hco
        by_cases c : u.m = 1
        · rw [if_pos c] at hco; exact h1 hco
        · rw [if_neg c] at hco
          rw [hco] at e
          apply c
          rw [← e]; rfl
      · rw [if_neg b] at hco
        rw [hco] at e
        apply b
        rw [← e]
        exact ⟨rfl, rfl, rfl⟩
    · rw [if_neg a] at hco
      rw [hco] at e
      apply a
      rw [← e]
      exact ⟨rfl, rfl⟩
/-- Right but for the year. -/
def Half (u : U) : Prop := (1 ≤ u.m ∧ u.m ≤ 12) ∧ Dy.Ok u.k u.n u.d ∧ Ok u.s u.c ∧ 0 ≤ u.c
theorem step_ok (k : Nat) (u u' : U) (t : ByteArray) (h : step k u t = (u', 0)) (hu : Half u) : Half u' ∧ (k = 0 → 1 ≤ u'.y ∧ u'.y ≤ 9999) ∧ (k ≠ 0 → u'.y = u.y) := by
  obtain ⟨h1, h2, h3, h4⟩ := hu
  unfold step at h
  by_cases k0 : k = 0
  · rw [if_pos k0] at h
    unfold yearSt at h
    have e := Prod.mk.inj h
    rw [← e.1]
    refine ⟨⟨h1, h2, h3, h4⟩, fun _ => ?_, fun x => absurd k0 x⟩
    have hb : yearB (yearN (tl t)) = true := by
      cases hx : yearB (yearN (tl t))
      · rw [hx] at e; simp at e
      · rfl
    unfold yearB at hb
    rw [decide_eq_true_eq] at hb
    show 1 ≤ yearV (yearN (tl t)) ∧ yearV (yearN (tl t)) ≤ 9999
    unfold yearV
    rw [if_neg (by omega)]
    exact hb
  · rw [if_neg k0] at h
    refine ⟨?_, fun x => absurd x k0, fun _ => ?_⟩
    · by_cases k1 : k = 1
      · rw [if_pos k1] at h
        unfold monthSt at h
        have e := Prod.mk.inj h
        rw [← e.1]
        have hb := pick_months_bd (tl t)
        have hz : ¬ Wd.pick (tl t) (Months.map tl) + 1 = 0 := by intro x; rw [if_pos x] at e; simp at e
        exact ⟨⟨by show 1 ≤ _ + 1; omega, by show _ + 1 ≤ 12; omega⟩, h2, h3, h4⟩
      · rw [if_neg k1] at h
        by_cases k2 : k = 2
        · rw [if_pos k2] at h
          unfold daySt at h
          by_cases hd : Dy.Ok (Dy.told (tl t)).1 (Dy.told (tl t)).2.1 (Dy.told (tl t)).2.2
          · rw [if_pos hd] at h
            have e := Prod.mk.inj h
            rw [← e.1]
            exact ⟨h1, hd, h3, h4⟩
          · rw [if_neg hd] at h
            have e := (Prod.mk.inj h).2
            simp at e
        · rw [if_neg k2] at h
          unfold momSt at h
          have e := Prod.mk.inj h
          rw [← e.1]
          have hp := parse_ok t (parse t).1.1 (parse t).1.2 (by rw [← e.2])
          exact ⟨h1, h2, hp.1, hp.2⟩
    · by_cases k1 : k = 1
      · rw [if_pos k1] at h; rw [← (Prod.mk.inj h).1]
      · rw [if_neg k1] at h
        by_cases k2 : k = 2
        · rw [if_pos k2] at h
          unfold daySt at h
          split at h
          · rw [← (Prod.mk.inj h).1]
          · rw [← (Prod.mk.inj h).1]
        · rw [if_neg k2] at h; rw [← (Prod.mk.inj h).1]
theorem run_ok : ∀ (l : List ByteArray) (k : Nat) (u : U), Half u → (k ≠ 0 → 1 ≤ u.y ∧ u.y ≤ 9999) → (k = 0 → l ≠ []) →
    ((run l k u).2.2 = 0 ∧ (run l k u).2.1 = 0 ∧ (run l k u).1.Ok ∧ 0 ≤ (run l k u).1.c) ∨ ((run l k u).2.2 ≠ 0 ∧ (run l k u).1 = U.zero ∧ (k : Int) ≤ (run l k u).2.1 ∧ (run l k u).2.1 < k + l.length)
  | [], k, u, hu, hy, hk => by
    left
    have : k ≠ 0 := fun x => hk x rfl
    refine ⟨rfl, rfl, ⟨⟨(hy this).1, (hy this).2, hu.1.1, hu.1.2⟩, hu.2.1, hu.2.2.1⟩, hu.2.2.2⟩
  | t :: r, k, u, hu, hy, hk => by
    unfold run
    by_cases h : (step k u t).2 = 0
    · rw [if_pos h]
      have hs := step_ok k u (step k u t).1 t (by rw [← h]) hu
      have := run_ok r (k + 1) (step k u t).1 hs.1 (fun _ => by
        by_cases k0 : k = 0
        · exact hs.2.1 k0
        · rw [hs.2.2 k0]; exact hy k0) (fun x => by omega)
      rcases this with this | ⟨a, b, c, d⟩
      · exact .inl this
      · exact .inr ⟨a, b, by omega, by rw [List.length_cons]; omega⟩
    · rw [if_neg h]
      right
      exact ⟨h, rfl, by simp, by simp; omega⟩
theorem half_one : Half U.one := ⟨⟨by decide, by decide⟩, by decide, by decide, by decide⟩
/-- What is read is right; else the place that is told is one of the texts', or their end. -/
theorem uParse_ok (l : List ByteArray) : ((uParse l).2.2 = 0 ∧ (uParse l).2.1 = 0 ∧ (uParse l).1.Ok ∧ 0 ≤ (uParse l).1.c) ∨ ((uParse l).2.2 ≠ 0 ∧ (uParse l).1 = U.zero ∧ 0 ≤ (uParse l).2.1 ∧ (uParse l).2.1 ≤ 4 ∧ (uParse l).2.1 ≤ l.length) := by
  unfold uParse
  by_cases h0 : l.length = 0
  · rw [if_pos h0]; right; exact ⟨by decide, rfl, by decide, by decide, by simp⟩
  · rw [if_neg h0]
    by_cases h4 : 4 < l.length
    · rw [if_pos h4]; right; exact ⟨by decide, rfl, by decide, by decide, by show (4 : Int) ≤ _; omega⟩
    · rw [if_neg h4]
      rcases run_ok l 0 U.one half_one (fun x => absurd rfl x) (fun _ x => h0 (by rw [x]; rfl)) with a | ⟨a, b, c, d⟩
      · exact .inl a
      · exact .inr ⟨a, b, by omega, by omega, by omega⟩
end Mo
end Go.Proofs.YthmhadgbhakdlaaDoor

/- The contract of rule.read: one text of a rule. -/
namespace Go.Proofs.YthmhadgbhakdlaaDoor
open Go.RowKit

theorem At.grown {w w' : World} {h g : Nat} {xs : List Value} (a : At w h xs) (hg : w.grownBy w' (some g)) (hne : h ≠ g) : At w' h xs :=
  ⟨Nat.lt_of_lt_of_le a.1 hg.size, fun i v hi => ⟨(hg.cell_far ⟨h, i, none⟩ a.1 (by intro e; injection e with e; exact hne e)).trans (a.2 i v hi).1, (hg.frozen_far ⟨h, i, none⟩ a.1 (by intro e; injection e with e; exact hne e)).trans (a.2 i v hi).2⟩⟩
namespace Ru
/-- What the text at place k makes of a rule, and why it does not. -/
def rstep (k : Nat) (r : R) (x : ByteArray) : R × Int :=
  if k = 0 then (⟨x, r.fr, r.tt, r.mo, r.k, r.n, r.d, r.s, r.c, r.sv, r.lt⟩, if name (tl x) = true then 0 else 7)
  else if k = 1 then (⟨r.nm, Mo.yearV (Mo.yearN (tl x)), r.tt, r.mo, r.k, r.n, r.d, r.s, r.c, r.sv, r.lt⟩, if Mo.yearB (Mo.yearN (tl x)) = true then 0 else 4)
  else if k = 2 then (⟨r.nm, r.fr, (toS x r.fr).1, r.mo, r.k, r.n, r.d, r.s, r.c, r.sv, r.lt⟩, (toS x r.fr).2)
  else if k = 3 then (r, if x = ⟨#[45]⟩ then 0 else 4)
  else if k = 4 then (⟨r.nm, r.fr, r.tt, Wd.pick (tl x) (Months.map tl) + 1, r.k, r.n, r.d, r.s, r.c, r.sv, r.lt⟩, if Wd.pick (tl x) (Months.map tl) + 1 = 0 then 7 else 0)
  else if k = 5 then (if Dy.Ok (Dy.told (tl x)).1 (Dy.told (tl x)).2.1 (Dy.told (tl x)).2.2 then (⟨r.nm, r.fr, r.tt, r.mo, (Dy.told (tl x)).1, (Dy.told (tl x)).2.1, (Dy.told (tl x)).2.2, r.s, r.c, r.sv, r.lt⟩, 0) else (⟨r.nm, r.fr, r.tt, r.mo, 0, 0, 0, r.s, r.c, r.sv, r.lt⟩, 4))
  else if k = 6 then (⟨r.nm, r.fr, r.tt, r.mo, r.k, r.n, r.d, (Mo.parse x).1.1, (Mo.parse x).1.2, r.sv, r.lt⟩, (Mo.parse x).2)
  else if k = 7 then (if x = ⟨#[45]⟩ then (r, 0) else (⟨r.nm, r.fr, r.tt, r.mo, r.k, r.n, r.d, r.s, r.c, (Ck.parse x).1, r.lt⟩, (Ck.parse x).2))
  else (if x = ⟨#[45]⟩ then (r, 0) else (⟨r.nm, r.fr, r.tt, r.mo, r.k, r.n, r.d, r.s, r.c, r.sv, x⟩, if Ab.letter x = true then 0 else 4))
/-- What a call of read leaves. -/
def Rd (g : Nat) (w : World) (r : R) (why : Int) (e : Ending) (w' : World) : Prop := e = .returned (.int .i64 why) ∧ At w' g r.cells ∧ w.grownBy w' (some g)
end Ru
theorem dash_yes (x : ByteArray) (h : x = ⟨#[45]⟩) : (x.toList == [45]) = true := by rw [h, ByteArray.toList_eq]; rfl
end Go.Proofs.YthmhadgbhakdlaaDoor

/- The contract of rule.Parse. -/
namespace Go.Proofs.YthmhadgbhakdlaaDoor
open Go.RowKit

theorem At.eleven {w : World} {g : Nat} {r : Ru.R} (h : At w g r.cells) :
    (w.cell? ⟨g, 0, none⟩ = some (.string r.nm) ∧ w.cell? ⟨g, 1, none⟩ = some (.int .i64 r.fr) ∧ w.cell? ⟨g, 2, none⟩ = some (.int .i64 r.tt) ∧ w.cell? ⟨g, 3, none⟩ = some (.int .i64 r.mo) ∧ w.cell? ⟨g, 4, none⟩ = some (.int .u8 r.k) ∧ w.cell? ⟨g, 5, none⟩ = some (.int .i64 r.n) ∧ w.cell? ⟨g, 6, none⟩ = some (.int .i64 r.d) ∧ w.cell? ⟨g, 7, none⟩ = some (.int .i64 r.s) ∧ w.cell? ⟨g, 8, none⟩ = some (.int .u8 r.c) ∧ w.cell? ⟨g, 9, none⟩ = some (.int .i64 r.sv) ∧ w.cell? ⟨g, 10, none⟩ = some (.string r.lt)) ∧ (w.frozen? ⟨g, 0, none⟩ = false ∧ w.frozen? ⟨g, 1, none⟩ = false ∧ w.frozen? ⟨g, 2, none⟩ = false ∧ w.frozen? ⟨g, 3, none⟩ = false ∧ w.frozen? ⟨g, 4, none⟩ = false ∧ w.frozen? ⟨g, 5, none⟩ = false ∧ w.frozen? ⟨g, 6, none⟩ = false ∧ w.frozen? ⟨g, 7, none⟩ = false ∧ w.frozen? ⟨g, 8, none⟩ = false ∧ w.frozen? ⟨g, 9, none⟩ = false ∧ w.frozen? ⟨g, 10, none⟩ = false) :=
  ⟨⟨h.cell 0 _ rfl, h.cell 1 _ rfl, h.cell 2 _ rfl, h.cell 3 _ rfl, h.cell 4 _ rfl, h.cell 5 _ rfl, h.cell 6 _ rfl, h.cell 7 _ rfl, h.cell 8 _ rfl, h.cell 9 _ rfl, h.cell 10 _ rfl⟩, ⟨h.free 0 _ rfl, h.free 1 _ rfl, h.free 2 _ rfl, h.free 3 _ rfl, h.free 4 _ rfl, h.free 5 _ rfl, h.free 6 _ rfl, h.free 7 _ rfl, h.free 8 _ rfl, h.free 9 _ rfl, h.free 10 _ rfl⟩⟩
namespace Ru
def run : List ByteArray → Nat → R → R × Int × Int
  | [], _, r => (r, 0, 0)
  | t :: l, k, r => if (rstep k r t).2 = 0 then run l (k + 1) (rstep k r t).1 else (R.zero, k, (rstep k r t).2)
def parse (l : List ByteArray) : R × Int × Int :=
  if (run (l.take 9) 0 R.zero).2.2 = 0 then (if l.length < 9 then (R.zero, l.length, 5) else if 9 < l.length then (R.zero, 9, 6) else ((run (l.take 9) 0 R.zero).1, 0, 0)) else run (l.take 9) 0 R.zero
theorem run_bad (l : List ByteArray) (k : Nat) (r : R) (t : ByteArray) (P : R × Int × Int) (h : P = run (l.drop k) k r) (ht : l[k]? = some t) (he : (rstep k r t).2 ≠ 0) : P = (R.zero, (k : Int), (rstep k r t).2) := by
  rw [h, drop_of ht, run, if_neg he]
theorem run_next (l : List ByteArray) (k : Nat) (r : R) (t : ByteArray) (P : R × Int × Int) (h : P = run (l.drop k) k r) (ht : l[k]? = some t) (he : (rstep k r t).2 = 0) : P = run (l.drop (k + 1)) (k + 1) (rstep k r t).1 := by
  rw [h, drop_of ht, run, if_pos he]
theorem run_end (l : List ByteArray) (k : Nat) (r : R) (P : R × Int × Int) (h : P = run (l.drop k) k r) (hk : l.length = k) : P = (r, 0, 0) := by
  rw [h, List.drop_eq_nil_of_le (by omega)]; rfl
def PRel (w : World) (m : Nat) (L : List ByteArray) (P : R × Int × Int) (i : Value) (wr : World) : Prop :=
  ∃ (k : Nat) (r : R), k ≤ m ∧ i = .int .i64 k ∧ Hid (At wr (w.heap.size + 1) r.cells) ∧ Hid (At wr w.heap.size R.zero.cells) ∧ Hid (Below w.heap.size w wr) ∧ Hid (P = run (L.drop k) k r)
end Ru
end Go.Proofs.YthmhadgbhakdlaaDoor

/- A region that draws its order: calls that only make memory, and at its end operations in one order (a slice that is built of their results, or a store). One walk, in the order of the text. -/
namespace Go.Proofs.YthmhadgbhakdlaaDoor
open Go.RowKit Go.Sort

section
variable {P : Program} {ops : Array Oper} {md : Region.Mode} {C : World → Prop}

/-- The first n operations in whatever order, each quiet in the class; behind them L. -/
def headAll (P : Program) (md : Region.Mode) (ops : Array Oper) (C : World → Prop) (n : Nat) (L : Array Bool → Act → Prop) : Nat → Array Bool → Act → Prop
  | 0, s, a => L s a
  | f + 1, s, a => Region.ready md ops s ≠ [] ∧ ∀ i ∈ Region.ready md ops s, i < n ∧ qOp P ops C i (headAll P md ops C n L f (s.setIfInBounds i true)) a

theorem any_of_head {n g : Nat} {L : Array Bool → Act → Prop} {Q : Exit → Act → World → Prop} (hL : ∀ s a w, C w → L s a → wpAny P md ops Q g s a w) :
    ∀ (f : Nat) (s : Array Bool) (a : Act) (w : World), C w → headAll P md ops C n L f s a → wpAny P md ops Q (f + g) s a w
  | 0, s, a, w, hw, h => by rw [Nat.zero_add]; exact hL _ _ _ hw h
  | f + 1, s, a, w, hw, h => by
    rw [show f + 1 + g = (f + g) + 1 by omega]
    exact ⟨fun h0 => absurd h0 h.1, fun i hi => wpOp_of_qOp hw (fun a' w' hw' h' => any_of_head hL f _ a' w' hw' h') (h.2 i hi).2⟩

theorem head_first {n i : Nat} {oi : Oper} {v : Value} {L : Array Bool → Act → Prop} (hi : ops[i]? = some oi) (hsel : ∀ (j : Nat) (o : Oper) cs b, ops[j]? = some o → o.op ≠ .select cs b)
    (hs : Region.sinkB md ops n = true) (hc : Region.chainB md ops n = true) (hn : n < ops.size) (hin : i < n) (hdone : ∀ s a, L s a → ∀ j ∈ Region.ready md ops s, n ≤ j) :
    ∀ (f : Nat) (s : Array Bool) (a : Act), HeadInv md ops n s →
      (∀ j oj, ops[j]? = some oj → j ≠ i → s.getD j true = false → (∀ e ∈ oj.after, Region.binds md e = true → e.on ≠ i) → oi.apart ops oj = true) →
      i ∈ Region.ready md ops s → YieldsIn P ops C oi v a →
      headAll P md ops C n L f (s.setIfInBounds i true) (a.put oi.dst v) → headAll P md ops C n L (f + 1) s a := by
  intro f
  induction f with
  | zero =>
    intro s a inv _ hr hy H
    have hun := (mem_ready.1 hr).1
    refine ⟨fun h => (by rw [h] at hr; cases hr), fun j hj => ?_⟩
    have hjn : j < n := by
      rcases Nat.lt_or_ge j n with h | h
      · exact h
      · exact absurd hj (tail_waits hs hc hn inv _ i rfl hin hun j h)
    refine ⟨hjn, ?_⟩
    by_cases hji : j = i
    · subst hji; exact hy.qOp hi H
    · have := hdone _ _ H j (ready_mono hj hji)
      omega
  | succ f ih =>
    intro s a inv hfree hr hy H
    have hun := (mem_ready.1 hr).1
    refine ⟨fun h => (by rw [h] at hr; cases hr), fun j hj => ?_⟩
    have hjn : j < n := by
      rcases Nat.lt_or_ge j n with h | h
      · exact h
      · exact absurd hj (tail_waits hs hc hn inv _ i rfl hin hun j h)
    refine ⟨hjn, ?_⟩
    by_cases hji : j = i
    · subst hji; exact hy.qOp hi H
    · have h1 := (H.2 j (ready_mono hj hji)).2
      obtain ⟨hjun, oj, hoj, hall⟩ := mem_ready.1 hj
      have hnot : ∀ e ∈ oj.after, Region.binds md e = true → e.on ≠ i := fun e he hb heq => by
        have h1 := hall e he hb
        rw [heq, getD_both hun] at h1
        cases h1
      have h2 := qOp_put hoj (hfree j oj hoj hji hjun hnot) (fun cs b => hsel i oi cs b hi) (fun cs b => hsel j oj cs b hoj) hy h1
      have hfree' : ∀ k ok, ops[k]? = some ok → k ≠ i → (s.setIfInBounds j true).getD k true = false →
          (∀ e ∈ ok.after, Region.binds md e = true → e.on ≠ i) → oi.apart ops ok = true := fun k ok hk hki hu hno => by
        refine hfree k ok hk hki ?_ hno
        by_cases hjk : j = k
        · subst hjk; exact hjun
        · rw [getD_set_ne true hjk] at hu; exact hu
      refine qOp_mono (fun a' h3 => ih (s.setIfInBounds j true) a' (inv.set hj hjn) hfree' (ready_mono hr (Ne.symm hji)) h3.1 ?_) h2
      rw [Array.setIfInBounds_comm _ _ hji]
      exact h3.2

theorem head_lex {n g : Nat} {Lq : Act → Prop} (hsel : Region.noSelect ops = true) (hs : Region.sinkB md ops n = true) (hc : Region.chainB md ops n = true) (hn : n < ops.size) :
    ∀ (l : List Oper) (k : Nat) (s : Array Bool) (a : Act), (∀ j, j < l.length → l[j]? = ops[k + j]?) → k + l.length = n → HeadInv md ops n s →
    Region.lexHead md ops g l.length k s = true → wpQuiet P ops C Lq l a →
    headAll P md ops C n (fun s' a' => Region.seqB md ops g n s' = true ∧ Lq a') l.length s a
  | [], k, s, a, _, hk, _, hB, h => by
    have : k = n := by simpa using hk
    subst this
    exact ⟨by simpa [Region.lexHead] using hB, h⟩
  | o :: l, k, s, a, hl, hk, inv, hB, h => by
    have h0 : ops[k]? = some o := by simpa using (hl 0 (by simp)).symm
    simp only [List.length_cons, Region.lexHead, Bool.and_eq_true] at hB
    obtain ⟨⟨hr, hf⟩, hB'⟩ := hB
    have hkn : k < n := by simp only [List.length_cons] at hk; omega
    have hr' : k ∈ Region.ready md ops s := by simpa using hr
    have hst : qOp P ops C k (wpQuiet P ops C Lq l) a := by unfold qOp; simp only [h0]; exact h
    obtain ⟨v, hy, hK⟩ := yieldsIn_of_qOp h0 hst
    exact head_first h0 (Region.noSelect_spec hsel) hs hc hn hkn (fun s' a' hL => seqB_ready hL.1) l.length s a inv (Region.free_spec h0 hf) hr' hy
      (head_lex hsel hs hc hn l (k + 1) _ _ (fun j hj => by have := hl (j + 1) (by simp; omega); simpa [Nat.add_assoc, Nat.add_comm 1 j] using this) (by simp only [List.length_cons] at hk; omega) (inv.set hr' hkn) hB' hK)

/-- The region, n operations of it quiet in the class, the others in their order behind them. -/
theorem wp_region_quiet_tail {id : Nat} {Q : Exit → Act → World → Prop} {a : Act} {w : World} {l : List Oper} (n : Nat) (hm : P.follows .mixedOrders = true) (hB : Region.lexTailB .any l.toArray n = true) (hC : C { w with drawn := w.drawn + 1 })
    (h : wpQuiet P l.toArray C (fun a' => ∀ w', C w' → wpList P l.toArray Q (l.drop n) a' w') (l.take n) a) : (Code.region id l.toArray true).wp P Q a w := by
  simp only [Region.lexTailB, Bool.and_eq_true, decide_eq_true_eq] at hB
  obtain ⟨⟨⟨⟨hsel, hn⟩, hs⟩, hc⟩, hlex⟩ := hB
  have hn' : n < l.length := by simpa using hn
  have htl : (l.take n).length = n := by simp; omega
  have hdl : (l.drop n).length = l.toArray.size - n := by simp
  have inv0 : HeadInv .any l.toArray n (Array.replicate l.toArray.size false) :=
    ⟨by simp, fun j oj _ hl => (by rw [getD_replicate_false] at hl; cases hl), fun t _ ht => getD_in (by simpa using ht) (getD_replicate_false _ _)⟩
  have H := head_lex (md := .any) (g := l.toArray.size - n) hsel hs hc hn (l.take n) 0 _ a (fun j hj => by
    have hj' : j < n := by rw [htl] at hj; exact hj
    simp [hj']) (by simpa using htl) inv0 (by rw [htl]; exact hlex) h
  refine wp_region_any hm ?_
  have := any_of_head (Q := Q) (g := l.toArray.size - n) (fun s a' w' hw' hL => by
    have := wpAny_of_seq (md := .any) (Q' := Q) (l.drop n) n s a' w' (fun j => by simp [List.getElem?_drop]) (by rw [hdl]; exact hL.1) (hL.2 w' hw')
    rwa [hdl] at this) _ _ _ _ hC H
  rw [htl, show n + (l.toArray.size - n) = l.toArray.size by omega] at this
  exact this
/-- The same at the class of the worlds that have some blocks more. -/
theorem wp_region_tail {id : Nat} {Q : Exit → Act → World → Prop} {a : Act} {w : World} {l : List Oper} (n : Nat) (hm : P.follows .mixedOrders = true) (hB : Region.lexTailB .any l.toArray n = true)
    (h : wpQuiet P l.toArray (fun w' => ∃ p : Regrown, w' = grow (redrawn w p.d) p.os) (fun a' => ∀ w', (∃ p : Regrown, w' = grow (redrawn w p.d) p.os) → wpList P l.toArray Q (l.drop n) a' w') (l.take n) a) : (Code.region id l.toArray true).wp P Q a w :=
  wp_region_quiet_tail (C := fun w' => ∃ p : Regrown, w' = grow (redrawn w p.d) p.os) n hm hB ⟨⟨w.drawn + 1, #[]⟩, by rw [grow_empty]; rfl⟩ h
end
end Go.Proofs.YthmhadgbhakdlaaDoor

/- The contract of rule.Text. -/
namespace Go.Proofs.YthmhadgbhakdlaaDoor
open Go.RowKit Go.Sort

namespace Ru
def R.last (r : R) : ByteArray := if r.tt = r.fr then only else if r.tt = 9999 then ⟨#[109, 97, 120]⟩ else ⟨(Lib.itoa r.tt).toArray⟩
def R.lett (r : R) : ByteArray := if r.lt = ⟨#[]⟩ then ⟨#[45]⟩ else r.lt
/-- The nine texts of a rule. -/
def R.texts (r : R) : List ByteArray := [r.nm, ⟨(Lib.itoa r.fr).toArray⟩, r.last, ⟨#[45]⟩, textOf Months (r.mo - 1), ⟨(Dy.text r.k r.n r.d).toArray⟩, ⟨(Mo.text r.s r.c).toArray⟩, ⟨(Ck.text r.sv).toArray⟩, r.lett]
end Ru
theorem ru_reads (w : World) (g : Nat) (l : List ByteArray) (t : TypeId) (hg : g = w.heap.size) : Reads (w.alloc (.cells (strCells l) t)) (w.alloc (.cells (strCells l) t)).heap.size 1 (some ⟨g, 0, none⟩) l.length (l.map Value.string) := by
  subst hg
  exact reads_new w l t
theorem empty_no (s : ByteArray) (h : ¬ s = ⟨#[]⟩) : s.toList.isEmpty = false := by
  rw [ByteArray.toList_eq]
  cases e : s.data.toList with
  | nil =>
    exfalso
    apply h
    apply ByteArray.ext
    apply Array.ext'
    rw [e]
  | cons a l => rfl
end Go.Proofs.YthmhadgbhakdlaaDoor
