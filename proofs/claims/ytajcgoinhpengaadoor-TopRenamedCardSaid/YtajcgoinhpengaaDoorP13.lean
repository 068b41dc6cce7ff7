/- Plain law of eras: a right era is read from its texts; what is read is right, and has no more texts than it was read from. -/
import Derived.Test.YtajcgoinhpengaaDoorP10
import Derived.Test.YtajcgoinhpengaaDoorP12
import Derived.Test.YtajcgoinhpengaaDoorP02

namespace Go.Proofs.YtajcgoinhpengaaDoor
open Go.RowKit

namespace Er
theorem dig_mk (c : UInt8) (l : List UInt8) (k : Nat) (h : c = UInt8.ofNat (48 + k)) (hk : k < 10) : digAt ⟨(c :: l).toArray⟩ 0 = true := by
  unfold digAt
  rw [tl_mk]
  have hu := u8_of (48 + k) (by omega)
  simp only [List.getElem?_cons_zero]
  rw [h, hu, decide_eq_true]
  omega
theorem body_head (a : Int) (h : 0 ≤ a) : ∃ (k : Nat) (l : List UInt8), Ck.body a = UInt8.ofNat (48 + k) :: l ∧ k < 10 := by
  obtain ⟨k, l, e, hk⟩ := Ru.dec_head (a / 3600).toNat
  refine ⟨k, l ++ Ck.two (a % 3600 / 60) ++ (if 0 < a % 3600 % 60 then Ck.two (a % 3600 % 60) else []), ?_, hk⟩
  unfold Ck.body Lib.itoa
  rw [if_neg (by omega), e]
  simp
theorem num_text (s : Int) (h : IsTime s) : num ⟨(Ck.text s).toArray⟩ = true := by
  unfold Ck.text
  rw [if_pos h]
  unfold Ck.sign
  by_cases hs : s < 0
  · rw [if_pos hs, if_pos hs]
    obtain ⟨k, l, e, hk⟩ := body_head (-s) (by omega)
    rw [e]
    unfold num
    rw [Bool.or_eq_true]
    right
    rw [Bool.and_eq_true]
    refine ⟨by rw [tl_mk]; rfl, ?_⟩
    unfold digAt
    rw [tl_mk]
    have hu := u8_of (48 + k) (by omega)
    simp only [List.cons_append, List.nil_append, List.getElem?_cons_succ, List.getElem?_cons_zero]
    rw [hu, decide_eq_true]
    omega
  · rw [if_neg hs, if_neg hs]
    obtain ⟨k, l, e, hk⟩ := body_head s (by omega)
    rw [e]
    unfold num
    rw [Bool.or_eq_true]
    left
    exact dig_mk _ l k rfl hk
theorem name_num (s : ByteArray) (h : Ru.name (tl s) = true) : num s = false ∧ ¬ s = ⟨#[45]⟩ := by
  unfold Ru.name at h
  rw [Bool.and_eq_true, decide_eq_true_eq] at h
  obtain ⟨⟨h1, _⟩, h2⟩ := h
  constructor
  · unfold num digAt
    cases e : tl s with
    | nil => rw [e] at h1; simp at h1
    | cons c l =>
      rw [e] at h2
      unfold Ru.nameAll at h2
      have h3 : Ru.letr (c.toNat : Int) = true := by
        have := (Bool.and_eq_true _ _).mp h2 |>.1
        simpa using this
      unfold Ru.letr at h3
      rw [decide_eq_true_eq] at h3
      simp only [List.getElem?_cons_zero]
      rw [Bool.or_eq_false_iff, Bool.and_eq_false_iff]
      refine ⟨by rw [decide_eq_false]; omega, .inl ?_⟩
      rw [decide_eq_false]
      intro hc
      have hc' := Option.some.inj hc
      rw [hc'] at h3
      revert h3
      decide
  · intro hs
    rw [hs] at h2
    revert h2
    decide
theorem std_step (e : E) (v : E) (h : IsTime e.std) : estep 0 v ⟨(Ck.text e.std).toArray⟩ = (⟨e.std, v.k, v.sv, v.ru, v.fm, v.en, v.u⟩, 0) := by
  unfold estep
  rw [if_pos rfl]
  unfold stdS
  rw [if_neg (Ru.text_dash e.std h), Ck.parse_text e.std h]
theorem mid_step (e : E) (v : E) (h : e.Kind) (h0 : v.k = 0) (h1 : v.sv = 0) (h2 : v.ru = ⟨#[]⟩) : estep 1 v e.mid = (⟨v.std, e.k, e.sv, e.ru, v.fm, v.en, v.u⟩, 0) := by
  unfold estep
  rw [if_neg (by omega), if_pos rfl]
  obtain ⟨v0, v1, v2, v3, v4, v5, v6⟩ := v
  simp only at h0 h1 h2
  subst h0 h1 h2
  rcases h with ⟨a, b, c⟩ | ⟨a, b, c⟩ | ⟨a, b, c⟩
  · have hm : e.mid = ⟨#[45]⟩ := by unfold E.mid; rw [if_neg (by omega), if_neg (by omega)]
    rw [hm]
    unfold savS
    rw [if_pos rfl, a, b, c]
  · have hm : e.mid = ⟨(Ck.text e.sv).toArray⟩ := by unfold E.mid; rw [if_pos a]
    rw [hm]
    unfold savS
    rw [if_neg (Ru.text_dash e.sv b), if_pos (num_text e.sv b), Ck.parse_text e.sv b, a, c]
  · have hm : e.mid = e.ru := by unfold E.mid; rw [if_neg (by omega), if_pos a]
    have := name_num e.ru c
    rw [hm]
    unfold savS
    rw [if_neg this.2, if_neg (by rw [this.1]; decide), if_pos c, a, b]
theorem fm_step (e : E) (v : E) (h : Ab.fmt e.fm = true) : estep 2 v e.fm = (⟨v.std, v.k, v.sv, v.ru, e.fm, v.en, v.u⟩, 0) := by
  unfold estep
  rw [if_neg (by omega), if_neg (by omega)]
  unfold fmS
  rw [if_pos h]
theorem run_front (e : E) (h : e.Ok) : run e.front 0 E.zero = (⟨e.std, e.k, e.sv, e.ru, e.fm, false, Mo.U.zero⟩, 0, 0) := by
  obtain ⟨h1, h2, h3, _, _⟩ := h
  unfold E.front
  rw [run, std_step e E.zero h1, if_pos rfl, run, mid_step e _ h3 rfl rfl rfl, if_pos rfl, run, fm_step e _ h2, if_pos rfl, run]
  rfl
theorem take_front (e : E) : e.texts.take 3 = e.front := by
  unfold E.texts
  split
  · rfl
  · rfl
theorem drop_front (e : E) (h : e.en = true) : e.texts.drop 3 = e.u.texts := by
  unfold E.texts
  rw [if_pos h]
  rfl
theorem texts_len (e : E) : e.texts.length = if e.en = true then 3 + e.u.count else 3 := by
  unfold E.texts
  split
  · rw [List.length_append, Mo.texts_len]; rfl
  · rfl
theorem parse_texts (e : E) (h : e.Ok) (hc : 0 ≤ e.u.c) : parse e.texts = (e, 0, 0) := by
  have hr := run_front e h
  have hl := texts_len e
  have hcnt := Mo.count_bd e.u
  unfold parse
  rw [take_front, hr, if_pos rfl]
  by_cases he : e.en = true
  · rw [if_pos he] at hl
    rw [if_neg (by omega), if_neg (by omega), drop_front e he, Mo.parse_texts e.u (h.2.2.2.1 he) hc, if_pos rfl]
    unfold E.until_
    cases e
    simp only at he
    subst he
    rfl
  · rw [if_neg he] at hl
    have he' : e.en = false := by cases hx : e.en; rfl; exact absurd hx he
    rw [if_neg (by omega), if_pos hl]
    have hu := h.2.2.2.2 he'
    cases e
    simp only at hu he'
    subst hu he'
    rfl
/-- Of an era's texts the first ones. -/
theorem parse_some (e : E) (h : e.Ok) (hc : 0 ≤ e.u.c) (j : Nat) (h3 : 3 ≤ j) (hj : j ≤ e.texts.length) :
    ∃ x : E, parse (e.texts.take j) = (x, 0, 0) ∧ x.std = e.std ∧ x.fm = e.fm ∧ x.en = decide (3 < j) ∧ (3 < j → x.u.y = e.u.y) := by
  have hr := run_front e h
  have hl := texts_len e
  have hcnt := Mo.count_bd e.u
  have ht : (e.texts.take j).take 3 = e.front := by rw [List.take_take, Nat.min_eq_left h3, take_front]
  have hlen : (e.texts.take j).length = j := by rw [List.length_take]; omega
  by_cases h4 : 3 < j
  · have he : e.en = true := by
      cases hx : e.en
      · rw [hx] at hl; simp at hl; omega
      · rfl
    rw [if_pos he] at hl
    have hd : (e.texts.take j).drop 3 = e.u.full.take (j - 3) := by
      rw [List.drop_take, drop_front e he]
      unfold Mo.U.texts
      rw [List.take_take, Nat.min_eq_left (by omega)]
    have hp := Mo.parse_first e.u (h.2.2.2.1 he) hc (j - 3) (by omega) (by omega)
    refine ⟨⟨e.std, e.k, e.sv, e.ru, e.fm, true, Mo.first e.u (j - 3)⟩, ?_, rfl, rfl, by rw [decide_eq_true h4], fun _ => by show (Mo.first e.u (j - 3)).y = e.u.y; unfold Mo.first; split; rfl; split; rfl; split; rfl; rfl⟩
    unfold parse
    rw [ht, hr, if_pos rfl, if_neg (by omega), if_neg (by omega), hd, hp, if_pos rfl]
    rfl
  · have hj3 : j = 3 := by omega
    refine ⟨⟨e.std, e.k, e.sv, e.ru, e.fm, false, Mo.U.zero⟩, ?_, rfl, rfl, by rw [decide_eq_false h4], fun x => absurd x h4⟩
    unfold parse
    rw [ht, hr, if_pos rfl, if_neg (by omega), if_pos (by omega)]
/-- What holds behind k texts. -/
def Inv (k : Nat) (e : E) : Prop := IsTime e.std ∧ e.Kind ∧ (k < 2 → e.k = 0 ∧ e.sv = 0 ∧ e.ru = ⟨#[]⟩) ∧ (3 ≤ k → Ab.fmt e.fm = true) ∧ e.en = false ∧ e.u = Mo.U.zero
theorem inv_zero : Inv 0 E.zero := ⟨by decide, .inl ⟨rfl, rfl, rfl⟩, fun _ => ⟨rfl, rfl, rfl⟩, fun h => absurd h (by omega), rfl, rfl⟩
theorem inv_step (k : Nat) (hk : k < 3) (e e' : E) (x : ByteArray) (h : estep k e x = (e', 0)) (hi : Inv k e) : Inv (k + 1) e' := by
  obtain ⟨i1, i2, i3, i4, i5, i6⟩ := hi
  have hkk : k = 0 ∨ k = 1 ∨ k = 2 := by omega
  unfold estep at h
  rcases hkk with rfl | rfl | rfl
  · rw [if_pos rfl] at h
    unfold stdS at h
    by_cases hx : x = ⟨#[45]⟩
    · rw [if_pos hx] at h
      rw [← (Prod.mk.inj h).1]
      exact ⟨i1, i2, fun _ => i3 (by omega), fun y => absurd y (by omega), i5, i6⟩
    · rw [if_neg hx] at h
      have e := Prod.mk.inj h
      have ht := Ck.parse_time x (Ck.parse x).1 (by rw [← e.2])
      rw [← e.1]
      exact ⟨ht, i2, fun _ => i3 (by omega), fun y => absurd y (by omega), i5, i6⟩
  · rw [if_neg (by omega), if_pos rfl] at h
    unfold savS at h
    obtain ⟨k0, k1, k2⟩ := i3 (by omega)
    by_cases hx : x = ⟨#[45]⟩
    · rw [if_pos hx] at h
      rw [← (Prod.mk.inj h).1]
      exact ⟨i1, i2, fun y => absurd y (by omega), fun y => absurd y (by omega), i5, i6⟩
    · rw [if_neg hx] at h
      by_cases hn : num x = true
      · rw [if_pos hn] at h
        have e := Prod.mk.inj h
        have ht := Ck.parse_time x (Ck.parse x).1 (by rw [← e.2])
        rw [← e.1]
        exact ⟨i1, .inr (.inl ⟨rfl, ht, k2⟩), fun y => absurd y (by omega), fun y => absurd y (by omega), i5, i6⟩
      · rw [if_neg hn] at h
        by_cases hm : Ru.name (tl x) = true
        · rw [if_pos hm] at h
          rw [← (Prod.mk.inj h).1]
          exact ⟨i1, .inr (.inr ⟨rfl, k1, hm⟩), fun y => absurd y (by omega), fun y => absurd y (by omega), i5, i6⟩
        · rw [if_neg hm] at h
          have := (Prod.mk.inj h).2
          simp at this
  · rw [if_neg (by omega), if_neg (by omega)] at h
    unfold fmS at h
    have e := Prod.mk.inj h
    have hf : Ab.fmt x = true := by
      cases hy : Ab.fmt x
      · rw [hy] at e; simp at e
      · rfl
    rw [← e.1]
    exact ⟨i1, i2, fun y => absurd y (by omega), fun _ => hf, i5, i6⟩
theorem run_ok : ∀ (l : List ByteArray) (k : Nat) (r : E), k + l.length ≤ 3 → Inv k r →
    ((run l k r).2.2 = 0 ∧ Inv (k + l.length) (run l k r).1) ∨ ((run l k r).2.2 ≠ 0 ∧ (run l k r).1 = E.zero ∧ (k : Int) ≤ (run l k r).2.1 ∧ (run l k r).2.1 < k + l.length)
  | [], k, r, _, hi => .inl ⟨rfl, hi⟩
  | t :: l, k, r, hk, hi => by
    simp only [List.length_cons] at hk
    unfold run
    by_cases h : (estep k r t).2 = 0
    · rw [if_pos h]
      have := run_ok l (k + 1) (estep k r t).1 (by omega) (inv_step k (by omega) r _ t (by rw [← h]) hi)
      rcases this with ⟨a, b⟩ | ⟨a, b, c, d⟩
      · left
        refine ⟨a, ?_⟩
        rw [List.length_cons, show k + (l.length + 1) = k + 1 + l.length by omega]
        exact b
      · exact .inr ⟨a, b, by omega, by rw [List.length_cons]; omega⟩
    · rw [if_neg h]
      exact .inr ⟨h, rfl, by simp, by simp; omega⟩
end Er
namespace Mo
/-- What is not read stays as it is at first. -/
def Left (k : Nat) (u : U) : Prop := (k ≤ 1 → u.m = 1) ∧ (k ≤ 2 → u.k = 0 ∧ u.n = 1 ∧ u.d = 0) ∧ (k ≤ 3 → u.s = 0 ∧ u.c = 0)
theorem left_step (k : Nat) (hk : k < 4) (u u' : U) (t : ByteArray) (h : (step k u t).1 = u') (hl : Left k u) : Left (k + 1) u' := by
  obtain ⟨l1, l2, l3⟩ := hl
  have hkk : k = 0 ∨ k = 1 ∨ k = 2 ∨ k = 3 := by omega
  unfold step at h
  rcases hkk with rfl | rfl | rfl | rfl
  · rw [if_pos rfl] at h
    unfold yearSt at h
    subst h
    exact ⟨fun _ => l1 (by omega), fun _ => l2 (by omega), fun _ => l3 (by omega)⟩
  · rw [if_neg (by omega), if_pos rfl] at h
    unfold monthSt at h
    subst h
    exact ⟨fun y => absurd y (by omega), fun _ => l2 (by omega), fun _ => l3 (by omega)⟩
  · rw [if_neg (by omega), if_neg (by omega), if_pos rfl] at h
    unfold daySt at h
    subst h
    split
    · exact ⟨fun y => absurd y (by omega), fun y => absurd y (by omega), fun _ => l3 (by omega)⟩
    · exact ⟨fun y => absurd y (by omega), fun y => absurd y (by omega), fun _ => l3 (by omega)⟩
  · exact ⟨fun y => absurd y (by omega), fun y => absurd y (by omega), fun y => absurd y (by omega)⟩
theorem left_run : ∀ (l : List ByteArray) (k : Nat) (u : U), k + l.length ≤ 4 → Left k u → (run l k u).2.2 = 0 → Left (k + l.length) (run l k u).1
  | [], k, u, _, hl, _ => hl
  | t :: l, k, u, hk, hl, h0 => by
    simp only [List.length_cons] at hk
    unfold run at h0 ⊢
    by_cases h : (step k u t).2 = 0
    · rw [if_pos h] at h0 ⊢
      have := left_run l (k + 1) (step k u t).1 (by omega) (left_step k (by omega) u _ t rfl hl) h0
      rw [List.length_cons, show k + (l.length + 1) = k + 1 + l.length by omega]
      exact this
    · rw [if_neg h] at h0
      exact absurd h0 h
theorem left_one : Left 0 U.one := ⟨fun _ => rfl, fun _ => ⟨rfl, rfl, rfl⟩, fun _ => ⟨rfl, rfl⟩⟩
theorem count_left (u : U) (h : u.Ok) (hc : 0 ≤ u.c) (j : Nat) (hj : 1 ≤ j) (hl : Left j u) : u.count ≤ j := by
  rw [count_of u h hc]
  obtain ⟨l1, l2, l3⟩ := hl
  by_cases h3 : j ≤ 3
  · rw [if_pos (l3 h3)]
    by_cases h2 : j ≤ 2
    · rw [if_pos (l2 h2)]
      by_cases h1 : j ≤ 1
      · rw [if_pos (l1 h1)]; exact hj
      · split <;> omega
    · split
      · split <;> omega
      · omega
  · have := count_bd u
    rw [count_of u h hc] at this
    omega
theorem uParse_fewest (l : List ByteArray) (h : (uParse l).2.2 = 0) : (uParse l).1.count ≤ l.length := by
  have hok := uParse_ok l
  rcases hok with ⟨_, _, ho, hc⟩ | ⟨a, _⟩
  · have h0 : l.length ≠ 0 := by
      intro e
      unfold uParse at h
      rw [if_pos e] at h
      simp at h
    have h4 : l.length ≤ 4 := by
      rcases Nat.lt_or_ge 4 l.length with x | x
      · unfold uParse at h
        rw [if_neg h0, if_pos x] at h
        simp at h
      · exact x
    have hr := uParse_run l h0 h4
    refine count_left _ ho hc _ (by omega) ?_
    rw [hr] at h ⊢
    have := left_run l 0 U.one (by omega) left_one h
    simpa using this
  · exact absurd h a
end Mo
namespace Er
/-- What is read of any texts. -/
theorem parse_ok (l : List ByteArray) : ((parse l).2.2 = 0 ∧ (parse l).2.1 = 0 ∧ (parse l).1.Ok ∧ 0 ≤ (parse l).1.u.c ∧ (parse l).1.en = decide (3 < l.length) ∧ (parse l).1.texts.length ≤ l.length) ∨
    ((parse l).2.2 ≠ 0 ∧ (parse l).1 = E.zero ∧ 0 ≤ (parse l).2.1 ∧ (parse l).2.1 ≤ l.length) := by
  have hl : (l.take 3).length = min 3 l.length := List.length_take
  unfold parse
  rcases run_ok (l.take 3) 0 E.zero (by omega) inv_zero with ⟨a, b⟩ | ⟨a, b, c, d⟩
  · rw [if_pos a]
    by_cases h1 : l.length < 3
    · rw [if_pos h1]
      exact .inr ⟨by show (5 : Int) ≠ 0; decide, rfl, by simp, by simp⟩
    · rw [if_neg h1]
      have e3 : 0 + (l.take 3).length = 3 := by omega
      rw [e3] at b
      obtain ⟨i1, i2, _, i4, i5, i6⟩ := b
      by_cases h2 : l.length = 3
      · rw [if_pos h2]
        left
        refine ⟨rfl, rfl, ⟨i1, i4 (by omega), i2, fun y => ?_, fun _ => i6⟩, ?_, ?_, ?_⟩
        · rw [i5] at y; simp at y
        · show 0 ≤ (run (l.take 3) 0 E.zero).1.u.c
          rw [i6]; decide
        · show (run (l.take 3) 0 E.zero).1.en = _
          rw [i5, decide_eq_false (by omega)]
        · show (run (l.take 3) 0 E.zero).1.texts.length ≤ _
          rw [texts_len, i5]; simp; omega
      · rw [if_neg h2]
        by_cases hu : (Mo.uParse (l.drop 3)).2.2 = 0
        · rw [if_pos hu]
          have hfew := Mo.uParse_fewest _ hu
          rw [List.length_drop] at hfew
          rcases Mo.uParse_ok (l.drop 3) with ⟨_, _, ho, hc⟩ | ⟨x, _⟩
          · left
            refine ⟨rfl, rfl, ⟨i1, i4 (by omega), i2, fun _ => ho, fun y => by cases y⟩, hc, ?_, ?_⟩
            · show true = _
              rw [decide_eq_true (by omega)]
            · rw [texts_len]
              show (if true = true then 3 + (Mo.uParse (l.drop 3)).1.count else 3) ≤ _
              rw [if_pos rfl]
              omega
          · exact absurd hu x
        · rw [if_neg hu]
          rcases Mo.uParse_ok (l.drop 3) with ⟨x, _⟩ | ⟨_, _, c0, _, c2⟩
          · exact absurd x hu
          · right
            rw [List.length_drop] at c2
            refine ⟨hu, rfl, ?_, ?_⟩
            · show 0 ≤ 3 + _; omega
            · show 3 + _ ≤ _; omega
  · rw [if_neg a]
    exact .inr ⟨a, b, by omega, by omega⟩
/-- An era's texts are no rule's. -/
theorem texts_no_rule (e : E) : (Ru.parse e.texts).2.2 ≠ 0 := by
  rcases Ru.parse_ok e.texts with ⟨_, _, h9, _⟩ | ⟨h, _⟩
  · exfalso
    have := texts_len e
    have hc := Mo.count_bd e.u
    split at this <;> omega
  · exact h
end Er
end Go.Proofs.YtajcgoinhpengaaDoor

/- The contract of era.Text. -/
namespace Go.Proofs.YtajcgoinhpengaaDoor
open Go.RowKit Go.Sort

theorem own_below {w w' : World} {base : Nat} {e : TypeId} {size : Nat} {v : Value} {n : Nat} {xs : List Value} (h : w.ownsRow base e size v n xs) (hb : Below w.heap.size w w') : w'.ownsRow base e size v n xs := by
  refine ⟨h.1, ?_⟩
  rcases h.2 with hn | ⟨g, cap, cur, hv, hbase, hg, rest⟩
  · exact .inl hn
  · have hl : g < w.heap.size := (Array.getElem?_eq_some_iff.1 hg).1
    exact .inr ⟨g, cap, cur, hv, hbase, (hb.block g hl).trans hg, rest⟩
theorem own_slice_cap {w : World} {base : Nat} {e : TypeId} {size n : Nat} {v : Value} {xs : List Value} (h : w.ownsRow base e size v n xs) : ∃ A c, v = .slice A n c ∧ n ≤ c ∧ c ≤ maxLen := by
  rcases h.2 with ⟨rfl, rfl⟩ | ⟨g, cap, cur, rfl, _, _, h1, h2, _⟩
  · exact ⟨none, 0, rfl, Nat.le_refl _, Nat.zero_le _⟩
  · exact ⟨_, cap, rfl, h1, h2⟩
theorem str_info : (Tryd.prog.info? 9).map (fun i => (i.zero, i.size, i.bytes)) = some (some (.string ⟨#[]⟩), 1, 16) := by kernel_rfl
theorem er_reads (w : World) (g : Nat) (l : List ByteArray) (t : TypeId) (hg : g = w.heap.size) : Reads (w.alloc (.cells (strCells l) t)) (w.alloc (.cells (strCells l) t)).heap.size 1 (some ⟨g, 0, none⟩) l.length (l.map Value.string) := by
  subst hg
  exact reads_new w l t
end Go.Proofs.YtajcgoinhpengaaDoor

/- The contract of scan.Fields. -/
namespace Go.Proofs.YtajcgoinhpengaaDoor
open Go.RowKit

namespace Sc
def fcells (l : List (List UInt8 × Int)) : List Value := l.flatMap fun x => [.string ⟨x.1.toArray⟩, .int .i64 x.2]
theorem fcells_len (l : List (List UInt8 × Int)) : (fcells l).length = l.length * 2 := by
  unfold fcells
  induction l with
  | nil => rfl
  | cons a l ih => rw [List.flatMap_cons, List.length_append, ih]; simp; omega
theorem fcells_one (l : List (List UInt8 × Int)) (x : List UInt8 × Int) : fcells (l ++ [x]) = fcells l ++ [.string ⟨x.1.toArray⟩, .int .i64 x.2] := by
  unfold fcells
  rw [List.flatMap_append]
  simp
theorem reads_pairs (w : World) (a b : Value) (t : TypeId) : Reads (w.alloc (.cells #[a, b] t)) (w.heap.size + 1) 2 (some ⟨w.heap.size, 0, none⟩) 1 [a, b] := by
  refine ⟨rfl, fun _ => ?_⟩
  obtain ⟨ad, e, hb, hc⟩ := (reads_cells w #[a, b] t).2 (by simp)
  exact ⟨ad, e, hb, hc⟩
theorem frame_of (n : Nat) (a : Act) (hs : a.tmps.size = n) (hd : a.defers = []) : a = { tmps := ((List.range n).map fun i => a.tmps.getD i undef).toArray, defers := [] } := by
  obtain ⟨t, d⟩ := a
  simp only at hs hd
  subst hd
  congr 1
  apply Array.ext
  · simp [hs]
  · intro i h1 h2
    simp [h1]
def mu (s : ByteArray) (l : Nat) (a : Act) : Nat := 2 * (s.size - (intOf (a.tmps.getD 7 undef)).toNat) + (if l = 1 then 1 else 0)
end Sc
end Go.Proofs.YtajcgoinhpengaaDoor

/- Lines of a text in plain words. -/
namespace Go.Proofs.YtajcgoinhpengaaDoor
open Go.RowKit

namespace Sc
def splitNl : List UInt8 → List (List UInt8)
  | [] => [[]]
  | c :: l => if c = 10 then [] :: splitNl l else match splitNl l with
    | [] => [[c]]
    | h :: t => (c :: h) :: t
def cutR : List UInt8 → List UInt8 × List UInt8 × Bool
  | [] => ([], [], false)
  | c :: l => if c = 10 then ([], l, true) else (c :: (cutR l).1, (cutR l).2.1, (cutR l).2.2)
theorem cut_cutR (s : List UInt8) : Lib.cut s [10] = cutR s := by
  induction s with
  | nil => rfl
  | cons c l ih =>
    unfold cutR
    unfold Lib.cut at ih ⊢
    rw [Lib.index_one] at ih ⊢
    unfold Lib.indexByte
    by_cases hc : c = 10
    · rw [if_pos hc]
      subst hc
      rfl
    · rw [if_neg hc]
      have hb : (c == 10) = false := by rw [beq_eq_false_iff_ne]; exact hc
      rw [hb, ← ih]
      have hge := Lib.indexByte_ge l 10
      by_cases h1 : Lib.indexByte l 10 = -1
      · simp [h1]
      · have h2 : (Lib.indexByte l 10 == -1) = false := by rw [beq_eq_false_iff_ne]; exact h1
        simp only [h2]
        have h3 : 0 ≤ Lib.indexByte l 10 := by omega
        have h4 : 0 ≤ Lib.indexByte l 10 + 1 := by omega
        have e : (Lib.indexByte l 10 + 1).toNat = (Lib.indexByte l 10).toNat + 1 := by omega
        simp [h3, h4, e]
theorem cutR_split (s : List UInt8) : ((cutR s).2.2 = true → splitNl s = (cutR s).1 :: splitNl (cutR s).2.1 ∧ (cutR s).2.1.length + 1 ≤ s.length) ∧ ((cutR s).2.2 = false → splitNl s = [(cutR s).1] ∧ (cutR s).2.1 = []) ∧ (cutR s).1.length ≤ s.length := by
  induction s with
  | nil => exact ⟨fun h => (by cases h), fun _ => ⟨rfl, rfl⟩, Nat.le_refl _⟩
  | cons c l ih =>
    obtain ⟨i1, i2, i3⟩ := ih
    by_cases hc : c = 10
    · have e1 : cutR (c :: l) = ([], l, true) := by rw [cutR, if_pos hc]
      have e2 : splitNl (c :: l) = [] :: splitNl l := by rw [splitNl, if_pos hc]
      rw [e1, e2]
      exact ⟨fun _ => ⟨rfl, by simp⟩, fun h => (by cases h), by simp⟩
    · have e1 : cutR (c :: l) = (c :: (cutR l).1, (cutR l).2.1, (cutR l).2.2) := by rw [cutR, if_neg hc]
      have e2 : ∀ h t, splitNl l = h :: t → splitNl (c :: l) = (c :: h) :: t := fun h t e => by rw [splitNl, if_neg hc, e]
      rw [e1]
      refine ⟨fun h => ?_, fun h => ?_, by simp; exact i3⟩
      · obtain ⟨a, b⟩ := i1 h
        rw [e2 _ _ a]
        exact ⟨rfl, by simp; omega⟩
      · obtain ⟨a, b⟩ := i2 h
        rw [e2 _ _ a]
        exact ⟨rfl, b⟩
/-- The lines that have fields, each with its number; or the line, the column, and why. -/
inductive LRes where
  | ok (l : List (Int × List (List UInt8 × Int)))
  | bad (line col why : Int)
def linesGo : List (List UInt8) → Int → List (Int × List (List UInt8 × Int)) → LRes
  | [], _, acc => .ok acc
  | t :: L, no, acc => match fields t with
    | .bad col why => .bad no col why
    | .ok f => linesGo L (no + 1) (if f = [] then acc else acc ++ [(no, f)])
/-- The lines of a text. -/
def lines (s : List UInt8) : LRes := if 1048576 < s.length then .bad 0 0 6 else linesGo (splitNl s) 1 []
theorem scan_why : ∀ (l : List UInt8) (a : Int) (m : Mode) (acc : List (List UInt8 × Int)) (col why : Int), scan l a m acc = .bad col why → why ≠ 0
  | [], a, .b, acc, col, why, h => by simp [scan] at h
  | [], a, .f b t, acc, col, why, h => by simp [scan] at h
  | [], a, .q q b t, acc, col, why, h => by
    simp only [scan, Res.bad.injEq] at h
    omega
  | c :: l, a, .b, acc, col, why, h => by
    unfold scan at h
    split at h
    · exact scan_why l _ _ _ col why h
    · split at h
      · simp at h
      · split at h
        · simp only [Res.bad.injEq] at h; omega
        · split at h
          · simp only [Res.bad.injEq] at h; omega
          · split at h
            · exact scan_why l _ _ _ col why h
            · exact scan_why l _ _ _ col why h
  | c :: l, a, .f b t, acc, col, why, h => by
    unfold scan at h
    split at h
    · exact scan_why l _ _ _ col why h
    · split at h
      · simp at h
      · split at h
        · simp only [Res.bad.injEq] at h; omega
        · split at h
          · exact scan_why l _ _ _ col why h
          · exact scan_why l _ _ _ col why h
  | c :: l, a, .q q b t, acc, col, why, h => by
    unfold scan at h
    split at h
    · simp only [Res.bad.injEq] at h; omega
    · split at h
      · exact scan_why l _ _ _ col why h
      · exact scan_why l _ _ _ col why h
theorem fields_why (s : List UInt8) (col why : Int) (h : fields s = .bad col why) : why ≠ 0 := by
  unfold fields at h
  split at h
  · simp only [Res.bad.injEq] at h; omega
  · exact scan_why s _ _ _ col why h
end Sc
end Go.Proofs.YtajcgoinhpengaaDoor

/- A source in plain words: lines read one after the other; two texts one behind the other. -/
namespace Go.Proofs.YtajcgoinhpengaaDoor
open Go.RowKit

namespace Src
abbrev Txt := List UInt8
abbrev Ln := Int × List (Txt × Int)
/-- What reads rules and eras. -/
structure P (R E : Type) where
  key : Txt → Int
  name : Txt → Bool
  rule : List Txt → R × Int × Int
  era : List Txt → E × Int × Int
  ends : E → Bool
  rule_len : ∀ l, (rule l).2.2 = 0 → 1 ≤ l.length
  era_len : ∀ l, (era l).2.2 = 0 → 3 ≤ l.length
structure St (R E : Type) where
  rules : List R
  zones : List (Txt × List E)
  links : List (Txt × Txt)
  op : Bool
def St.none_ {R E : Type} : St R E := ⟨[], [], [], false⟩
inductive Out (S : Type) where
  | ok (s : S)
  | bad (place why : Int)
def addEra {E : Type} (e : E) : List (Txt × List E) → List (Txt × List E)
  | [] => []
  | [z] => [(z.1, z.2 ++ [e])]
  | z :: y :: l => z :: addEra e (y :: l)
def lastEras {E : Type} : List (Txt × List E) → Nat
  | [] => 0
  | [z] => z.2.length
  | _ :: y :: l => lastEras (y :: l)
def wrong (f : Txt → Bool) : List Txt → Int → Option Int
  | [], _ => none
  | t :: l, i => if f t then wrong f l (i + 1) else some i
variable {R E : Type}
def eraStep (p : P R E) (s : St R E) (t : List Txt) (from_ : Nat) : Out (St R E) :=
  if (p.era (t.drop from_)).2.2 = 0 then .ok { s with zones := addEra (p.era (t.drop from_)).1 s.zones, op := p.ends (p.era (t.drop from_)).1 }
  else .bad (from_ + (p.era (t.drop from_)).2.1) (p.era (t.drop from_)).2.2
def ruleStep (p : P R E) (s : St R E) (t : List Txt) : Out (St R E) :=
  if s.rules.length = 4096 then .bad 0 6
  else if (p.rule (t.drop 1)).2.2 = 0 then .ok { s with rules := s.rules ++ [(p.rule (t.drop 1)).1] }
  else .bad (1 + (p.rule (t.drop 1)).2.1) (p.rule (t.drop 1)).2.2
def zoneStep (p : P R E) (s : St R E) (t : List Txt) : Out (St R E) :=
  if s.zones.length = 1024 then .bad 0 6
  else if t.length < 2 then .bad 1 5
  else if p.name (t.getD 1 []) = false then .bad 1 7
  else eraStep p { s with zones := s.zones ++ [(t.getD 1 [], [])] } t 2
def linkStep (p : P R E) (s : St R E) (t : List Txt) : Out (St R E) :=
  if s.links.length = 4096 then .bad 0 6
  else match wrong p.name ((t.drop 1).take 2) 0 with
  | some i => .bad (1 + i) 7
  | none => if ((t.drop 1).take 2).length < 2 then .bad (1 + ((t.drop 1).take 2).length) 5
    else if 3 < t.length then .bad 3 6
    else .ok { s with links := s.links ++ [(t.getD 1 [], t.getD 2 [])] }
def step (p : P R E) (s : St R E) (t : List Txt) : Out (St R E) :=
  if s.op then (if lastEras s.zones = 64 then .bad 0 6 else eraStep p s t 0)
  else if p.key (t.getD 0 []) = 1 then ruleStep p s t
  else if p.key (t.getD 0 []) = 2 then zoneStep p s t
  else if p.key (t.getD 0 []) = 3 then linkStep p s t
  else .bad 0 7
inductive Par (S : Type) where
  | ok (s : S)
  | bad (line col why : Int)
def colAt (f : List (Txt × Int)) (place : Int) : Int := (f.getD (min place.toNat (f.length - 1)) ([], 0)).2
def readGo (p : P R E) : List Ln → St R E → Par (St R E)
  | [], s => .ok s
  | l :: L, s => match step p s (l.2.map (·.1)) with
    | .bad place why => .bad l.1 (colAt l.2 place) why
    | .ok s' => readGo p L s'
def finish (L : List Ln) (s : St R E) : Par (St R E) :=
  if s.op then .bad (L.getLastD (0, [])).1 (colAt (L.getLastD (0, [])).2 0) 5 else .ok s
def readAll (p : P R E) (L : List Ln) : Par (St R E) := match readGo p L St.none_ with
  | .bad l c w => .bad l c w
  | .ok s => finish L s
/-- What a text is read as. -/
def parse (p : P R E) (s : Txt) : Par (St R E) := match Sc.lines s with
  | .bad l c w => .bad l c w
  | .ok L => readAll p L
def app (a b : St R E) : St R E := ⟨a.rules ++ b.rules, a.zones ++ b.zones, a.links ++ b.links, b.op⟩
def Out.map {S T : Type} (f : S → T) : Out S → Out T
  | .ok s => .ok (f s)
  | .bad p w => .bad p w
def Par.map {S T : Type} (f : S → T) (d : Int) : Par S → Par T
  | .ok s => .ok (f s)
  | .bad l c w => .bad (l + d) c w

theorem addEra_app (e : E) : ∀ (a b : List (Txt × List E)), b ≠ [] → addEra e (a ++ b) = a ++ addEra e b
  | [], b, _ => rfl
  | [z], [], h => absurd rfl h
  | [z], y :: l, h => rfl
  | z :: y :: l, b, h => by
    have := addEra_app e (y :: l) b h
    simp only [List.cons_append] at this ⊢
    rw [addEra, this]
theorem lastEras_app : ∀ (a b : List (Txt × List E)), b ≠ [] → lastEras (a ++ b) = lastEras b
  | [], b, _ => rfl
  | [z], [], h => absurd rfl h
  | [z], y :: l, h => rfl
  | z :: y :: l, b, h => by
    have := lastEras_app (y :: l) b h
    simp only [List.cons_append] at this ⊢
    rw [lastEras, this]
theorem addEra_len (e : E) : ∀ (b : List (Txt × List E)), (addEra e b).length = b.length
  | [] => rfl
  | [z] => rfl
  | z :: y :: l => by simp [addEra, addEra_len e (y :: l)]
def Good (s : St R E) : Prop := s.op = true → s.zones ≠ []
/-- What the lists weigh: less than this many bytes cannot hold them. -/
def weigh (s : St R E) : Nat := 4 * s.rules.length + 10 * s.zones.length + 6 * s.links.length
theorem eraStep_app (p : P R E) (a s : St R E) (t : List Txt) (k : Nat) (hz : s.zones ≠ []) : eraStep p (app a s) t k = (eraStep p s t k).map (app a) := by
  unfold eraStep
  split
  · simp [app, Out.map, addEra_app _ _ _ hz]
  · rfl
theorem step_app (p : P R E) (a s : St R E) (t : List Txt) (hg : Good s) (hr : a.rules.length + s.rules.length < 4096) (hz : a.zones.length + s.zones.length < 1024) (hl : a.links.length + s.links.length < 4096) :
    step p (app a s) t = (step p s t).map (app a) := by
  unfold step
  by_cases ho : s.op
  · have hne := hg ho
    have e1 : (app a s).op = true := ho
    rw [if_pos ho, if_pos e1, show (app a s).zones = a.zones ++ s.zones from rfl, lastEras_app _ _ hne]
    split
    · rfl
    · exact eraStep_app p a s t 0 hne
  · have e1 : ¬ (app a s).op = true := ho
    rw [if_neg ho, if_neg e1]
    split
    · unfold ruleStep
      rw [if_neg (show ¬ (app a s).rules.length = 4096 by simp [app]; omega), if_neg (show ¬ s.rules.length = 4096 by omega)]
      split
      · simp [app, Out.map]
      · rfl
    · split
      · unfold zoneStep
        rw [if_neg (show ¬ (app a s).zones.length = 1024 by simp [app]; omega), if_neg (show ¬ s.zones.length = 1024 by omega)]
        split
        · rfl
        · split
          · rfl
          · rw [← eraStep_app p a _ t 2 (by simp)]
            simp [app]
      · split
        · unfold linkStep
          rw [if_neg (show ¬ (app a s).links.length = 4096 by simp [app]; omega), if_neg (show ¬ s.links.length = 4096 by omega)]
          split
          · rfl
          · split
            · rfl
            · split
              · rfl
              · simp [app, Out.map]
        · rfl
theorem eraStep_facts (p : P R E) (s s' : St R E) (t : List Txt) (k : Nat) (hz : s.zones ≠ []) (h : eraStep p s t k = .ok s') :
    Good s' ∧ s'.rules = s.rules ∧ s'.links = s.links ∧ s'.zones.length = s.zones.length ∧ k + 3 ≤ t.length := by
  unfold eraStep at h
  split at h
  · rename_i h0
    have := p.era_len _ h0
    simp only [List.length_drop] at this
    cases h
    refine ⟨fun _ e => hz ?_, rfl, rfl, addEra_len _ _, by omega⟩
    have e2 := congrArg List.length e
    simp only [addEra_len, List.length_nil] at e2
    exact List.length_eq_zero_iff.mp e2
  · cases h
theorem step_facts (p : P R E) (s s' : St R E) (t : List Txt) (hg : Good s) (h : step p s t = .ok s') : Good s' ∧ weigh s' ≤ weigh s + 2 * t.length := by
  unfold step at h
  split at h
  · rename_i ho
    split at h
    · cases h
    · obtain ⟨a, b, c, d, e⟩ := eraStep_facts p s s' t 0 (hg ho) h
      exact ⟨a, by unfold weigh; rw [b, c, d]; omega⟩
  · rename_i ho
    split at h
    · unfold ruleStep at h
      split at h
      · cases h
      · split at h
        · rename_i h0
          have := p.rule_len _ h0
          simp only [List.length_drop] at this
          cases h
          exact ⟨fun e => absurd e ho, by simp [weigh]; omega⟩
        · cases h
    · split at h
      · unfold zoneStep at h
        split at h
        · cases h
        · split at h
          · cases h
          · split at h
            · cases h
            · obtain ⟨a, b, c, d, e⟩ := eraStep_facts p _ s' t 2 (by simp) h
              exact ⟨a, by unfold weigh; rw [b, c, d]; simp; omega⟩
      · split at h
        · unfold linkStep at h
          split at h
          · cases h
          · split at h
            · cases h
            · split at h
              · cases h
              · rename_i h3
                split at h
                · cases h
                · simp only [List.length_take, List.length_drop] at h3
                  cases h
                  exact ⟨fun e => absurd e ho, by simp [weigh]; omega⟩
        · cases h
end Src
end Go.Proofs.YtajcgoinhpengaaDoor

/- Two texts one behind the other are read together as both. -/
namespace Go.Proofs.YtajcgoinhpengaaDoor
open Go.RowKit

namespace Src
variable {R E : Type}
/-- What lines weigh. -/
def weight : List Ln → Nat
  | [] => 0
  | l :: L => 2 * l.2.length + weight L
theorem weight_app (A B : List Ln) : weight (A ++ B) = weight A + weight B := by
  induction A with
  | nil => simp [weight]
  | cons l A ih => simp only [List.cons_append, weight, ih]; omega
def shift (d : Int) (L : List Ln) : List Ln := L.map (fun l => (l.1 + d, l.2))
theorem weight_shift (d : Int) (L : List Ln) : weight (shift d L) = weight L := by
  induction L with
  | nil => rfl
  | cons l L ih => simp only [shift, List.map_cons, weight] at ih ⊢; rw [ih]
theorem readGo_cons (p : P R E) (l : Ln) (L : List Ln) (s : St R E) : readGo p (l :: L) s = match step p s (l.2.map (·.1)) with
    | .bad place why => .bad l.1 (colAt l.2 place) why
    | .ok s' => readGo p L s' := rfl
theorem readGo_facts (p : P R E) : ∀ (L : List Ln) (s s' : St R E), Good s → readGo p L s = .ok s' → Good s' ∧ weigh s' ≤ weigh s + weight L
  | [], s, s', hg, h => by
    simp only [readGo, Par.ok.injEq] at h
    subst h
    exact ⟨hg, by simp [weight]⟩
  | l :: L, s, s', hg, h => by
    rw [readGo_cons] at h
    cases h1 : step p s (l.2.map (·.1)) with
    | bad place why => rw [h1] at h; cases h
    | ok s1 =>
      rw [h1] at h
      obtain ⟨g1, w1⟩ := step_facts p s s1 _ hg h1
      obtain ⟨g2, w2⟩ := readGo_facts p L s1 s' g1 h
      simp only [List.length_map] at w1
      exact ⟨g2, by simp only [weight]; omega⟩
theorem readGo_app (p : P R E) : ∀ (A B : List Ln) (s s' : St R E), readGo p A s = .ok s' → readGo p (A ++ B) s = readGo p B s'
  | [], B, s, s', h => by
    simp only [readGo, Par.ok.injEq] at h
    subst h
    rfl
  | l :: A, B, s, s', h => by
    rw [List.cons_append, readGo_cons]
    rw [readGo_cons] at h
    cases h1 : step p s (l.2.map (·.1)) with
    | bad place why => rw [h1] at h; cases h
    | ok s1 =>
      rw [h1] at h
      exact readGo_app p A B s1 s' h
/-- Behind a state of before, and with other line numbers. -/
theorem readGo_both (p : P R E) (a : St R E) (d : Int) : ∀ (L : List Ln) (s : St R E), Good s → weigh a + weigh s + weight L < 10240 →
    readGo p (shift d L) (app a s) = (readGo p L s).map (app a) d
  | [], s, hg, hw => rfl
  | l :: L, s, hg, hw => by
    rw [show shift d (l :: L) = (l.1 + d, l.2) :: shift d L from rfl, readGo_cons, readGo_cons]
    simp only [weight] at hw
    have hw' : weigh a + weigh s < 10240 := by omega
    unfold weigh at hw'
    rw [step_app p a s _ hg (by omega) (by omega) (by omega)]
    cases h1 : step p s (l.2.map (·.1)) with
    | bad place why => rfl
    | ok s1 =>
      obtain ⟨g1, w1⟩ := step_facts p s s1 _ hg h1
      simp only [List.length_map] at w1
      exact readGo_both p a d L s1 g1 (by omega)
theorem splitNl_ne (l : Txt) : Sc.splitNl l ≠ [] := by
  cases l with
  | nil => simp [Sc.splitNl]
  | cons c l =>
    rw [Sc.splitNl]
    split
    · simp
    · split <;> simp
theorem splitNl_both (b : Txt) : ∀ a : Txt, Sc.splitNl (a ++ 10 :: b) = Sc.splitNl a ++ Sc.splitNl b
  | [] => by simp [Sc.splitNl]
  | c :: a => by
    rw [List.cons_append, Sc.splitNl, Sc.splitNl, splitNl_both b a]
    split
    · rfl
    · cases h : Sc.splitNl a with
      | nil => exact absurd h (splitNl_ne a)
      | cons x l => rfl
theorem splitNl_len : ∀ a : Txt, (Sc.splitNl a).length = 1 + a.count 10
  | [] => rfl
  | c :: a => by
    have ih := splitNl_len a
    rw [Sc.splitNl]
    split
    · rename_i h
      subst h
      simp [ih]; omega
    · rename_i h
      rw [List.count_cons_of_ne h]
      cases h : Sc.splitNl a with
      | nil => exact absurd h (splitNl_ne a)
      | cons x l => rw [h] at ih; exact ih
/-- The weight of texts: each byte, and one for each text. -/
def bytes : List Txt → Nat
  | [] => 0
  | t :: L => t.length + 1 + bytes L
theorem splitNl_bytes : ∀ a : Txt, bytes (Sc.splitNl a) = a.length + 1
  | [] => rfl
  | c :: a => by
    have ih := splitNl_bytes a
    rw [Sc.splitNl]
    split
    · simp [bytes, ih]; omega
    · cases h : Sc.splitNl a with
      | nil => exact absurd h (splitNl_ne a)
      | cons x l => rw [h] at ih; simp only [bytes, List.length_cons] at ih ⊢; omega
theorem linesGo_app : ∀ (A B : List Txt) (no : Int) (acc : List Ln), Sc.linesGo (A ++ B) no acc = match Sc.linesGo A no acc with
    | .bad l c w => .bad l c w
    | .ok acc' => Sc.linesGo B (no + A.length) acc'
  | [], B, no, acc => by simp [Sc.linesGo]
  | t :: A, B, no, acc => by
    rw [List.cons_append, Sc.linesGo, Sc.linesGo]
    cases h : Sc.fields t with
    | bad col why => rfl
    | ok f =>
      simp only []
      rw [linesGo_app A B]
      simp only [List.length_cons, Int.natCast_add, Int.add_assoc, Int.natCast_one, Int.add_comm (1 : Int)]
def moved (acc : List Ln) (d : Int) : Sc.LRes → Sc.LRes
  | .ok L => .ok (acc ++ shift d L)
  | .bad l c w => .bad (l + d) c w
theorem linesGo_moved : ∀ (A : List Txt) (no d : Int) (acc acc' : List Ln), Sc.linesGo A (no + d) (acc ++ shift d acc') = moved acc d (Sc.linesGo A no acc')
  | [], no, d, acc, acc' => rfl
  | t :: A, no, d, acc, acc' => by
    rw [Sc.linesGo, Sc.linesGo]
    cases h : Sc.fields t with
    | bad col why => rfl
    | ok f =>
      simp only []
      have e := linesGo_moved A (no + 1) d acc (if f = [] then acc' else acc' ++ [(no, f)])
      rw [← e]
      have e1 : no + 1 + d = no + d + 1 := by omega
      rw [e1]
      split
      · rfl
      · simp [shift, List.append_assoc]
end Src
end Go.Proofs.YtajcgoinhpengaaDoor
