/- Plain law: the reference's reading of a time's text comes to what the program's reading does. -/
import Derived.Test.YtkpbkgfmdjhbpaaDoorClockBackMath
namespace Go.Proofs.YtkpbkgfmdjhbpaaDoor
open Go.RowKit

namespace Ck
/-- Whether the reference refuses a part that ends here. -/
def rbad (l : List Int) (n : Int) (d : Nat) : Bool := decide (d < 1) || decide (3 < d) || (decide (0 < l.length) && (decide (d ≠ 2) || decide (60 ≤ n))) || decide (l.length = 3)
/-- The reference's loop over the bytes. -/
def rp : List UInt8 → List Int → Int → Nat → Option (List Int)
  | [], l, n, d => if rbad l n d = true then none else some (l ++ [n])
  | c :: r, l, n, d =>
    if (c.toNat : Int) = 58 then (if rbad l n d = true then none else rp r (l ++ [n]) 0 0)
    else if ((c.toNat : Int) < 48 ∨ 57 < (c.toNat : Int)) ∨ d = 3 then none else rp r l (10 * n + ((c.toNat : Int) - 48)) (d + 1)
def tot (l : List Int) : Int := 3600 * l.getD 0 0 + 60 * l.getD 1 0 + l.getD 2 0
theorem ne58 (c : UInt8) (h : c ≠ 58) : ¬ (c.toNat : Int) = 58 := by
  intro e
  apply h
  apply UInt8.toNat_inj.1
  have : (58 : UInt8).toNat = 58 := rfl
  omega
theorem numLoop_bd : ∀ (p : List UInt8) (n : Int), 0 ≤ n → -1 ≤ Dy.numLoop p n
  | [], n, h => by simp only [Dy.numLoop]; omega
  | c :: r, n, h => by
    simp only [Dy.numLoop]
    split
    · omega
    · exact numLoop_bd r _ (by omega)
/-- A part without ':' ahead of more. -/
theorem rp_free_bad : ∀ (p q : List UInt8) (l : List Int) (n : Int) (d : Nat), (∀ c ∈ p, c ≠ 58) → 0 ≤ n → d ≤ 3 → (Dy.numLoop p n = -1 ∨ 3 < d + p.length) → rp (p ++ q) l n d = none
  | [], q, l, n, d, _, hn, hd, h => by
    simp only [Dy.numLoop, List.length_nil, Nat.add_zero] at h
    omega
  | c :: r, q, l, n, d, hp, hn, hd, h => by
    have hc := ne58 c (hp c (by simp))
    simp only [List.cons_append, rp]
    rw [if_neg hc]
    by_cases hb : (c.toNat : Int) < 48 ∨ 57 < (c.toNat : Int)
    · rw [if_pos (.inl hb)]
    · by_cases h3 : d = 3
      · rw [if_pos (.inr h3)]
      · rw [if_neg (by omega)]
        simp only [Dy.numLoop, List.length_cons] at h
        rw [if_neg hb] at h
        refine rp_free_bad r q l _ (d + 1) (fun e he => hp e (by simp [he])) (by omega) (by omega) ?_
        rw [show 10 * n + ((c.toNat : Int) - 48) = n * 10 + ((c.toNat : Int) - 48) by omega]
        omega
theorem rp_free_ok : ∀ (p q : List UInt8) (l : List Int) (n : Int) (d : Nat), (∀ c ∈ p, c ≠ 58) → 0 ≤ n → Dy.numLoop p n ≠ -1 → d + p.length ≤ 3 → rp (p ++ q) l n d = rp q l (Dy.numLoop p n) (d + p.length)
  | [], q, l, n, d, _, hn, _, _ => by simp [Dy.numLoop]
  | c :: r, q, l, n, d, hp, hn, h, hd => by
    have hc := ne58 c (hp c (by simp))
    have hnum : Dy.numLoop (c :: r) n = if (c.toNat : Int) < 48 ∨ 57 < (c.toNat : Int) then -1 else Dy.numLoop r (n * 10 + ((c.toNat : Int) - 48)) := rfl
    simp only [List.length_cons] at hd
    by_cases hb : (c.toNat : Int) < 48 ∨ 57 < (c.toNat : Int)
    · rw [hnum, if_pos hb] at h
      exact absurd rfl h
    · rw [if_neg hb] at hnum
      rw [hnum] at h ⊢
      simp only [List.cons_append, rp, List.length_cons]
      rw [if_neg hc, if_neg (by omega)]
      rw [show 10 * n + ((c.toNat : Int) - 48) = n * 10 + ((c.toNat : Int) - 48) by omega]
      rw [rp_free_ok r q l _ (d + 1) (fun e he => hp e (by simp [he])) (by omega) h (by omega)]
      rw [show d + 1 + r.length = d + (r.length + 1) by omega]
/-- Whether the part is refused. -/
def rb (l : List Int) (p : List UInt8) : Prop := Dy.numLoop p 0 = -1 ∨ 3 < p.length ∨ rbad l (Dy.numLoop p 0) p.length = true
/-- The part is refused by both, or by none. -/
theorem rb_eq (l : List Int) (p : List UInt8) (h : l.length < 3) : rb l p ↔ bad (numC p (least l.length) (most l.length)) l.length = true := by
  have hb := numLoop_bd p 0 (by omega)
  unfold rb
  obtain ⟨N, hN⟩ : ∃ N, Dy.numLoop p 0 = N := ⟨_, rfl⟩
  have hC : ∀ a b, numC p a b = if p.length < a ∨ b < p.length then -1 else N := fun a b => by rw [← hN]; rfl
  rw [hN] at hb ⊢
  obtain ⟨L, hL⟩ : ∃ L, p.length = L := ⟨_, rfl⟩
  obtain ⟨i, hi⟩ : ∃ i, l.length = i := ⟨_, rfl⟩
  rw [hC, hL, hi]
  rw [hi] at h
  unfold rbad bad
  simp only [Bool.or_eq_true, Bool.and_eq_true, decide_eq_true_eq, hi]
  by_cases h0 : i = 0
  · subst h0
    rw [show least 0 = 1 from rfl, show most 0 = 3 from rfl]
    by_cases hl : L < 1 ∨ 3 < L
    · rw [if_pos hl]; omega
    · rw [if_neg hl]; omega
  · rw [show least i = 2 by unfold least; rw [if_neg h0], show most i = 2 by unfold most; rw [if_neg h0]]
    by_cases hl : L < 2 ∨ 2 < L
    · rw [if_pos hl]; omega
    · rw [if_neg hl]; omega
theorem numC_ok (p : List UInt8) (i : Nat) (h : bad (numC p (least i) (most i)) i = false) : numC p (least i) (most i) = Dy.numLoop p 0 := by
  unfold numC at h ⊢
  split
  · rename_i hl
    rw [if_pos hl] at h
    simp [bad] at h
  · rfl
theorem tot_snoc (l : List Int) (n : Int) (h : l.length < 3) : tot (l ++ [n]) = tot l + n * part l.length := by
  match l, h with
  | [], _ => simp [tot, part]; omega
  | [a], _ => simp [tot, part]; omega
  | [a, b], _ => simp [tot, part]
theorem rp_end_bad (p : List UInt8) (l : List Int) (hp : ∀ c ∈ p, c ≠ 58) (h : rb l p) : rp p l 0 0 = none := by
  by_cases h1 : Dy.numLoop p 0 = -1 ∨ 3 < 0 + p.length
  · have := rp_free_bad p [] l 0 0 hp (by omega) (by omega) h1
    rwa [List.append_nil] at this
  · have e := rp_free_ok p [] l 0 0 hp (by omega) (fun x => h1 (.inl x)) (by omega)
    rw [List.append_nil, Nat.zero_add] at e
    rw [e]
    rcases h with h | h | h
    · exact absurd (.inl h) h1
    · exact absurd (.inr (by omega)) h1
    · simp [rp, h]
theorem rp_end_ok (p : List UInt8) (l : List Int) (hp : ∀ c ∈ p, c ≠ 58) (h : ¬ rb l p) : rp p l 0 0 = some (l ++ [Dy.numLoop p 0]) := by
  have e := rp_free_ok p [] l 0 0 hp (by omega) (fun x => h (.inl x)) (by have : ¬ 3 < p.length := fun x => h (.inr (.inl x)); omega)
  rw [List.append_nil, Nat.zero_add] at e
  rw [e]
  have h3 : rbad l (Dy.numLoop p 0) p.length = false := by
    cases hx : rbad l (Dy.numLoop p 0) p.length
    · rfl
    · exact absurd (.inr (.inr hx)) h
  simp [rp, h3]
theorem rp_sep_bad (p q : List UInt8) (l : List Int) (hp : ∀ c ∈ p, c ≠ 58) (h : rb l p) : rp (p ++ 58 :: q) l 0 0 = none := by
  by_cases h1 : Dy.numLoop p 0 = -1 ∨ 3 < 0 + p.length
  · exact rp_free_bad p (58 :: q) l 0 0 hp (by omega) (by omega) h1
  · rw [rp_free_ok p (58 :: q) l 0 0 hp (by omega) (fun x => h1 (.inl x)) (by omega), Nat.zero_add]
    rcases h with h | h | h
    · exact absurd (.inl h) h1
    · exact absurd (.inr (by omega)) h1
    · simp [rp, h]
theorem rp_sep_ok (p q : List UInt8) (l : List Int) (hp : ∀ c ∈ p, c ≠ 58) (h : ¬ rb l p) : rp (p ++ 58 :: q) l 0 0 = rp q (l ++ [Dy.numLoop p 0]) 0 0 := by
  rw [rp_free_ok p (58 :: q) l 0 0 hp (by omega) (fun x => h (.inl x)) (by have : ¬ 3 < p.length := fun x => h (.inr (.inl x)); omega), Nat.zero_add]
  have h3 : rbad l (Dy.numLoop p 0) p.length = false := by
    cases hx : rbad l (Dy.numLoop p 0) p.length
    · rfl
    · exact absurd (.inr (.inr hx)) h
  simp [rp, h3]
theorem cutAt (s : List UInt8) : (∀ c ∈ s, c ≠ 58) ∨ ∃ p q, s = p ++ 58 :: q ∧ ∀ c ∈ p, c ≠ 58 := by
  induction s with
  | nil => left; simp
  | cons c r ih =>
    by_cases hc : c = 58
    · right; exact ⟨[], r, by simp [hc], by simp⟩
    · rcases ih with ih | ⟨p, q, rfl, hp⟩
      · left
        intro d hd
        rcases List.mem_cons.1 hd with rfl | hd
        · exact hc
        · exact ih d hd
      · right
        refine ⟨c :: p, q, by simp, ?_⟩
        intro d hd
        rcases List.mem_cons.1 hd with rfl | hd
        · exact hc
        · exact hp d hd
theorem splitK_len (k : Nat) (s : List UInt8) : 1 ≤ (Lib.splitK [58] 0 k s).length := by
  cases k with
  | zero => simp [Lib.splitK]
  | succ k => unfold Lib.splitK; split <;> simp
theorem rp_loop : ∀ (k : Nat) (s : List UInt8) (l : List Int), l.length + k = 3 ∨ (l.length + k < 3 ∧ s.length ≤ k) →
    (rp s l 0 0).map tot = if l.length + (Lib.splitK [58] 0 k s).length ≤ 3 then loopL (Lib.splitK [58] 0 k s) l.length (tot l) else none := by
  intro k
  induction k with
  | zero =>
    intro s l hk
    by_cases h3 : l.length = 3
    · have e : (Lib.splitK [58] 0 0 s) = [s] := rfl
      rw [e, if_neg (by simp; omega)]
      have hr : ∀ p, rb l p := by intro p; exact .inr (.inr (by unfold rbad; simp [h3]))
      rcases cutAt s with hs | ⟨p, q, rfl, hp⟩
      · rw [rp_end_bad s l hs (hr _)]; rfl
      · rw [rp_sep_bad p q l hp (hr _)]; rfl
    · have hs : s = [] := List.eq_nil_of_length_eq_zero (by omega)
      subst hs
      have e : (Lib.splitK [58] 0 0 ([] : List UInt8)) = [[]] := rfl
      have hr : rb l [] := .inr (.inr (by simp [rbad]))
      rw [e, if_pos (by simp; omega), rp_end_bad [] l (by simp) hr]
      have hb := (rb_eq l [] (by omega)).1 hr
      simp [loopL, hb]
  | succ k ih =>
    intro s l hk
    have hl : l.length < 3 := by omega
    rcases cutAt s with hs | ⟨p, q, rfl, hp⟩
    · rw [split_last s (k + 1) hs, if_pos (show l.length + [s].length ≤ 3 by simp; omega)]
      have hb := rb_eq l s hl
      by_cases h : bad (numC s (least l.length) (most l.length)) l.length = true
      · rw [rp_end_bad s l hs (hb.2 h)]
        simp [loopL, h]
      · have hf : bad (numC s (least l.length) (most l.length)) l.length = false := by simpa using h
        rw [rp_end_ok s l hs (fun x => h (hb.1 x)), Option.map_some, tot_snoc l _ hl]
        have hn := numC_ok s _ hf
        show _ = (if bad (numC s (least l.length) (most l.length)) l.length = true then none else some (tot l + numC s (least l.length) (most l.length) * part l.length))
        rw [if_neg h, hn]
    · rw [split_next p q k hp]
      have hb := rb_eq l p hl
      have hlen := splitK_len k q
      by_cases h : bad (numC p (least l.length) (most l.length)) l.length = true
      · rw [rp_sep_bad p q l hp (hb.2 h)]
        simp [loopL, h]
      · have hf : bad (numC p (least l.length) (most l.length)) l.length = false := by simpa using h
        have hn := numC_ok p _ hf
        rw [rp_sep_ok p q l hp (fun x => h (hb.1 x))]
        have hi := ih q (l ++ [Dy.numLoop p 0]) (by simp at hk ⊢; omega)
        rw [hi, tot_snoc l _ hl]
        have e1 : (l ++ [Dy.numLoop p 0]).length = l.length + 1 := by simp
        have e2 : (p :: Lib.splitK [58] 0 k q).length = (Lib.splitK [58] 0 k q).length + 1 := rfl
        have e3 : loopL (p :: Lib.splitK [58] 0 k q) l.length (tot l) = loopL (Lib.splitK [58] 0 k q) (l.length + 1) (tot l + Dy.numLoop p 0 * part l.length) := by
          show (if bad (numC p (least l.length) (most l.length)) l.length = true then none else _) = _
          rw [if_neg h, hn]
        rw [e1, e2, e3]
        by_cases hc : l.length + 1 + (Lib.splitK [58] 0 k q).length ≤ 3
        · rw [if_pos hc, if_pos (by omega)]
        · rw [if_neg hc, if_neg (by omega)]
/-- What the reference's Parse answers. -/
def rfin (o : Option (List Int)) (b : Bool) : Int × Int := fin (o.map tot) b
theorem ref_parse (s : ByteArray) : rfin (rp (tl (rest s)) [] 0 0) (Lib.hasPrefix s.data.toList [45]) = parse s := by
  unfold rfin parse
  rw [loop_lists, fields_lists]
  have hl := fields_lists (rest s)
  have hlen := congrArg List.length hl
  rw [List.length_map] at hlen
  rw [hlen]
  have h := rp_loop (min 4 ((rest s).size + 1) - 1) (tl (rest s)) [] (by rw [tl_length]; simp; omega)
  rw [h]
  simp only [List.length_nil, Nat.zero_add]
  by_cases hc : (Lib.splitK [58] 0 (min 4 ((rest s).size + 1) - 1) (tl (rest s))).length ≤ 3
  · rw [if_pos hc, if_neg (by omega)]; rfl
  · rw [if_neg hc, if_pos (by omega)]; rfl
end Ck
end Go.Proofs.YtkpbkgfmdjhbpaaDoor
