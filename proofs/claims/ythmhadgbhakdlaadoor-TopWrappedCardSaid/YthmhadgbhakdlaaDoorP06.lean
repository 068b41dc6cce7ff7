/- MarkupPairs, plain: what is opened is closed, in turn; a comment at the end changes nothing. -/
import Derived.Test.YthmhadgbhakdlaaDoorP05
import Derived.Test.YthmhadgbhakdlaaDoorP02
import Derived.Shelf.Strings.BuilderF
import Derived.Shelf.Strings.BuilderK

namespace Go.Proofs.YthmhadgbhakdlaaDoor
open Go.RowKit

namespace Mk
def encC (c : Nat) : ByteArray :=
  let b (n : Nat) : UInt8 := UInt8.ofNat n
  if c < 0x80 then ⟨#[b c]⟩
  else if c < 0x800 then ⟨#[b (0xC0 + c / 64), b (0x80 + c % 64)]⟩
  else if c < 0x10000 then ⟨#[b (0xE0 + c / 4096), b (0x80 + c / 64 % 64), b (0x80 + c % 64)]⟩
  else ⟨#[b (0xF0 + c / 262144), b (0x80 + c / 4096 % 64), b (0x80 + c / 64 % 64), b (0x80 + c % 64)]⟩
theorem enc_eq (r : Int) : Utf8.encode r = encC (if Utf8.valid r then r.toNat else Utf8.runeError) := rfl
theorem encC_ne (c : Nat) : tl (encC c) ≠ [] := by
  unfold encC
  split
  · exact List.cons_ne_nil _ _
  · split
    · exact List.cons_ne_nil _ _
    · split
      · exact List.cons_ne_nil _ _
      · exact List.cons_ne_nil _ _
theorem enc_ne (n : Nat) : tl (Utf8.encode (n : Int)) ≠ [] := by
  rw [enc_eq]
  exact encC_ne _
theorem chr_ne (l : Txt) (h : (chr l).1 = 0) : (chr l).2 ≠ [] := by
  unfold chr at h ⊢
  cases hc : chrNum l with
  | none => rw [hc] at h; cases h
  | some n =>
    rw [hc] at h
    have he := enc_ne n
    simp only at h ⊢
    generalize tl (Utf8.encode (n : Int)) = z at he h ⊢
    split at h
    · cases h
    · rename_i q
      rw [if_neg q]
      split at h
      · rename_i q2; rw [if_pos q2]; exact he
      · cases h
theorem ref_ne (l : Txt) (h : (ref l).1 = 0) : (ref l).2 ≠ [] := by
  unfold ref at h ⊢
  split at h
  · rename_i q; rw [if_pos q]; simp
  · rename_i q1; rw [if_neg q1]
    split at h
    · rename_i q; rw [if_pos q]; simp
    · rename_i q2; rw [if_neg q2]
      split at h
      · rename_i q; rw [if_pos q]; simp
      · rename_i q3; rw [if_neg q3]
        split at h
        · rename_i q; rw [if_pos q]; simp
        · rename_i q4; rw [if_neg q4]
          split at h
          · rename_i q; rw [if_pos q]; simp
          · rename_i q5; rw [if_neg q5]
            split at h
            · cases h
            · rename_i q6
              rw [if_neg q6]
              split at h
              · exact chr_ne _ h
              · cases h
theorem bef_len (c : UInt8) (l : Txt) : (bef c l).length + (aft c l).length = l.length := by
  have := congrArg List.length (bef_aft c l)
  rw [List.length_append] at this
  exact this
theorem res_grows : ∀ (f : Nat) (l : Txt) (a : Nat) (acc : Txt), (res f l a acc).2.2 = 0 → acc.length + (if l = [] then 0 else 1) ≤ (res f l a acc).1.length
  | 0, l, a, acc, _ => by
    simp only [res, List.length_append]
    split
    · omega
    · rename_i h
      have := List.length_pos_iff.2 h
      omega
  | f + 1, l, a, acc, h => by
    rw [res] at h ⊢
    split at h
    · rename_i q
      rw [if_pos q]
      simp only [List.length_append]
      split
      · omega
      · rename_i h
        have := List.length_pos_iff.2 h
        omega
    · rename_i q1
      rw [if_neg q1]
      split at h
      · cases h
      · rename_i q2
        rw [if_neg q2]
        split at h
        · rename_i q3; exact absurd h q3
        · rename_i q3
          rw [if_neg q3]
          have h2 := res_grows f _ _ _ h
          have h3 := List.length_pos_iff.2 (ref_ne _ (Decidable.not_not.1 q3))
          rw [List.length_append, List.length_append] at h2
          split <;> omega
theorem resolve_ne {l : Txt} (h : (resolve l).2.2 = 0) (hl : l ≠ []) : (resolve l).1 ≠ [] := by
  have := res_grows _ _ _ _ h
  rw [if_neg hl] at this
  intro e
  unfold resolve at e
  rw [e] at this
  simp at this
theorem res_place : ∀ (f : Nat) (l : Txt) (a : Nat) (acc : Txt), (res f l a acc).2.2 ≠ 0 → (res f l a acc).2.1 ≤ a + l.length
  | 0, l, a, acc, h => absurd rfl h
  | f + 1, l, a, acc, h => by
    have hb := bef_len 38 l
    have hc := bef_len 59 (aft 38 l)
    rw [res] at h ⊢
    split at h
    · exact absurd rfl h
    · rename_i q1
      rw [if_neg q1]
      split at h
      · rename_i q2
        rw [if_pos q2]
        simp only
        omega
      · rename_i q2
        rw [if_neg q2]
        split at h
        · rename_i q3
          rw [if_pos q3]
          simp only
          omega
        · rename_i q3
          rw [if_neg q3]
          have h2 := res_place f _ _ _ h
          have h3 := List.length_pos_iff.2 q2
          rw [List.length_drop] at h2
          omega
theorem resolve_place {l : Txt} (h : (resolve l).2.2 ≠ 0) : (resolve l).2.1 ≤ l.length := by
  have := res_place _ _ _ _ h
  rw [Nat.zero_add] at this
  exact this
/-- A step of the law's: what was there last, and what is open. -/
def step (N : Nat) (s : Option Nat × List Txt) (x : T) : Option (Option Nat × List Txt) :=
  if N ≤ x.at_ then none
  else if (match s.1 with | some p => decide (x.at_ < p) || decide (s.2 = []) | none => decide (x.kind ≠ 1)) = true then none
  else match (if x.kind = 1 then some (s.2 ++ [x.name]) else if x.kind = 2 then (if s.2.getLast? = some x.name then some s.2.dropLast else none) else if x.kind = 3 then (if x.text = [] ∨ x.name ≠ [] then none else some s.2) else none) with
    | none => none
    | some op => if 32 < op.length ∨ 32 < x.attrs.length then none else some (some x.at_, op)
def chk (N : Nat) (l : List T) (s : Option Nat × List Txt) : Option (Option Nat × List Txt) := l.foldlM (step N) s
theorem chk_snoc {N : Nat} {l : List T} {s s1 s2 : Option Nat × List Txt} {x : T} (h : chk N l s = some s1) (h2 : step N s1 x = some s2) : chk N (l ++ [x]) s = some s2 := by
  unfold chk at h ⊢
  rw [List.foldlM_append, h]
  simp [h2]
def lastAt (l : List T) : Option Nat := l.getLast?.map T.at_
/-- What holds of what has been read up to a place. -/
structure Inv (N : Nat) (st : S) (a : Nat) : Prop where
  fold : chk N st.toks (none, []) = some (lastAt st.toks, st.opened)
  le : ∀ p, lastAt st.toks = some p → p ≤ a
  root : st.rooted = false → st.toks = [] ∧ st.opened = []
  some_ : st.rooted = true → st.toks ≠ []
theorem Inv.mono {N : Nat} {st : S} {a b : Nat} (h : Inv N st a) (hab : a ≤ b) : Inv N st b := ⟨h.fold, fun p hp => Nat.le_trans (h.le p hp) hab, h.root, h.some_⟩
theorem lastAt_snoc (l : List T) (x : T) : lastAt (l ++ [x]) = some x.at_ := by unfold lastAt; simp
theorem lastAt_none {l : List T} : lastAt l = none ↔ l = [] := by
  unfold lastAt
  rw [Option.map_eq_none_iff, List.getLast?_eq_none_iff]
theorem Inv.push {N : Nat} {st : S} {a : Nat} (h : Inv N st a) (x : T) (op : List Txt) (hx : x.at_ = a) (hs : step N (lastAt st.toks, st.opened) x = some (some x.at_, op)) : Inv N ⟨st.toks ++ [x], op, true⟩ a :=
  ⟨by
    have := chk_snoc h.fold hs
    rw [this, lastAt_snoc], fun p hp => by rw [lastAt_snoc] at hp; cases hp; exact Nat.le_of_eq hx, fun q => (by cases q), fun _ q => by simp at q⟩
theorem step_text {N a : Nat} {st : S} (h : Inv N st a) (ha : a < N) (ho : st.opened ≠ []) (hd : st.opened.length ≤ 32) {t : Txt} (ht : t ≠ []) : step N (lastAt st.toks, st.opened) ⟨3, [], [], t, a⟩ = some (some a, st.opened) := by
  unfold step
  simp only
  rw [if_neg (by omega)]
  have hr : st.rooted = true := by
    cases e : st.rooted with
    | true => rfl
    | false => exact absurd (h.root e).2 ho
  cases hl : lastAt st.toks with
  | none => exact absurd (lastAt_none.1 hl) (h.some_ hr)
  | some p =>
    have hp := h.le p hl
    simp only
    rw [if_neg (by simp; exact ⟨hp, ho⟩)]
    rw [if_neg (by decide), if_neg (by decide), if_pos trivial, if_neg (by simp; exact ht)]
    simp only
    rw [if_neg (by simp; omega)]
theorem step_open {N a : Nat} {st : S} (h : Inv N st a) (ha : a < N) (ho : ¬ (st.rooted = true ∧ st.opened = [])) (hd : st.opened.length < 32) {nm : Txt} {ats : List (Txt × Txt)} (hn : ats.length ≤ 32) : step N (lastAt st.toks, st.opened) ⟨1, nm, ats, [], a⟩ = some (some a, st.opened ++ [nm]) := by
  unfold step
  simp only
  rw [if_neg (by omega)]
  have h2 : ¬ (match lastAt st.toks with | some p => decide (a < p) || decide (st.opened = []) | none => decide ((1 : Nat) ≠ 1)) = true := by
    cases hl : lastAt st.toks with
    | none => simp
    | some p =>
      have hp := h.le p hl
      have hr : st.rooted = true := by
        cases e : st.rooted with
        | true => rfl
        | false => rw [(h.root e).1] at hl; cases hl
      simp only [Bool.or_eq_true, decide_eq_true_eq, not_or]
      exact ⟨by omega, fun q => ho ⟨hr, q⟩⟩
  rw [if_neg h2, if_pos trivial]
  simp only
  rw [if_neg (by simp; omega)]
theorem step_close {N a : Nat} {st : S} (h : Inv N st a) (ha : a < N) (hd : st.opened.length ≤ 32) {nm : Txt} (ho : st.opened.getLast? = some nm) : step N (lastAt st.toks, st.opened) ⟨2, nm, [], [], a⟩ = some (some a, st.opened.dropLast) := by
  unfold step
  simp only
  rw [if_neg (by omega)]
  have hne : st.opened ≠ [] := by intro e; rw [e] at ho; cases ho
  have hr : st.rooted = true := by
    cases e : st.rooted with
    | true => rfl
    | false => exact absurd (h.root e).2 hne
  cases hl : lastAt st.toks with
  | none => exact absurd (lastAt_none.1 hl) (h.some_ hr)
  | some p =>
    have hp := h.le p hl
    simp only
    rw [if_neg (by simp; exact ⟨hp, hne⟩), if_neg (by decide), if_pos trivial, if_pos ho]
    simp only
    rw [if_neg (by simp; omega)]
theorem resAll_len : ∀ (l : List (Txt × Txt)) (r : List (Txt × Txt)), resAll l = .inr r → r.length = l.length
  | [], r, h => by cases h; rfl
  | a :: l, r, h => by
    rw [resAll] at h
    split at h
    · cases h
    · cases hl : resAll l with
      | inl e => rw [hl] at h; cases h
      | inr q =>
        rw [hl] at h
        simp only [Sum.inr.injEq] at h
        rw [← h, List.length_cons, List.length_cons, resAll_len l q hl]
theorem resAll_why : ∀ (l : List (Txt × Txt)) (e : Nat), resAll l = .inl e → e ≠ 0
  | [], e, h => by cases h
  | a :: l, e, h => by
    rw [resAll] at h
    split at h
    · rename_i q; cases h; exact q
    · cases hl : resAll l with
      | inl e2 => rw [hl] at h; cases h; exact resAll_why l _ hl
      | inr q => rw [hl] at h; cases h
theorem begin_inv {N a : Nat} {st st2 : S} {t : Tag} (h : Inv N st a) (ha : a < N) (hd : st.opened.length ≤ 32) (hb : begin_ t a st = .inr st2) : Inv N st2 a ∧ st2.opened.length ≤ 32 := by
  unfold begin_ at hb
  split at hb
  · cases hb
  · rename_i q1
    split at hb
    · cases hb
    · rename_i q2
      split at hb
      · cases hb
      · cases hr : resAll t.attrs with
        | inl e => rw [hr] at hb; cases hb
        | inr ats =>
          rw [hr] at hb
          simp only [Sum.inr.injEq] at hb
          subst hb
          have hl := resAll_len _ _ hr
          exact ⟨h.push _ _ rfl (step_open h ha q1 (by omega) (by omega)), by simp; omega⟩
theorem begin_why {a e : Nat} {st : S} {t : Tag} (hb : begin_ t a st = .inl e) : e ≠ 0 := by
  unfold begin_ at hb
  split at hb
  · cases hb; decide
  · split at hb
    · cases hb; decide
    · split at hb
      · cases hb; decide
      · cases hr : resAll t.attrs with
        | inl e2 => rw [hr] at hb; cases hb; exact resAll_why _ _ hr
        | inr ats => rw [hr] at hb; cases hb
theorem finish_inv {N a : Nat} {st st2 : S} {t : Tag} (h : Inv N st a) (ha : a < N) (hd : st.opened.length ≤ 32) (hb : finish t a st = .inr st2) : Inv N st2 a ∧ st2.opened.length ≤ 32 := by
  unfold finish at hb
  split at hb
  · rename_i q
    simp only [Sum.inr.injEq] at hb
    subst hb
    have hr : st.rooted = true := by
      cases e : st.rooted with
      | true => rfl
      | false => rw [(h.root e).2] at q; cases q
    rw [hr]
    exact ⟨h.push _ _ rfl (step_close h ha hd q), by simp; omega⟩
  · cases hb
theorem piece_inv {N a : Nat} {st st2 : S} {s : Txt} (h : Inv N st a) (ha : a < N) (hd : st.opened.length ≤ 32) (hb : piece s a st = .inr st2) : Inv N st2 a ∧ st2.opened.length ≤ 32 := by
  unfold piece at hb
  split at hb
  · split at hb
    · cases hb; exact ⟨h, hd⟩
    · cases hb
  · split at hb
    · split at hb
      · cases hb
      · cases hb; exact ⟨h, hd⟩
    · cases ht : readTag ((s.drop 1).take (s.length - 2)) with
      | none => rw [ht] at hb; cases hb
      | some t =>
        rw [ht] at hb
        simp only at hb
        by_cases ho : t.opens = true
        · rw [if_pos ho] at hb
          cases hg : begin_ t a st with
          | inl e => rw [hg] at hb; cases hb
          | inr st1 =>
            obtain ⟨h1, h2⟩ := begin_inv h ha hd hg
            rw [hg] at hb
            simp only at hb
            split at hb
            · exact finish_inv h1 ha h2 hb
            · cases hb; exact ⟨h1, h2⟩
        · rw [if_neg ho] at hb
          simp only at hb
          split at hb
          · exact finish_inv h ha hd hb
          · cases hb; exact ⟨h, hd⟩
theorem piece_why {a e : Nat} {st : S} {s : Txt} (hb : piece s a st = .inl e) : e ≠ 0 := by
  unfold piece at hb
  split at hb
  · split at hb
    · cases hb
    · cases hb; decide
  · split at hb
    · split at hb
      · cases hb; decide
      · cases hb
    · cases ht : readTag ((s.drop 1).take (s.length - 2)) with
      | none => rw [ht] at hb; cases hb; decide
      | some t =>
        rw [ht] at hb
        simp only at hb
        have hf : ∀ st1, finish t a st1 = .inl e → e ≠ 0 := by
          intro st1 q
          unfold finish at q
          split at q
          · cases q
          · cases q; decide
        by_cases ho : t.opens = true
        · rw [if_pos ho] at hb
          cases hg : begin_ t a st with
          | inl e2 => rw [hg] at hb; cases hb; exact begin_why hg
          | inr st1 =>
            rw [hg] at hb
            simp only at hb
            split at hb
            · exact hf _ hb
            · cases hb
        · rw [if_neg ho] at hb
          simp only at hb
          split at hb
          · exact hf _ hb
          · cases hb
theorem between_inv {N a : Nat} {st st2 : S} {pre : Txt} (h : Inv N st a) (ha : a + pre.length ≤ N) (hd : st.opened.length ≤ 32) (hb : between pre a st = .inr st2) : Inv N st2 a ∧ st2.opened.length ≤ 32 := by
  unfold between at hb
  split at hb
  · split at hb
    · cases hb; exact ⟨h, hd⟩
    · cases hb
  · rename_i ho
    split at hb
    · cases hb; exact ⟨h, hd⟩
    · rename_i hp
      split at hb
      · cases hb
      · rename_i hr
        simp only [Sum.inr.injEq] at hb
        subst hb
        have hpl := List.length_pos_iff.2 hp
        have hrt : st.rooted = true := by
          cases e : st.rooted with
          | true => rfl
          | false => exact absurd (h.root e).2 ho
        rw [hrt]
        exact ⟨h.push _ _ rfl (step_text h (by omega) ho hd (resolve_ne (by simpa using hr) hp)), hd⟩
theorem skip_len (l : Txt) : (skip l).length ≤ l.length := by
  unfold skip
  exact (List.dropWhile_sublist _).length_le
theorem between_why {a : Nat} {st : S} {pre : Txt} {e : Nat × Nat} (hb : between pre a st = .inl e) : e.2 ≠ 0 ∧ e.1 ≤ a + pre.length := by
  unfold between at hb
  split at hb
  · split at hb
    · cases hb
    · cases hb; exact ⟨by simp, by simp only; omega⟩
  · split at hb
    · cases hb
    · split at hb
      · rename_i hr
        cases hb
        exact ⟨hr, by have := resolve_place hr; simp only; omega⟩
      · cases hb
theorem scan_le : ∀ (l : Txt) (q : Option UInt8) (i n : Nat), scanQ q i l = some n → i < n ∧ n ≤ i + l.length
  | [], q, i, n, h => by cases q <;> cases h
  | b :: l, some q, i, n, h => by
    rw [scanQ] at h
    have := scan_le l _ _ _ h
    rw [List.length_cons]
    omega
  | b :: l, none, i, n, h => by
    rw [scanQ] at h
    rw [List.length_cons]
    split at h
    · have := scan_le l _ _ _ h; omega
    · split at h
      · cases h; omega
      · have := scan_le l _ _ _ h; omega
theorem index_le : ∀ (l sub : Txt) (i : Nat), Lib.index l sub = (i : Int) → i + sub.length ≤ l.length
  | [], sub, i, h => by
    unfold Lib.index at h
    split at h
    · rename_i q
      have : sub = [] := by simpa using q
      subst this
      simp
      omega
    · omega
  | b :: l, sub, i, h => by
    unfold Lib.index at h
    split at h
    · rename_i q
      have := (List.isPrefixOf_iff_prefix.1 q).length_le
      have : i = 0 := by omega
      omega
    · split at h
      · omega
      · rename_i q
        have hg : Lib.index l sub ≠ -1 := by simpa using q
        obtain ⟨j, hj⟩ : ∃ j : Nat, Lib.index l sub = (j : Int) := ⟨i - 1, by omega⟩
        have := index_le l sub j hj
        rw [List.length_cons]
        omega
theorem index_ge (l sub : Txt) : -1 ≤ Lib.index l sub := by
  induction l with
  | nil => unfold Lib.index; split <;> omega
  | cons b l ih => unfold Lib.index; split; · omega
                   · split <;> omega
theorem idx_some {l sub : Txt} {n : Nat} (h : idxOf l sub = some n) : Lib.index l sub = (n : Int) := by
  unfold idxOf at h
  have hg := index_ge l sub
  split at h
  · cases h
  · cases h; omega
theorem pieceEnd_le {l : Txt} {n : Nat} (h : pieceEnd l = some n) (hl : l ≠ []) : 0 < n ∧ n ≤ l.length := by
  have hp := List.length_pos_iff.2 hl
  unfold pieceEnd at h
  split at h
  · rename_i q
    obtain ⟨k, hk, e⟩ := Option.map_eq_some_iff.1 h
    have h1 := index_le _ _ _ (idx_some hk)
    have h2 := (List.isPrefixOf_iff_prefix.1 q).length_le
    rw [List.length_drop] at h1
    have e1 : commEnd.length = 3 := rfl
    have e2 : comm.length = 4 := rfl
    omega
  · split at h
    · rename_i q
      obtain ⟨k, hk, e⟩ := Option.map_eq_some_iff.1 h
      have h1 := index_le _ _ _ (idx_some hk)
      have h2 := (List.isPrefixOf_iff_prefix.1 q).length_le
      rw [List.length_drop] at h1
      have e1 : noteEnd.length = 2 := rfl
      have e2 : note.length = 2 := rfl
      omega
    · have := scan_le _ _ _ _ h
      rw [List.length_drop] at this
      omega
theorem thr_inv (N : Nat) : ∀ (f : Nat) (l : Txt) (a : Nat) (st st2 : S), Inv N st a → a + l.length ≤ N → st.opened.length ≤ 32 → thr f l a st = .inr st2 → Inv N st2 N ∧ st2.opened = [] ∧ st2.rooted = true
  | 0, l, a, st, st2, _, _, _, h => by cases h
  | f + 1, l, a, st, st2, hi, hN, hd, h => by
    have hbl := bef_len 60 l
    rw [thr] at h
    cases hb : between (bef 60 l) a st with
    | inl e => rw [hb] at h; cases h
    | inr st1 =>
      obtain ⟨h1, h2⟩ := between_inv hi (by omega) hd hb
      rw [hb] at h
      simp only at h
      split at h
      · split at h
        · cases h
        · rename_i q
          have q1 : st1.opened = [] := by
            cases e : st1.opened with
            | nil => rfl
            | cons _ _ => exact absurd (.inl (by rw [e]; simp)) q
          have q2 : st1.rooted = true := by
            cases e : st1.rooted with
            | true => rfl
            | false => exact absurd (.inr e) q
          cases h
          exact ⟨h1.mono (by omega), q1, q2⟩
      · rename_i hne
        have hpos := List.length_pos_iff.2 hne
        cases hp : pieceEnd (aft 60 l) with
        | none => rw [hp] at h; cases h
        | some n =>
          have hn := pieceEnd_le hp hne
          rw [hp] at h
          simp only at h
          cases hc : piece ((aft 60 l).take n) (a + (bef 60 l).length) st1 with
          | inl e => rw [hc] at h; cases h
          | inr st3 =>
            obtain ⟨h3, h4⟩ := piece_inv (h1.mono (by omega)) (by omega) h2 hc
            rw [hc] at h
            simp only at h
            exact thr_inv N f _ _ _ _ (h3.mono (by omega)) (by rw [List.length_drop]; omega) h4 h
theorem thr_why (N : Nat) : ∀ (f : Nat) (l : Txt) (a : Nat) (st : S) (e : Nat × Nat), a + l.length ≤ N → thr f l a st = .inl e → e.2 ≠ 0 ∧ e.1 ≤ N
  | 0, l, a, st, e, hN, h => by cases h; exact ⟨by simp, by simp only; omega⟩
  | f + 1, l, a, st, e, hN, h => by
    have hbl := bef_len 60 l
    rw [thr] at h
    cases hb : between (bef 60 l) a st with
    | inl e2 =>
      have := between_why hb
      rw [hb] at h
      cases h
      exact ⟨this.1, by omega⟩
    | inr st1 =>
      rw [hb] at h
      simp only at h
      split at h
      · split at h
        · cases h; exact ⟨by simp, by simp only; omega⟩
        · cases h
      · rename_i hne
        cases hp : pieceEnd (aft 60 l) with
        | none => rw [hp] at h; cases h; exact ⟨by simp, by simp only; omega⟩
        | some n =>
          have hn := pieceEnd_le hp hne
          rw [hp] at h
          simp only at h
          cases hc : piece ((aft 60 l).take n) (a + (bef 60 l).length) st1 with
          | inl e2 => rw [hc] at h; cases h; exact ⟨piece_why hc, by simp only; omega⟩
          | inr st3 =>
            rw [hc] at h
            simp only at h
            exact thr_why N f _ _ _ _ (by rw [List.length_drop]; omega) h
theorem inv_start (N : Nat) : Inv N start 0 := ⟨rfl, fun p hp => (by cases hp), fun _ => ⟨rfl, rfl⟩, fun h => (by cases h)⟩
/-- What the law asks of the parts. -/
theorem tokens_right {l : Txt} {st : S} (h : tokens l = .inr st) : chk l.length st.toks (none, []) = some (lastAt st.toks, []) ∧ st.toks ≠ [] := by
  obtain ⟨h1, h2, h3⟩ := thr_inv l.length _ l 0 start st (inv_start _) (by omega) (by decide) h
  exact ⟨by rw [h1.fold, h2], h1.some_ h3⟩
theorem tokens_why {l : Txt} {e : Nat × Nat} (h : tokens l = .inl e) : e.2 ≠ 0 ∧ e.1 ≤ l.length := thr_why l.length _ l 0 start e (by omega) h
/-- A comment, and a line feed. -/
def tailC : Txt := [60, 33, 45, 45, 32, 120, 32, 45, 45, 62, 10]
theorem prefix_app (p x r : Txt) (h : p.length ≤ x.length) : p.isPrefixOf (x ++ r) = p.isPrefixOf x := by
  rw [Bool.eq_iff_iff, List.isPrefixOf_iff_prefix, List.isPrefixOf_iff_prefix]
  constructor
  · intro q
    rw [List.prefix_iff_eq_take] at q ⊢
    rw [List.take_append_of_le_length h] at q
    exact q
  · intro q
    exact q.trans (List.prefix_append x r)
theorem index_app : ∀ (l sub r : Txt) (i : Nat), Lib.index l sub = (i : Int) → Lib.index (l ++ r) sub = (i : Int)
  | [], sub, r, i, h => by
    unfold Lib.index at h
    split at h
    · rename_i q
      have : sub = [] := by simpa using q
      subst this
      rw [List.nil_append]
      have : i = 0 := by omega
      subst this
      cases r with
      | nil => rfl
      | cons _ _ => rfl
    · omega
  | b :: l, sub, r, i, h => by
    have hle := index_le _ _ _ h
    have hp : sub.isPrefixOf (b :: (l ++ r)) = sub.isPrefixOf (b :: l) := prefix_app sub (b :: l) r (by omega)
    rw [List.cons_append, Lib.index, hp]
    unfold Lib.index at h
    split at h
    · rename_i q; rw [if_pos q]; exact h
    · rename_i q
      rw [if_neg q]
      split at h
      · omega
      · rename_i q2
        have hg : Lib.index l sub ≠ -1 := by simpa using q2
        obtain ⟨j, hj⟩ : ∃ j : Nat, Lib.index l sub = (j : Int) := ⟨i - 1, by omega⟩
        rw [index_app l sub r j hj, if_neg (by simp)]
        omega
theorem idx_app {l sub : Txt} {n : Nat} (r : Txt) (h : idxOf l sub = some n) : idxOf (l ++ r) sub = some n := by
  have := index_app l sub r n (idx_some h)
  unfold idxOf
  rw [this, if_neg (by omega)]
  simp
theorem scan_app : ∀ (l : Txt) (q : Option UInt8) (i n : Nat) (r : Txt), scanQ q i l = some n → scanQ q i (l ++ r) = some n
  | [], q, i, n, r, h => by cases q <;> cases h
  | b :: l, some q, i, n, r, h => by
    rw [List.cons_append, scanQ]
    rw [scanQ] at h
    exact scan_app l _ _ _ r h
  | b :: l, none, i, n, r, h => by
    rw [List.cons_append, scanQ]
    rw [scanQ] at h
    split at h
    · rename_i q; rw [if_pos q]; exact scan_app l _ _ _ r h
    · rename_i q
      rw [if_neg q]
      split at h
      · rename_i q2; rw [if_pos q2]; exact h
      · rename_i q2; rw [if_neg q2]; exact scan_app l _ _ _ r h
theorem comm_app (x : Txt) (h : x ≠ []) (h0 : x.head? = some 60) (r : Txt) : comm.isPrefixOf (x ++ 60 :: r) = comm.isPrefixOf x ∧ note.isPrefixOf (x ++ 60 :: r) = note.isPrefixOf x := by
  match x, h with
  | [a], _ => simp at h0; subst h0; exact ⟨by simp [comm, List.isPrefixOf], by simp [note, List.isPrefixOf]⟩
  | [a, b], _ => simp at h0; subst h0; exact ⟨by simp [comm, List.isPrefixOf], by simp [note, List.isPrefixOf]⟩
  | [a, b, c], _ => simp at h0; subst h0; exact ⟨by simp [comm, List.isPrefixOf], by simp [note, List.isPrefixOf]⟩
  | a :: b :: c :: d :: y, _ => exact ⟨prefix_app comm (a :: b :: c :: d :: y) _ (by simp [comm]), prefix_app note (a :: b :: c :: d :: y) _ (by simp [note])⟩
theorem pieceEnd_app {x : Txt} {n : Nat} (r : Txt) (h0 : x.head? = some 60) (h : pieceEnd x = some n) : pieceEnd (x ++ 60 :: r) = some n := by
  have hne : x ≠ [] := by intro e; rw [e] at h0; cases h0
  obtain ⟨h1, h2⟩ := comm_app x hne h0 r
  unfold pieceEnd at h ⊢
  rw [h1, h2]
  split at h
  · rename_i q
    rw [if_pos q]
    obtain ⟨k, hk, e⟩ := Option.map_eq_some_iff.1 h
    have hl := (List.isPrefixOf_iff_prefix.1 q).length_le
    have hd : (x ++ 60 :: r).drop 4 = x.drop 4 ++ 60 :: r := List.drop_append_of_le_length hl
    rw [hd, idx_app _ hk]
    exact congrArg some e
  · rename_i q
    rw [if_neg q]
    split at h
    · rename_i q2
      rw [if_pos q2]
      obtain ⟨k, hk, e⟩ := Option.map_eq_some_iff.1 h
      have hl := (List.isPrefixOf_iff_prefix.1 q2).length_le
      have hd : (x ++ 60 :: r).drop 2 = x.drop 2 ++ 60 :: r := List.drop_append_of_le_length hl
      rw [hd, idx_app _ hk]
      exact congrArg some e
    · rename_i q2
      rw [if_neg q2, List.drop_append_of_le_length (List.length_pos_iff.2 hne)]
      exact scan_app _ _ _ _ _ h
theorem bef_app2 (l r : Txt) : bef 60 (l ++ 60 :: r) = bef 60 l ∧ aft 60 (l ++ 60 :: r) = aft 60 l ++ 60 :: r := by
  induction l with
  | nil => exact ⟨by rw [List.nil_append, bef_hit]; rfl, by rw [List.nil_append, aft_hit]; rfl⟩
  | cons b l ih =>
    by_cases h : b = 60
    · subst h
      rw [List.cons_append, bef_hit, aft_hit, bef_hit, aft_hit]
      exact ⟨rfl, rfl⟩
    · rw [List.cons_append, bef_cons h, aft_cons h, bef_cons h, aft_cons h, ih.1, ih.2]
      exact ⟨rfl, rfl⟩
theorem aft_head {c : UInt8} {l : Txt} (h : aft c l ≠ []) : (aft c l).head? = some c := by
  induction l with
  | nil => exact absurd rfl h
  | cons b l ih =>
    by_cases hb : b = c
    · subst hb; rw [aft_hit]; rfl
    · rw [aft_cons hb] at h ⊢
      exact ih h
theorem thr_tail (f a : Nat) (st : S) (h1 : st.opened = []) (h2 : st.rooted = true) : thr (f + 2) tailC a st = .inr st := by
  have b1 : bef 60 tailC = [] := rfl
  have a1 : aft 60 tailC = tailC := rfl
  have bw : ∀ (pre : Txt) (k : Nat), skip pre = [] → between pre k st = .inr st := fun pre k hs => by unfold between; rw [if_pos h1, if_pos hs]
  have p1 : pieceEnd tailC = some 10 := by decide +kernel
  have pc : ∀ k, piece [60, 33, 45, 45, 32, 120, 32, 45, 45, 62] k st = .inr st := fun k => by
    unfold piece
    rw [if_pos (by decide), if_pos (by decide +kernel)]
  rw [thr, b1, a1, bw _ _ rfl]
  simp only
  rw [if_neg (by decide), p1]
  simp only [show tailC.take 10 = [60, 33, 45, 45, 32, 120, 32, 45, 45, 62] from rfl, pc, show tailC.drop 10 = [10] from rfl]
  rw [thr, show bef 60 [10] = [10] from rfl, show aft 60 [10] = [] from rfl, bw _ _ rfl]
  simp only
  rw [if_pos trivial, if_neg (by rw [h1, h2]; simp)]
theorem thr_more : ∀ (f g : Nat) (l : Txt) (a : Nat) (st st2 : S), f + 2 ≤ g → thr f l a st = .inr st2 → thr g (l ++ tailC) a st = .inr st2
  | 0, g, l, a, st, st2, _, h => by cases h
  | f + 1, g, l, a, st, st2, hg, h => by
    obtain ⟨g, rfl⟩ : ∃ k, g = k + 1 := ⟨g - 1, by omega⟩
    obtain ⟨hb1, ha1⟩ := bef_app2 l [33, 45, 45, 32, 120, 32, 45, 45, 62, 10]
    have ht : tailC = 60 :: [33, 45, 45, 32, 120, 32, 45, 45, 62, 10] := rfl
    rw [← ht] at hb1 ha1
    rw [thr] at h
    rw [thr, hb1, ha1]
    cases hb : between (bef 60 l) a st with
    | inl e => rw [hb] at h; cases h
    | inr st1 =>
      rw [hb] at h
      simp only at h ⊢
      rw [if_neg (by rw [ht]; simp)]
      split at h
      · rename_i hn
        split at h
        · cases h
        · rename_i q
          have e12 : st1 = st2 := Sum.inr.inj h
          subst e12
          have q1 : st1.opened = [] := by
            cases e : st1.opened with
            | nil => rfl
            | cons _ _ => exact absurd (.inl (by rw [e]; simp)) q
          have q2 : st1.rooted = true := by
            cases e : st1.rooted with
            | true => rfl
            | false => exact absurd (.inr e) q
          obtain ⟨k, rfl⟩ : ∃ k, g = k + 2 := ⟨g - 2, by omega⟩
          have hk := thr_tail k (a + (bef 60 l).length) st1 q1 q2
          rw [hn, List.nil_append]
          have p1 : pieceEnd tailC = some 10 := by decide +kernel
          rw [p1]
          have pc : ∀ k, piece [60, 33, 45, 45, 32, 120, 32, 45, 45, 62] k st1 = .inr st1 := fun k => by
            unfold piece
            rw [if_pos (by decide), if_pos (by decide +kernel)]
          simp only [show tailC.take 10 = [60, 33, 45, 45, 32, 120, 32, 45, 45, 62] from rfl, pc, show tailC.drop 10 = [10] from rfl]
          rw [thr, show bef 60 [10] = [10] from rfl, show aft 60 [10] = [] from rfl]
          have bw : ∀ k, between [10] k st1 = .inr st1 := fun k => by unfold between; rw [if_pos q1]; rfl
          rw [bw]
          simp only
          rw [if_pos trivial, if_neg (by rw [q1, q2]; simp)]
      · rename_i hne
        cases hp : pieceEnd (aft 60 l) with
        | none => rw [hp] at h; cases h
        | some n =>
          have hn := pieceEnd_le hp hne
          rw [hp] at h
          simp only at h
          rw [ht, pieceEnd_app _ (aft_head hne) hp, ← ht]
          simp only
          rw [List.take_append_of_le_length hn.2, List.drop_append_of_le_length hn.2]
          cases hc : piece ((aft 60 l).take n) (a + (bef 60 l).length) st1 with
          | inl e => rw [hc] at h; cases h
          | inr st3 =>
            rw [hc] at h
            simp only at h ⊢
            exact thr_more f g _ _ _ _ (by omega) h
theorem tokens_tail {l : Txt} {st : S} (h : tokens l = .inr st) : tokens (l ++ tailC) = .inr st := by
  unfold tokens at h ⊢
  exact thr_more _ _ _ _ _ _ (by rw [List.length_append]; show _ ≤ l.length + 11 + 1; omega) h
end Mk
end Go.Proofs.YthmhadgbhakdlaaDoor

/- The shelf's contracts of strings.Builder's writers at a dump where the shelf lays no strings.Join: the tables of numbers written by hand. -/
namespace Go.Proofs
open Go.Shelf Go.RowKit

def Tryd.pr_ren : Go.Shelf.Ren := ⟨fun | 166 => 12 | 167 => 17 | 240 => 28 | 276 => 42 | n => n, (fun | 0 => 0 | 3 => 3 | 4 => 4 | 5 => 5 | 9 => 9 | 20 => 20 | 37 => 40 | 70 => 39 | 72 => 42 | 75 => 44 | 76 => 45 | 80 => 51 | 127 => 71 | 164 => 91 | n => n), fun | n => n⟩
theorem Tryd.pr166 : Lays.n166 Tryd.prog Tryd.pr_ren := {
  mixed := by kernel_rfl
  t0 := Tryd.underlying0
  a0 := Tryd.isAgg0
  z0 := Tryd.sizeOf0
  v0 := Tryd.zeroValue0
  t3 := Tryd.underlying3
  a3 := Tryd.isAgg3
  z3 := Tryd.sizeOf3
  v3 := Tryd.zeroValue3
  t4 := Tryd.underlying4
  a4 := Tryd.isAgg4
  z4 := Tryd.sizeOf4
  v4 := Tryd.zeroValue4
  t9 := Tryd.underlying9
  a9 := Tryd.isAgg9
  z9 := Tryd.sizeOf9
  v9 := Tryd.zeroValue9
  t20 := Tryd.underlying20
  a20 := Tryd.isAgg20
  z20 := Tryd.sizeOf20
  v20 := Tryd.zeroValue20
  t37 := Tryd.underlying40
  a37 := Tryd.isAgg40
  z37 := Tryd.sizeOf40
  v37 := Tryd.zeroValue40
  t70 := Tryd.underlying39
  a70 := Tryd.isAgg39
  z70 := Tryd.sizeOf39
  v70 := Tryd.zeroValue39
  t72 := Tryd.underlying42
  a72 := Tryd.isAgg42
  z72 := Tryd.sizeOf42
  v72 := Tryd.zeroValue42
  t75 := Tryd.underlying44
  a75 := Tryd.isAgg44
  z75 := Tryd.sizeOf44
  v75 := Tryd.zeroValue44
  t164 := Tryd.underlying91
  a164 := Tryd.isAgg91
  z164 := Tryd.sizeOf91
  v164 := Tryd.zeroValue91
  f166 := Tryd.func12.trans (congrArg some (by kernel_rfl))
  f240 := Tryd.func28.trans (congrArg some (by kernel_rfl))
  f276 := Tryd.func42.trans (congrArg some (by kernel_rfl)) }
theorem Tryd.pr167 : Lays.n167 Tryd.prog Tryd.pr_ren := {
  mixed := by kernel_rfl
  t0 := Tryd.underlying0
  a0 := Tryd.isAgg0
  z0 := Tryd.sizeOf0
  v0 := Tryd.zeroValue0
  t4 := Tryd.underlying4
  a4 := Tryd.isAgg4
  z4 := Tryd.sizeOf4
  v4 := Tryd.zeroValue4
  t5 := Tryd.underlying5
  a5 := Tryd.isAgg5
  z5 := Tryd.sizeOf5
  v5 := Tryd.zeroValue5
  t9 := Tryd.underlying9
  a9 := Tryd.isAgg9
  z9 := Tryd.sizeOf9
  v9 := Tryd.zeroValue9
  t20 := Tryd.underlying20
  a20 := Tryd.isAgg20
  z20 := Tryd.sizeOf20
  v20 := Tryd.zeroValue20
  t37 := Tryd.underlying40
  a37 := Tryd.isAgg40
  z37 := Tryd.sizeOf40
  v37 := Tryd.zeroValue40
  t70 := Tryd.underlying39
  a70 := Tryd.isAgg39
  z70 := Tryd.sizeOf39
  v70 := Tryd.zeroValue39
  t72 := Tryd.underlying42
  a72 := Tryd.isAgg42
  z72 := Tryd.sizeOf42
  v72 := Tryd.zeroValue42
  t75 := Tryd.underlying44
  a75 := Tryd.isAgg44
  z75 := Tryd.sizeOf44
  v75 := Tryd.zeroValue44
  t164 := Tryd.underlying91
  a164 := Tryd.isAgg91
  z164 := Tryd.sizeOf91
  v164 := Tryd.zeroValue91
  f167 := Tryd.func17.trans (congrArg some (by kernel_rfl))
  f240 := Tryd.func28.trans (congrArg some (by kernel_rfl))
  f276 := Tryd.func42.trans (congrArg some (by kernel_rfl)) }
theorem Tryd.prX : Builder.Extra Tryd.prog Tryd.pr_ren := {
  sizeBuilder := by kernel_rfl
  liesBuilder := by kernel_rfl
  t5 := Tryd.underlying5
  a5 := Tryd.isAgg5
  z5 := Tryd.sizeOf5
  v5 := Tryd.zeroValue5
  infoByte := by kernel_rfl
  cellsByte := by kernel_rfl
  sizeByte := by kernel_rfl
  neB5 := by decide }
theorem Tryd.prWriteByte (B b : Nat) (bs : List Value) (c : Int) (w : World) (h : Lib.IsBuilderF 42 5 B b bs w) (hlen : bs.length + 1 ≤ 140737488355328) (hBw : B ≤ w.heap.size) :
    Calls Tryd.prog 17 #[.pointer (some ⟨b, 0, none⟩), .int .u8 c] w fun e w' => e = .returned .nilIface ∧ (Lib.BuilderAtF 42 5 B b (.pointer (some ⟨b, 0, none⟩)) (bs ++ [.int .u8 c]) w' ∧ Below B w w' ∧ Lib.OthersKept 5 (some b) w w') :=
  Any.Builder_WriteByte_k Tryd.pr167 Tryd.prX B b bs c w h hlen hBw
theorem Tryd.prWriteString (B b : Nat) (bs : List Value) (s : ByteArray) (w : World) (h : Lib.IsBuilderF 42 5 B b bs w) (hlen : bs.length + s.size ≤ 140737488355328) (hBw : B ≤ w.heap.size) :
    Calls Tryd.prog 12 #[.pointer (some ⟨b, 0, none⟩), .string s] w fun e w' => e = .returned (.tuple #[.int .i64 s.size, .nilIface]) ∧ (Lib.BuilderAtF 42 5 B b (.pointer (some ⟨b, 0, none⟩)) (bs ++ Lib.strCells s) w' ∧ Below B w w' ∧ Lib.OthersKept 5 (some b) w w') :=
  Any.Builder_WriteString_k Tryd.pr166 Tryd.prX B b bs s w h hlen hBw
end Go.Proofs

/- markup: a builder that is written; where a byte stands first. -/
namespace Go.Proofs.YthmhadgbhakdlaaDoor
open Go.RowKit

namespace Mk
/-- A builder in block b, that holds these bytes. -/
abbrev IsB (w : World) (b : Nat) (l : Txt) : Prop := Lib.IsBuilderF 42 5 b b (Lib.byteCells l) w
theorem atF_call {w w' : World} {B b : Nat} {T e : TypeId} {p : Value} {bs : List Value} (h : Lib.BuilderAtF T e B b p bs w) (hb : Below w.heap.size w w') : Lib.BuilderAtF T e B b p bs w' := by
  have hlt := h.lt
  obtain ⟨hB, v, hbk, hown, hne⟩ := h
  refine ⟨hB, v, (hb.block b hlt).trans hbk, ?_, hne⟩
  refine hown.kept (row := none) ⟨hb.os, hb.tape, hb.output, hb.size, fun k hk _ => hb.block k hk⟩ ?_
  cases v.ownBlock <;> simp
theorem IsB.call {w w' : World} {b : Nat} {l : Txt} (h : IsB w b l) (hb : Below w.heap.size w w') : IsB w' b l := h.elim (fun x => .inl (atF_call x hb)) (fun x => .inr (atF_call x hb))
theorem IsB.lt {w : World} {b : Nat} {l : Txt} (h : IsB w b l) : b < w.heap.size := h.elim (fun x => x.lt) (fun x => x.lt)
theorem bytes_app (a b : Txt) : Lib.byteCells (a ++ b) = Lib.byteCells a ++ Lib.byteCells b := by unfold Lib.byteCells; rw [List.map_append]
theorem bytes_one (l : Txt) (c : UInt8) : Lib.byteCells l ++ [.int .u8 (c.toNat : Int)] = Lib.byteCells (l ++ [c]) := by rw [bytes_app]; rfl
theorem bytes_str (l t : Txt) : Lib.byteCells l ++ Lib.strCells (bts t) = Lib.byteCells (l ++ t) := by rw [bytes_app]; rfl
theorem cells_len (l : Txt) : (Lib.byteCells l).length = l.length := by unfold Lib.byteCells; rw [List.length_map]
/-- A byte more. -/
theorem putB {g : Nat} {l : Txt} {w : World} (c : UInt8) (h : IsB w g l) (hl : l.length ≤ 100000000000000) :
    Calls Tryd.prog 17 #[.pointer (some ⟨g, 0, none⟩), .int .u8 (c.toNat : Int)] w fun e w' => e = .returned .nilIface ∧ IsB w' g (l ++ [c]) ∧ Below g w w' :=
  (Tryd.prWriteByte g g _ (c.toNat : Int) w h (by rw [cells_len]; omega) (Nat.le_of_lt h.lt)).mono fun _ _ h2 => ⟨h2.1, by show Lib.IsBuilderF _ _ _ _ _ _; rw [← bytes_one]; exact .inr h2.2.1, h2.2.2.1⟩
/-- A text more. -/
theorem putS {g : Nat} {l : Txt} {w : World} (t : ByteArray) (h : IsB w g l) (hl : l.length ≤ 100000000000000) (ht : t.size ≤ 100000000) :
    Calls Tryd.prog 12 #[.pointer (some ⟨g, 0, none⟩), .string t] w fun e w' => e = .returned (.tuple #[.int .i64 t.size, .nilIface]) ∧ IsB w' g (l ++ tl t) ∧ Below g w w' :=
  (Tryd.prWriteString g g _ t w h (by rw [cells_len]; omega) (Nat.le_of_lt h.lt)).mono fun _ _ h2 => ⟨h2.1, by show Lib.IsBuilderF _ _ _ _ _ _; rw [← bytes_str]; exact .inr h2.2.1, h2.2.2.1⟩
/-- All that is there. -/
theorem takeS {g : Nat} {l : Txt} {w : World} (h : IsB w g l) :
    Calls Tryd.prog 14 #[.pointer (some ⟨g, 0, none⟩)] w fun e w' => e = .returned (.string (bts l)) ∧ Below g w w' :=
  (Tryd.Builder_String_any_k g g _ w h (Nat.le_of_lt h.lt)).mono fun _ _ h2 => ⟨h2.1, h2.2.2.1⟩
theorem fresh (w : World) : IsB (w.alloc (.cells #[.pointer none, .slice none 0 0] 42)) w.heap.size [] := Lib.IsBuilderF.of (Lib.fresh_isBuilder _ _ w)
theorem below_new (w : World) (o : Obj) : Below w.heap.size w (w.alloc o) := (Below.refl _ _).alloc (Nat.le_refl _) _
/-- Where a byte stands first. -/
def ib (c : UInt8) (l : Txt) : Int := if aft c l = [] then -1 else ((bef c l).length : Int)
theorem ib_eq (c : UInt8) : ∀ l : Txt, Lib.indexByte l c = ib c l
  | [] => rfl
  | b :: l => by
    by_cases h : b = c
    · subst h
      rw [Lib.indexByte, if_pos (by simp)]
      unfold ib
      rw [aft_hit, bef_hit, if_neg (by simp)]
      rfl
    · rw [Lib.indexByte, if_neg (by simpa using h), ib_eq c l]
      unfold ib
      rw [aft_cons h, bef_cons h]
      by_cases h2 : aft c l = []
      · rw [if_pos h2, if_pos h2]; rfl
      · rw [if_neg h2, if_neg h2, if_neg (by simp), List.length_cons]
        omega
theorem idx_any (s : ByteArray) (c : UInt8) (w : World) :
    Calls Tryd.prog 36 #[.string s, .int .u8 (c.toNat : Int)] w fun e w' => e = .returned (.int .i64 (ib c (tl s))) ∧ w' = w := by
  have h := Tryd.strings_IndexByte s (c.toNat : Int) w
  rw [show (c.toNat : Int).toNat.toUInt8 = c by simp, ib_eq] at h
  exact h
theorem aft_drop (c : UInt8) (l : Txt) : aft c l = l.drop (bef c l).length := by
  have h := bef_aft c l
  have h2 : (bef c l ++ aft c l).drop (bef c l).length = aft c l := List.drop_left
  rw [h] at h2
  exact h2.symm
theorem bef_take (c : UInt8) (l : Txt) : bef c l = l.take (bef c l).length := by
  have h := bef_aft c l
  have h2 : (bef c l ++ aft c l).take (bef c l).length = bef c l := List.take_left
  rw [h] at h2
  exact h2.symm
theorem encC_len (c : Nat) : (tl (encC c)).length ≤ 4 := by
  unfold encC
  split
  · show 1 ≤ 4; decide
  · split
    · show 2 ≤ 4; decide
    · split
      · show 3 ≤ 4; decide
      · show 4 ≤ 4; decide
theorem chr_len (l : Txt) : (chr l).2.length ≤ 4 := by
  unfold chr
  cases chrNum l with
  | none => simp
  | some n =>
    have he : (tl (Utf8.encode (n : Int))).length ≤ 4 := by rw [enc_eq]; exact encC_len _
    simp only
    generalize tl (Utf8.encode (n : Int)) = z at he ⊢
    split
    · simp
    · split
      · exact he
      · simp
theorem ref_len (l : Txt) : (ref l).2.length ≤ 4 := by
  unfold ref
  repeat' split
  all_goals first | exact chr_len _ | simp
/-- A round of what is resolved. -/
theorem res_end {f a : Nat} {l acc : Txt} (h : aft 38 l = []) : res (f + 1) l a acc = (acc ++ l, 0, 0) := by rw [res, if_pos h]
theorem res_open {f a : Nat} {l acc : Txt} (h : aft 38 l ≠ []) (h2 : aft 59 (aft 38 l) = []) : res (f + 1) l a acc = ([], a + (bef 38 l).length, 4) := by rw [res, if_neg h, if_pos h2]
theorem res_bad {f a : Nat} {l acc : Txt} (h : aft 38 l ≠ []) (h2 : aft 59 (aft 38 l) ≠ []) (h3 : (ref ((bef 59 (aft 38 l)).drop 1)).1 ≠ 0) : res (f + 1) l a acc = ([], a + (bef 38 l).length, (ref ((bef 59 (aft 38 l)).drop 1)).1) := by rw [res, if_neg h, if_neg h2, if_pos h3]
theorem res_more {f a : Nat} {l acc : Txt} (h : aft 38 l ≠ []) (h2 : aft 59 (aft 38 l) ≠ []) (h3 : (ref ((bef 59 (aft 38 l)).drop 1)).1 = 0) : res (f + 1) l a acc = res f ((aft 59 (aft 38 l)).drop 1) (a + (bef 38 l).length + (bef 59 (aft 38 l)).length + 1) (acc ++ bef 38 l ++ (ref ((bef 59 (aft 38 l)).drop 1)).2) := by rw [res, if_neg h, if_neg h2, if_neg (by simpa using h3)]
end Mk
end Go.Proofs.YthmhadgbhakdlaaDoor
