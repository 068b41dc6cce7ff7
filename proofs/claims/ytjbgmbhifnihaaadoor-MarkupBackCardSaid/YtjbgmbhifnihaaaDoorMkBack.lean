/- MarkupBack, plain: what is escaped is resolved to what it was. -/
import Derived.Test.YtjbgmbhifnihaaaDoorMkMath
namespace Go.Proofs.YtjbgmbhifnihaaaDoor
open Go.RowKit

namespace Mk
theorem bef_cons {c b : UInt8} (h : b ≠ c) (l : Txt) : bef c (b :: l) = b :: bef c l := by unfold bef; rw [List.takeWhile_cons, if_pos (by simpa using h)]
theorem aft_cons {c b : UInt8} (h : b ≠ c) (l : Txt) : aft c (b :: l) = aft c l := by unfold aft; rw [List.dropWhile_cons, if_pos (by simpa using h)]
theorem bef_hit (c : UInt8) (l : Txt) : bef c (c :: l) = [] := by unfold bef; rw [List.takeWhile_cons, if_neg (by simp)]
theorem aft_hit (c : UInt8) (l : Txt) : aft c (c :: l) = c :: l := by unfold aft; rw [List.dropWhile_cons, if_neg (by simp)]
theorem bef_app {c : UInt8} : ∀ {l : Txt} (_ : c ∉ l) (r : Txt), bef c (l ++ r) = l ++ bef c r
  | [], _, r => rfl
  | b :: l, h, r => by
    rw [List.cons_append, bef_cons (fun e => h (by simp [e])), bef_app (fun q => h (by simp [q])) r, List.cons_append]
theorem aft_app {c : UInt8} : ∀ {l : Txt} (_ : c ∉ l) (r : Txt), aft c (l ++ r) = aft c r
  | [], _, r => rfl
  | b :: l, h, r => by
    rw [List.cons_append, aft_cons (fun e => h (by simp [e])), aft_app (fun q => h (by simp [q])) r]
theorem aft_none {c : UInt8} {l : Txt} (h : c ∉ l) : aft c l = [] := by
  have := aft_app h []
  rw [List.append_nil] at this
  exact this
theorem bef_none {c : UInt8} {l : Txt} (h : c ∉ l) : bef c l = l := by
  have := bef_app h []
  rw [List.append_nil] at this
  rw [this]
  simp [bef]
theorem res_cons (f : Nat) (b : UInt8) (x : Txt) (a : Nat) (acc : Txt) (h : b ≠ 38) : res (f + 1) (b :: x) a acc = res (f + 1) x (a + 1) (acc ++ [b]) := by
  have e1 := bef_cons h x
  have e2 := aft_cons h x
  simp only [res, e1, e2, List.length_cons]
  rw [show a + ((bef 38 x).length + 1) = a + 1 + (bef 38 x).length by omega]
  simp only [List.append_assoc, List.singleton_append]
theorem res_hit (f : Nat) (nm : Txt) (c : UInt8) (x : Txt) (a : Nat) (acc : Txt) (h : (59 : UInt8) ∉ nm) (hr : ref nm = (0, [c])) : res (f + 1) (38 :: (nm ++ 59 :: x)) a acc = res f x (a + nm.length + 2) (acc ++ [c]) := by
  have e1 := bef_hit 38 (nm ++ 59 :: x)
  have e2 := aft_hit 38 (nm ++ 59 :: x)
  have e3 : bef 59 (38 :: (nm ++ 59 :: x)) = 38 :: nm := by rw [bef_cons (by decide), bef_app h, bef_hit, List.append_nil]
  have e4 : aft 59 (38 :: (nm ++ 59 :: x)) = 59 :: x := by rw [aft_cons (by decide), aft_app h, aft_hit]
  rw [res, e1, e2, if_neg (by simp), e4, if_neg (by simp), e3]
  simp only [List.drop_succ_cons, List.drop_zero, hr, ne_eq, not_true_eq_false, if_false, List.length_nil, List.length_cons, Nat.add_zero, List.append_nil]
  rw [show a + (nm.length + 1) + 1 = a + nm.length + 2 by omega]
theorem esc_cases (b : UInt8) : (esc1 b = [b] ∧ b ≠ 38 ∧ b ≠ 60 ∧ b ≠ 62 ∧ b ≠ 34 ∧ b ≠ 39) ∨ ∃ nm : Txt, esc1 b = 38 :: (nm ++ [59]) ∧ (59 : UInt8) ∉ nm ∧ ref nm = (0, [b]) ∧ (60 : UInt8) ∉ nm ∧ (34 : UInt8) ∉ nm ∧ (62 : UInt8) ∉ nm ∧ (39 : UInt8) ∉ nm := by
  unfold esc1
  by_cases h1 : b = 38
  · subst h1; exact .inr ⟨[97, 109, 112], by decide, by decide, by decide +kernel, by decide, by decide, by decide, by decide⟩
  · rw [if_neg h1]
    by_cases h2 : b = 60
    · subst h2; exact .inr ⟨[108, 116], by decide, by decide, by decide +kernel, by decide, by decide, by decide, by decide⟩
    · rw [if_neg h2]
      by_cases h3 : b = 62
      · subst h3; exact .inr ⟨[103, 116], by decide, by decide, by decide +kernel, by decide, by decide, by decide, by decide⟩
      · rw [if_neg h3]
        by_cases h4 : b = 34
        · subst h4; exact .inr ⟨[113, 117, 111, 116], by decide, by decide, by decide +kernel, by decide, by decide, by decide, by decide⟩
        · rw [if_neg h4]
          by_cases h5 : b = 39
          · subst h5; exact .inr ⟨[97, 112, 111, 115], by decide, by decide, by decide +kernel, by decide, by decide, by decide, by decide⟩
          · rw [if_neg h5]
            exact .inl ⟨rfl, h1, h2, h3, h4, h5⟩
theorem res_esc : ∀ (l : Txt) (f a : Nat) (acc : Txt), l.length < f → res f (esc l) a acc = (acc ++ l, 0, 0)
  | [], f, a, acc, h => by
    obtain ⟨f, rfl⟩ : ∃ g, f = g + 1 := ⟨f - 1, by omega⟩
    rfl
  | b :: l, f, a, acc, h => by
    obtain ⟨f, rfl⟩ : ∃ g, f = g + 1 := ⟨f - 1, by omega⟩
    rw [List.length_cons] at h
    have e : esc (b :: l) = esc1 b ++ esc l := by unfold esc; rw [List.flatMap_cons]
    rw [e]
    rcases esc_cases b with ⟨h1, h2, _⟩ | ⟨nm, h1, h2, h3, _⟩
    · rw [h1, List.singleton_append, res_cons f b _ _ _ h2, res_esc l (f + 1) _ _ (by omega), List.append_assoc]
      rfl
    · rw [h1]
      show res (f + 1) (38 :: ((nm ++ [59]) ++ esc l)) a acc = _
      rw [List.append_assoc, List.singleton_append, res_hit f nm b _ _ _ h2 h3, res_esc l f _ _ (by omega), List.append_assoc]
      rfl
theorem esc_len (l : Txt) : l.length ≤ (esc l).length ∧ (esc l).length ≤ 6 * l.length := by
  unfold esc
  induction l with
  | nil => simp
  | cons b r ih =>
    rw [List.flatMap_cons, List.length_append, List.length_cons]
    have : 1 ≤ (esc1 b).length ∧ (esc1 b).length ≤ 6 := by
      unfold esc1
      repeat' split
      all_goals simp
    omega
theorem resolve_esc (l : Txt) : resolve (esc l) = (l, 0, 0) := by
  have h := esc_len l
  unfold resolve
  rw [res_esc l _ _ _ (by omega)]
  rfl
theorem esc_not (l : Txt) : (60 : UInt8) ∉ esc l ∧ (34 : UInt8) ∉ esc l ∧ (62 : UInt8) ∉ esc l ∧ (39 : UInt8) ∉ esc l := by
  have key : ∀ c : UInt8, (∀ b, c ∉ esc1 b) → c ∉ esc l := by
    intro c hc hm
    unfold esc at hm
    obtain ⟨b, _, h⟩ := List.mem_flatMap.1 hm
    exact hc b h
  have h1 : ∀ b, (60 : UInt8) ∉ esc1 b ∧ (34 : UInt8) ∉ esc1 b ∧ (62 : UInt8) ∉ esc1 b ∧ (39 : UInt8) ∉ esc1 b := by
    intro b
    rcases esc_cases b with ⟨h, _, h2, h3, h4, h5⟩ | ⟨nm, h, _, _, h2, h3, h4, h5⟩
    · rw [h]
      simp only [List.mem_singleton]
      exact ⟨fun e => h2 e.symm, fun e => h4 e.symm, fun e => h3 e.symm, fun e => h5 e.symm⟩
    · rw [h]
      simp only [List.mem_cons, List.mem_append, List.not_mem_nil, or_false, not_or]
      exact ⟨⟨by decide, h2, by decide⟩, ⟨by decide, h3, by decide⟩, ⟨by decide, h4, by decide⟩, by decide, h5, by decide⟩
  exact ⟨key _ fun b => (h1 b).1, key _ fun b => (h1 b).2.1, key _ fun b => (h1 b).2.2.1, key _ fun b => (h1 b).2.2.2⟩
theorem esc_nil (l : Txt) : esc l = [] ↔ l = [] := by
  have h := esc_len l
  constructor
  · intro e
    rw [e] at h
    exact List.eq_nil_of_length_eq_zero (by simpa using h.1)
  · rintro rfl; rfl
theorem scan_thru (q : UInt8) : ∀ (e : Txt) (_ : q ∉ e) (i : Nat) (r : Txt), scanQ (some q) i (e ++ q :: r) = scanQ none (i + e.length + 1) r
  | [], _, i, r => by rw [List.nil_append, scanQ, if_pos rfl]; rfl
  | b :: e, h, i, r => by
    rw [List.cons_append, scanQ, if_neg (fun x => h (by simp [x])), scan_thru q e (fun x => h (by simp [x])), List.length_cons]
    congr 1
    omega
theorem not_comm (x : Txt) : comm.isPrefixOf (60 :: 97 :: x) = false := rfl
theorem not_note (x : Txt) : note.isPrefixOf (60 :: 97 :: x) = false := rfl
def wrap (e : Txt) : Txt := [60, 97, 32, 98, 61, 34] ++ e ++ [34, 62] ++ e ++ [60, 47, 97, 62]
/-- What an escaped text is read ats, within an element, and ats an attribute. -/
theorem tokens_wrap (l : Txt) : tokens (wrap (esc l)) = .inr ⟨[⟨1, [97], [([98], l)], [], 0⟩] ++ (if l = [] then [] else [⟨3, [], [], l, 8 + (esc l).length⟩]) ++ [⟨2, [97], [], [], 8 + 2 * (esc l).length⟩], [], true⟩ := by
  obtain ⟨n60, n34, _, _⟩ := esc_not l
  have hr := resolve_esc l
  have hnil := esc_nil l
  obtain ⟨e, he⟩ : ∃ e, esc l = e := ⟨_, rfl⟩
  rw [he] at n60 n34 hr hnil ⊢
  have hw : wrap e = 60 :: 97 :: 32 :: 98 :: 61 :: 34 :: (e ++ 34 :: 62 :: (e ++ [60, 47, 97, 62])) := by unfold wrap; simp
  have hl : (wrap e).length = 12 + 2 * e.length := by unfold wrap; simp; omega
  unfold tokens
  obtain ⟨f, hf⟩ : ∃ f, (wrap e).length = f + 2 := ⟨10 + 2 * e.length, by omega⟩
  rw [hf]
  -- the first piece
  have b1 : bef 60 (wrap e) = [] := by rw [hw]; exact bef_hit _ _
  have a1 : aft 60 (wrap e) = wrap e := by rw [hw]; exact aft_hit _ _
  have p1 : pieceEnd (wrap e) = some (8 + e.length) := by
    unfold pieceEnd
    rw [hw, not_comm, not_note, if_neg Bool.false_ne_true, if_neg Bool.false_ne_true]
    show scanQ none 1 (97 :: 32 :: 98 :: 61 :: 34 :: (e ++ 34 :: 62 :: (e ++ [60, 47, 97, 62]))) = _
    rw [scanQ, if_neg (by decide), if_neg (by decide), scanQ, if_neg (by decide), if_neg (by decide), scanQ, if_neg (by decide), if_neg (by decide), scanQ, if_neg (by decide), if_neg (by decide), scanQ, if_pos (by decide), scan_thru 34 e n34, scanQ, if_neg (by decide), if_pos rfl]
    congr 1
    omega
  have t1 : (wrap e).take (8 + e.length) = 60 :: 97 :: 32 :: 98 :: 61 :: 34 :: (e ++ [34, 62]) := by
    have : wrap e = (60 :: 97 :: 32 :: 98 :: 61 :: 34 :: (e ++ [34, 62])) ++ (e ++ [60, 47, 97, 62]) := by rw [hw]; simp
    rw [this, List.take_append_of_le_length (by simp; omega), List.take_of_length_le (by simp; omega)]
  have d1 : (wrap e).drop (8 + e.length) = e ++ [60, 47, 97, 62] := by
    have : wrap e = (60 :: 97 :: 32 :: 98 :: 61 :: 34 :: (e ++ [34, 62])) ++ (e ++ [60, 47, 97, 62]) := by rw [hw]; simp
    rw [this, List.drop_append_of_le_length (by simp; omega), List.drop_of_length_le (by simp; omega), List.nil_append]
  have ra : readAttr (98 :: 61 :: 34 :: (e ++ [34])) = some (([98], e), []) := by
    have c1 : cutN (98 :: 61 :: 34 :: (e ++ [34])) = ([98], 61 :: 34 :: (e ++ [34])) := by
      unfold cutN
      rw [if_pos (by show letter 98 = true; decide), List.takeWhile_cons, if_pos (by decide), List.takeWhile_cons, if_neg (by decide), List.dropWhile_cons, if_pos (by decide), List.dropWhile_cons, if_neg (by decide)]
    have s1 : skip (61 :: 34 :: (e ++ [34])) = 61 :: 34 :: (e ++ [34]) := by unfold skip; rw [List.dropWhile_cons, if_neg (by decide)]
    have s2 : skip (34 :: (e ++ [34])) = 34 :: (e ++ [34]) := by unfold skip; rw [List.dropWhile_cons, if_neg (by decide)]
    unfold readAttr
    rw [c1]
    simp only [s1, s2]
    rw [if_neg (by decide), if_pos (by simp), aft_app n34, bef_app n34, aft_hit, bef_hit, if_neg (by simp), List.append_nil, aft_none n60, if_pos rfl]
    rfl
  have rt : readTag (97 :: 32 :: 98 :: 61 :: 34 :: (e ++ [34])) = some ⟨[97], [([98], e)], true, false⟩ := by
    have c1 : cutN (97 :: 32 :: 98 :: 61 :: 34 :: (e ++ [34])) = ([97], 32 :: 98 :: 61 :: 34 :: (e ++ [34])) := by
      unfold cutN
      rw [if_pos (by show letter 97 = true; decide), List.takeWhile_cons, if_pos (by decide), List.takeWhile_cons, if_neg (by decide), List.dropWhile_cons, if_pos (by decide), List.dropWhile_cons, if_neg (by decide)]
    have s1 : skip (32 :: 98 :: 61 :: 34 :: (e ++ [34])) = 98 :: 61 :: 34 :: (e ++ [34]) := by unfold skip; rw [List.dropWhile_cons, if_pos (by decide), List.dropWhile_cons, if_neg (by decide)]
    unfold readTag
    simp only [c1]
    rw [if_neg (by decide)]
    show tagGo ((97 :: 32 :: 98 :: 61 :: 34 :: (e ++ [34])).length + 1) [97] (32 :: 98 :: 61 :: 34 :: (e ++ [34])) [] = _
    obtain ⟨g, hg⟩ : ∃ g, (97 :: 32 :: 98 :: 61 :: 34 :: (e ++ [34])).length = g + 1 := ⟨_, rfl⟩
    rw [hg, tagGo, s1, if_neg (by simp), if_neg (by simp), ra]
    simp only [List.nil_append]
    rw [tagGo, if_pos (.inl rfl)]
    rfl
  have be : begin_ ⟨[97], [([98], e)], true, false⟩ 0 start = .inr ⟨[⟨1, [97], [([98], l)], [], 0⟩], [[97]], true⟩ := by
    unfold begin_ start
    rw [if_neg (by simp), if_neg (by simp), if_neg (by simp [twice])]
    simp only [resAll, hr, ne_eq, not_true_eq_false, if_false, List.nil_append]
  have pc : piece (60 :: 97 :: 32 :: 98 :: 61 :: 34 :: (e ++ [34, 62])) 0 start = .inr ⟨[⟨1, [97], [([98], l)], [], 0⟩], [[97]], true⟩ := by
    unfold piece
    rw [not_comm, not_note, if_neg Bool.false_ne_true, if_neg Bool.false_ne_true]
    have : ((60 :: 97 :: 32 :: 98 :: 61 :: 34 :: (e ++ [34, 62])).drop 1).take ((60 :: 97 :: 32 :: 98 :: 61 :: 34 :: (e ++ [34, 62])).length - 2) = 97 :: 32 :: 98 :: 61 :: 34 :: (e ++ [34]) := by
      have e1 : (60 :: 97 :: 32 :: 98 :: 61 :: 34 :: (e ++ [34, 62])).drop 1 = (97 :: 32 :: 98 :: 61 :: 34 :: (e ++ [34])) ++ [62] := by simp
      rw [e1, List.take_append_of_le_length (by simp), List.take_of_length_le (by simp)]
    rw [this, rt]
    simp only [if_true, be]
    rfl
  have bw0 : ∀ a, between [] a start = .inr start := fun a => rfl
  rw [thr, b1, a1, bw0]
  simp only
  rw [if_neg (by rw [hw]; simp), p1]
  simp only [t1, d1, List.length_nil, Nat.add_zero, pc, Nat.zero_add]
  -- the text, and the last piece
  have b2 : bef 60 (e ++ [60, 47, 97, 62]) = e := by rw [bef_app n60, bef_hit, List.append_nil]
  have a2 : aft 60 (e ++ [60, 47, 97, 62]) = [60, 47, 97, 62] := by rw [aft_app n60, aft_hit]
  have p2 : pieceEnd [60, 47, 97, 62] = some 4 := by decide
  have pc2 : ∀ (k : List T) (a : Nat), piece [60, 47, 97, 62] a ⟨k, [[97]], true⟩ = .inr ⟨k ++ [⟨2, [97], [], [], a⟩], [], true⟩ := fun k a => rfl
  obtain ⟨g, hg⟩ : ∃ g, f + 1 = g + 2 := ⟨f - 1, by omega⟩
  rw [show f + 2 = g + 2 + 1 by omega]
  rw [thr, b2, a2]
  have bw : between e (8 + e.length) ⟨[⟨1, [97], [([98], l)], [], 0⟩], [[97]], true⟩ = .inr ⟨[⟨1, [97], [([98], l)], [], 0⟩] ++ (if l = [] then [] else [⟨3, [], [], l, 8 + e.length⟩]), [[97]], true⟩ := by
    unfold between
    rw [if_neg (by simp)]
    by_cases h0 : l = []
    · rw [if_pos (hnil.2 h0), if_pos h0, List.append_nil]
    · rw [if_neg (fun q => h0 (hnil.1 q)), hr, if_neg (by simp), if_neg h0]
  rw [bw]
  simp only
  rw [if_neg (by simp), p2]
  simp only [pc2, show ([60, 47, 97, 62] : Txt).take 4 = [60, 47, 97, 62] from rfl, show ([60, 47, 97, 62] : Txt).drop 4 = [] from rfl]
  rw [thr]
  have bet : ∀ (k : List T) (a : Nat), between [] a ⟨k, [], true⟩ = .inr ⟨k, [], true⟩ := fun _ _ => rfl
  rw [show bef 60 ([] : Txt) = [] from rfl, show aft 60 ([] : Txt) = [] from rfl, bet]
  simp only
  rw [if_pos trivial, if_neg (by simp), show 8 + 2 * e.length = 8 + e.length + e.length by omega]
end Mk
end Go.Proofs.YtjbgmbhifnihaaaDoor
