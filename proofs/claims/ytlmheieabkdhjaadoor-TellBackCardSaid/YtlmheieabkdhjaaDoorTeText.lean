/- Missed years' lines and texts in plain words: what is written is read, and what is read is written. -/
import Derived.Test.YtlmheieabkdhjaaDoorTeMath
import Derived.Lib.AtoiAll
import Derived.Lib.ItoaNum
import Derived.Lib.CutLaws
import Derived.Lib.Bytealg
namespace Go.Proofs.YtlmheieabkdhjaaDoor
open Go.RowKit

namespace Te
abbrev Txt := List UInt8
structure M where
  k : ByteArray
  y : Int
  r : Nat
  deriving DecidableEq
def words : List Txt := [[], [109, 105, 110, 117, 116, 101], [102, 97, 114], [109, 97, 110, 121], [115, 104, 105, 102, 116], [100, 97, 116, 101]]
def word (r : Nat) : Txt := words.getD r []
def okM (m : M) : Bool := key m.k && decide (1601 ≤ m.y) && decide (m.y ≤ 9999) && decide (1 ≤ m.r) && decide (m.r < 6)
def line (m : M) : Txt := tl m.k ++ [9] ++ Lib.itoa m.y ++ [9] ++ word m.r
def okAll (l : List M) : Bool := l.all okM
def text (l : List M) : Txt := l.flatMap fun m => line m ++ [10]
def reason (s : Txt) : Nat := if s = words.getD 1 [] then 1 else if s = words.getD 2 [] then 2 else if s = words.getD 3 [] then 3 else if s = words.getD 4 [] then 4 else if s = words.getD 5 [] then 5 else 0
def ofL (s : Txt) : M :=
  ⟨⟨(Lib.cut s [9]).1.toArray⟩, (match Lib.atoiAll (Lib.cut (Lib.cut s [9]).2.1 [9]).1 with | .ok y => y | _ => 0), reason (Lib.cut (Lib.cut s [9]).2.1 [9]).2.1⟩
def has (s : Txt) : Bool := (Lib.cut s [9]).2.2 && (Lib.cut (Lib.cut s [9]).2.1 [9]).2.2 && decide ((Lib.cut (Lib.cut s [9]).2.1 [9]).1.length = 4)
def num (s : Txt) : Bool := match Lib.atoiAll (Lib.cut (Lib.cut s [9]).2.1 [9]).1 with | .ok _ => true | _ => false
/-- What a line tells. -/
def pl (s : Txt) : Option M := if has s && num s && okM (ofL s) && decide (line (ofL s) = s) then some (ofL s) else none
/-- What a text tells. -/
def parse : Nat → Txt → Option (List M)
  | 0, _ => some []
  | f + 1, s => if s = [] then some [] else
    if (Lib.cut s [10]).2.2 then match pl (Lib.cut s [10]).1 with
      | none => none
      | some m => (parse f (Lib.cut s [10]).2.1).map (m :: ·)
    else none

theorem cut_hit (c : UInt8) : ∀ (a b : Txt), c ∉ a → Lib.cut (a ++ c :: b) [c] = (a, b, true)
  | [], b, _ => by
    unfold Lib.cut
    rw [Lib.index_one]
    unfold Lib.indexByte
    simp
  | x :: a, b, h => by
    have ih := cut_hit c a b (fun e => h (List.mem_cons_of_mem _ e))
    have hx : (x == c) = false := by
      rw [beq_eq_false_iff_ne]
      intro e
      exact h (by rw [e]; exact List.mem_cons_self ..)
    rw [List.cons_append]
    unfold Lib.cut at ih ⊢
    rw [Lib.index_one] at ih ⊢
    unfold Lib.indexByte
    have hge := Lib.indexByte_ge (a ++ c :: b) c
    by_cases h1 : Lib.indexByte (a ++ c :: b) c = -1
    · rw [h1] at ih
      simp at ih
    · have h2 : (Lib.indexByte (a ++ c :: b) c == -1) = false := by rw [beq_eq_false_iff_ne]; exact h1
      rw [if_pos (by omega)] at ih
      simp only [hx, h2, Bool.false_eq_true, if_false]
      rw [if_pos (by omega), show (Lib.indexByte (a ++ c :: b) c + 1).toNat = (Lib.indexByte (a ++ c :: b) c).toNat + 1 from by omega]
      have e1 := congrArg Prod.fst ih
      have e2 := congrArg (fun p => p.2.1) ih
      simp only at e1 e2
      rw [show (Lib.indexByte (a ++ c :: b) c).toNat + 1 + [c].length = (Lib.indexByte (a ++ c :: b) c).toNat + [c].length + 1 from by omega, List.take_succ_cons, List.drop_succ_cons, e1, e2]
theorem cut_true (c : UInt8) : ∀ s : Txt, (Lib.cut s [c]).2.2 = true → s = (Lib.cut s [c]).1 ++ c :: (Lib.cut s [c]).2.1
  | [], h => by
    have : (Lib.cut [] [c]).2.2 = false := rfl
    rw [this] at h
    cases h
  | x :: l, h => by
    by_cases hx : x = c
    · subst hx
      have := cut_hit x [] l (by simp)
      rw [List.nil_append] at this
      rw [this]
      rfl
    · have ih := cut_true c l
      have hx' : (x == c) = false := by rw [beq_eq_false_iff_ne]; exact hx
      unfold Lib.cut at ih h ⊢
      rw [Lib.index_one] at ih h ⊢
      unfold Lib.indexByte at h ⊢
      have hge := Lib.indexByte_ge l c
      by_cases h1 : Lib.indexByte l c = -1
      · simp [hx', h1] at h
      · have h2 : (Lib.indexByte l c == -1) = false := by rw [beq_eq_false_iff_ne]; exact h1
        rw [if_pos (by omega)] at ih
        simp only [hx', h2, Bool.false_eq_true, if_false] at h ⊢
        rw [if_pos (by omega), show (Lib.indexByte l c + 1).toNat = (Lib.indexByte l c).toNat + 1 from by omega,
          show (Lib.indexByte l c).toNat + 1 + [c].length = (Lib.indexByte l c).toNat + [c].length + 1 from by omega, List.take_succ_cons, List.drop_succ_cons, List.cons_append, ← ih rfl]
def D (k : Nat) : UInt8 := UInt8.ofNat (48 + k)
theorem D_nat (k : Nat) (h : k < 10) : (D k).toNat = 48 + k := by
  unfold D
  rw [UInt8.toNat_ofNat']
  omega
theorem itoa_four (y : Int) (h1 : 1601 ≤ y) (h2 : y ≤ 9999) : Lib.itoa y = [D (y.toNat / 1000), D (y.toNat / 100 % 10), D (y.toNat / 10 % 10), D (y.toNat % 10)] := by
  unfold Lib.itoa D
  rw [if_neg (by omega), Lib.decDigits, dif_neg (by omega), Lib.decDigits, dif_neg (by omega), Lib.decDigits, dif_neg (by omega), Lib.decDigits, dif_pos (by omega)]
  have e1 : y.toNat / 10 / 10 / 10 = y.toNat / 1000 := by omega
  have e2 : y.toNat / 10 / 10 = y.toNat / 100 := by omega
  rw [e1, e2]
  rfl
theorem step_digit (acc k : Nat) (r : Txt) (hk : k < 10) (ha : acc < 100000) : Lib.parseUint10 acc (D k :: r) = Lib.parseUint10 (acc * 10 + k) r := by
  rw [Lib.parseUint10, D_nat k hk, if_pos (by omega), if_neg (by omega), if_neg (by omega), show 48 + k - 48 = k from by omega]
theorem atoi_itoa (y : Int) (h1 : 1601 ≤ y) (h2 : y ≤ 9999) : Lib.atoiAll (Lib.itoa y) = .ok y := by
  rw [itoa_four y h1 h2]
  have hd := D_nat (y.toNat / 1000) (by omega)
  unfold Lib.atoiAll
  simp only [hd]
  rw [if_neg (by omega)]
  unfold Lib.parseMag
  rw [if_neg (by simp), step_digit _ _ _ (by omega) (by omega), step_digit _ _ _ (by omega) (by omega), step_digit _ _ _ (by omega) (by omega), step_digit _ _ _ (by omega) (by omega), Lib.parseUint10]
  simp only
  rw [if_neg (by omega), if_neg (by omega), if_neg (by omega)]
  congr 1
  omega
theorem itoa_digits (y : Int) (h1 : 1601 ≤ y) (h2 : y ≤ 9999) : ∀ b ∈ Lib.itoa y, 48 ≤ b.toNat := by
  rw [itoa_four y h1 h2]
  intro b hb
  simp only [List.mem_cons, List.not_mem_nil, or_false] at hb
  rcases hb with rfl | rfl | rfl | rfl <;> rw [D_nat _ (by omega)] <;> omega
theorem word_letters (r : Nat) (h : r < 6) : ∀ b ∈ word r, 48 ≤ b.toNat := by
  have : (word r).all (fun b => decide (48 ≤ b.toNat)) = true := by
    rcases (by omega : r = 0 ∨ r = 1 ∨ r = 2 ∨ r = 3 ∨ r = 4 ∨ r = 5) with rfl | rfl | rfl | rfl | rfl | rfl <;> decide +kernel
  intro b hb
  simpa using List.all_eq_true.1 this b hb
theorem reason_word (r : Nat) (h1 : 1 ≤ r) (h : r < 6) : reason (word r) = r := by
  rcases (by omega : r = 1 ∨ r = 2 ∨ r = 3 ∨ r = 4 ∨ r = 5) with rfl | rfl | rfl | rfl | rfl <;> decide +kernel
theorem okM_parts {m : M} (h : okM m = true) : key m.k = true ∧ 1601 ≤ m.y ∧ m.y ≤ 9999 ∧ 1 ≤ m.r ∧ m.r < 6 := by
  unfold okM at h
  simp only [Bool.and_eq_true, decide_eq_true_eq] at h
  exact ⟨h.1.1.1.1, h.1.1.1.2, h.1.1.2, h.1.2, h.2⟩
theorem not_in {l : Txt} {n : Nat} (h : ∀ b ∈ l, n ≤ b.toNat) (c : UInt8) (hc : c.toNat < n) : c ∉ l := fun e => by have := h c e; omega
theorem line_no_nl {m : M} (h : okM m = true) : (10 : UInt8) ∉ line m := by
  obtain ⟨hk, h1, h2, h3, h4⟩ := okM_parts h
  unfold line
  simp only [List.mem_append, List.mem_cons, List.not_mem_nil, or_false, not_or]
  exact ⟨⟨⟨⟨not_in (key_letters hk) 10 (by decide), by decide⟩, not_in (itoa_digits m.y h1 h2) 10 (by decide)⟩, by decide⟩, not_in (word_letters m.r h4) 10 (by decide)⟩
theorem bytes_tl (s : ByteArray) : (⟨(tl s).toArray⟩ : ByteArray) = s := by
  obtain ⟨⟨l⟩⟩ := s
  rfl
theorem pl_line {m : M} (h : okM m = true) : pl (line m) = some m := by
  obtain ⟨hk, h1, h2, h3, h4⟩ := okM_parts h
  have e1 : Lib.cut (line m) [9] = (tl m.k, Lib.itoa m.y ++ 9 :: word m.r, true) := by
    have := cut_hit 9 (tl m.k) (Lib.itoa m.y ++ 9 :: word m.r) (not_in (key_letters hk) 9 (by decide))
    rw [← this]
    unfold line
    simp
  have e2 : Lib.cut (Lib.itoa m.y ++ 9 :: word m.r) [9] = (Lib.itoa m.y, word m.r, true) := cut_hit 9 _ _ (not_in (itoa_digits m.y h1 h2) 9 (by decide))
  have e3 : ofL (line m) = m := by
    unfold ofL
    rw [e1]
    simp only
    rw [e2]
    simp only
    rw [atoi_itoa m.y h1 h2, reason_word m.r h3 h4, bytes_tl]
  have e4 : has (line m) = true := by
    unfold has
    rw [e1]
    simp only
    rw [e2]
    simp only
    rw [itoa_four m.y h1 h2]
    rfl
  have e5 : num (line m) = true := by
    unfold num
    rw [e1]
    simp only
    rw [e2]
    simp only
    rw [atoi_itoa m.y h1 h2]
  unfold pl
  rw [e3, e4, e5, h, decide_eq_true rfl]
  rfl
theorem pl_some {s : Txt} {m : M} (h : pl s = some m) : okM m = true ∧ line m = s := by
  unfold pl at h
  split at h
  · rename_i hc
    simp only [Bool.and_eq_true, decide_eq_true_eq] at hc
    cases h
    exact ⟨hc.1.2, hc.2⟩
  · cases h
/-- Right years are read from their text. -/
theorem parse_text : ∀ (l : List M) (f : Nat), okAll l = true → l.length < f → parse f (text l) = some l
  | [], f, _, h => by
    cases f with
    | zero => omega
    | succ f => rfl
  | m :: l, 0, _, h => by omega
  | m :: l, f + 1, ho, h => by
    unfold okAll at ho
    rw [List.all_cons, Bool.and_eq_true] at ho
    have ih := parse_text l f ho.2 (by simpa using h)
    have e : text (m :: l) = line m ++ 10 :: text l := by unfold text; simp
    rw [parse, e, if_neg (by simp), cut_hit 10 _ _ (line_no_nl ho.1)]
    simp only [if_true]
    rw [pl_line ho.1, ih]
    rfl
/-- What is read has the text that was read. -/
theorem text_parse : ∀ (f : Nat) (s : Txt) (l : List M), s.length < f → parse f s = some l → okAll l = true ∧ text l = s
  | 0, s, l, hf, _ => by omega
  | f + 1, s, l, hf, h => by
    rw [parse] at h
    by_cases hs : s = []
    · rw [if_pos hs] at h
      cases h
      exact ⟨rfl, hs.symm⟩
    · rw [if_neg hs] at h
      by_cases hc : (Lib.cut s [10]).2.2 = true
      · rw [if_pos hc] at h
        have hsp := cut_true 10 s hc
        obtain ⟨a, ha⟩ : ∃ a, (Lib.cut s [10]).1 = a := ⟨_, rfl⟩
        obtain ⟨b, hb⟩ : ∃ b, (Lib.cut s [10]).2.1 = b := ⟨_, rfl⟩
        rw [ha, hb] at hsp
        rw [ha, hb] at h
        cases hm : pl a with
        | none => rw [hm] at h; cases h
        | some m =>
          rw [hm] at h
          simp only at h
          cases hp : parse f b with
          | none => rw [hp] at h; cases h
          | some t =>
            rw [hp] at h
            cases h
            have hl := congrArg List.length hsp
            simp only [List.length_append, List.length_cons] at hl
            obtain ⟨o1, o2⟩ := pl_some hm
            obtain ⟨p1, p2⟩ := text_parse f b t (by omega) hp
            refine ⟨?_, ?_⟩
            · unfold okAll at p1 ⊢
              rw [List.all_cons, o1, p1]; rfl
            · have e : text (m :: t) = line m ++ 10 :: text t := by unfold text; simp
              rw [e, o2, p2]
              exact hsp.symm
      · rw [if_neg hc] at h
        cases h
end Te
end Go.Proofs.YtlmheieabkdhjaaDoor
