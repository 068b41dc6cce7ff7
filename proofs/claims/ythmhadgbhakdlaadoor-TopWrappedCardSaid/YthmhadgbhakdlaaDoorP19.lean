/- Plain law of times' texts: a time is read from its text. -/
import Derived.Test.YthmhadgbhakdlaaDoorP18
import Derived.Deep.DeepCutAuto
import Derived.Test.YthmhadgbhakdlaaDoorP07

namespace Go.Proofs.YthmhadgbhakdlaaDoor
open Go.RowKit

namespace Ck
def loopL : List (List UInt8) → Nat → Int → Option Int
  | [], _, s => some s
  | f :: r, i, s => if bad (numC f (least i) (most i)) i = true then none else loopL r (i + 1) (s + numC f (least i) (most i) * part i)
theorem loop_lists : ∀ (F : List ByteArray) (i : Nat) (s : Int), loop F i s = loopL (F.map tl) i s
  | [], _, _ => rfl
  | f :: r, i, s => by
    simp only [loop, List.map_cons, loopL]
    split
    · rfl
    · exact loop_lists r _ _
theorem index_free : ∀ (p q : List UInt8), (∀ c ∈ p, c ≠ 58) → Lib.index (p ++ 58 :: q) [58] = p.length := by
  intro p q h
  rw [Lib.index_one]
  induction p with
  | nil => simp [Lib.indexByte]
  | cons c p ih =>
    have hc : (c == 58) = false := by simp [h c]
    have hi := ih fun d hd => h d (by simp [hd])
    simp only [List.cons_append, Lib.indexByte, hc, hi]
    have : (((p.length : Nat) : Int) == -1) = false := by rw [beq_eq_false_iff_ne]; omega
    simp [this]
theorem index_none : ∀ (p : List UInt8), (∀ c ∈ p, c ≠ 58) → Lib.index p [58] = -1 := by
  intro p h
  rw [Lib.index_one]
  induction p with
  | nil => rfl
  | cons c p ih =>
    have hc : (c == 58) = false := by simp [h c]
    have hi := ih fun d hd => h d (by simp [hd])
    simp [Lib.indexByte, hc, hi]
theorem split_next (p q : List UInt8) (k : Nat) (h : ∀ c ∈ p, c ≠ 58) : Lib.splitK [58] 0 (k + 1) (p ++ 58 :: q) = p :: Lib.splitK [58] 0 k q := by
  have e : (((p.length : Nat) : Int) == -1) = false := by rw [beq_eq_false_iff_ne]; omega
  have hd : (p ++ 58 :: q).drop (p.length + 1) = q := by
    rw [List.drop_append]
    simp
  have ht : (p ++ 58 :: q).take p.length = p := by simp
  show (if Lib.index (p ++ 58 :: q) [58] == -1 then [p ++ 58 :: q] else (p ++ 58 :: q).take ((Lib.index (p ++ 58 :: q) [58]).toNat + 0) :: Lib.splitK [58] 0 k ((p ++ 58 :: q).drop ((Lib.index (p ++ 58 :: q) [58]).toNat + ([58] : List UInt8).length))) = _
  rw [index_free p q h, e, Int.toNat_natCast]
  simp only [List.length_cons, List.length_nil, Nat.zero_add, Nat.add_zero, hd, ht]
  rfl
theorem split_last (p : List UInt8) (k : Nat) (h : ∀ c ∈ p, c ≠ 58) : Lib.splitK [58] 0 k p = [p] := by
  cases k with
  | zero => rfl
  | succ k =>
    show (if Lib.index p [58] == -1 then [p] else _) = _
    rw [index_none p h]
    rfl
def dig2 (n : Int) : List UInt8 := [UInt8.ofNat (48 + n.toNat / 10), UInt8.ofNat (48 + n.toNat % 10)]
theorem two_dig (n : Int) : two n = 58 :: dig2 n := rfl
def hourOk (h : Nat) : Bool := decide (numC (dec3 (h : Int)) 1 3 = (h : Int)) && (dec3 (h : Int)).all (fun c => decide (c ≠ 58)) && decide (Lib.hasPrefix (dec3 (h : Int)) [45] = false)
theorem hours_ok : ∀ h, h < 169 → hourOk h = true := by decide +kernel
def minOk (m : Nat) : Bool := decide (numC (dig2 (m : Int)) 2 2 = (m : Int)) && (dig2 (m : Int)).all (fun c => decide (c ≠ 58))
theorem mins_ok : ∀ m, m < 60 → minOk m = true := by decide +kernel
theorem hour (h : Int) (h0 : 0 ≤ h) (h1 : h < 169) : numC (dec3 h) 1 3 = h ∧ (∀ c ∈ dec3 h, c ≠ 58) ∧ Lib.hasPrefix (dec3 h) [45] = false := by
  have := hours_ok h.toNat (by omega)
  unfold hourOk at this
  rw [show ((h.toNat : Nat) : Int) = h by omega] at this
  simp only [Bool.and_eq_true, decide_eq_true_eq, List.all_eq_true] at this
  exact ⟨this.1.1, this.1.2, this.2⟩
theorem minute (m : Int) (h0 : 0 ≤ m) (h1 : m < 60) : numC (dig2 m) 2 2 = m ∧ (∀ c ∈ dig2 m, c ≠ 58) := by
  have := mins_ok m.toNat (by omega)
  unfold minOk at this
  rw [show ((m.toNat : Nat) : Int) = m by omega] at this
  simp only [Bool.and_eq_true, decide_eq_true_eq, List.all_eq_true] at this
  exact this
theorem bad_not (v : Int) (i : Nat) (h0 : 0 ≤ v) (h : i = 0 ∨ v < 60) : bad v i = false := by
  unfold bad
  rw [decide_eq_false (by omega)]
  rcases h with h | h
  · subst h; rfl
  · rw [decide_eq_false (show ¬ 60 ≤ v by omega)]; simp
/-- The fields of a time's digits, and what they come to. -/
theorem loop_body (a : Int) (h0 : 0 ≤ a) (h1 : a ≤ 604800) : loopL (Lib.splitK [58] 0 3 (body' a)) 0 0 = some a ∧ (Lib.splitK [58] 0 3 (body' a)).length ≤ 3 := by
  have H := hour (a / 3600) (by omega) (by omega)
  have M := minute (a % 3600 / 60) (by omega) (by omega)
  have S := minute (a % 3600 % 60) (by omega) (by omega)
  by_cases hs : 0 < a % 3600 % 60
  · have e : body' a = dec3 (a / 3600) ++ 58 :: (dig2 (a % 3600 / 60) ++ 58 :: dig2 (a % 3600 % 60)) := by
      unfold body'
      rw [if_pos hs, two_dig, two_dig]
      simp
    rw [e, split_next _ _ 2 H.2.1, split_next _ _ 1 M.2, split_last _ 1 S.2]
    refine ⟨?_, by simp⟩
    simp only [loopL, least, most, part, if_true, H.1, M.1, S.1, Nat.zero_add, Nat.one_ne_zero, if_false, show (1 + 1 : Nat) ≠ 0 by omega]
    rw [bad_not _ 0 (by omega) (.inl rfl), bad_not _ 1 (by omega) (.inr (by omega)), bad_not _ (1 + 1) (by omega) (.inr (by omega))]
    simp
    omega
  · have e : body' a = dec3 (a / 3600) ++ 58 :: dig2 (a % 3600 / 60) := by
      unfold body'
      rw [if_neg hs, two_dig]
      simp
    rw [e, split_next _ _ 2 H.2.1, split_last _ 2 M.2]
    refine ⟨?_, by simp⟩
    simp only [loopL, least, most, part, if_true, H.1, M.1, Nat.zero_add, Nat.one_ne_zero, if_false]
    rw [bad_not _ 0 (by omega) (.inl rfl), bad_not _ 1 (by omega) (.inr (by omega))]
    simp
    omega
theorem body_prefix (a : Int) (h0 : 0 ≤ a) (h1 : a ≤ 604800) : Lib.hasPrefix (body' a) [45] = false ∧ 4 ≤ (body' a).length := by
  have H := hour (a / 3600) (by omega) (by omega)
  obtain ⟨h, hh⟩ : ∃ h, dec3 (a / 3600) = h := ⟨_, rfl⟩
  unfold body'
  rw [hh] at H ⊢
  match h, H with
  | [], H =>
    have := H.1
    simp [numC] at this
    omega
  | c :: l, H =>
    have hp := H.2.2
    refine ⟨?_, ?_⟩
    · unfold Lib.hasPrefix at hp ⊢
      simp only [List.isPrefixOf, Bool.and_true] at hp
      simp [List.isPrefixOf]
      simpa using hp
    · split <;> simp [two] <;> omega
theorem fields_lists (r : ByteArray) : (fields r).map tl = Lib.splitK [58] 0 (min 4 (r.size + 1) - 1) (tl r) := Lib.splitB_data ⟨#[58]⟩ 0 _ r
theorem parse_of (s : ByteArray) (a : Int) (b : Bool) (h0 : 0 ≤ a) (h1 : a ≤ 604800) (hb : Lib.hasPrefix s.data.toList [45] = b) (hr : tl (rest s) = body' a) : parse s = (if b then -a else a, 0) := by
  have hl := loop_body a h0 h1
  have hp := body_prefix a h0 h1
  have hsz : (rest s).size = (body' a).length := by rw [← tl_length, hr]
  have hf := fields_lists (rest s)
  rw [hr, hsz, show min 4 ((body' a).length + 1) - 1 = 3 by omega] at hf
  have hlen : (fields (rest s)).length ≤ 3 := by
    have := congrArg List.length hf
    rw [List.length_map] at this
    omega
  unfold parse
  rw [if_neg (by omega), loop_lists, hf, hl.1, hb]
  unfold fin
  have ht : IsTime (if b then -a else a) := by unfold IsTime; split <;> omega
  simp only [if_pos ht]
theorem parse_text (n : Int) (h : IsTime n) : parse ⟨(text n).toArray⟩ = (n, 0) := by
  have ht := text_eq n
  unfold text' at ht
  rw [if_pos h] at ht
  obtain ⟨a1, a2⟩ := h
  by_cases hn : n < 0
  · have e : text n = 45 :: body' (-n) := by rw [ht]; unfold sign; rw [if_pos hn, if_pos hn]; rfl
    have hb : Lib.hasPrefix (⟨(text n).toArray⟩ : ByteArray).data.toList [45] = true := by
      show Lib.hasPrefix (text n) [45] = true
      rw [e]; simp [Lib.hasPrefix, List.isPrefixOf]
    have hr : tl (rest ⟨(text n).toArray⟩) = body' (-n) := by
      show (Lib.trimPrefix (text n) [45]).toArray.toList = _
      unfold Lib.trimPrefix
      have hb' : Lib.hasPrefix (text n) [45] = true := hb
      rw [hb', e]; simp
    have := parse_of _ (-n) true (by omega) (by omega) hb hr
    rw [this]; simp
  · have e : text n = body' n := by rw [ht]; unfold sign; rw [if_neg hn, if_neg hn]; rfl
    have hb : Lib.hasPrefix (⟨(text n).toArray⟩ : ByteArray).data.toList [45] = false := by
      show Lib.hasPrefix (text n) [45] = false
      rw [e]; exact (body_prefix n (by omega) (by omega)).1
    have hr : tl (rest ⟨(text n).toArray⟩) = body' n := by
      show (Lib.trimPrefix (text n) [45]).toArray.toList = _
      unfold Lib.trimPrefix
      have hb' : Lib.hasPrefix (text n) [45] = false := hb
      rw [hb', e]; simp
    have := parse_of _ n false (by omega) (by omega) hb hr
    rw [this]; simp
theorem parse_time (s : ByteArray) (n : Int) (h : parse s = (n, 0)) : IsTime n := by
  unfold parse at h
  split at h
  · simp at h
  · unfold fin at h
    split at h
    · simp at h
    · rename_i v _
      obtain ⟨x, hx⟩ : ∃ x, (if Lib.hasPrefix s.data.toList [45] = true then -v else v) = x := ⟨_, rfl⟩
      rw [hx] at h
      by_cases hi : IsTime x
      · rw [if_pos hi] at h
        rw [← (Prod.mk.inj h).1]
        exact hi
      · rw [if_neg hi] at h
        simp at h
theorem text_inj (m n : Int) (hn : IsTime n) (h : text m = text n) : m = n := by
  by_cases hm : IsTime m
  · have a := parse_text m hm
    rw [h, parse_text n hn] at a
    exact ((Prod.mk.inj a).1).symm
  · have e : text m = [] := by unfold text; rw [if_neg hm]
    rw [e] at h
    have a := parse_text n hn
    rw [← h] at a
    have b : parse ⟨([] : List UInt8).toArray⟩ = (0, 4) := by decide +kernel
    rw [b] at a
    simp at a
theorem piece_size : ∀ (k : Nat) (s : ByteArray), ∀ f ∈ Lib.splitB ⟨#[58]⟩ 0 k s, f.size ≤ s.size
  | 0, s => by intro f hf; simp [Lib.splitB] at hf; subst hf; exact Nat.le_refl _
  | k + 1, s => by
    intro f hf
    unfold Lib.splitB at hf
    split at hf
    · simp at hf; subst hf; exact Nat.le_refl _
    · rcases List.mem_cons.1 hf with rfl | hf
      · simp only [ByteArray.size_extract]; omega
      · have := piece_size k _ f hf
        simp only [ByteArray.size_extract] at this
        omega
theorem rest_size (s : ByteArray) : (rest s).size ≤ s.size := by
  show ((Lib.trimPrefix s.data.toList [45]).toArray).size ≤ _
  unfold Lib.trimPrefix
  have : s.data.toList.length = s.size := tl_length s
  split
  · simp only [List.size_toArray, List.length_drop]; omega
  · simp only [List.size_toArray]; omega
theorem text_size (n : Int) : (⟨(text n).toArray⟩ : ByteArray).size ≤ 1000 := by
  show (text n).length ≤ 1000
  unfold text
  split
  · rename_i h
    obtain ⟨a1, a2⟩ := h
    have := out_len (sign n) (if n < 0 then -n else n) 3 (by unfold sign; split <;> simp) (by split <;> omega) (by split <;> omega)
    have e2 : out (sign n) (if n < 0 then -n else n) 3 = sign n ++ body (if n < 0 then -n else n) := rfl
    rw [e2] at this
    omega
  · simp
end Ck
end Go.Proofs.YthmhadgbhakdlaaDoor

/- clock.Parse and clock.Text at all texts. -/
namespace Go.Proofs.YthmhadgbhakdlaaDoor
open Go.RowKit

theorem text_ne (n : Int) (h : IsTime n) : (⟨(Ck.text n).toArray⟩ : ByteArray).toList.isEmpty = false := by
  rw [ByteArray.toList_eq]
  cases e : Ck.text n with
  | nil =>
    have a := Ck.parse_text n h
    rw [e] at a
    have b : Ck.parse ⟨([] : List UInt8).toArray⟩ = (0, 4) := by decide +kernel
    rw [b] at a
    simp at a
  | cons c l => rfl
end Go.Proofs.YthmhadgbhakdlaaDoor

/- The contracts of package moment: Check, Nominal, Instant. -/
namespace Go.Proofs.YthmhadgbhakdlaaDoor
open Go.RowKit

/-- What stood ahead of a call reads as it did. -/
theorem bcell {B : Nat} {W w1 : World} (hb : Below B W w1) : (∀ b o, b < B → w1.cell? ⟨b, o, none⟩ = W.cell? ⟨b, o, none⟩) ∧ (∀ b o, b < B → w1.frozen? ⟨b, o, none⟩ = W.frozen? ⟨b, o, none⟩) :=
  ⟨fun b o h => hb.cell (p := ⟨b, o, none⟩) h, fun b o h => hb.frozen (p := ⟨b, o, none⟩) h⟩
namespace Mo
def Ok (s c : Int) : Prop := IsTime s ∧ c < 3
instance (s c : Int) : Decidable (Ok s c) := by unfold Ok; exact inferInstance
def nom (k n d y m s c : Int) : Int × Int := if Ok s c then (if (Dy.inS k n d y m).2 = 0 then ((Dy.inS k n d y m).1 * 86400 + s, 0) else (0, (Dy.inS k n d y m).2)) else (0, 2)
def ins (n c std save : Int) : Int × Int :=
  if 3 ≤ c then (0, 2) else if InT n ∧ InT std ∧ InT save then (if c = 0 then n - save - std else if c = 1 then n - std else n, 0) else (0, 1)
end Mo
theorem inS_range (k n d y m a : Int) (h : Dy.inS k n d y m = (a, 0)) : -719162 ≤ a ∧ a < 2932897 := by
  unfold Dy.inS at h
  split at h
  · simp at h
  · split at h
    · simp at h
    · split at h
      · simp at h
      · split at h
        · rename_i hr
          simp at h
          subst h
          exact hr
        · simp at h

theorem inT_bd (n : Int) (h : ¬ InT n) : n < -1099511627776 ∨ 1099511627776 < n := by unfold InT at h; omega
end Go.Proofs.YthmhadgbhakdlaaDoor

/- The contracts of package moment: Parse, Text. -/
namespace Go.Proofs.YthmhadgbhakdlaaDoor
open Go.RowKit

namespace Mo
/-- By which clock a last letter tells; 3: it is none. -/
def by_ (c : Int) : Int := if c = 119 ∨ c = 87 then 0 else if c = 115 ∨ c = 83 then 1 else if c = 117 ∨ c = 85 ∨ c = 103 ∨ c = 71 ∨ c = 122 ∨ c = 90 then 2 else 3
def cutS (s : ByteArray) : ByteArray × Int :=
  if h : 0 < s.size then (if by_ (s[s.size - 1].toNat : Int) = 3 then (s, 0) else (s.extract 0 (s.size - 1), by_ (s[s.size - 1].toNat : Int))) else (s, 0)
def parse (s : ByteArray) : (Int × Int) × Int :=
  if s = ⟨#[45]⟩ then ((0, 0), 0) else if (Ck.parse (cutS s).1).2 = 0 then (((Ck.parse (cutS s).1).1, (cutS s).2), 0) else ((0, 0), (Ck.parse (cutS s).1).2)
end Mo
/-- A block of two cells, behind what a callee did. -/
theorem new2 {w w1 : World} {a b : Value} {t : TypeId} (hb : Below (w.heap.size + 1) (w.alloc (.cells #[a, b] t)) w1) :
    w1.cell? ⟨w.heap.size, 0, none⟩ = some a ∧ w1.cell? ⟨w.heap.size, 1, none⟩ = some b ∧ w1.frozen? ⟨w.heap.size, 0, none⟩ = false ∧ w1.frozen? ⟨w.heap.size, 1, none⟩ = false := by
  have h : ∀ i, w1.cell? ⟨w.heap.size, i, none⟩ = #[a, b][i]? := fun i => (hb.cell (p := ⟨w.heap.size, i, none⟩) (Nat.lt_succ_self _)).trans (cell_of_row _ w.heap.size i _ _ _ (heap_alloc_new w _))
  have hf : ∀ i, w1.frozen? ⟨w.heap.size, i, none⟩ = false := fun i => (hb.frozen (p := ⟨w.heap.size, i, none⟩) (Nat.lt_succ_self _)).trans (by have e := heap_alloc_new w (.cells #[a, b] t); unfold World.frozen?; simp only [e]; simp)
  exact ⟨h 0, h 1, hf 0, hf 1⟩

/-- A text that is another one, as the walk spells it. -/
theorem ba_ne (s : ByteArray) (l : List UInt8) (h : ¬ s = ⟨l.toArray⟩) : (s.toList == l) = false := by
  rw [beq_eq_false_iff_ne]
  intro e
  apply h
  apply ByteArray.ext
  rw [ByteArray.toList_eq] at e
  simp [← e]
namespace Mo
theorem cutS_zero (s : ByteArray) (h : ¬ 0 < s.size) (R : ByteArray) (V : Int) (hc : cutS s = (R, V)) : R = s ∧ V = 0 := by
  unfold cutS at hc
  rw [dif_neg h] at hc
  exact ⟨(Prod.mk.inj hc).1.symm, (Prod.mk.inj hc).2.symm⟩
theorem cutS_pos (s : ByteArray) (n : Nat) (h : s.size = n + 1) (hlt : n < s.size) (R : ByteArray) (V : Int) (hc : cutS s = (R, V)) :
    (by_ ((s[n]'hlt).toNat : Int) = 3 ∧ R = s ∧ V = 0) ∨ (by_ ((s[n]'hlt).toNat : Int) ≠ 3 ∧ R = s.extract 0 n ∧ V = by_ ((s[n]'hlt).toNat : Int)) := by
  unfold cutS at hc
  rw [dif_pos (by omega)] at hc
  have e : s.size - 1 = n := by omega
  simp only [e] at hc
  by_cases h3 : by_ ((s[n]'hlt).toNat : Int) = 3
  · rw [if_pos h3] at hc
    exact .inl ⟨h3, (Prod.mk.inj hc).1.symm, (Prod.mk.inj hc).2.symm⟩
  · rw [if_neg h3] at hc
    exact .inr ⟨h3, (Prod.mk.inj hc).1.symm, (Prod.mk.inj hc).2.symm⟩
/-- The letter, one by one. -/
theorem by_cases_ (c : Int) : (c = 119 ∨ c = 87 ∨ c = 115 ∨ c = 83 ∨ c = 117 ∨ c = 85 ∨ c = 103 ∨ c = 71 ∨ c = 122 ∨ c = 90) ∨ (by_ c = 3 ∧ (c == 119) = false ∧ (c == 87) = false ∧ (c == 115) = false ∧ (c == 83) = false ∧ (c == 117) = false ∧ (c == 85) = false ∧ (c == 103) = false ∧ (c == 71) = false ∧ (c == 122) = false ∧ (c == 90) = false) := by
  by_cases h : c = 119 ∨ c = 87 ∨ c = 115 ∨ c = 83 ∨ c = 117 ∨ c = 85 ∨ c = 103 ∨ c = 71 ∨ c = 122 ∨ c = 90
  · exact .inl h
  · right
    refine ⟨?_, ?_⟩
    · unfold by_
      rw [if_neg (by omega), if_neg (by omega), if_neg (by omega)]
    · simp only [beq_eq_false_iff_ne]
      omega
end Mo

end Go.Proofs.YthmhadgbhakdlaaDoor

/- The contracts of package abbr: signs, CheckLetter. -/
namespace Go.Proofs.YthmhadgbhakdlaaDoor
open Go.RowKit

namespace Ab
def sgn (c : Int) : Bool := decide ((97 ≤ c ∧ c ≤ 122) ∨ (65 ≤ c ∧ c ≤ 90) ∨ (48 ≤ c ∧ c ≤ 57) ∨ c = 43 ∨ c = 45)
def signs (l : List UInt8) : Bool := l.all fun c => sgn (c.toNat : Int)
def all (ss : List ByteArray) : Bool := ss.all fun s => signs (tl s)
def letter (s : ByteArray) : Bool := decide (s.size ≤ 32) && !decide (s = ⟨#[45]⟩) && signs (tl s)
theorem cases_ (c : Int) (h0 : 0 ≤ c) (h1 : c ≤ 255) : (0 ≤ c ∧ c ≤ 42) ∨ (43 ≤ c ∧ c ≤ 43) ∨ (44 ≤ c ∧ c ≤ 44) ∨ (45 ≤ c ∧ c ≤ 45) ∨ (46 ≤ c ∧ c ≤ 47) ∨ (48 ≤ c ∧ c ≤ 57) ∨ (58 ≤ c ∧ c ≤ 64) ∨ (65 ≤ c ∧ c ≤ 90) ∨ (91 ≤ c ∧ c ≤ 96) ∨ (97 ≤ c ∧ c ≤ 122) ∨ (123 ≤ c ∧ c ≤ 255) := by omega
theorem signs_step (l : List UInt8) (k : Nat) (c : UInt8) (X Y : Bool) (h : X = (signs (l.drop k) && Y)) (hc : l[k]? = some c) : X = (sgn (c.toNat : Int) && (signs (l.drop (k + 1)) && Y)) := by
  rw [h, drop_of hc]
  unfold signs
  rw [List.all_cons, Bool.and_assoc]
end Ab
theorem reads_one (w : World) (s : ByteArray) (t : TypeId) : Reads (w.alloc (.cells #[.string s] t)) (w.alloc (.cells #[.string s] t)).heap.size 1 (some ⟨w.heap.size, 0, none⟩) 1 ([s].map Value.string) := reads_new w [s] t
end Go.Proofs.YthmhadgbhakdlaaDoor
