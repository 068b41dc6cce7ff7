/- What scan.Join lets through as it is, scan.Fields reads back; the contract of solsticetop.fields5. -/
import Derived.Test.YtlhoggalhjadgaaGreatDoorK31
import Derived.Test.YtlhoggalhjadgaaGreatDoorK30
import Derived.Test.YtlhoggalhjadgaaGreatDoorK19
import Derived.Test.YtlhoggalhjadgaaGreatDoorK11
import Derived.Deep.QuietTactic
import Derived.BigQuiet
import Derived.Test.YtlhoggalhjadgaaGreatDoorK07
import Derived.Test.YtlhoggalhjadgaaGreatDoorK23

namespace Go.Proofs.YtlhoggalhjadgaaGreatDoor
open Go.RowKit

namespace Sc
/-- A text that needs no quotes. -/
def Plain (s : ByteArray) : Prop := s ≠ ⟨#[]⟩ ∧ ∀ c ∈ tl s, kind c.toNat = 0
theorem scan_word : ∀ (l rest : List UInt8) (a b : Int) (t : List UInt8) (acc : List (List UInt8 × Int)), (∀ c ∈ l, kind c.toNat = 0) → scan (l ++ rest) a (.f b t) acc = scan rest (a + l.length) (.f b (t ++ l)) acc
  | [], rest, a, b, t, acc, _ => by simp
  | c :: l, rest, a, b, t, acc, h => by
    rw [List.cons_append, f_0 (h c List.mem_cons_self), scan_word l rest (a + 1) b (t ++ [c]) acc fun x hx => h x (List.mem_cons_of_mem _ hx)]
    rw [List.append_assoc, List.length_cons, show a + 1 + (l.length : Int) = a + ((l.length + 1 : Nat) : Int) by omega]
    rfl
theorem k32 : kind ((32 : UInt8).toNat : Int) = 1 := by decide
theorem k35 : kind ((35 : UInt8).toNat : Int) = 3 := by decide
theorem k9 : kind ((9 : UInt8).toNat : Int) = 1 := by decide
theorem scan_begin (y rest : List UInt8) (a : Int) (acc : List (List UInt8 × Int)) (h : y ≠ [] ∧ ∀ c ∈ y, kind c.toNat = 0) (hl : acc.length ≠ 24) :
    scan (y ++ rest) a .b acc = scan rest (a + y.length) (.f (a + 1) y) acc := by
  obtain ⟨h0, h1⟩ := h
  cases y with
  | nil => exact absurd rfl h0
  | cons c l =>
    rw [List.cons_append, b_f (.inl (h1 c List.mem_cons_self)) hl, ← List.cons_append, scan_word (c :: l) rest a (a + 1) [] acc h1]
    rfl
theorem scan_tail : ∀ (r : List (List UInt8)) (R : List UInt8) (a b : Int) (t : List UInt8) (acc : List (List UInt8 × Int)), (∀ w ∈ r, w ≠ [] ∧ ∀ c ∈ w, kind c.toNat = 0) → acc.length + 1 + r.length ≤ 24 →
    ∃ L, scan (Lib.joinTail [32] r ++ 32 :: 35 :: R) a (.f b t) acc = .ok (acc ++ L) ∧ L.map (·.1) = t :: r
  | [], R, a, b, t, acc, _, _ => ⟨[(t, b)], by
    show scan (32 :: 35 :: R) a (.f b t) acc = _
    rw [f_b (.inl k32), b_1 k32, b_3 k35], rfl⟩
  | y :: r, R, a, b, t, acc, h, hl => by
    have hj : Lib.joinTail [32] (y :: r) ++ 32 :: 35 :: R = 32 :: (y ++ (Lib.joinTail [32] r ++ 32 :: 35 :: R)) := by simp [Lib.joinTail]
    rw [hj, f_b (.inl k32), b_1 k32, scan_begin y _ (a + 1) _ (h y List.mem_cons_self) (by rw [List.length_append, List.length_cons] at *; simp at *; omega)]
    obtain ⟨L, h1, h2⟩ := scan_tail r R (a + 1 + y.length) (a + 1 + 1) y (acc ++ [(t, b)]) (fun w hw => h w (List.mem_cons_of_mem _ hw)) (by rw [List.length_append]; simp at *; omega)
    exact ⟨(t, b) :: L, by rw [h1, List.append_assoc]; rfl, by rw [List.map_cons, h2]⟩
theorem qall_plain : ∀ (ss : List ByteArray), (∀ s ∈ ss, Plain s) → qall ss = some ss
  | [], _ => rfl
  | s :: l, h => by
    rw [qall_some (quote_plain s (h s List.mem_cons_self).1 (h s List.mem_cons_self).2), qall_plain l fun x hx => h x (List.mem_cons_of_mem _ hx)]
    rfl
def NOTE : ByteArray := ⟨#[32, 35, 32, 110, 111, 116, 101]⟩
theorem line_fields (ss : List ByteArray) (h0 : ss ≠ []) (hp : ∀ s ∈ ss, Plain s) (hn : ss.length ≤ 24) (hl : (line ss).size ≤ 2000) :
    ∃ L, fields (tl (⟨#[9]⟩ ++ line ss ++ NOTE)) = .ok L ∧ L.map (·.1) = ss.map tl := by
  have ht : tl (⟨#[9]⟩ ++ line ss ++ NOTE) = 9 :: (Lib.join (ss.map tl) [32] ++ 32 :: 35 :: [32, 110, 111, 116, 101]) := by
    unfold NOTE line
    simp only [tl, ByteArray.data_append, Array.toList_append]
    rfl
  have hlen : (tl (⟨#[9]⟩ ++ line ss ++ NOTE)).length ≤ 2048 := by
    rw [tl_length, ByteArray.size_append, ByteArray.size_append]
    have h1 : (⟨#[9]⟩ : ByteArray).size = 1 := rfl
    have h2 : NOTE.size = 7 := rfl
    omega
  unfold fields
  rw [if_neg (by omega), ht, b_1 k9]
  cases ss with
  | nil => exact absurd rfl h0
  | cons x r =>
    have hpw : ∀ w ∈ (x :: r).map tl, w ≠ [] ∧ ∀ c ∈ w, kind c.toNat = 0 := by
      intro w hw
      rw [List.mem_map] at hw
      obtain ⟨s, hs, rfl⟩ := hw
      have := hp s hs
      refine ⟨fun e => this.1 ?_, this.2⟩
      have e2 : s.data = #[] := by unfold tl at e; simpa using e
      cases s
      simp only at e2
      rw [e2]
    rw [List.map_cons, Lib.join_cons, List.append_assoc, scan_begin (tl x) _ _ _ (hpw (tl x) (by simp)) (by simp)]
    obtain ⟨L, h1, h2⟩ := scan_tail (r.map tl) [32, 110, 111, 116, 101] (0 + 1 + (tl x).length) (0 + 1 + 1) (tl x) [] (fun w hw => hpw w (by rw [List.map_cons]; exact List.mem_cons_of_mem _ hw)) (by simp at *; omega)
    exact ⟨L, by rw [h1]; rfl, by rw [h2]⟩
theorem jv_plain (ss : List ByteArray) (hp : ∀ s ∈ ss, Plain s) (hn : ss.length ≤ 24) (hl : (line ss).size ≤ 2000) : jv ss = .tuple #[.string (line ss), .int .i64 0] := by
  unfold jv
  rw [if_neg (by omega), qall_plain ss hp]
  simp only
  rw [if_neg (by omega)]
end Sc
end Go.Proofs.YtlhoggalhjadgaaGreatDoor

/- A rule's texts and an era's are fields that need no quotes, and make a short line. -/
namespace Go.Proofs.YtlhoggalhjadgaaGreatDoor
open Go.RowKit

namespace Sc
def Pl (l : List UInt8) : Prop := ∀ c ∈ l, kind c.toNat = 0
theorem Pl.nil : Pl [] := fun _ h => by cases h
theorem Pl.app {a b : List UInt8} (h : Pl a) (h' : Pl b) : Pl (a ++ b) := fun c hc => by
  rcases List.mem_append.1 hc with x | x
  · exact h c x
  · exact h' c x
theorem Pl.cons {c : UInt8} {l : List UInt8} (h : kind c.toNat = 0) (h' : Pl l) : Pl (c :: l) := fun x hx => by
  rcases List.mem_cons.1 hx with e | e
  · rw [e]; exact h
  · exact h' x e
theorem kind_plain (c : UInt8) (h : 33 ≤ (c.toNat : Int) ∧ (c.toNat : Int) ≠ 34 ∧ (c.toNat : Int) ≠ 35 ∧ (c.toNat : Int) ≠ 127) : kind c.toNat = 0 := by
  unfold kind
  rw [if_neg (by omega), if_neg (by omega), if_neg (by omega), if_neg (by omega)]
def plB (l : List UInt8) : Bool := l.all fun c => decide (kind c.toNat = 0)
theorem pl_of {l : List UInt8} (h : plB l = true) : Pl l := fun c hc => of_decide_eq_true (List.all_eq_true.1 h c hc)
theorem digit_pl (k : Nat) (h : k < 10) : kind ((UInt8.ofNat (48 + k)).toNat : Int) = 0 := by
  apply kind_plain
  have : (UInt8.ofNat (48 + k)).toNat = 48 + k := by rw [UInt8.toNat_ofNat']; omega
  omega
theorem dec_pl (n : Nat) : Pl (Lib.decDigits n) := by
  induction n using Nat.strongRecOn with
  | _ n ih =>
    rw [Lib.decDigits]
    by_cases h : n < 10
    · rw [dif_pos h]
      exact Pl.cons (digit_pl n h) Pl.nil
    · rw [dif_neg h]
      exact (ih (n / 10) (by omega)).app (Pl.cons (digit_pl (n % 10) (by omega)) Pl.nil)
theorem itoa_pl (n : Int) (h : 0 ≤ n) : Pl (Lib.itoa n) := by
  unfold Lib.itoa
  rw [if_neg (by omega)]
  exact dec_pl _
theorem cut_mem : ∀ (s sub : List UInt8), 0 ≤ Lib.index s sub → ∀ c ∈ s, c ∈ s.take (Lib.index s sub).toNat ∨ c ∈ sub ∨ c ∈ s.drop ((Lib.index s sub).toNat + sub.length)
  | [], sub, _, c, hc => by cases hc
  | b :: l, sub, h, c, hc => by
    have hg := Lib.index_ge l sub
    unfold Lib.index at h ⊢
    by_cases hp : sub.isPrefixOf (b :: l) = true
    · rw [if_pos hp]
      obtain ⟨t, ht⟩ := List.isPrefixOf_iff_prefix.1 hp
      rw [← ht] at hc ⊢
      rcases List.mem_append.1 hc with x | x
      · exact .inr (.inl x)
      · refine .inr (.inr ?_)
        simpa using x
    · rw [if_neg hp] at h ⊢
      by_cases h1 : (Lib.index l sub == -1) = true
      · rw [if_pos h1] at h
        omega
      · rw [if_neg h1] at h ⊢
        have h2 : Lib.index l sub ≠ -1 := by simpa using h1
        have e : (Lib.index l sub + 1).toNat = (Lib.index l sub).toNat + 1 := by omega
        rw [e, List.take_succ_cons, show (Lib.index l sub).toNat + 1 + sub.length = ((Lib.index l sub).toNat + sub.length) + 1 by omega, List.drop_succ_cons]
        rcases List.mem_cons.1 hc with x | x
        · exact .inl (by rw [x]; exact List.mem_cons_self)
        · rcases cut_mem l sub (by omega) c x with y | y | y
          · exact .inl (List.mem_cons_of_mem _ y)
          · exact .inr (.inl y)
          · exact .inr (.inr y)
theorem cut_pl (s sub : List UInt8) (h : (Lib.cut s sub).2.2 = true) (h1 : Pl (Lib.cut s sub).1) (h2 : Pl sub) (h3 : Pl (Lib.cut s sub).2.1) : Pl s := by
  unfold Lib.cut at h h1 h3
  by_cases h0 : 0 ≤ Lib.index s sub
  · rw [if_pos h0] at h1 h3
    intro c hc
    rcases cut_mem s sub h0 c hc with x | x | x
    · exact h1 c x
    · exact h2 c x
    · exact h3 c x
  · rw [if_neg h0] at h
    cases h
theorem sgn_pl (c : UInt8) (h : Ab.sgn (c.toNat : Int) = true) : kind c.toNat = 0 := by
  apply kind_plain
  have := of_decide_eq_true h
  omega
theorem signs_pl (l : List UInt8) (h : Ab.signs l = true) : Pl l := fun c hc => sgn_pl c (List.all_eq_true.1 h c hc)
theorem all_pl {ss : List ByteArray} (h : Ab.all ss = true) : ∀ s ∈ ss, Pl (tl s) := fun s hs => signs_pl _ (List.all_eq_true.1 h s hs)
theorem nameAll_pl : ∀ (l : List UInt8) (f : Bool), Ru.nameAll l f = true → Pl l
  | [], _, _ => Pl.nil
  | c :: l, f, h => by
    unfold Ru.nameAll at h
    rw [Bool.and_eq_true, Bool.or_eq_true, Bool.and_eq_true] at h
    refine Pl.cons (kind_plain c ?_) (nameAll_pl l false h.2)
    rcases h.1 with x | x
    · have := of_decide_eq_true x; omega
    · have := of_decide_eq_true x.2; omega
theorem plain_of {s : ByteArray} (h : 1 ≤ s.size) (h' : Pl (tl s)) : Plain s := ⟨fun e => by rw [e] at h; exact absurd h (by decide), h'⟩
theorem plain_mk {l : List UInt8} (h : 1 ≤ l.length) (h' : Pl l) : Plain ⟨l.toArray⟩ := plain_of (by rw [size_mk]; exact h) (by rw [tl_mk]; exact h')
theorem name_plain {s : ByteArray} (h : Ru.name (tl s) = true) : Plain s := by
  unfold Ru.name at h
  rw [Bool.and_eq_true, decide_eq_true_eq, tl_length] at h
  exact plain_of h.1.1 (nameAll_pl _ _ h.2)
theorem itoa_plain (n : Int) (h : 0 ≤ n) : Plain ⟨(Lib.itoa n).toArray⟩ := by
  refine plain_mk ?_ (itoa_pl n h)
  unfold Lib.itoa
  rw [if_neg (by omega)]
  obtain ⟨k, l, e, _⟩ := Ru.dec_head n.toNat
  rw [e]
  simp
theorem two_pl (n : Int) (h0 : 0 ≤ n) (h1 : n < 100) : Pl (Ck.two n) :=
  Pl.cons (by decide) (Pl.cons (digit_pl _ (by omega)) (Pl.cons (digit_pl _ (by omega)) Pl.nil))
theorem body_pl (a : Int) (h : 0 ≤ a) (h2 : a ≤ 604800) : Pl (Ck.body a) ∧ 1 ≤ (Ck.body a).length ∧ (Ck.body a).length ≤ 10 := by
  unfold Ck.body
  have hl : 1 ≤ (Lib.itoa (a / 3600)).length ∧ (Lib.itoa (a / 3600)).length ≤ 4 := by
    unfold Lib.itoa
    rw [if_neg (by omega)]
    exact Dy.dec_len _ (by omega)
  have h3 : (Ck.two (a % 3600 / 60)).length = 3 := rfl
  have h4 : (Ck.two (a % 3600 % 60)).length = 3 := rfl
  refine ⟨((itoa_pl _ (by omega)).app (two_pl _ (by omega) (by omega))).app ?_, ?_, ?_⟩
  · split
    · exact two_pl _ (by omega) (by omega)
    · exact Pl.nil
  · rw [List.length_append, List.length_append]; omega
  · rw [List.length_append, List.length_append]
    split
    · omega
    · simp only [List.length_nil]; omega
theorem ck_pl (s : Int) (h : IsTime s) : Pl (Ck.text s) ∧ 1 ≤ (Ck.text s).length ∧ (Ck.text s).length ≤ 11 := by
  unfold Ck.text
  rw [if_pos h]
  obtain ⟨a1, a2⟩ := h
  have hb := body_pl (if s < 0 then -s else s) (by split <;> omega) (by split <;> omega)
  have hs : Pl (Ck.sign s) ∧ (Ck.sign s).length ≤ 1 := by
    unfold Ck.sign
    split
    · exact ⟨pl_of (by decide), Nat.le_refl _⟩
    · exact ⟨Pl.nil, Nat.zero_le _⟩
  exact ⟨hs.1.app hb.1, by rw [List.length_append]; omega, by rw [List.length_append]; omega⟩
theorem mo_pl (s c : Int) (h : Mo.Ok s c) : Pl (Mo.text s c) ∧ 1 ≤ (Mo.text s c).length ∧ (Mo.text s c).length ≤ 12 := by
  unfold Mo.text
  obtain ⟨k1, k2, k3⟩ := ck_pl s h.1
  have ht : Pl (Mo.tail c) ∧ (Mo.tail c).length ≤ 1 := by
    unfold Mo.tail
    split
    · exact ⟨pl_of (by decide), Nat.le_refl _⟩
    · split
      · exact ⟨pl_of (by decide), Nat.le_refl _⟩
      · exact ⟨Pl.nil, Nat.zero_le _⟩
  exact ⟨k1.app ht.1, by rw [List.length_append]; omega, by rw [List.length_append]; omega⟩
def dayB (k n d : Int) : Bool := plB (Dy.text k n d) && decide (1 ≤ (Dy.text k n d).length ∧ (Dy.text k n d).length ≤ 10)
theorem day0 : ∀ n : Nat, n < 31 → dayB 0 ((n : Int) + 1) 0 = true := by decide +kernel
theorem day1 : ∀ w : Nat, w < 7 → dayB 1 0 (w : Int) = true := by decide +kernel
theorem day2 : ∀ n : Nat, n < 31 → ∀ w : Nat, w < 7 → dayB 2 ((n : Int) + 1) (w : Int) = true := by decide +kernel
theorem day3 : ∀ n : Nat, n < 31 → ∀ w : Nat, w < 7 → dayB 3 ((n : Int) + 1) (w : Int) = true := by decide +kernel
theorem day_pl (k n d : Int) (h : Dy.Ok k n d) : Pl (Dy.text k n d) ∧ 1 ≤ (Dy.text k n d).length ∧ (Dy.text k n d).length ≤ 10 := by
  have hb : dayB k n d = true := by
    rcases h with ⟨rfl, a, b, rfl⟩ | ⟨rfl, rfl, a, b⟩ | ⟨h | h, a, b, c, e⟩
    · have := day0 (n - 1).toNat (by omega); rwa [show ((n - 1).toNat : Int) + 1 = n by omega] at this
    · have := day1 d.toNat (by omega); rwa [show (d.toNat : Int) = d by omega] at this
    · subst h
      have := day2 (n - 1).toNat (by omega) d.toNat (by omega); rwa [show ((n - 1).toNat : Int) + 1 = n by omega, show (d.toNat : Int) = d by omega] at this
    · subst h
      have := day3 (n - 1).toNat (by omega) d.toNat (by omega); rwa [show ((n - 1).toNat : Int) + 1 = n by omega, show (d.toNat : Int) = d by omega] at this
  unfold dayB at hb
  rw [Bool.and_eq_true, decide_eq_true_eq] at hb
  exact ⟨pl_of hb.1, hb.2⟩
def monB (m : Int) : Bool := plB (tl (textOf Months m)) && decide ((textOf Months m).size = 3)
theorem mon0 : ∀ m : Nat, m < 12 → monB (m : Int) = true := by decide +kernel
theorem mon_pl (m : Int) (h : 1 ≤ m ∧ m ≤ 12) : Plain (textOf Months (m - 1)) ∧ (textOf Months (m - 1)).size ≤ 3 := by
  have := mon0 (m - 1).toNat (by omega)
  rw [show ((m - 1).toNat : Int) = m - 1 by omega] at this
  unfold monB at this
  rw [Bool.and_eq_true, decide_eq_true_eq] at this
  exact ⟨plain_of (by omega) (pl_of this.1), by omega⟩
theorem letter_plain {s : ByteArray} (h : Ab.letter s = true) (h0 : ¬ s = ⟨#[]⟩) : Plain s := by
  unfold Ab.letter at h
  rw [Bool.and_eq_true] at h
  exact ⟨h0, signs_pl _ h.2⟩
theorem dash_plain : Plain ⟨#[45]⟩ := ⟨by decide, pl_of (by decide)⟩
theorem fmt_plain {s : ByteArray} (h : Ab.fmt s = true) : Plain s := by
  have hz := (Ab.fmt_size s h).1
  refine plain_of hz ?_
  have hp : ∀ p : ByteArray, Ab.has s p = true → Pl (tl p) → Pl (tl (Ab.ahd s p)) → Pl (tl (Ab.bhd s p)) → Pl (tl s) := by
    intro p h1 h2 h3 h4
    unfold Ab.ahd at h3
    unfold Ab.bhd at h4
    rw [tl_mk] at h3 h4
    exact cut_pl _ _ h1 h3 h2 h4
  unfold Ab.fmt Ab.cutf at h
  split at h
  · cases h
  · split at h
    · rename_i h1
      have := all_pl h
      exact hp Ab.pS h1 (pl_of (by decide)) (this _ (by simp)) (this _ (by simp))
    · split at h
      · rename_i h1
        have := all_pl h
        exact hp Ab.pZ h1 (pl_of (by decide)) (this _ (by simp)) (this _ (by simp))
      · split at h
        · rename_i h1
          simp only [Bool.and_eq_true] at h
          have := all_pl h.2.2
          exact hp Ab.pE h1 (pl_of (by decide)) (this _ (by simp)) (this _ (by simp))
        · exact all_pl h s (by simp)
theorem year_size (y : Int) (h1 : 1 ≤ y) (h2 : y ≤ 9999) : (⟨(Lib.itoa y).toArray⟩ : ByteArray).size ≤ 4 := by
  rw [size_mk]
  have := Dy.dec_len y.toNat (by omega)
  unfold Lib.itoa
  rw [if_neg (by omega)]
  omega
def Fit (ss : List ByteArray) (m : Nat) : Prop := ∀ s ∈ ss, Plain s ∧ s.size ≤ m
theorem rule_fit (r : Ru.R) (h : r.Ok) : Fit r.texts 64 := by
  obtain ⟨h1, ⟨y1, y2, y3⟩, hm, hd, ho, hv, hl⟩ := h
  intro t ht
  unfold Ru.R.texts at ht
  simp only [List.mem_cons, List.not_mem_nil, or_false] at ht
  rcases ht with rfl | rfl | rfl | rfl | rfl | rfl | rfl | rfl | rfl
  · refine ⟨name_plain h1, ?_⟩
    unfold Ru.name at h1
    rw [Bool.and_eq_true, decide_eq_true_eq, tl_length] at h1
    exact h1.1.2
  · exact ⟨itoa_plain _ (by omega), by have := year_size r.fr y1 (by omega); omega⟩
  · unfold Ru.R.last
    split
    · exact ⟨⟨by decide, pl_of (by decide)⟩, by decide⟩
    · split
      · exact ⟨⟨by decide, pl_of (by decide)⟩, by decide⟩
      · exact ⟨itoa_plain _ (by omega), by have := year_size r.tt (by omega) y3; omega⟩
  · exact ⟨dash_plain, by decide⟩
  · have := mon_pl r.mo hm
    exact ⟨this.1, by omega⟩
  · obtain ⟨a, b, c⟩ := day_pl _ _ _ hd
    exact ⟨plain_mk b a, by rw [size_mk]; omega⟩
  · obtain ⟨a, b, c⟩ := mo_pl _ _ ho
    exact ⟨plain_mk b a, by rw [size_mk]; omega⟩
  · obtain ⟨a, b, c⟩ := ck_pl _ hv
    exact ⟨plain_mk b a, by rw [size_mk]; omega⟩
  · unfold Ru.R.lett
    split
    · exact ⟨dash_plain, by decide⟩
    · rename_i h0
      refine ⟨letter_plain hl h0, ?_⟩
      unfold Ab.letter at hl
      simp only [Bool.and_eq_true, decide_eq_true_eq] at hl
      omega
theorem until_fit (u : Mo.U) (h : u.Ok) : Fit u.texts 64 := by
  obtain ⟨⟨y1, y2, m1, m2⟩, hd, ho⟩ := h
  intro t ht
  unfold Mo.U.texts at ht
  have ht := List.mem_of_mem_take ht
  unfold Mo.U.full at ht
  simp only [List.mem_cons, List.not_mem_nil, or_false] at ht
  rcases ht with rfl | rfl | rfl | rfl
  · exact ⟨itoa_plain _ (by omega), by have := year_size u.y y1 y2; omega⟩
  · have := mon_pl u.m ⟨m1, m2⟩
    exact ⟨this.1, by omega⟩
  · obtain ⟨a, b, c⟩ := day_pl _ _ _ hd
    exact ⟨plain_mk b a, by rw [size_mk]; omega⟩
  · obtain ⟨a, b, c⟩ := mo_pl _ _ ho
    exact ⟨plain_mk b a, by rw [size_mk]; omega⟩
theorem era_fit (e : Er.E) (h : e.Ok) : Fit e.texts 64 := by
  obtain ⟨h1, h2, h3, h4, _⟩ := h
  have hf : Fit e.front 64 := by
    intro t ht
    unfold Er.E.front at ht
    simp only [List.mem_cons, List.not_mem_nil, or_false] at ht
    rcases ht with rfl | rfl | rfl
    · obtain ⟨a, b, c⟩ := ck_pl _ h1
      exact ⟨plain_mk b a, by rw [size_mk]; omega⟩
    · unfold Er.E.mid
      split
      · rename_i hk
        have hs : IsTime e.sv := by
          rcases h3 with ⟨a, _⟩ | ⟨_, a, _⟩ | ⟨a, _⟩
          · rw [a] at hk; exact absurd hk (by decide)
          · exact a
          · rw [a] at hk; exact absurd hk (by decide)
        obtain ⟨a, b, c⟩ := ck_pl _ hs
        exact ⟨plain_mk b a, by rw [size_mk]; omega⟩
      · split
        · rename_i hk
          have hs : Ru.name (tl e.ru) = true := by
            rcases h3 with ⟨a, _⟩ | ⟨a, _⟩ | ⟨_, _, a⟩
            · rw [a] at hk; exact absurd hk (by decide)
            · rw [a] at hk; exact absurd hk (by decide)
            · exact a
          refine ⟨name_plain hs, ?_⟩
          unfold Ru.name at hs
          rw [Bool.and_eq_true, decide_eq_true_eq, tl_length] at hs
          exact hs.1.2
        · exact ⟨dash_plain, by decide⟩
    · exact ⟨fmt_plain h2, by have := (Ab.fmt_size e.fm h2).2; omega⟩
  unfold Er.E.texts
  split
  · rename_i he
    intro t ht
    rcases List.mem_append.1 ht with x | x
    · exact hf t x
    · exact until_fit e.u (h4 he) t x
  · exact hf
theorem lens_fit : ∀ (ss : List ByteArray) (m : Nat), Fit ss m → Lib.lens (ss.map (·.data.toList)) ≤ ss.length * m
  | [], m, _ => by simp [Lib.lens]
  | x :: l, m, h => by
    have h1 := lens_fit l m fun s hs => h s (List.mem_cons_of_mem _ hs)
    have h2 := (h x List.mem_cons_self).2
    have h3 : x.data.toList.length = x.size := by rw [Array.length_toList]; rfl
    have h4 : Lib.lens ((x :: l).map (·.data.toList)) = x.data.toList.length + Lib.lens (l.map (·.data.toList)) := by simp [Lib.lens]
    rw [h4, h3, List.length_cons, Nat.add_mul]
    omega
theorem line_fit (ss : List ByteArray) (h : Fit ss 64) (hl : ss.length ≤ 9) : (line ss).size ≤ 2000 := by
  have h1 := line_size ss
  have h2 := lens_fit ss 64 h
  have h3 : ss.length * 64 ≤ 9 * 64 := Nat.mul_le_mul_right _ hl
  omega
end Sc
end Go.Proofs.YtlhoggalhjadgaaGreatDoor

/- source.Rules. -/
namespace Go.Proofs.YtlhoggalhjadgaaGreatDoor
open Go.RowKit

theorem reads_cells_at (w : World) (g : Nat) (cs : Array Value) (m : Nat) (t : TypeId) (hg : g = w.heap.size) (hm : cs.size = m) : Reads (w.alloc (.cells cs t)) (w.alloc (.cells cs t)).heap.size m (some ⟨g, 0, none⟩) 1 cs.toList := by
  subst hg
  refine ⟨by simpa using hm, fun _ => ⟨_, rfl, by simp, fun j u hu => cells_new w cs t j u hu⟩⟩
namespace Src
def ofName (name : ByteArray) (l : List Ru.R) : List Ru.R := l.filter fun r => decide (r.nm = name)
theorem ofName_yes {name : ByteArray} {l : List Ru.R} {k : Nat} {r : Ru.R} (h : l[k]? = some r) (hn : r.nm = name) : ofName name (l.take (k + 1)) = ofName name (l.take k) ++ [r] := by
  unfold ofName
  rw [List.take_add_one, h]
  simp [hn]
theorem ofName_no {name : ByteArray} {l : List Ru.R} {k : Nat} {r : Ru.R} (h : l[k]? = some r) (hn : ¬ r.nm = name) : ofName name (l.take (k + 1)) = ofName name (l.take k) := by
  unfold ofName
  rw [List.take_add_one, h]
  simp [hn]
theorem ofName_le (name : ByteArray) (l : List Ru.R) (k : Nat) : (ofName name (l.take k)).length ≤ k := by
  unfold ofName
  exact Nat.le_trans (List.length_filter_le _ _) (by simp; omega)
def RRel (W0 : World) (name : ByteArray) (l : List Ru.R) (n : Nat) (v i : Value) (wr : World) : Prop :=
  ∃ k : Nat, k ≤ n ∧ i = .int .i64 k ∧ Hid (wr.ownsRow W0.heap.size 47 11 v (ofName name (l.take k)).length ((ofName name (l.take k)).flatMap Ru.R.cells)) ∧ Hid (Below W0.heap.size W0 wr)
end Src
end Go.Proofs.YtlhoggalhjadgaaGreatDoor

/- The contract of the reference's Texts: whether two lists of texts are one. -/
namespace Go.Proofs.YtlhoggalhjadgaaGreatDoor
open Go.RowKit

theorem list_next {α : Type} {l m : List α} {k : Nat} {a : α} (h : l.take k = m.take k) (h1 : l[k]? = some a) (h2 : m[k]? = some a) : l.take (k + 1) = m.take (k + 1) := by
  rw [List.take_add_one, List.take_add_one, h, h1, h2]
set_option maxHeartbeats 1000000 in
theorem refTexts_any (A A' : Option Addr) (n n' c c' : Nat) (ss ts : List ByteArray) (w : World) (hn : n ≤ maxLen) (hn' : n' ≤ maxLen) (hr : Reads w w.heap.size 1 A n (ss.map Value.string)) (hr' : Reads w w.heap.size 1 A' n' (ts.map Value.string)) :
    Calls Tryz.prog 16 #[.slice A n c, .slice A' n' c'] w fun e w' => e = .returned (.bool (decide (ss = ts))) ∧ Drew w w' := by
  unfold maxLen at hn hn'
  have h1 : ss.length = n := by have := hr.1; simpa using this
  have h2 : ts.length = n' := by have := hr'.1; simpa using this
  by_cases he : n = n'
  · subst he
    have q0 : ((n : Int) != (n : Int)) = false := by simp
    have H1 := Lib.hid h1
    have H2 := Lib.hid h2
    have HR := Lib.hid hr
    have HR' := Lib.hid hr'
    clear h1 h2 hr hr'
    go_enter Tryz.func16, Tryz.ntmps16
    go_wp2
    go_loopw [13] (fun i wr => ∃ k : Nat, k ≤ n ∧ i = .int .i64 k ∧ Hid (Drew w wr) ∧ Hid (ss.take k = ts.take k)) (fun i _ => n - (intOf i).toNat)
    case atStart => exact ⟨0, Nat.zero_le _, rfl, Drew.refl w, rfl⟩
    case round =>
      obtain ⟨k, hk, rfl, HD, HE⟩ := hrel
      by_cases hlt : k < n
      · obtain ⟨ad, x, rfl, hx, hcell⟩ : ∃ ad nm, A = some ad ∧ Hid (ss[k]? = some nm) ∧ wr.cell? (ad.add k) = some (.string nm) := reads_str (HR.out.of_drew HD.out) hlt
        obtain ⟨ad', y, rfl, hy, hcell'⟩ : ∃ ad nm, A' = some ad ∧ Hid (ts[k]? = some nm) ∧ wr.cell? (ad.add k) = some (.string nm) := reads_str (HR'.out.of_drew HD.out) hlt
        have q1 : (0 : Int) ≤ (k : Int) := by omega
        have q2 : (k : Int) < (n : Int) := by omega
        by_cases hxy : x = y
        · subst hxy
          have HN := Lib.hid (list_next HE.out hx.out hy.out)
          go_wp2
          go_quiet (fail)
          go_wp2
          go_roundw
          case rel => exact ⟨k + 1, by omega, by go_num, by first | exact HD.out | exact HD.out.drewN _, HN⟩
          case measure => simp [intOf]; omega
        · have qe : (x.toList == y.toList) = false := by
            rw [beq_eq_false_iff_ne]
            intro e
            apply hxy
            rw [ByteArray.toList_eq, ByteArray.toList_eq] at e
            apply ByteArray.ext
            exact Array.ext' e
          have qe' : ¬ x.toList = y.toList := by simpa using qe
          have HN : Hid (decide (ss = ts) = false) := by
            show decide (ss = ts) = false
            apply decide_eq_false
            intro e
            apply hxy
            have a := hx.out
            rw [e, hy.out] at a
            exact (Option.some.inj a).symm
          clear hxy
          go_wp2
          go_quiet (fail)
          go_wp2
          go_ret
          exact ⟨ret_bool (by rw [HN.out]), by first | exact HD.out | exact HD.out.drewN _⟩
      · obtain rfl : k = n := by omega
        have HN : Hid (decide (ss = ts) = true) := by
          show decide (ss = ts) = true
          apply decide_eq_true
          have e := HE.out
          rw [List.take_of_length_le (by have := H1.out; omega), List.take_of_length_le (by have := H2.out; omega)] at e
          exact e
        go_wp2
        go_ret
        exact ⟨ret_bool (by rw [HN.out]), HD.out⟩
  · have q0 : ((n : Int) != (n' : Int)) = true := by simp; omega
    have HN : Hid (decide (ss = ts) = false) := by
      show decide (ss = ts) = false
      apply decide_eq_false
      intro e
      apply he
      rw [← h1, ← h2, e]
    clear h1 h2 hr hr' he
    go_enter Tryz.func16, Tryz.ntmps16
    go_wp2
    go_ret
    exact ⟨ret_bool (by rw [HN.out]), Drew.refl w⟩
end Go.Proofs.YtlhoggalhjadgaaGreatDoor

/- The statements' own 'lives' of package moment. -/
namespace Go.Proofs.YtlhoggalhjadgaaGreatDoor
open Go.RowKit

instance : DecidableEq Mo.U := fun a b => decidable_of_iff (a.y = b.y ∧ a.m = b.m ∧ a.k = b.k ∧ a.n = b.n ∧ a.d = b.d ∧ a.s = b.s ∧ a.c = b.c) (by cases a; cases b; simp)
theorem momParse_is (s : ByteArray) (w : World) (hW : Wp w) (hs : s.size ≤ 1000000) (a b d : Int) (h : Mo.parse s = ((a, b), d)) :
    Calls Tryz.prog 104 #[.string s] w fun e w' => e = .returned (.tuple #[.agg #[.int .i64 a, .int .u8 b], .int .i64 d]) ∧ Below w.heap.size w w' := calls_val (momParse_any s w hW hs) (by rw [h])
theorem parseUntil_is (A : Option Addr) (n c : Nat) (ss : List ByteArray) (w : World) (hW : Wp w) (hn : n ≤ maxLen) (hr : Reads w w.heap.size 1 A n (ss.map Value.string)) (hs : ∀ t ∈ ss, t.size ≤ 1000000) (u : Mo.U) (a b : Int) (h : Mo.uParse ss = (u, a, b)) :
    Calls Tryz.prog 88 #[.slice A n c] w fun e w' => e = .returned (.tuple #[u.v, .int .i64 a, .int .i64 b]) ∧ Below w.heap.size w w' := calls_val (parseUntil_any A n c ss w hW hn hr hs) (by rw [h])
theorem itoa_1999 : Lib.itoa 1999 = [49, 57, 57, 57] := by
  unfold Lib.itoa
  rw [if_neg (by decide)]
  rw [Lib.decDigits, dif_neg (by decide), Lib.decDigits, dif_neg (by decide), Lib.decDigits, dif_neg (by decide), Lib.decDigits, dif_pos (by decide)]
  rfl
def Mo.uOct : Mo.U := ⟨1999, 10, 0, 1, 0, 0, 0⟩
theorem oct_ok : Mo.uOct.Ok := ⟨⟨by decide +kernel, by decide +kernel, by decide +kernel, by decide +kernel⟩, by decide +kernel, by decide +kernel⟩
theorem texts_oct : Mo.uOct.texts = [⟨#[49, 57, 57, 57]⟩, ⟨#[79, 99, 116]⟩] := by
  have e1 : (⟨(Mo.text 0 0).toArray⟩ : ByteArray) = Mo.u3 := by unfold Mo.text; rw [text_eq]; decide +kernel
  have e2 : (⟨(Dy.text 0 1 0).toArray⟩ : ByteArray) = Mo.u2 := by decide +kernel
  have e3 : ¬ textOf Months (10 - 1) = Mo.u1 := by decide +kernel
  have hc : Mo.uOct.count = 2 := by
    unfold Mo.U.count Mo.uOct
    rw [if_pos e1, if_pos e2, if_neg e3]
  unfold Mo.U.texts
  rw [hc]
  unfold Mo.U.full Mo.uOct
  simp only [itoa_1999]
  decide +kernel
theorem reads_at (w : World) (g : Nat) (l : List ByteArray) (t : TypeId) (hg : g = w.heap.size) : Reads (w.alloc (.cells (strCells l) t)) (w.alloc (.cells (strCells l) t)).heap.size 1 (some ⟨g, 0, none⟩) l.length (l.map Value.string) := by
  subst hg
  exact reads_new w l t
theorem texts_yes (A A' : Option Addr) (n n' c c' : Nat) (ss ts : List ByteArray) (w : World) (hn : n ≤ maxLen) (hn' : n' ≤ maxLen) (hr : Reads w w.heap.size 1 A n (ss.map Value.string)) (hr' : Reads w w.heap.size 1 A' n' (ts.map Value.string)) (h : ss = ts) :
    Calls Tryz.prog 16 #[.slice A n c, .slice A' n' c'] w fun e w' => e = .returned (.bool true) ∧ Below w.heap.size w w' :=
  (calls_bool (refTexts_any A A' n n' c c' ss ts w hn hn' hr hr') (by rw [h]; simp)).mono fun _ _ ⟨a, d⟩ => ⟨a, d.below _⟩

end Go.Proofs.YtlhoggalhjadgaaGreatDoor

/- The statements' own 'lives' of package source. -/
namespace Go.Proofs.YtlhoggalhjadgaaGreatDoor
open Go.RowKit

/-- source.Parse. -/
theorem srcParse_any (t : ByteArray) (w : World) (hW : Wq w) (hs : t.size ≤ maxLen) : Calls Tryz.prog 10 #[.string t] w (Src.PRet w (Src.parse Src.own (tl t))) := by
  unfold Src.parse
  cases hL : Sc.lines (tl t) with
  | bad l c y => exact srcParse_bad t w hW hs l c y hL
  | ok L =>
    simp only [Src.rest_all]
    exact srcParse_ok t w hW hs L hL
namespace Lv
def e1 : Er.E := ⟨3600, 2, 0, ⟨#[69, 85]⟩, ⟨#[67, 69, 37, 115, 84]⟩, true, ⟨2000, 1, 0, 1, 0, 0, 0⟩⟩
def e2 : Er.E := ⟨7200, 0, 0, ⟨#[]⟩, ⟨#[88]⟩, false, ⟨0, 0, 0, 0, 0, 0, 0⟩⟩
def r1 : Ru.R := ⟨⟨#[69, 85]⟩, 1981, 9999, 3, 1, 0, 0, 3600, 2, 3600, ⟨#[83]⟩⟩
def s1 : Src.S := ⟨[r1], [([65, 47, 66], [e1, e2])], [([65, 47, 66], [67])], false⟩
theorem p1 : Src.parse Src.own (tl ⟨([82, 117, 108, 101, 32, 69, 85, 32, 49, 57, 56, 49, 32, 109, 97, 120, 32, 45, 32, 77, 97, 114, 32, 108, 97, 115, 116, 83, 117, 110, 32, 49, 58, 48, 48, 117, 32, 49, 58, 48, 48, 32, 83, 32, 35, 32, 120, 10, 90, 111, 110, 101, 32, 65, 47, 66, 32, 49, 58, 48, 48, 32, 69, 85, 32, 67, 69, 37, 115, 84, 32, 50, 48, 48, 48, 10, 32, 50, 58, 48, 48, 32, 45, 32, 88, 10, 76, 32, 65, 47, 66, 32, 67, 10]).toArray⟩) = .ok s1 := by kernel_rfl
theorem p2 : Src.parse Src.own (tl ⟨([90, 111, 110, 101, 32, 65, 32, 49, 58, 48, 48, 32, 45, 32, 88, 32, 50, 48, 48, 48, 10]).toArray⟩) = .bad 1 1 5 := by kernel_rfl
theorem p3 : Src.parse Src.own (tl ⟨([82, 117, 108, 101, 32, 69, 85, 32, 49, 57, 56, 49, 10, 120]).toArray⟩) = .bad 1 9 5 := by kernel_rfl
theorem p4 : Src.parse Src.own (tl ⟨([10, 32, 76, 105, 110, 107, 32, 65, 32, 57, 98]).toArray⟩) = .bad 2 9 7 := by kernel_rfl
theorem p5 : Src.parse Src.own (tl ⟨([90, 111, 110, 101, 32, 65, 32, 49, 58, 48, 48, 32, 45, 32, 88, 32, 50, 48, 48, 48, 10, 32, 82, 117, 108, 101, 32, 97, 32, 98]).toArray⟩) = .bad 2 2 4 := by kernel_rfl
theorem open_ {w : World} {B : Nat} {rv zv lv : Value} {evs : List Value} (h : Src.SrcR w B s1 rv zv lv evs) : ∃ ra rc za zc la lc ea ec, rv = .slice (some ra) 1 rc ∧ zv = .slice (some za) 1 zc ∧ lv = .slice (some la) 1 lc ∧ evs = [.slice (some ea) 2 ec] ∧
    (ra.block < B ∧ za.block < B ∧ la.block < B ∧ ea.block < B) ∧ w.cell? ra = some (.string ⟨#[69, 85]⟩) ∧ w.cell? ⟨za.block, za.off + 1, none⟩ = some (.slice (some ea) 2 ec) ∧ w.cell? la = some (.string ⟨#[65, 47, 66]⟩) ∧ w.cell? ⟨la.block, la.off + 1, none⟩ = some (.string ⟨#[67]⟩) ∧ w.cell? ⟨ea.block, ea.off + 13, none⟩ = some (.int .i64 7200) := by
  obtain ⟨⟨rA, rc, rfl, hr1, hr2, hr3⟩, ⟨zA, zc, rfl, hz1, hz2, hz3⟩, ⟨lA, lc, rfl, hl1, hl2, hl3⟩, hlen, hers⟩ := h
  have hlen' : evs.length = 1 := hlen
  obtain ⟨ev, rfl⟩ : ∃ ev, evs = [ev] := by
    match evs, hlen' with
    | [ev], _ => exact ⟨ev, rfl⟩
  obtain ⟨eA, ec, he, he1, he2, he3⟩ := hers (([65, 47, 66], [e1, e2]), ev) (List.mem_cons_self)
  have he' : ev = .slice eA 2 ec := he
  subst he'
  obtain ⟨ra, rfl, rb, rcell⟩ := hr3.2 (by decide)
  obtain ⟨za, rfl, zb, zcell⟩ := hz3.2 (by decide)
  obtain ⟨la, rfl, lb, lcell⟩ := hl3.2 (by decide)
  obtain ⟨ea, rfl, eb, ecell⟩ := he3.2 (show 0 < 2 by decide)
  exact ⟨ra, rc, za, zc, la, lc, ea, ec, rfl, rfl, rfl, rfl, ⟨rb, zb, lb, eb⟩, rcell 0 _ rfl, zcell 1 _ rfl, lcell 0 _ rfl, lcell 1 _ rfl, ecell 13 _ rfl⟩
theorem r1_ok : r1.Ok := ⟨by decide +kernel, by decide +kernel, by decide +kernel, by decide +kernel, by decide +kernel, by decide +kernel, by decide +kernel⟩
theorem e1_ok : e1.Ok := ⟨by decide +kernel, by decide +kernel, .inr (.inr ⟨rfl, rfl, by decide +kernel⟩), fun _ => ⟨⟨by decide +kernel, by decide +kernel, by decide +kernel, by decide +kernel⟩, by decide +kernel, by decide +kernel⟩, fun h => (by cases h)⟩
theorem e2_ok : e2.Ok := ⟨by decide +kernel, by decide +kernel, .inl ⟨rfl, rfl, rfl⟩, fun h => (by cases h), fun _ => rfl⟩
theorem s1_ok : Src.srcB s1 = true := by
  have h1 : r1.good = true := (Ru.R.good_iff r1).2 r1_ok
  have h2 : e1.good = true := by unfold Er.E.good; rw [Er.chk_ok e1 e1_ok]; rfl
  have h3 : e2.good = true := by unfold Er.E.good; rw [Er.chk_ok e2 e2_ok]; rfl
  have h4 : Src.zoneB ([65, 47, 66], [e1, e2]) = true := by
    unfold Src.zoneB Src.erasB Src.erasB Src.erasB
    simp only [h2, h3]
    decide +kernel
  have h5 : Src.linkB ([65, 47, 66], [67]) = true := by decide +kernel
  unfold Src.srcB s1
  simp only [List.all_cons, List.all_nil, h1, h4, h5]
  rfl
theorem s1_lims : Src.Lims s1 := ⟨by decide, by decide, by decide⟩
theorem s1_sm : Src.Sm s1 := by
  refine ⟨?_, ?_, ?_⟩
  · intro r hr
    rw [show s1.rules = [r1] from rfl, List.mem_singleton] at hr
    subst hr
    decide
  · intro z hz
    rw [show s1.zones = [([65, 47, 66], [e1, e2])] from rfl, List.mem_singleton] at hz
    subst hz
    refine ⟨by decide, ?_⟩
    intro e he
    simp only [List.mem_cons, List.not_mem_nil, or_false] at he
    rcases he with rfl | rfl
    · exact ⟨by decide, by decide⟩
    · exact ⟨by decide, by decide⟩
  · intro k hk
    rw [show s1.links = [([65, 47, 66], [67])] from rfl, List.mem_singleton] at hk
    subst hk
    decide
def s2 : Src.S := ⟨[], [([65], [])], [], false⟩
theorem s2_bad : Src.srcB s2 = false := by
  have h4 : Src.zoneB ([65], []) = false := by
    unfold Src.zoneB
    simp
  unfold Src.srcB s2
  simp [h4]
theorem s2_lims : Src.Lims s2 := ⟨by decide, by decide, by decide⟩
theorem s2_sm : Src.Sm s2 := by
  refine ⟨fun r hr => (by cases hr), ?_, fun k hk => (by cases hk)⟩
  intro z hz
  rw [show s2.zones = [([65], [])] from rfl, List.mem_singleton] at hz
  subst hz
  exact ⟨by decide, fun e he => (by cases he)⟩
theorem row_nil (w : World) (B size : Nat) : Src.RowR w B size 0 (.slice none 0 0) [] := ⟨none, 0, rfl, Nat.le_refl _, by decide, ⟨by simp, fun h => absurd h (by omega)⟩⟩
theorem src_nil (w : World) (B : Nat) : Src.SrcR w B Src.St.none_ (.slice none 0 0) (.slice none 0 0) (.slice none 0 0) [] :=
  ⟨row_nil w B 11, row_nil w B 2, row_nil w B 2, rfl, fun p hp => (by cases hp)⟩
theorem src_two (w : World) : Src.SrcR (w.alloc (.cells #[.string ⟨#[65]⟩, .slice none 0 0] 53)) (w.alloc (.cells #[.string ⟨#[65]⟩, .slice none 0 0] 53)).heap.size s2 (.slice none 0 0) (.slice (some ⟨w.heap.size, 0, none⟩) 1 1) (.slice none 0 0) [.slice none 0 0] := by
  refine ⟨row_nil _ _ 11, ⟨_, 1, rfl, Nat.le_refl _, by decide, reads_cells_at w w.heap.size #[.string ⟨#[65]⟩, .slice none 0 0] 2 _ rfl rfl⟩, row_nil _ _ 2, rfl, fun p hp => ?_⟩
  have hp' : p = (([65], []), .slice none 0 0) := by simpa [s2] using hp
  subst hp'
  exact row_nil _ _ 13
theorem call_ok {t : ByteArray} {s : Src.S} (h : Src.parse Src.own (tl t) = .ok s) (w : World) (hW : Wq w) (hs : t.size ≤ maxLen) : Calls Tryz.prog 10 #[.string t] w fun e w' => Below w.heap.size w w' ∧ ∃ rv zv lv evs, e = .returned (.tuple #[.agg #[rv, zv, lv], .agg #[.int .i64 0, .int .i64 0, .int .i64 0]]) ∧ Src.SrcR w' w'.heap.size s rv zv lv evs := by
  have := srcParse_any t w hW hs
  rw [h] at this
  exact this
theorem call_bad {t : ByteArray} {l c y : Int} (h : Src.parse Src.own (tl t) = .bad l c y) (w : World) (hW : Wq w) (hs : t.size ≤ maxLen) : Calls Tryz.prog 10 #[.string t] w fun e w' => Below w.heap.size w w' ∧ e = .returned (.tuple #[.agg #[.slice none 0 0, .slice none 0 0, .slice none 0 0], .agg #[.int .i64 l, .int .i64 c, .int .i64 y]]) := by
  have := srcParse_any t w hW hs
  rw [h] at this
  exact this
end Lv
end Go.Proofs.YtlhoggalhjadgaaGreatDoor

/- What is read of a short text is right, as source.Check asks it. -/
namespace Go.Proofs.YtlhoggalhjadgaaGreatDoor
open Go.RowKit

namespace Src
theorem name_len {t : Txt} (h : Ru.name t = true) : t.length ≤ 64 := by
  unfold Ru.name at h
  simp only [Bool.and_eq_true, decide_eq_true_eq] at h
  exact h.1.2
def GoodE (e : Er.E) : Prop := e.Ok
theorem erasB_done : ∀ (es : List Er.E) (e : Er.E), (∀ x ∈ es, x.Ok ∧ x.en = true) → e.Ok → e.en = false → erasB (es ++ [e]) = true
  | [], e, _, h, he => by
    have : e.good = true := by unfold Er.E.good; rw [Er.chk_ok e h]; rfl
    simp [erasB, this, he]
  | x :: es, e, hx, h, he => by
    have h1 := hx x List.mem_cons_self
    have : x.good = true := by unfold Er.E.good; rw [Er.chk_ok x h1.1]; rfl
    have ih := erasB_done es e (fun y hy => hx y (List.mem_cons_of_mem _ hy)) h he
    have e1 : ((es ++ [e]).isEmpty) = false := by cases es <;> rfl
    rw [List.cons_append, erasB, this, h1.2, e1, ih]
    rfl
theorem zoneB_done {z : Txt × List Er.E} (hb : Base own Er.E.Ok z) (hd : Done own z) : zoneB z = true := by
  obtain ⟨h1, h2, h3⟩ := hb
  obtain ⟨es, e, he, h4, h5⟩ := hd
  have hn : Ru.name z.1 = true := h1
  have h6 := erasB_done es e (fun x hx => ⟨h3 x (by rw [he]; simp [hx]), h4 x hx⟩) (h3 e (by rw [he]; simp)) h5
  unfold zoneB
  rw [hn, decide_eq_true (show 1 ≤ z.2.length by rw [he]; simp), decide_eq_true h2, he, h6]
  rfl
theorem zones_done : ∀ (zs : List (Txt × List Er.E)), ZonesOk own Er.E.Ok false zs → ∀ z ∈ zs, Base own Er.E.Ok z ∧ Done own z
  | [], _, z, hz => by cases hz
  | [x], h, z, hz => by
    rw [List.mem_singleton] at hz
    subst hz
    exact ⟨h.1, by have := h.2; rw [if_neg (by decide)] at this; exact this⟩
  | x :: y :: l, h, z, hz => by
    rcases List.mem_cons.1 hz with rfl | hz
    · exact ⟨h.1, h.2.1⟩
    · exact zones_done (y :: l) h.2.2 z hz
abbrev Rt (s : S) : Prop := Right own Ru.R.Ok Er.E.Ok s
theorem right_of {t : Txt} {x : S} (hs : t.length ≤ 1048576) (h : parse own t = .ok x) : Rt x ∧ x.op = false := by
  refine parse_right own Ru.R.Ok Er.E.Ok ?_ ?_ t x hs h
  · intro l hl
    have hown : own.rule l = Ru.parse (l.map bts) := rfl
    rw [hown] at hl ⊢
    rcases Ru.parse_ok (l.map bts) with h | h
    · exact h.2.2.2.1
    · exact absurd hl h.1
  · intro l hl
    have hown : own.era l = Er.parse (l.map bts) := rfl
    rw [hown] at hl ⊢
    rcases Er.parse_ok (l.map bts) with h | h
    · exact h.2.2.1
    · exact absurd hl h.1
theorem right_srcB {x : S} (h : Rt x) (ho : x.op = false) : srcB x = true := by
  have hz := h.zones.2
  rw [ho] at hz
  have h1 : x.rules.all Ru.R.good = true := List.all_eq_true.2 fun r hr => (Ru.R.good_iff r).2 (h.rules.2 r hr)
  have h2 : x.zones.all zoneB = true := List.all_eq_true.2 fun z hz' => zoneB_done (zones_done x.zones hz z hz').1 (zones_done x.zones hz z hz').2
  have h3 : x.links.all linkB = true := List.all_eq_true.2 fun k hk => by
    have := h.links.2 k hk
    have h1 : Ru.name k.1 = true := this.1
    have h2 : Ru.name k.2 = true := this.2
    unfold linkB
    rw [h1, h2]
    rfl
  unfold srcB
  rw [h1, h2, h3]
  rfl
theorem right_lims {x : S} (h : Rt x) : Lims x := ⟨h.rules.1, h.zones.1, h.links.1⟩
theorem right_sm {x : S} (h : Rt x) (ho : x.op = false) : Sm x := by
  have hz := h.zones.2
  rw [ho] at hz
  refine ⟨fun r hr => ?_, fun z hz' => ?_, fun k hk => ?_⟩
  · have hR := h.rules.2 r hr
    obtain ⟨h1, _, _, _, _, _, h7⟩ := hR
    have := name_len h1
    rw [tl_length] at this
    unfold Ab.letter at h7
    simp only [Bool.and_eq_true, decide_eq_true_eq] at h7
    exact ⟨by omega, by have := h7.1.1; omega⟩
  · have hB := (zones_done x.zones hz z hz').1
    refine ⟨by have := name_len (show Ru.name z.1 = true from hB.1); omega, fun e he => ?_⟩
    obtain ⟨_, hf, hk, _⟩ := hB.2.2 e he
    refine ⟨?_, ?_⟩
    · have := Ab.fmt_size e.fm hf
      unfold maxLen
      omega
    · unfold maxLen
      rcases hk with ⟨_, _, hr⟩ | ⟨_, _, hr⟩ | ⟨_, _, hr⟩
      · rw [hr]; decide
      · rw [hr]; decide
      · have := name_len hr
        rw [tl_length] at this
        omega
  · have := h.links.2 k hk
    have h1 := name_len (show Ru.name k.1 = true from this.1)
    have h2 := name_len (show Ru.name k.2 = true from this.2)
    exact ⟨by omega, by omega⟩
end Src
end Go.Proofs.YtlhoggalhjadgaaGreatDoor
