/- The statements' own 'lives' of package era. -/
import Derived.Test.YtlhoggalhjadgaaDoorK24
import Derived.Test.YtlhoggalhjadgaaDoorK26
import Derived.Test.YtlhoggalhjadgaaDoorK14
import Derived.Test.YtlhoggalhjadgaaDoorK16
import Derived.Deep.DeepCutAuto
import Derived.Test.YtlhoggalhjadgaaDoorK01
import Derived.ScopeJumps
import Derived.WalkMore
namespace Go.Proofs.YtlhoggalhjadgaaDoor
open Go.RowKit

theorem erParse_is (A : Option Addr) (n c : Nat) (ss : List ByteArray) (w : World) (hW : Wp w) (hWa : Wa w) (hn : n ≤ c) (hc : c ≤ maxLen) (hr : Reads w w.heap.size 1 A n (ss.map Value.string)) (hs : ∀ t ∈ ss, t.size ≤ 1000000) (r : Er.E) (a b : Int) (h : Er.parse ss = (r, a, b)) :
    Calls Tryd.prog 9 #[.slice A n c] w fun e w' => e = .returned (.tuple #[r.v, .int .i64 a, .int .i64 b]) ∧ Below w.heap.size w w' := calls_val (erParse_any A n c ss w hW hWa hn hc hr hs) (by rw [h])
theorem itoa_2007 : Lib.itoa 2007 = [50, 48, 48, 55] := by
  unfold Lib.itoa
  rw [if_neg (by decide)]
  rw [Lib.decDigits, dif_neg (by decide), Lib.decDigits, dif_neg (by decide), Lib.decDigits, dif_neg (by decide), Lib.decDigits, dif_pos (by decide)]
  rfl
theorem reads_drew {w : World} {B size n : Nat} {A : Option Addr} {xs : List Value} (h : Reads w B size A n xs) : Reads w.drew B size A n xs := h
theorem h1_strs (l : List ByteArray) : ∀ u ∈ l.map Value.string, u.oneCell' = true := by
  intro u hu
  rw [List.mem_map] at hu
  obtain ⟨t, _, rfl⟩ := hu
  rfl
def Er.us : Er.E := ⟨-18000, 2, 0, ⟨#[85, 83]⟩, ⟨#[69, 37, 115, 84]⟩, true, ⟨2007, 3, 2, 8, 0, 7200, 1⟩⟩
def Er.usL : List ByteArray := [⟨#[45, 53, 58, 48, 48]⟩, ⟨#[85, 83]⟩, ⟨#[69, 37, 115, 84]⟩, ⟨#[50, 48, 48, 55]⟩, ⟨#[77, 97, 114]⟩, ⟨#[83, 117, 110, 62, 61, 56]⟩, ⟨#[50, 58, 48, 48, 115]⟩]
def Er.usL8 : List ByteArray := [⟨#[45, 53, 58, 48, 48]⟩, ⟨#[85, 83]⟩, ⟨#[69, 37, 115, 84]⟩, ⟨#[50, 48, 48, 55]⟩, ⟨#[77, 97, 114]⟩, ⟨#[83, 117, 110, 62, 61, 56]⟩, ⟨#[50, 58, 48, 48, 115]⟩, ⟨#[120]⟩]
theorem us_ok : Er.us.Ok := ⟨by decide +kernel, by decide +kernel, .inr (.inr ⟨rfl, rfl, by decide +kernel⟩), fun _ => ⟨⟨by decide +kernel, by decide +kernel, by decide +kernel, by decide +kernel⟩, by decide +kernel, by decide +kernel⟩, fun h => by cases h⟩
theorem us_texts : Er.us.texts = Er.usL := by
  have e1 : (⟨(Ck.text (-18000)).toArray⟩ : ByteArray) = ⟨#[45, 53, 58, 48, 48]⟩ := by rw [text_eq]; decide +kernel
  have e2 : (⟨(Mo.text 7200 1).toArray⟩ : ByteArray) = ⟨#[50, 58, 48, 48, 115]⟩ := by unfold Mo.text; rw [text_eq]; decide +kernel
  have e3 : ¬ (⟨(Mo.text 7200 1).toArray⟩ : ByteArray) = Mo.u3 := by rw [e2]; decide +kernel
  have hc : Er.us.u.count = 4 := by
    unfold Mo.U.count Er.us
    simp only
    rw [if_neg e3]
  unfold Er.E.texts Er.E.front Er.E.mid Mo.U.texts
  rw [hc]
  unfold Mo.U.full Er.us
  simp only [itoa_2007, e1, e2]
  decide +kernel

end Go.Proofs.YtlhoggalhjadgaaDoor
/- Words for the laws of there and back: few and short texts; texts that are there or not. -/
namespace Go.Proofs.YtlhoggalhjadgaaDoor
open Go.RowKit

/-- Whether texts are few, and short. -/
def smallB (lim : Nat) (ss : List ByteArray) : Bool := decide (ss.length ≤ lim) && ss.all fun t => decide (t.size ≤ 1000)
theorem small_of {lim : Nat} {ss : List ByteArray} (h : smallB lim ss = true) : ss.length ≤ lim ∧ ∀ t ∈ ss, t.size ≤ 1000 := by
  unfold smallB at h
  simp only [Bool.and_eq_true, decide_eq_true_eq, List.all_eq_true] at h
  exact h
/-- A moment's text, or none. -/
theorem momText_both (s c : Int) (h0 : 0 ≤ c) : ∃ (X : ByteArray) (e : Int), (∀ W, Wc W → Calls Tryd.prog 16 #[.agg #[.int .i64 s, .int .u8 c]] W fun r w' => r = .returned (.tuple #[.string X, .int .i64 e]) ∧ Below W.heap.size W w') ∧
    ((Mo.Ok s c ∧ e = 0 ∧ Mo.parse X = ((s, c), 0) ∧ X.size ≤ 1000000) ∨ e = 2) := by
  by_cases h : Mo.Ok s c
  · refine ⟨_, _, fun W hw => momText_ok s c W hw h h0, .inl ⟨h, rfl, Mo.parse_text s c h h0, ?_⟩⟩
    have := Ck.text_size s
    rw [size_mk] at this ⊢
    unfold Mo.text Mo.tail
    split <;> (try split) <;> simp <;> omega
  · exact ⟨_, _, fun W _ => momText_bad s c W h, .inr rfl⟩
/-- An until's texts, or none. -/
def UTexts (u : Mo.U) (w : World) (r : Ending) (w' : World) : Prop :=
  ∃ (A : Option Addr) (n c : Nat) (e : Int), r = .returned (.tuple #[.slice A n c, .int .i64 e]) ∧ Below w.heap.size w w' ∧ n ≤ c ∧ c ≤ maxLen ∧ ((u.Ok ∧ e = 0 ∧ n = u.texts.length ∧ Reads w' w'.heap.size 1 A n (u.texts.map Value.string)) ∨ (¬ u.Ok ∧ e = 2))
theorem textUntil_both (u : Mo.U) (w : World) (hW : Wc w) (hc : 0 ≤ u.c) : Calls Tryd.prog 22 #[u.v] w (UTexts u w) := by
  by_cases h : u.Ok
  · exact (textUntil_ok u w hW h hc).mono fun r w' ⟨A, c, hcap, he, hr, hb⟩ => ⟨A, _, c, 0, he, hb, hcap.1, hcap.2, .inl ⟨h, rfl, rfl, hr⟩⟩
  · exact (textUntil_bad u w h).mono fun r w' ⟨he, hb⟩ => ⟨none, 0, 0, 2, he, hb, Nat.le_refl _, by decide, .inr ⟨h, rfl⟩⟩
theorem reads_less {w : World} {B n : Nat} {A : Option Addr} {l : List ByteArray} (h : Reads w B 1 A n (l.map Value.string)) (k : Nat) (hk : k ≤ n) : Reads w B 1 A k ((l.take k).map Value.string) := by
  have hl : l.length = n := by have := h.1; simpa using this
  refine ⟨by simp; omega, fun h0 => ?_⟩
  obtain ⟨ad, e, hb, hc⟩ := h.2 (by omega)
  refine ⟨ad, e, hb, fun j v hj => hc j v ?_⟩
  rw [List.map_take, List.getElem?_take] at hj
  split at hj
  · exact hj
  · simp at hj
theorem dayText_len (k n d : Int) : (Dy.text k n d).length ≤ 10 := by
  have h3 : (tl (textOf Days d)).length ≤ 3 := by rw [tl_length]; exact textDays_size d
  have h2 : (Dy.dec n).length ≤ 2 := dec_size n
  have e1 : Dy.lastL.length = 4 := rfl
  have e2 : Dy.fromL.length = 2 := rfl
  have e3 : Dy.uptoL.length = 2 := rfl
  unfold Dy.text
  split
  · rw [List.length_append]; omega
  · split
    · rw [List.length_append, List.length_append]; omega
    · split
      · rw [List.length_append, List.length_append]; omega
      · omega
theorem monthText_len (m : Int) : (textOf Months m).size ≤ 3 := by
  unfold textOf
  split
  · simp only [ByteArray.size_extract]; omega
  · decide
theorem texts_small (u : Mo.U) (h : u.Ok) : ∀ t ∈ u.texts, t.size ≤ 1000000 := by
  intro t ht
  have ht' : t ∈ u.full := List.mem_of_mem_take ht
  unfold Mo.U.full at ht'
  simp only [List.mem_cons, List.not_mem_nil, or_false] at ht'
  rcases ht' with rfl | rfl | rfl | rfl
  · rw [size_mk]
    have := Dy.dec_len u.y.toNat (by have := h.1.1; have := h.1.2.1; omega)
    unfold Lib.itoa
    rw [if_neg (by have := h.1.1; omega)]
    omega
  · have := monthText_len (u.m - 1); omega
  · have := dayText_len u.k u.n u.d; rw [size_mk]; omega
  · have := Ck.text_size u.s
    rw [size_mk] at this ⊢
    unfold Mo.text Mo.tail
    split <;> (try split) <;> simp <;> omega
end Go.Proofs.YtlhoggalhjadgaaDoor
/- The walk of the law EraBack. -/
namespace Go.Proofs.YtlhoggalhjadgaaDoor
open Go.RowKit

/-- An era's texts, or none. -/
def ETexts (e : Er.E) (w : World) (r : Ending) (w' : World) : Prop :=
  ∃ (A : Option Addr) (n c : Nat) (y : Int), r = .returned (.tuple #[.slice A n c, .int .i64 y]) ∧ Below w.heap.size w w' ∧ n ≤ c ∧ c ≤ maxLen ∧ ((e.Ok ∧ y = 0 ∧ n = e.texts.length ∧ Reads w' w'.heap.size 1 A n (e.texts.map Value.string)) ∨ (¬ e.Ok ∧ y = 2))
theorem er_small (e : Er.E) (h : e.Ok) : e.fm.size ≤ 32 ∧ e.ru.size ≤ 64 := by
  obtain ⟨_, h2, h3, _⟩ := h
  refine ⟨(Ab.fmt_size e.fm h2).2, ?_⟩
  rcases h3 with ⟨_, _, a⟩ | ⟨_, _, a⟩ | ⟨_, _, a⟩
  · rw [a]; decide
  · rw [a]; decide
  · unfold Ru.name at a
    simp only [Bool.and_eq_true, decide_eq_true_eq] at a
    have := a.1.2
    rw [tl_length] at this
    exact this
theorem erText_both (e : Er.E) (w : World) (hW : Wc w) (hWa : Wa w) (hc : 0 ≤ e.u.c) (hs1 : e.fm.size ≤ maxLen) (hs2 : e.ru.size ≤ maxLen) : Calls Tryd.prog 8 #[e.v] w (ETexts e w) := by
  by_cases h : e.Ok
  · have hz := er_small e h
    exact (erText_ok e w hW hWa h hc (by omega) (by omega)).mono fun r w' ⟨A, c, hcap, he, hr, hb⟩ => ⟨A, _, c, 0, he, hb, hcap.1, hcap.2, .inl ⟨h, rfl, rfl, hr⟩⟩
  · exact (erText_bad e w hWa h hs1 hs2).mono fun r w' ⟨he, hb⟩ => ⟨none, 0, 0, 2, he, hb, Nat.le_refl _, by decide, .inr ⟨h, rfl⟩⟩
theorem er_texts_small (e : Er.E) (h : e.Ok) : ∀ t ∈ e.texts, t.size ≤ 1000000 := by
  have hs := er_small e h
  have hf : ∀ t ∈ e.front, t.size ≤ 1000000 := by
    intro t ht
    unfold Er.E.front at ht
    simp only [List.mem_cons, List.not_mem_nil, or_false] at ht
    rcases ht with rfl | rfl | rfl
    · have := Ck.text_size e.std; omega
    · unfold Er.E.mid
      split
      · have := Ck.text_size e.sv; omega
      · split
        · omega
        · decide
    · omega
  intro t ht
  unfold Er.E.texts at ht
  split at ht
  · rename_i he
    rcases List.mem_append.1 ht with h1 | h1
    · exact hf t h1
    · exact texts_small e.u (h.2.2.2.1 he) t h1
  · exact hf t ht
def EB (w : World) (cs : List Value) (wx : World) : Prop := Hid (At wx w.heap.size cs) ∧ Hid (Below w.heap.size w wx)

end Go.Proofs.YtlhoggalhjadgaaDoor
/- The walk of the law TopShorter. -/
namespace Go.Proofs.YtlhoggalhjadgaaDoor
open Go.RowKit

def Er.five : Er.E := ⟨3600, 0, 0, ⟨#[]⟩, ⟨#[120]⟩, false, ⟨0, 0, 0, 0, 0, 0, 0⟩⟩
theorem five_ok : Er.five.Ok := by
  refine ⟨by decide +kernel, by decide +kernel, .inl ⟨rfl, rfl, rfl⟩, ?_, ?_⟩
  · intro h
    exact absurd h (by decide)
  · intro _
    rfl
theorem five_texts : Er.five.texts = [⟨#[49, 58, 48, 48]⟩, ⟨#[45]⟩, ⟨#[120]⟩] := by
  have e1 : (⟨(Ck.text 3600).toArray⟩ : ByteArray) = ⟨#[49, 58, 48, 48]⟩ := by rw [text_eq]; decide +kernel
  unfold Er.E.texts Er.E.front Er.E.mid Er.five
  simp only [e1]
  decide +kernel
set_option maxHeartbeats 2000000 in
theorem begins5_any (w : World) (hWe : We w) : Calls Tryd.prog 4 #[] w fun e w' => e = .returned (.bool true) ∧ Below w.heap.size w w' := by
  have hT := erText_ok Er.five w hWe.c hWe.a five_ok (by decide) (by decide) (by decide)
  rw [five_texts] at hT
  have HT := Lib.hid hT
  have HN := Lib.hid fun W => calls_bool (name_any ⟨#[97]⟩ W (by decide)) (show _ = true by decide +kernel)
  clear hT hWe
  go_enter Tryd.func4, Tryd.ntmps4
  go_wp2_with fail
  refine HT.out.mono ?_
  rintro e w1 ⟨AL, cL, hcap, rfl, hrL, hb⟩
  have HRL := Lib.hid hrL
  have HB := Lib.hid hb
  clear hrL hb hcap
  go_wp2_with fail
  refine (texts_yes _ _ 3 3 cL 3 [⟨#[49, 58, 48, 48]⟩, ⟨#[45]⟩, ⟨#[120]⟩] [⟨#[49, 58, 48, 48]⟩, ⟨#[45]⟩, ⟨#[120]⟩] _ (by decide) (by decide) ((HRL.out.alloc (Nat.le_refl _) _).more (by simp)) (reads_at w1 w1.heap.size [⟨#[49, 58, 48, 48]⟩, ⟨#[45]⟩, ⟨#[120]⟩] 9 rfl) rfl).mono ?_
  rintro e w2 ⟨rfl, hb⟩
  replace HB := Lib.hid (below_then (HB.out.alloc HB.out.size _) hb)
  clear hb
  go_wp2_with fail
  refine (HN.out _).mono ?_
  rintro e w3 ⟨rfl, hb⟩
  replace HB := Lib.hid (below_then HB.out hb)
  clear hb
  go_wp2
  go_ret
  exact ⟨rfl, HB.out⟩
end Go.Proofs.YtlhoggalhjadgaaDoor
/- The walk of the law RuleBack. -/
namespace Go.Proofs.YtlhoggalhjadgaaDoor
open Go.RowKit

/-- A rule's texts, or none. -/
def RTexts (r : Ru.R) (w : World) (e : Ending) (w' : World) : Prop :=
  ∃ (A : Option Addr) (n c : Nat) (y : Int), e = .returned (.tuple #[.slice A n c, .int .i64 y]) ∧ Below w.heap.size w w' ∧ n ≤ c ∧ c ≤ maxLen ∧ ((r.Ok ∧ y = 0 ∧ n = 9 ∧ Reads w' w'.heap.size 1 A n (r.texts.map Value.string)) ∨ (¬ r.Ok ∧ y = 2))
theorem ruText_both (r : Ru.R) (w : World) (hW : Wc w) (hc : 0 ≤ r.c) (hs1 : r.nm.size ≤ 1000000) (hs2 : r.lt.size ≤ 1000000) : Calls Tryd.prog 5 #[r.v] w (RTexts r w) := by
  by_cases h : r.Ok
  · exact (ruText_ok r w hW h hc hs1 hs2).mono fun e w' ⟨A, c, hcap, he, hr, hb⟩ => ⟨A, _, c, 0, he, hb, hcap.1, hcap.2, .inl ⟨h, rfl, rfl, hr⟩⟩
  · exact (ruText_bad r w h hs1 hs2).mono fun e w' ⟨he, hb⟩ => ⟨none, 0, 0, 2, he, hb, Nat.le_refl _, by decide, .inr ⟨h, rfl⟩⟩
theorem itoa_year_size (y : Int) (h1 : 1 ≤ y) (h2 : y ≤ 9999) : (⟨(Lib.itoa y).toArray⟩ : ByteArray).size ≤ 4 := by
  rw [size_mk]
  have := Dy.dec_len y.toNat (by omega)
  unfold Lib.itoa
  rw [if_neg (by omega)]
  omega
theorem momText_size (s c : Int) : (⟨(Mo.text s c).toArray⟩ : ByteArray).size ≤ 1001 := by
  have := Ck.text_size s
  rw [size_mk] at this ⊢
  unfold Mo.text Mo.tail
  split <;> (try split) <;> simp <;> omega
theorem ru_texts_small (r : Ru.R) (h : r.Ok) (h1 : r.nm.size ≤ 1000000) (h2 : r.lt.size ≤ 1000000) : ∀ t ∈ r.texts, t.size ≤ 1000000 := by
  obtain ⟨_, ⟨y1, y2, y3⟩, _⟩ := h
  intro t ht
  unfold Ru.R.texts at ht
  simp only [List.mem_cons, List.not_mem_nil, or_false] at ht
  rcases ht with rfl | rfl | rfl | rfl | rfl | rfl | rfl | rfl | rfl
  · exact h1
  · have := itoa_year_size r.fr y1 (by omega); omega
  · unfold Ru.R.last
    split
    · decide
    · split
      · decide
      · have := itoa_year_size r.tt (by omega) y3; omega
  · decide
  · have := monthText_len (r.mo - 1); omega
  · have := dayText_len r.k r.n r.d; rw [size_mk]; omega
  · have := momText_size r.s r.c; omega
  · have := Ck.text_size r.sv; omega
  · unfold Ru.R.lett
    split
    · decide
    · exact h2
theorem ru_small (r : Ru.R) (h : r.Ok) : r.nm.size ≤ 64 ∧ r.lt.size ≤ 32 := by
  obtain ⟨h1, _, _, _, _, _, h7⟩ := h
  unfold Ru.name at h1
  unfold Ab.letter at h7
  simp only [Bool.and_eq_true, decide_eq_true_eq] at h1 h7
  exact ⟨by have := h1.1.2; rw [tl_length] at this; exact this, h7.1.1⟩
def RB (w : World) (cs : List Value) (wx : World) : Prop := Hid (At wx w.heap.size cs) ∧ Hid (Below w.heap.size w wx)

end Go.Proofs.YtlhoggalhjadgaaDoor
/- A scope in which the run jumps back to several labels: what holds at every jump to each, and a measure that every pass lowers. -/
namespace Go.Proofs.YtlhoggalhjadgaaDoor
open Go Go.RowKit

/-- As Q; by a goto to label l: J l. -/
def Exit.jumps (J : Nat → Act → World → Prop) (Q : Exit → Act → World → Prop) : Exit → Act → World → Prop
  | .goto l, a, w => J l a w
  | e, a, w => Q e a w
theorem wp_scope_labels {P : Program} {a : Act} {w : World} {Q : Exit → Act → World → Prop} {c : Code} (J : Nat → Act → World → Prop) (μ : Nat → Act → World → Nat)
    (first : c.wp P (Exit.jumps J Q) a w)
    (pass : ∀ l a w, J l a w → ∃ rest, findLabel c l = some rest ∧ rest.wp P (Exit.jumps (fun l' a' w' => J l' a' w' ∧ μ l' a' w' < μ l a w) Q) a w) : (Code.scope c).wp P Q a w := by
  intro b k cs
  have key : ∀ n l a w, μ l a w = n → J l a w → ∃ rest, findLabel c l = some rest ∧ ∃ e a' w', Q e a' w' ∧ Arrives P (lone (b.at a (.code rest :: .inScope c :: k)) cs w) b k cs e a' w' := by
    intro n
    induction n using Nat.strongRecOn with
    | _ n ih =>
      intro l a w hn hJ
      obtain ⟨rest, hf, hp⟩ := pass l a w hJ
      refine ⟨rest, hf, ?_⟩
      obtain ⟨e, a₁, w₁, hq, harr⟩ := hp b (.inScope c :: k) cs
      cases e with
      | normal => exact ⟨.normal, a₁, w₁, hq, Steps.trans harr (.one step_inScope)⟩
      | exit id => exact ⟨.exit id, a₁, w₁, hq, fun k' hk => harr k' (by simp [exitTo, hk])⟩
      | goto l' =>
        obtain ⟨hJ', hlt⟩ := hq
        obtain ⟨rest2, hf2, e₂, a₂, w₂, hq₂, harr₂⟩ := ih _ (by omega) l' a₁ w₁ rfl hJ'
        have hg : gotoIn l' (.inScope c :: k) = some (.code rest2 :: .inScope c :: k) := by simp [gotoIn, hf2]
        exact ⟨e₂, a₂, w₂, hq₂, .of_steps (harr _ hg) harr₂⟩
      | ret => exact ⟨_, a₁, w₁, hq, harr⟩
      | panic ch => exact ⟨_, a₁, w₁, hq, harr⟩
      | outgrown => exact ⟨_, a₁, w₁, hq, harr⟩
  obtain ⟨e, a₁, w₁, hq, harr⟩ := first b (.inScope c :: k) cs
  cases e with
  | normal => exact ⟨.normal, a₁, w₁, hq, .head step_scope (Steps.trans harr (.one step_inScope))⟩
  | exit id => exact ⟨.exit id, a₁, w₁, hq, fun k' hk => .head step_scope (harr k' (by simp [exitTo, hk]))⟩
  | goto l' =>
    obtain ⟨rest2, hf2, e₂, a₂, w₂, hq₂, harr₂⟩ := key _ l' a₁ w₁ rfl hq
    have hg : gotoIn l' (.inScope c :: k) = some (.code rest2 :: .inScope c :: k) := by simp [gotoIn, hf2]
    exact ⟨e₂, a₂, w₂, hq₂, .of_steps (.head step_scope (harr _ hg)) harr₂⟩
  | ret => exact ⟨_, a₁, w₁, hq, .of_steps (.one step_scope) harr⟩
  | panic ch => exact ⟨_, a₁, w₁, hq, .of_steps (.one step_scope) harr⟩
  | outgrown => exact ⟨_, a₁, w₁, hq, .of_steps (.one step_scope) harr⟩
/-- The same; where the scope's own beginning comes to a label, what holds there serves. -/
theorem wp_scope_labels2 {P : Program} {a : Act} {w : World} {Q : Exit → Act → World → Prop} {c : Code} (J : Nat → Act → World → Prop) (μ : Nat → Act → World → Nat)
    (pass : ∀ l a w, J l a w → ∃ rest, findLabel c l = some rest ∧ rest.wp P (Exit.jumps (fun l' a' w' => J l' a' w' ∧ μ l' a' w' < μ l a w) Q) a w)
    (first : (∀ l rest a w, findLabel c l = some rest → J l a w → rest.wp P (Exit.jumps J Q) a w) → c.wp P (Exit.jumps J Q) a w) : (Code.scope c).wp P Q a w := by
  refine wp_scope_labels J μ (first fun l rest a w hf hJ => ?_) pass
  obtain ⟨rest', hf', hp⟩ := pass l a w hJ
  obtain rfl : rest' = rest := Option.some.inj (hf'.symm.trans hf)
  refine wp_mono hp fun e a' w' h => ?_
  cases e with
  | goto l' => exact h.1
  | normal => exact h
  | exit id => exact h
  | ret => exact h
  | panic ch => exact h
  | outgrown => exact h
/-- The same, at labels that stand as statements of the scope's own sequence. -/
theorem wp_scope_labels3 {P : Program} {a : Act} {w : World} {Q : Exit → Act → World → Prop} {c : Code} (J : Nat → Act → World → Prop) (μ : Nat → Act → World → Nat)
    (pass : ∀ l a w, J l a w → ∃ rest, findLabel c l = some (.seq .skip rest) ∧ rest.wp P (Exit.jumps (fun l' a' w' => J l' a' w' ∧ μ l' a' w' < μ l a w) Q) a w)
    (first : (∀ l rest a w, findLabel c l = some (.seq .skip rest) → J l a w → rest.wp P (Exit.jumps J Q) a w) → c.wp P (Exit.jumps J Q) a w) : (Code.scope c).wp P Q a w := by
  refine wp_scope_labels J μ (first fun l rest a w hf hJ => ?_) fun l a w hJ => ?_
  · obtain ⟨rest', hf', hp⟩ := pass l a w hJ
    have e := Option.some.inj (hf'.symm.trans hf)
    injection e with _ e
    subst e
    refine wp_mono hp fun e a' w' h => ?_
    cases e with
    | goto l' => exact h.1
    | normal => exact h
    | exit id => exact h
    | ret => exact h
    | panic ch => exact h
    | outgrown => exact h
  · obtain ⟨rest, hf, hp⟩ := pass l a w hJ
    exact ⟨_, hf, wp_seq (wp_skip hp)⟩
end Go.Proofs.YtlhoggalhjadgaaDoor
/- The contract of scan.kind; the fields of a line in plain words. -/
namespace Go.Proofs.YtlhoggalhjadgaaDoor
open Go.RowKit

namespace Sc
/-- The kind of a byte: 1 parts, 2 is bad, 3 begins a comment, 4 quotes. -/
def kind (c : Int) : Int := if c = 32 ∨ c = 9 ∨ c = 13 then 1 else if c < 32 ∨ c = 127 then 2 else if c = 35 then 3 else if c = 34 then 4 else 0
theorem cases_ (c : Int) (h0 : 0 ≤ c) (h1 : c ≤ 255) : (0 ≤ c ∧ c ≤ 8) ∨ (c = 9) ∨ (10 ≤ c ∧ c ≤ 12) ∨ (c = 13) ∨ (14 ≤ c ∧ c ≤ 31) ∨ (c = 32) ∨ (c = 33) ∨ (c = 34) ∨ (c = 35) ∨ (36 ≤ c ∧ c ≤ 126) ∨ (c = 127) ∨ (128 ≤ c ∧ c ≤ 255) := by omega
/-- Where the scanner is: between fields; within one (where it began, what it has); within quotes (where they began). -/
inductive Mode where
  | b
  | f (begin : Int) (text : List UInt8)
  | q (quote begin : Int) (text : List UInt8)
/-- The fields, each with its column; or the column, and why. -/
inductive Res where
  | ok (l : List (List UInt8 × Int))
  | bad (col why : Int)
def scan : List UInt8 → Int → Mode → List (List UInt8 × Int) → Res
  | [], _, .b, acc => .ok acc
  | [], _, .f b t, acc => .ok (acc ++ [(t, b)])
  | [], _, .q q _ _, _ => .bad q 5
  | c :: l, at_, .b, acc =>
    if kind c.toNat = 1 then scan l (at_ + 1) .b acc else if kind c.toNat = 3 then .ok acc else if kind c.toNat = 2 then .bad (at_ + 1) 4
    else if acc.length = 24 then .bad (at_ + 1) 6 else if kind c.toNat = 4 then scan l (at_ + 1) (.q (at_ + 1) (at_ + 1) []) acc else scan l (at_ + 1) (.f (at_ + 1) [c]) acc
  | c :: l, at_, .f b t, acc =>
    if kind c.toNat = 1 then scan l (at_ + 1) .b (acc ++ [(t, b)]) else if kind c.toNat = 3 then .ok (acc ++ [(t, b)]) else if kind c.toNat = 2 then .bad (at_ + 1) 4
    else if kind c.toNat = 4 then scan l (at_ + 1) (.q (at_ + 1) b t) acc else scan l (at_ + 1) (.f b (t ++ [c])) acc
  | c :: l, at_, .q q b t, acc =>
    if kind c.toNat = 2 then .bad (at_ + 1) 4 else if kind c.toNat = 4 then scan l (at_ + 1) (.f b t) acc else scan l (at_ + 1) (.q q b (t ++ [c])) acc
/-- The fields of a line. -/
def fields (s : List UInt8) : Res := if 2048 < s.length then .bad 2049 6 else scan s 0 .b []
theorem kind_bd (c : Int) : kind c = 0 ∨ kind c = 1 ∨ kind c = 2 ∨ kind c = 3 ∨ kind c = 4 := by
  unfold kind
  split
  · simp
  · split
    · simp
    · split
      · simp
      · split <;> simp
section
variable {c : UInt8} {l : List UInt8} {a b q : Int} {t : List UInt8} {acc : List (List UInt8 × Int)}
theorem b_1 (h : kind c.toNat = 1) : scan (c :: l) a .b acc = scan l (a + 1) .b acc := by rw [scan, if_pos h]
theorem b_3 (h : kind c.toNat = 3) : scan (c :: l) a .b acc = .ok acc := by rw [scan, if_neg (by omega), if_pos h]
theorem b_2 (h : kind c.toNat = 2) : scan (c :: l) a .b acc = .bad (a + 1) 4 := by rw [scan, if_neg (by omega), if_neg (by omega), if_pos h]
theorem b_long (h : kind c.toNat = 0 ∨ kind c.toNat = 4) (hl : acc.length = 24) : scan (c :: l) a .b acc = .bad (a + 1) 6 := by rw [scan, if_neg (by omega), if_neg (by omega), if_neg (by omega), if_pos hl]
theorem f_b (h : kind c.toNat = 1 ∨ kind c.toNat = 3) : scan (c :: l) a (.f b t) acc = scan (c :: l) a .b (acc ++ [(t, b)]) := by
  rcases h with h | h
  · rw [b_1 h, scan, if_pos h]
  · rw [b_3 h, scan, if_neg (by omega), if_pos h]
theorem f_end : scan [] a (.f b t) acc = scan [] a .b (acc ++ [(t, b)]) := rfl
theorem f_2 (h : kind c.toNat = 2) : scan (c :: l) a (.f b t) acc = .bad (a + 1) 4 := by rw [scan, if_neg (by omega), if_neg (by omega), if_pos h]
theorem f_4 (h : kind c.toNat = 4) : scan (c :: l) a (.f b t) acc = scan l (a + 1) (.q (a + 1) b t) acc := by rw [scan, if_neg (by omega), if_neg (by omega), if_neg (by omega), if_pos h]
theorem f_0 (h : kind c.toNat = 0) : scan (c :: l) a (.f b t) acc = scan l (a + 1) (.f b (t ++ [c])) acc := by rw [scan, if_neg (by omega), if_neg (by omega), if_neg (by omega), if_neg (by omega)]
theorem b_f (h : kind c.toNat = 0 ∨ kind c.toNat = 4) (hl : acc.length ≠ 24) : scan (c :: l) a .b acc = scan (c :: l) a (.f (a + 1) []) acc := by
  rcases h with h | h
  · rw [f_0 h, scan, if_neg (by omega), if_neg (by omega), if_neg (by omega), if_neg hl, if_neg (by omega)]
    rfl
  · rw [f_4 h, scan, if_neg (by omega), if_neg (by omega), if_neg (by omega), if_neg hl, if_pos h]
theorem q_2 (h : kind c.toNat = 2) : scan (c :: l) a (.q q b t) acc = .bad (a + 1) 4 := by rw [scan, if_pos h]
theorem q_4 (h : kind c.toNat = 4) : scan (c :: l) a (.q q b t) acc = scan l (a + 1) (.f b t) acc := by rw [scan, if_neg (by omega), if_pos h]
theorem q_0 (h : kind c.toNat ≠ 2) (h4 : kind c.toNat ≠ 4) : scan (c :: l) a (.q q b t) acc = scan l (a + 1) (.q q b (t ++ [c])) acc := by rw [scan, if_neg h, if_neg h4]
end
end Sc
theorem kind_is (c : UInt8) (w : World) (k : Int) (h : Sc.kind c.toNat = k) : Calls Tryd.prog 39 #[.int .u8 c.toNat] w fun e w' => e = .returned (.int .i64 k) ∧ w = w' := by
  subst h
  obtain ⟨b1, b2⟩ := u8_bd c
  obtain ⟨x, hx⟩ : ∃ x : Int, (c.toNat : Int) = x := ⟨_, rfl⟩
  rw [hx] at b1 b2 ⊢
  clear hx
  rcases Sc.cases_ x b1 b2 with h | h | h | h | h | h | h | h | h | h | h | h
  · have hk : Sc.kind x = 2 := by unfold Sc.kind; rw [if_neg (by omega), if_pos (by omega)]
    rw [hk]
    have e32 : (x == 32) = false := by rw [beq_eq_false_iff_ne]; omega
    have e9 : (x == 9) = false := by rw [beq_eq_false_iff_ne]; omega
    have e13 : (x == 13) = false := by rw [beq_eq_false_iff_ne]; omega
    have e127 : (x == 127) = false := by rw [beq_eq_false_iff_ne]; omega
    have e35 : (x == 35) = false := by rw [beq_eq_false_iff_ne]; omega
    have e34 : (x == 34) = false := by rw [beq_eq_false_iff_ne]; omega
    have l32 : x < 32 := by omega
    clear hk b1 b2 h
    go_enter Tryd.func39, Tryd.ntmps39
    go_wp2
    go_ret
    exact ⟨rfl, rfl⟩
  · have hk : Sc.kind x = 1 := by unfold Sc.kind; rw [if_pos (by omega)]
    rw [hk]
    subst h
    clear hk b1 b2
    go_enter Tryd.func39, Tryd.ntmps39
    go_wp2
    go_ret
    exact ⟨rfl, rfl⟩
  · have hk : Sc.kind x = 2 := by unfold Sc.kind; rw [if_neg (by omega), if_pos (by omega)]
    rw [hk]
    have e32 : (x == 32) = false := by rw [beq_eq_false_iff_ne]; omega
    have e9 : (x == 9) = false := by rw [beq_eq_false_iff_ne]; omega
    have e13 : (x == 13) = false := by rw [beq_eq_false_iff_ne]; omega
    have e127 : (x == 127) = false := by rw [beq_eq_false_iff_ne]; omega
    have e35 : (x == 35) = false := by rw [beq_eq_false_iff_ne]; omega
    have e34 : (x == 34) = false := by rw [beq_eq_false_iff_ne]; omega
    have l32 : x < 32 := by omega
    clear hk b1 b2 h
    go_enter Tryd.func39, Tryd.ntmps39
    go_wp2
    go_ret
    exact ⟨rfl, rfl⟩
  · have hk : Sc.kind x = 1 := by unfold Sc.kind; rw [if_pos (by omega)]
    rw [hk]
    subst h
    clear hk b1 b2
    go_enter Tryd.func39, Tryd.ntmps39
    go_wp2
    go_ret
    exact ⟨rfl, rfl⟩
  · have hk : Sc.kind x = 2 := by unfold Sc.kind; rw [if_neg (by omega), if_pos (by omega)]
    rw [hk]
    have e32 : (x == 32) = false := by rw [beq_eq_false_iff_ne]; omega
    have e9 : (x == 9) = false := by rw [beq_eq_false_iff_ne]; omega
    have e13 : (x == 13) = false := by rw [beq_eq_false_iff_ne]; omega
    have e127 : (x == 127) = false := by rw [beq_eq_false_iff_ne]; omega
    have e35 : (x == 35) = false := by rw [beq_eq_false_iff_ne]; omega
    have e34 : (x == 34) = false := by rw [beq_eq_false_iff_ne]; omega
    have l32 : x < 32 := by omega
    clear hk b1 b2 h
    go_enter Tryd.func39, Tryd.ntmps39
    go_wp2
    go_ret
    exact ⟨rfl, rfl⟩
  · have hk : Sc.kind x = 1 := by unfold Sc.kind; rw [if_pos (by omega)]
    rw [hk]
    subst h
    clear hk b1 b2
    go_enter Tryd.func39, Tryd.ntmps39
    go_wp2
    go_ret
    exact ⟨rfl, rfl⟩
  · have hk : Sc.kind x = 0 := by unfold Sc.kind; rw [if_neg (by omega), if_neg (by omega), if_neg (by omega), if_neg (by omega)]
    rw [hk]
    subst h
    clear hk b1 b2
    go_enter Tryd.func39, Tryd.ntmps39
    go_wp2
    go_ret
    exact ⟨rfl, rfl⟩
  · have hk : Sc.kind x = 4 := by unfold Sc.kind; rw [if_neg (by omega), if_neg (by omega), if_neg (by omega), if_pos (by omega)]
    rw [hk]
    subst h
    clear hk b1 b2
    go_enter Tryd.func39, Tryd.ntmps39
    go_wp2
    go_ret
    exact ⟨rfl, rfl⟩
  · have hk : Sc.kind x = 3 := by unfold Sc.kind; rw [if_neg (by omega), if_neg (by omega), if_pos (by omega)]
    rw [hk]
    subst h
    clear hk b1 b2
    go_enter Tryd.func39, Tryd.ntmps39
    go_wp2
    go_ret
    exact ⟨rfl, rfl⟩
  · have hk : Sc.kind x = 0 := by unfold Sc.kind; rw [if_neg (by omega), if_neg (by omega), if_neg (by omega), if_neg (by omega)]
    rw [hk]
    have e32 : (x == 32) = false := by rw [beq_eq_false_iff_ne]; omega
    have e9 : (x == 9) = false := by rw [beq_eq_false_iff_ne]; omega
    have e13 : (x == 13) = false := by rw [beq_eq_false_iff_ne]; omega
    have e127 : (x == 127) = false := by rw [beq_eq_false_iff_ne]; omega
    have e35 : (x == 35) = false := by rw [beq_eq_false_iff_ne]; omega
    have e34 : (x == 34) = false := by rw [beq_eq_false_iff_ne]; omega
    have l32 : ¬ x < 32 := by omega
    clear hk b1 b2 h
    go_enter Tryd.func39, Tryd.ntmps39
    go_wp2
    go_ret
    exact ⟨rfl, rfl⟩
  · have hk : Sc.kind x = 2 := by unfold Sc.kind; rw [if_neg (by omega), if_pos (by omega)]
    rw [hk]
    subst h
    clear hk b1 b2
    go_enter Tryd.func39, Tryd.ntmps39
    go_wp2
    go_ret
    exact ⟨rfl, rfl⟩
  · have hk : Sc.kind x = 0 := by unfold Sc.kind; rw [if_neg (by omega), if_neg (by omega), if_neg (by omega), if_neg (by omega)]
    rw [hk]
    have e32 : (x == 32) = false := by rw [beq_eq_false_iff_ne]; omega
    have e9 : (x == 9) = false := by rw [beq_eq_false_iff_ne]; omega
    have e13 : (x == 13) = false := by rw [beq_eq_false_iff_ne]; omega
    have e127 : (x == 127) = false := by rw [beq_eq_false_iff_ne]; omega
    have e35 : (x == 35) = false := by rw [beq_eq_false_iff_ne]; omega
    have e34 : (x == 34) = false := by rw [beq_eq_false_iff_ne]; omega
    have l32 : ¬ x < 32 := by omega
    clear hk b1 b2 h
    go_enter Tryd.func39, Tryd.ntmps39
    go_wp2
    go_ret
    exact ⟨rfl, rfl⟩
end Go.Proofs.YtlhoggalhjadgaaDoor
