/- A source's text in plain words: its lines, and what is read of lines that bear them. -/
import Derived.Test.YtlhoggalhjadgaaGreatDoorK32
import Derived.Test.YtlhoggalhjadgaaGreatDoorK31
import Derived.Test.YtlhoggalhjadgaaGreatDoorK16
import Derived.Test.YtlhoggalhjadgaaGreatDoorK30

namespace Go.Proofs.YtlhoggalhjadgaaGreatDoor
open Go.RowKit

namespace Pr
open Go.Proofs.YtlhoggalhjadgaaGreatDoor.Src
theorem scan_lead : ∀ (lead rest : Txt) (a : Int) (acc : List (Txt × Int)), (∀ c ∈ lead, Sc.kind c.toNat = 1) → Sc.scan (lead ++ rest) a .b acc = Sc.scan rest (a + lead.length) .b acc
  | [], rest, a, acc, _ => by simp
  | c :: l, rest, a, acc, h => by
    rw [List.cons_append, Sc.b_1 (h c List.mem_cons_self), scan_lead l rest (a + 1) acc fun x hx => h x (List.mem_cons_of_mem _ hx)]
    rw [List.length_cons, show a + 1 + (l.length : Int) = a + ((l.length + 1 : Nat) : Int) by omega]
/-- What may stand behind a line's texts. -/
def Tail (T : Txt) : Prop := T = [] ∨ ∃ R, T = 32 :: 35 :: R
theorem Tail.scan {T : Txt} (h : Tail T) (a b : Int) (t : Txt) (acc : List (Txt × Int)) : Sc.scan T a (.f b t) acc = .ok (acc ++ [(t, b)]) := by
  rcases h with rfl | ⟨R, rfl⟩
  · rfl
  · rw [Sc.f_b (.inl Sc.k32), Sc.b_1 Sc.k32, Sc.b_3 Sc.k35]
theorem scan_tail : ∀ (r : List Txt) (T : Txt) (a b : Int) (t : Txt) (acc : List (Txt × Int)), Tail T → (∀ w ∈ r, w ≠ [] ∧ ∀ c ∈ w, Sc.kind c.toNat = 0) → acc.length + 1 + r.length ≤ 24 →
    ∃ L, Sc.scan (Lib.joinTail [32] r ++ T) a (.f b t) acc = .ok (acc ++ L) ∧ L.map (·.1) = t :: r
  | [], T, a, b, t, acc, hT, _, _ => ⟨[(t, b)], (show Sc.scan T a (.f b t) acc = _ from hT.scan a b t acc), rfl⟩
  | y :: r, T, a, b, t, acc, hT, h, hl => by
    have hj : Lib.joinTail [32] (y :: r) ++ T = 32 :: (y ++ (Lib.joinTail [32] r ++ T)) := by simp [Lib.joinTail]
    rw [hj, Sc.f_b (.inl Sc.k32), Sc.b_1 Sc.k32, Sc.scan_begin y _ (a + 1) _ (h y List.mem_cons_self) (by rw [List.length_append, List.length_cons] at *; simp at *; omega)]
    obtain ⟨L, h1, h2⟩ := scan_tail r T (a + 1 + y.length) (a + 1 + 1) y (acc ++ [(t, b)]) hT (fun w hw => h w (List.mem_cons_of_mem _ hw)) (by rw [List.length_append]; simp at *; omega)
    exact ⟨(t, b) :: L, by rw [h1, List.append_assoc]; rfl, by rw [List.map_cons, h2]⟩
theorem plain_tl {s : ByteArray} (h : Sc.Plain s) : tl s ≠ [] ∧ ∀ c ∈ tl s, Sc.kind c.toNat = 0 := by
  refine ⟨fun e => h.1 ?_, h.2⟩
  have e2 : s.data = #[] := by unfold tl at e; simpa using e
  cases s
  simp only at e2
  rw [e2]
theorem line_tl (ws : List ByteArray) : tl (Sc.line ws) = Lib.join (ws.map tl) [32] := by
  unfold Sc.line
  rw [tl_mk]
  rfl
/-- A line that bears plain texts, with blanks ahead and a comment behind, is read as they are. -/
theorem fields_line (lead : Txt) (ws : List ByteArray) (T : Txt) (hlead : ∀ c ∈ lead, Sc.kind c.toNat = 1) (h0 : ws ≠ []) (hp : ∀ s ∈ ws, Sc.Plain s) (hn : ws.length ≤ 24) (hT : Tail T) (hl : lead.length + (Sc.line ws).size + T.length ≤ 2048) :
    ∃ L, Sc.fields (lead ++ tl (Sc.line ws) ++ T) = .ok L ∧ L.map (·.1) = ws.map tl := by
  have hlen : ¬ 2048 < (lead ++ tl (Sc.line ws) ++ T).length := by
    rw [List.length_append, List.length_append, tl_length]; omega
  unfold Sc.fields
  rw [if_neg hlen, line_tl, List.append_assoc, scan_lead lead _ 0 [] hlead]
  cases ws with
  | nil => exact absurd rfl h0
  | cons x r =>
    have hpw : ∀ w ∈ (x :: r).map tl, w ≠ [] ∧ ∀ c ∈ w, Sc.kind c.toNat = 0 := by
      intro w hw
      rw [List.mem_map] at hw
      obtain ⟨s, hs, rfl⟩ := hw
      exact plain_tl (hp s hs)
    rw [List.map_cons, Lib.join_cons, List.append_assoc, Sc.scan_begin (tl x) _ _ _ (hpw (tl x) (by simp)) (by simp)]
    obtain ⟨L, h1, h2⟩ := scan_tail (r.map tl) T (0 + (lead.length : Int) + (tl x).length) (0 + (lead.length : Int) + 1) (tl x) [] hT (fun w hw => hpw w (by rw [List.map_cons]; exact List.mem_cons_of_mem _ hw)) (by simp at *; omega)
    exact ⟨L, by rw [h1]; rfl, by rw [h2]⟩

/-! Lines, as their texts alone. -/
/-- What a line's texts are; none, if it has none. -/
def wordsOf (t : Txt) : List (List Txt) := match Sc.fields t with
  | .ok f => if f = [] then [] else [f.map (·.1)]
  | .bad _ _ => []
def Fine (t : Txt) : Prop := ∃ f, Sc.fields t = .ok f
theorem linesGo_fine : ∀ (A : List Txt) (no : Int) (acc : List Ln), (∀ t ∈ A, Fine t) →
    ∃ L, Sc.linesGo A no acc = .ok L ∧ L.map (fun l => l.2.map (·.1)) = acc.map (fun l => l.2.map (·.1)) ++ A.flatMap wordsOf
  | [], no, acc, _ => ⟨acc, rfl, by simp⟩
  | t :: A, no, acc, h => by
    obtain ⟨f, hf⟩ := h t List.mem_cons_self
    have hwo : wordsOf t = if f = [] then [] else [f.map (·.1)] := by unfold wordsOf; rw [hf]
    rw [Sc.linesGo, hf]
    simp only []
    obtain ⟨L, h1, h2⟩ := linesGo_fine A (no + 1) (if f = [] then acc else acc ++ [(no, f)]) fun x hx => h x (List.mem_cons_of_mem _ hx)
    refine ⟨L, h1, ?_⟩
    rw [h2, List.flatMap_cons, hwo]
    split
    · simp
    · simp
/-- Lines' texts read one after the other. -/
def readW : List (List Txt) → S → Option S
  | [], s => some s
  | t :: T, s => match Src.step own s t with
    | .bad _ _ => none
    | .ok s' => readW T s'
theorem readW_cons {t : List Txt} {T : List (List Txt)} {s s' : S} (h : Src.step own s t = .ok s') : readW (t :: T) s = readW T s' := by rw [readW, h]
theorem readW_app : ∀ (A B : List (List Txt)) (s s' : S), readW A s = some s' → readW (A ++ B) s = readW B s'
  | [], B, s, s', h => by rw [readW] at h; cases h; rfl
  | t :: A, B, s, s', h => by
    rw [readW] at h
    cases h1 : Src.step own s t with
    | bad p w => rw [h1] at h; cases h
    | ok s1 =>
      rw [h1] at h
      rw [List.cons_append, readW_cons h1]
      exact readW_app A B s1 s' h
theorem readGo_W : ∀ (L : List Ln) (s s' : S), readW (L.map fun l => l.2.map (·.1)) s = some s' → readGo own L s = .ok s'
  | [], s, s', h => by simp only [List.map_nil, readW, Option.some.injEq] at h; rw [h]; rfl
  | l :: L, s, s', h => by
    rw [List.map_cons, readW] at h
    rw [readGo_cons]
    cases h1 : Src.step own s (l.2.map (·.1)) with
    | bad p w => rw [h1] at h; cases h
    | ok s1 =>
      rw [h1] at h
      exact readGo_W L s1 s' h
theorem parse_words (t : Txt) (s : S) (hs : t.length ≤ 1048576) (hg : ∀ x ∈ Sc.splitNl t, Fine x) (hw : readW ((Sc.splitNl t).flatMap wordsOf) St.none_ = some s) (ho : s.op = false) : parse own t = .ok s := by
  obtain ⟨L, h1, h2⟩ := linesGo_fine (Sc.splitNl t) 1 [] hg
  rw [List.map_nil, List.nil_append] at h2
  have h3 := readGo_W L St.none_ s (by rw [h2]; exact hw)
  unfold parse
  rw [linesGo_of t hs, h1]
  simp only []
  unfold readAll
  rw [h3]
  simp only [finish]
  rw [if_neg (by rw [ho]; decide)]
theorem splitNl_one : ∀ (t : Txt), (10 : UInt8) ∉ t → Sc.splitNl t = [t]
  | [], _ => rfl
  | c :: t, h => by
    rw [Sc.splitNl, if_neg (fun e => h (by rw [e]; exact List.mem_cons_self)), splitNl_one t fun e => h (List.mem_cons_of_mem _ e)]
theorem splitNl_lines : ∀ (ls : List Txt) (rest : Txt), (∀ t ∈ ls, (10 : UInt8) ∉ t) → Sc.splitNl (ls.flatMap (fun t => t ++ [10]) ++ rest) = ls ++ Sc.splitNl rest
  | [], rest, _ => rfl
  | t :: ls, rest, h => by
    rw [List.flatMap_cons, List.append_assoc, List.append_assoc, show ([10] : Txt) ++ (ls.flatMap (fun t => t ++ [10]) ++ rest) = 10 :: (ls.flatMap (fun t => t ++ [10]) ++ rest) from rfl, splitNl_both, splitNl_one t (h t List.mem_cons_self), splitNl_lines ls rest fun x hx => h x (List.mem_cons_of_mem _ hx)]
    rfl

/-! A source's lines. -/
abbrev Line := Bool × List ByteArray
def RULE : ByteArray := ⟨#[82, 117, 108, 101]⟩
def ZONE : ByteArray := ⟨#[90, 111, 110, 101]⟩
def LINK : ByteArray := ⟨#[76, 105, 110, 107]⟩
def ofRule (r : Ru.R) : Line := (false, RULE :: r.texts)
def ofEra1 (n : Txt) (e : Er.E) : Line := (false, ZONE :: bts n :: e.texts)
def ofEra (e : Er.E) : Line := (true, e.texts)
def ofEras : List Er.E → List Line := List.map ofEra
def ofZone (z : Txt × List Er.E) : List Line := match z.2 with
  | [] => []
  | e :: es => ofEra1 z.1 e :: ofEras es
def ofLink (k : Txt × Txt) : Line := (false, [LINK, bts k.1, bts k.2])
def lns (s : S) : List Line := s.rules.map ofRule ++ (s.zones.flatMap ofZone ++ s.links.map ofLink)
/-- The bytes of a line. -/
def lt (l : Line) : Txt := (if l.1 then [9] else []) ++ tl (Sc.line l.2)
def ltn (l : Line) : Txt := lt l ++ [10]
/-- The text of a source. -/
def text (s : S) : Txt := (lns s).flatMap ltn
structure LineOk (l : Line) : Prop where
  ne : l.2 ≠ []
  fit : Sc.Fit l.2 64
  len : l.2.length ≤ 10
theorem LineOk.plain {l : Line} (h : LineOk l) : ∀ s ∈ l.2, Sc.Plain s := fun s hs => (h.fit s hs).1
theorem LineOk.size {l : Line} (h : LineOk l) : (Sc.line l.2).size ≤ 65 * l.2.length := by
  have h1 := Sc.line_size l.2
  have h2 := Sc.lens_fit l.2 64 h.fit
  omega
theorem LineOk.size' {l : Line} (h : LineOk l) : (Sc.line l.2).size ≤ 650 := by
  have h1 := h.size
  have h2 := h.len
  omega
theorem join_pl : ∀ (ws : List Txt), (∀ w ∈ ws, Sc.Pl w) → (10 : UInt8) ∉ Lib.joinTail [32] ws
  | [], _ => by simp [Lib.joinTail]
  | w :: ws, h => by
    have ih := join_pl ws fun x hx => h x (List.mem_cons_of_mem _ hx)
    intro e
    have e2 : (10 : UInt8) ∈ 32 :: (w ++ Lib.joinTail [32] ws) := by simpa [Lib.joinTail] using e
    rcases List.mem_cons.1 e2 with e3 | e3
    · exact absurd e3 (by decide)
    · rcases List.mem_append.1 e3 with e4 | e4
      · exact absurd (h w List.mem_cons_self 10 e4) (by decide)
      · exact ih e4
theorem line_nl (ws : List ByteArray) (hp : ∀ s ∈ ws, Sc.Plain s) : (10 : UInt8) ∉ tl (Sc.line ws) := by
  rw [line_tl]
  cases ws with
  | nil => simp [Lib.join_nil]
  | cons x r =>
    rw [List.map_cons, Lib.join_cons]
    intro e
    rcases List.mem_append.1 e with e | e
    · exact absurd ((hp x List.mem_cons_self).2 10 e) (by decide)
    · refine join_pl (r.map tl) (fun w hw => ?_) e
      rw [List.mem_map] at hw
      obtain ⟨s, hs, rfl⟩ := hw
      exact (hp s (List.mem_cons_of_mem _ hs)).2
theorem LineOk.nl {l : Line} (h : LineOk l) : (10 : UInt8) ∉ lt l := by
  have h1 := line_nl l.2 h.plain
  unfold lt
  intro e
  rcases List.mem_append.1 e with e | e
  · split at e
    · simp at e
    · cases e
  · exact h1 e
theorem LineOk.read {l : Line} (h : LineOk l) : Fine (lt l) ∧ wordsOf (lt l) = [l.2.map tl] := by
  have hk : ∀ c ∈ (if l.1 then [9] else [] : Txt), Sc.kind c.toNat = 1 := by
    intro c hc
    split at hc
    · rw [List.mem_singleton] at hc; rw [hc]; exact Sc.k9
    · cases hc
  have hz : ((if l.1 then [9] else [] : Txt)).length ≤ 1 := by split <;> simp
  obtain ⟨L, h1, h2⟩ := fields_line (if l.1 then [9] else []) l.2 [] hk h.ne h.plain (by have := h.len; omega) (.inl rfl) (by have := h.size'; simp only [List.length_nil]; omega)
  rw [List.append_nil] at h1
  refine ⟨⟨L, h1⟩, ?_⟩
  unfold wordsOf
  rw [show Sc.fields (lt l) = .ok L from h1]
  have hne : L ≠ [] := by
    intro e
    rw [e] at h2
    exact h.ne (List.map_eq_nil_iff.1 h2.symm)
  simp only []
  rw [if_neg hne, h2]

/-! What a right source's lines are. -/
abbrev RkR (r : Ru.R) : Prop := r.Ok ∧ 0 ≤ r.c
abbrev RkE (e : Er.E) : Prop := e.Ok ∧ 0 ≤ e.u.c
abbrev Rk (s : S) : Prop := Right own RkR RkE s
theorem word_fit {s : ByteArray} (h : Sc.Plain s) (h2 : s.size ≤ 64) {l : List ByteArray} (hl : Sc.Fit l 64) : Sc.Fit (s :: l) 64 := by
  intro t ht
  rcases List.mem_cons.1 ht with rfl | ht
  · exact ⟨h, h2⟩
  · exact hl t ht
theorem plain_RULE : Sc.Plain RULE := ⟨by decide, Sc.pl_of (by decide)⟩
theorem plain_ZONE : Sc.Plain ZONE := ⟨by decide, Sc.pl_of (by decide)⟩
theorem plain_LINK : Sc.Plain LINK := ⟨by decide, Sc.pl_of (by decide)⟩
theorem tl_bts (t : Txt) : tl (bts t) = t := tl_mk t
theorem name_word {n : Txt} (h : Ru.name n = true) : Sc.Plain (bts n) ∧ (bts n).size ≤ 64 :=
  ⟨Sc.name_plain (s := bts n) (by rw [tl_bts]; exact h), by have := name_len h; show (⟨n.toArray⟩ : ByteArray).size ≤ 64; rw [size_mk]; exact this⟩
theorem ofRule_ok {r : Ru.R} (h : r.Ok) : LineOk (ofRule r) := ⟨by simp [ofRule], word_fit plain_RULE (by decide) (Sc.rule_fit r h), by show 10 ≤ 10; omega⟩
theorem texts_le (e : Er.E) : 3 ≤ e.texts.length ∧ e.texts.length ≤ 7 := by
  have h1 := Er.texts_len e
  have h2 := Mo.count_bd e.u
  rw [h1]
  split <;> omega
theorem ofEra_ok {e : Er.E} (h : e.Ok) : LineOk (ofEra e) := ⟨by intro e0; have := (texts_le e).1; rw [show e.texts = [] from e0] at this; simp at this, Sc.era_fit e h, by have := (texts_le e).2; show e.texts.length ≤ 10; omega⟩
theorem ofEra1_ok {n : Txt} {e : Er.E} (hn : Ru.name n = true) (h : e.Ok) : LineOk (ofEra1 n e) :=
  ⟨by simp [ofEra1], word_fit plain_ZONE (by decide) (word_fit (name_word hn).1 (name_word hn).2 (Sc.era_fit e h)), by have := (texts_le e).2; show e.texts.length + 1 + 1 ≤ 10; omega⟩
theorem ofLink_ok {k : Txt × Txt} (h1 : Ru.name k.1 = true) (h2 : Ru.name k.2 = true) : LineOk (ofLink k) :=
  ⟨by simp [ofLink], word_fit plain_LINK (by decide) (word_fit (name_word h1).1 (name_word h1).2 (word_fit (name_word h2).1 (name_word h2).2 (fun _ h => by cases h))), by show 3 ≤ 10; omega⟩
theorem zones_done {Re : Er.E → Prop} : ∀ (zs : List (Txt × List Er.E)), ZonesOk own Re false zs → ∀ z ∈ zs, Base own Re z ∧ Done own z
  | [], _, z, hz => by cases hz
  | [x], h, z, hz => by
    rw [List.mem_singleton] at hz
    subst hz
    exact ⟨h.1, by have := h.2; rw [if_neg (by decide)] at this; exact this⟩
  | x :: y :: l, h, z, hz => by
    rcases List.mem_cons.1 hz with rfl | hz
    · exact ⟨h.1, h.2.1⟩
    · exact zones_done (y :: l) h.2.2 z hz
theorem ofZone_ok {z : Txt × List Er.E} (hb : Base own RkE z) : ∀ l ∈ ofZone z, LineOk l := by
  intro l hl
  obtain ⟨h1, _, h3⟩ := hb
  unfold ofZone at hl
  split at hl
  · cases hl
  · rename_i e es he
    rcases List.mem_cons.1 hl with rfl | hl
    · exact ofEra1_ok h1 (h3 e (by rw [he]; exact List.mem_cons_self)).1
    · unfold ofEras at hl
      rw [List.mem_map] at hl
      obtain ⟨x, hx, rfl⟩ := hl
      exact ofEra_ok (h3 x (by rw [he]; exact List.mem_cons_of_mem _ hx)).1
theorem lns_ok {s : S} (h : Rk s) (ho : s.op = false) : ∀ l ∈ lns s, LineOk l := by
  have hz := h.zones.2
  rw [ho] at hz
  intro l hl
  unfold lns at hl
  rcases List.mem_append.1 hl with hl | hl
  · rw [List.mem_map] at hl
    obtain ⟨r, hr, rfl⟩ := hl
    exact ofRule_ok (h.rules.2 r hr).1
  · rcases List.mem_append.1 hl with hl | hl
    · rw [List.mem_flatMap] at hl
      obtain ⟨z, hz', hl⟩ := hl
      exact ofZone_ok (zones_done _ hz z hz').1 l hl
    · rw [List.mem_map] at hl
      obtain ⟨k, hk, rfl⟩ := hl
      have := h.links.2 k hk
      exact ofLink_ok this.1 this.2
end Pr
end Go.Proofs.YtlhoggalhjadgaaGreatDoor

/- print.Rule and print.Link of what is right. -/
namespace Go.Proofs.YtlhoggalhjadgaaGreatDoor
open Go.RowKit

namespace Pr
open Go.Proofs.YtlhoggalhjadgaaGreatDoor.Src
theorem jv_line {b : Bool} {ws : List ByteArray} (h : LineOk (b, ws)) : Sc.jv ws = .tuple #[.string (Sc.line ws), .int .i64 0] := by
  have h1 : (Sc.line ws).size ≤ 650 := h.size'
  have h2 : ws.length ≤ 10 := h.len
  exact Sc.jv_plain ws h.plain (by omega) (by omega)
end Pr
/-- print.join of what makes a right line. -/
theorem prJoin_line {b : Bool} (A1 A2 : Option Addr) (n1 n2 c1 c2 : Nat) (ss1 ss2 : List ByteArray) (w : World) (h : Pr.LineOk (b, ss1 ++ ss2)) (hr1 : Reads w w.heap.size 1 A1 n1 (ss1.map Value.string)) (hr2 : Reads w w.heap.size 1 A2 n2 (ss2.map Value.string)) :
    Calls Tryz.prog 37 #[.slice A2 n2 c2, .slice A1 n1 c1] w fun e w' => e = .returned (.tuple #[.string (Sc.line (ss1 ++ ss2)), .int .i64 0]) ∧ Below w.heap.size w w' := by
  have h1 : ss1.length = n1 := by have := hr1.1; simpa using this
  have h2 : ss2.length = n2 := by have := hr2.1; simpa using this
  have h3 : (ss1 ++ ss2).length ≤ 10 := h.len
  rw [List.length_append] at h3
  have := prJoin_any A1 A2 n1 n2 c1 c2 ss1 ss2 w hr1 hr2 (by omega) (by omega) (fun t ht => by have := (h.fit t ht).2; omega)
  rwa [Pr.jv_line h] at this
set_option maxHeartbeats 2000000 in
set_option maxRecDepth 100000 in
theorem prRule_ok (r : Ru.R) (w : World) (hW : Wc w) (h : r.Ok) (hc : 0 ≤ r.c) :
    Calls Tryz.prog 13 #[r.v] w fun e w' => e = .returned (.tuple #[.string (Sc.line (Pr.ofRule r).2), .int .i64 0]) ∧ Below w.heap.size w w' := by
  have hsz := Sc.rule_fit r h
  have hT := fun W hw => ruText_ok r W hw h hc (by have := (hsz r.nm (by simp [Ru.R.texts])).2; omega) (by
    have := Src.name_len h.1
    have hl := h.2.2.2.2.2.2
    unfold Ab.letter at hl
    simp only [Bool.and_eq_true, decide_eq_true_eq] at hl
    omega)
  have hL : Pr.LineOk (false, [Pr.RULE] ++ r.texts) := Pr.ofRule_ok h
  rw [show (Pr.ofRule r).2 = [Pr.RULE] ++ r.texts from rfl]
  obtain ⟨TX, hTX⟩ : ∃ l, r.texts = l := ⟨_, rfl⟩
  unfold StrsRet at hT
  simp only [hTX] at hT
  rw [hTX] at hL ⊢
  have hl9 : TX.length = 9 := by rw [← hTX]; rfl
  rw [hl9] at hT
  have HJ := Lib.hid fun A1 A2 c1 c2 (W : World) hr1 hr2 => prJoin_line (b := false) A1 A2 1 9 c1 c2 [Pr.RULE] TX W hL hr1 hr2
  obtain ⟨Y, hY⟩ : ∃ Y, Sc.line ([Pr.RULE] ++ TX) = Y := ⟨_, rfl⟩
  rw [hY] at HJ ⊢
  obtain ⟨nm, fr, tt, mo, k, n, d, s, c, sv, lt⟩ := r
  unfold Ru.R.v at hT ⊢
  simp only at hT ⊢
  have HT := Lib.hid hT
  have HW := Lib.hid hW
  have HB0 := Lib.hid ((Below.refl w.heap.size w).alloc (Nat.le_refl _) (.cells #[.string nm, .int .i64 fr, .int .i64 tt, .int .i64 mo, .int .u8 k, .int .i64 n, .int .i64 d, .int .i64 s, .int .u8 c, .int .i64 sv, .string lt] 47))
  clear hsz hT hL hTX hl9 hY hW h hc
  go_enter Tryz.func13, Tryz.ntmps13
  go_wp2_with fail
  refine (HT.out _ (HW.out.below HB0.out)).mono ?_
  rintro e w1 ⟨A, cc, hcap, rfl, hr, hb⟩
  have HB1 := Lib.hid (below_then HB0.out hb)
  have HR := Lib.hid hr
  clear hb hr
  go_wp2_with fail
  refine (HJ.out _ A _ cc _ (er_reads w1 w1.heap.size [Pr.RULE] 9 rfl) ((HR.out.below ((Below.refl w1.heap.size w1).alloc (Nat.le_refl _) _)).more (by simp))).mono ?_
  rintro e w2 ⟨rfl, hb⟩
  have HB2 := Lib.hid (below_then (HB1.out.alloc HB1.out.size _) hb)
  clear hb
  go_wp2
  go_ret2
  exact ⟨rfl, HB2.out⟩
theorem prLink_src (k : Src.Txt × Src.Txt) (w : World) : Src.SrcR (w.alloc (.cells #[.string (Src.bts k.1), .string (Src.bts k.2)] 56)) (w.alloc (.cells #[.string (Src.bts k.1), .string (Src.bts k.2)] 56)).heap.size ⟨[], [], [k], false⟩ (.slice none 0 0) (.slice none 0 0) (.slice (some ⟨w.heap.size, 0, none⟩) 1 1) [] := by
  have hn : ∀ (W : World) (B size : Nat), Src.RowR W B size 0 (.slice none 0 0) [] := fun W B size => ⟨none, 0, rfl, Nat.le_refl _, by decide, ⟨by simp, fun h => absurd h (by omega)⟩⟩
  refine ⟨hn _ _ _, hn _ _ _, ⟨_, 1, rfl, Nat.le_refl _, by decide, ⟨rfl, fun _ => ⟨_, rfl, by simp, fun j u hj => ?_⟩⟩⟩, rfl, fun p hp => by cases hp⟩
  have hA := At.new w #[.string (Src.bts k.1), .string (Src.bts k.2)] 56
  have e : ([k].flatMap Src.lc) = [.string (Src.bts k.1), .string (Src.bts k.2)] := rfl
  rw [e] at hj
  have hc := hA.cell j u hj
  rcases Nat.eq_zero_or_pos j with h0 | h0
  · subst h0; exact hc
  · simpa [Addr.add, show ¬ j = 0 by omega] using hc
set_option maxHeartbeats 2000000 in
set_option maxRecDepth 100000 in
theorem prLink_ok (k : Src.Txt × Src.Txt) (w : World) (hW : Wa w) (h1 : Ru.name k.1 = true) (h2 : Ru.name k.2 = true) :
    Calls Tryz.prog 15 #[Src.lv k] w fun e w' => e = .returned (.tuple #[.string (Sc.line (Pr.ofLink k).2), .int .i64 0]) ∧ Below w.heap.size w w' := by
  have hC := fun W hw hr => srcCheck_any ⟨[], [], [k], false⟩ (.slice none 0 0) (.slice none 0 0) (.slice (some ⟨w.heap.size + 1, 0, none⟩) 1 1) [] W hw hr ⟨Nat.zero_le _, Nat.zero_le _, by show 1 ≤ 4096; omega⟩
    ⟨fun r hr => (by cases hr), fun z hz => (by cases hz), fun q hq => by
      rw [List.mem_singleton] at hq
      subst hq
      have := Src.name_len h1
      have := Src.name_len h2
      exact ⟨by omega, by omega⟩⟩
  have hb : Src.srcB ⟨[], [], [k], false⟩ = true := by
    unfold Src.srcB Src.linkB
    simp [h1, h2]
  rw [hb, if_pos rfl] at hC
  have hL : Pr.LineOk (false, [Pr.LINK, Src.bts k.1, Src.bts k.2] ++ []) := Pr.ofLink_ok h1 h2
  have hS := prLink_src k
  rw [show (Pr.ofLink k).2 = [Pr.LINK, Src.bts k.1, Src.bts k.2] ++ [] from rfl]
  unfold Src.lv
  obtain ⟨xa, hxa⟩ : ∃ x, Src.bts k.1 = x := ⟨_, rfl⟩
  obtain ⟨xb, hxb⟩ : ∃ x, Src.bts k.2 = x := ⟨_, rfl⟩
  rw [hxa, hxb] at hL ⊢
  rw [hxa, hxb] at hS
  have HJ := Lib.hid fun A1 c1 (W : World) hr1 => prJoin_line (b := false) A1 none 3 0 c1 0 [Pr.LINK, xa, xb] [] W hL hr1 Reads.none_
  obtain ⟨Y, hY⟩ : ∃ Y, Sc.line ([Pr.LINK, xa, xb] ++ []) = Y := ⟨_, rfl⟩
  rw [hY] at HJ ⊢
  have HA0 := Lib.hid (At.new w #[.string xa, .string xb] 56)
  have HB0 := Lib.hid ((Below.refl w.heap.size w).alloc (Nat.le_refl _) (.cells #[.string xa, .string xb] 56))
  have HC := Lib.hid (hC _ (hW.below (((Below.refl w.heap.size w).alloc (Nat.le_refl _) (.cells #[.string xa, .string xb] 56)).alloc (by simp) (.cells #[.string xa, .string xb] 56))) (by have := hS (w.alloc (.cells #[.string xa, .string xb] 56)); simpa using this))
  clear hC hb hL hS hY hW hxa hxb h1 h2
  obtain ⟨h, hh⟩ : ∃ h, w.heap.size = h := ⟨_, rfl⟩
  rw [hh] at HC
  go_enter Tryz.func15, Tryz.ntmps15
  go_wp2_with fail
  refine HC.out.mono ?_
  rintro e w1 ⟨rfl, hb⟩
  have HA1 := Lib.hid ((HA0.out.alloc #[.string xa, .string xb] 56).call hb)
  have HB1 := Lib.hid (below_then (HB0.out.alloc HB0.out.size _) hb)
  clear hb HA0 HB0 HC
  rw [hh] at HA1
  obtain ⟨a0, a1, _⟩ := HA1.out.two
  clear hh
  go_wp2_with fail
  refine (HJ.out _ _ _ (er_reads w1 w1.heap.size [Pr.LINK, xa, xb] 9 rfl)).mono ?_
  rintro e w2 ⟨rfl, hb⟩
  have HB2 := Lib.hid (below_then (HB1.out.alloc HB1.out.size _) hb)
  clear hb
  go_wp2
  go_ret2
  exact ⟨rfl, HB2.out⟩
end Go.Proofs.YtlhoggalhjadgaaGreatDoor
