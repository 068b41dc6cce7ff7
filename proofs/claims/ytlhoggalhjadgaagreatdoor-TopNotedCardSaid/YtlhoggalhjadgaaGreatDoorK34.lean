/- A right source is read from its text; a text that is read has a source of no more words. -/
import Derived.Test.YtlhoggalhjadgaaGreatDoorK33

namespace Go.Proofs.YtlhoggalhjadgaaGreatDoor
open Go.RowKit

namespace Pr
open Go.Proofs.YtlhoggalhjadgaaGreatDoor.Src
theorem key_rule : own.key (tl RULE) = 1 := by kernel_rfl
theorem key_zone : own.key (tl ZONE) = 2 := by kernel_rfl
theorem key_link : own.key (tl LINK) = 3 := by kernel_rfl
theorem bts_tl (s : ByteArray) : bts (tl s) = s := rfl
theorem map_bts_tl (l : List ByteArray) : (l.map tl).map bts = l := by
  rw [List.map_map, show (bts ∘ tl) = id from rfl, List.map_id]
theorem own_rule (l : List ByteArray) : own.rule (l.map tl) = Ru.parse l := by
  show Ru.parse ((l.map tl).map bts) = Ru.parse l
  rw [map_bts_tl]
theorem own_era (l : List ByteArray) : own.era (l.map tl) = Er.parse l := by
  show Er.parse ((l.map tl).map bts) = Er.parse l
  rw [map_bts_tl]
def addRules (s : S) (rs : List Ru.R) : S := ⟨s.rules ++ rs, s.zones, s.links, s.op⟩
def addZones (s : S) (zs : List (Txt × List Er.E)) : S := ⟨s.rules, s.zones ++ zs, s.links, s.op⟩
def addLinks (s : S) (ks : List (Txt × Txt)) : S := ⟨s.rules, s.zones, s.links ++ ks, s.op⟩
def wd (l : Line) : List Txt := l.2.map tl
theorem step_rule (s : S) (r : Ru.R) (ho : s.op = false) (hr : RkR r) (hl : s.rules.length < 4096) : Src.step own s (wd (ofRule r)) = .ok (addRules s [r]) := by
  have e0 : (wd (ofRule r)).getD 0 [] = tl RULE := rfl
  have e1 : (wd (ofRule r)).drop 1 = r.texts.map tl := rfl
  unfold Src.step
  rw [if_neg (by rw [ho]; decide), e0, if_pos key_rule]
  unfold ruleStep
  rw [if_neg (by omega), e1, own_rule, Ru.parse_texts r hr.1 hr.2, if_pos rfl]
  rfl
theorem read_rules : ∀ (rs : List Ru.R) (s : S), s.op = false → (∀ r ∈ rs, RkR r) → s.rules.length + rs.length ≤ 4096 → readW ((rs.map ofRule).map wd) s = some (addRules s rs)
  | [], s, _, _, _ => by
    show some s = _
    unfold addRules
    rw [List.append_nil]
  | r :: rs, s, ho, hr, hl => by
    simp only [List.length_cons] at hl
    rw [List.map_cons, List.map_cons, readW_cons (step_rule s r ho (hr r List.mem_cons_self) (by omega)), read_rules rs (addRules s [r]) ho (fun x hx => hr x (List.mem_cons_of_mem _ hx)) (by simp only [addRules, List.length_append, List.length_cons, List.length_nil]; omega)]
    unfold addRules
    simp
theorem step_link (s : S) (k : Txt × Txt) (ho : s.op = false) (h1 : Ru.name k.1 = true) (h2 : Ru.name k.2 = true) (hl : s.links.length < 4096) : Src.step own s (wd (ofLink k)) = .ok (addLinks s [k]) := by
  have e : wd (ofLink k) = [tl LINK, k.1, k.2] := by
    show [tl LINK, tl (bts k.1), tl (bts k.2)] = _
    rw [tl_bts, tl_bts]
  rw [e]
  have hw : wrong own.name ((([tl LINK, k.1, k.2] : List Txt).drop 1).take 2) 0 = none := by
    show wrong own.name [k.1, k.2] 0 = none
    have a1 : own.name k.1 = true := h1
    have a2 : own.name k.2 = true := h2
    simp only [wrong, a1, a2, if_true]
  have e0 : ([tl LINK, k.1, k.2] : List Txt).getD 0 [] = tl LINK := rfl
  unfold Src.step
  rw [if_neg (by rw [ho]; decide), e0, if_neg (by rw [key_link]; decide), if_neg (by rw [key_link]; decide), if_pos key_link]
  unfold linkStep
  rw [if_neg (by omega), hw]
  simp only []
  rw [if_neg (by show ¬ 2 < 2; omega), if_neg (by show ¬ 3 < 3; omega)]
  rfl
theorem read_links : ∀ (ks : List (Txt × Txt)) (s : S), s.op = false → (∀ k ∈ ks, own.name k.1 = true ∧ own.name k.2 = true) → s.links.length + ks.length ≤ 4096 → readW ((ks.map ofLink).map wd) s = some (addLinks s ks)
  | [], s, _, _, _ => by
    show some s = _
    unfold addLinks
    rw [List.append_nil]
  | k :: ks, s, ho, hk, hl => by
    simp only [List.length_cons] at hl
    have := hk k List.mem_cons_self
    rw [List.map_cons, List.map_cons, readW_cons (step_link s k ho this.1 this.2 (by omega)), read_links ks (addLinks s [k]) ho (fun x hx => hk x (List.mem_cons_of_mem _ hx)) (by simp only [addLinks, List.length_append, List.length_cons, List.length_nil]; omega)]
    unfold addLinks
    simp
/-- A zone that is being read: its name, the eras so far. -/
def openZ (s : S) (n : Txt) (es : List Er.E) (op : Bool) : S := ⟨s.rules, s.zones ++ [(n, es)], s.links, op⟩
theorem step_zone (s : S) (n : Txt) (e : Er.E) (ho : s.op = false) (hn : Ru.name n = true) (he : RkE e) (hl : s.zones.length < 1024) : Src.step own s (wd (ofEra1 n e)) = .ok (openZ s n [e] e.en) := by
  have e0 : (wd (ofEra1 n e)).getD 0 [] = tl ZONE := rfl
  have e1 : (wd (ofEra1 n e)).getD 1 [] = n := tl_bts n
  have e2 : (wd (ofEra1 n e)).drop 2 = e.texts.map tl := rfl
  have e3 : own.name n = true := hn
  unfold Src.step
  rw [if_neg (by rw [ho]; decide), e0, if_neg (by rw [key_zone]; decide), if_pos key_zone]
  unfold zoneStep
  rw [if_neg (by omega), if_neg (by show ¬ (e.texts.map tl).length + 1 + 1 < 2; omega), e1, if_neg (by rw [e3]; decide)]
  unfold eraStep
  rw [e2, own_era, Er.parse_texts e he.1 he.2, if_pos rfl]
  have e4 : addEra e (s.zones ++ [(n, [])]) = s.zones ++ [(n, [e])] := by rw [addEra_app _ _ _ (by simp)]; rfl
  show Out.ok (⟨s.rules, addEra e (s.zones ++ [(n, [])]), s.links, own.ends e⟩ : S) = _
  rw [e4]
  rfl
theorem step_era (s : S) (n : Txt) (es : List Er.E) (e : Er.E) (he : RkE e) (hl : es.length < 64) : Src.step own (openZ s n es true) (wd (ofEra e)) = .ok (openZ s n (es ++ [e]) e.en) := by
  have e1 : lastEras (openZ s n es true).zones = es.length := by
    show lastEras (s.zones ++ [(n, es)]) = _
    rw [lastEras_app _ _ (by simp)]
    rfl
  have e2 : (wd (ofEra e)).drop 0 = e.texts.map tl := rfl
  unfold Src.step
  rw [if_pos (show (openZ s n es true).op = true from rfl), e1, if_neg (by omega)]
  unfold eraStep
  rw [e2, own_era, Er.parse_texts e he.1 he.2, if_pos rfl]
  have e4 : addEra e (s.zones ++ [(n, es)]) = s.zones ++ [(n, es ++ [e])] := by rw [addEra_app _ _ _ (by simp)]; rfl
  show Out.ok (⟨s.rules, addEra e (s.zones ++ [(n, es)]), s.links, own.ends e⟩ : S) = _
  rw [e4]
  rfl
theorem read_eras (s : S) (n : Txt) : ∀ (es pre : List Er.E), (∀ e ∈ es, RkE e) → pre.length + es.length ≤ 64 → (∀ x ∈ es.dropLast, x.en = true) → es ≠ [] →
    readW ((ofEras es).map wd) (openZ s n pre true) = some (openZ s n (pre ++ es) ((es.getLast?.map (·.en)).getD true))
  | [], pre, _, _, _, hne => absurd rfl hne
  | [e], pre, he, hl, _, _ => by
    simp only [List.length_cons, List.length_nil] at hl
    show readW [wd (ofEra e)] _ = _
    rw [readW_cons (step_era s n pre e (he e List.mem_cons_self) (by omega))]
    rfl
  | e :: e' :: es, pre, he, hl, hd, _ => by
    simp only [List.length_cons] at hl
    have hen : e.en = true := hd e (by rw [List.dropLast_cons_cons]; exact List.mem_cons_self)
    have h1 := step_era s n pre e (he e List.mem_cons_self) (by omega)
    rw [hen] at h1
    show readW (wd (ofEra e) :: (ofEras (e' :: es)).map wd) _ = _
    rw [readW_cons h1, read_eras s n (e' :: es) (pre ++ [e]) (fun x hx => he x (List.mem_cons_of_mem _ hx)) (by simp only [List.length_append, List.length_cons, List.length_nil]; omega) (fun x hx => hd x (by rw [List.dropLast_cons_cons]; exact List.mem_cons_of_mem _ hx)) (by simp)]
    rw [List.append_assoc]
    simp [List.getLast?_cons_cons]
theorem read_zone (s : S) (z : Txt × List Er.E) (ho : s.op = false) (hb : Base own RkE z) (hd : Done own z) (hl : s.zones.length < 1024) : readW ((ofZone z).map wd) s = some (addZones s [z]) := by
  obtain ⟨n, zs⟩ := z
  obtain ⟨h1, h2, h3⟩ := hb
  obtain ⟨es, e, he, h4, h5⟩ := hd
  simp only at h1 h2 h3 he
  have h5' : e.en = false := h5
  have h4' : ∀ x ∈ es, x.en = true := h4
  have hfin : ∀ b, b = false → openZ s n zs b = addZones s [(n, zs)] := fun b hb => by
    unfold openZ addZones
    rw [hb, ho]
  cases es with
  | nil =>
    have hz : zs = [e] := he
    subst hz
    show readW [wd (ofEra1 n e)] s = _
    rw [readW_cons (step_zone s n e ho h1 (h3 e (by simp)) hl)]
    show some _ = some _
    rw [hfin _ h5']
  | cons f es =>
    have hz : zs = f :: (es ++ [e]) := he
    subst hz
    have hf : f.en = true := h4' f List.mem_cons_self
    have h6 := step_zone s n f ho h1 (h3 f (by simp)) hl
    rw [hf] at h6
    show readW (wd (ofEra1 n f) :: (ofEras (es ++ [e])).map wd) s = _
    rw [readW_cons h6, read_eras s n (es ++ [e]) [f] (fun x hx => h3 x (List.mem_cons_of_mem _ hx)) (by simpa [Nat.add_comm] using h2) (fun x hx => h4' x (List.mem_cons_of_mem _ (by simpa using hx))) (by simp)]
    exact congrArg some (hfin _ (by simp [h5']))
theorem read_zones : ∀ (zs : List (Txt × List Er.E)) (s : S), s.op = false → (∀ z ∈ zs, Base own RkE z ∧ Done own z) → s.zones.length + zs.length ≤ 1024 → readW ((zs.flatMap ofZone).map wd) s = some (addZones s zs)
  | [], s, _, _, _ => by
    show some s = _
    unfold addZones
    rw [List.append_nil]
  | z :: zs, s, ho, hz, hl => by
    simp only [List.length_cons] at hl
    have hz1 := hz z List.mem_cons_self
    rw [List.flatMap_cons, List.map_append, readW_app _ _ _ _ (read_zone s z ho hz1.1 hz1.2 (by omega)), read_zones zs (addZones s [z]) ho (fun x hx => hz x (List.mem_cons_of_mem _ hx)) (by simp only [addZones, List.length_append, List.length_cons, List.length_nil]; omega)]
    unfold addZones
    simp
/-- What a right source's lines are read as, behind what was read. -/
theorem read_lns (s a : S) (h : Rk s) (ho : s.op = false) (ha : a.op = false) (hr : a.rules.length + s.rules.length ≤ 4096) (hz : a.zones.length + s.zones.length ≤ 1024) (hk : a.links.length + s.links.length ≤ 4096) :
    readW ((lns s).map wd) a = some (app a s) := by
  have hzs := h.zones.2
  rw [ho] at hzs
  unfold lns
  rw [List.map_append, List.map_append, readW_app _ _ _ _ (read_rules s.rules a ha h.rules.2 hr), readW_app _ _ _ _ (read_zones s.zones (addRules a s.rules) ha (zones_done s.zones hzs) hz), read_links s.links (addZones (addRules a s.rules) s.zones) ha h.links.2 hk]
  unfold addLinks addZones addRules app
  simp [ha, ho]
theorem flat_words : ∀ ls : List Line, (∀ l ∈ ls, LineOk l) → (ls.map lt).flatMap wordsOf = ls.map wd
  | [], _ => rfl
  | l :: ls, h => by
    rw [List.map_cons, List.flatMap_cons, (h l List.mem_cons_self).read.2, flat_words ls fun x hx => h x (List.mem_cons_of_mem _ hx)]
    rfl
theorem text_split (s : S) (h : ∀ l ∈ lns s, LineOk l) : Sc.splitNl (text s) = (lns s).map lt ++ [[]] := by
  have h1 := splitNl_lines ((lns s).map lt) [] (fun t ht => by
    rw [List.mem_map] at ht
    obtain ⟨l, hl, rfl⟩ := ht
    exact (h l hl).nl)
  rw [List.append_nil, List.flatMap_map] at h1
  exact h1
theorem fine_nil : Fine [] := ⟨[], rfl⟩
/-- A right source is read from its text. -/
theorem parse_text (s : S) (h : Rk s) (ho : s.op = false) (hz : (text s).length ≤ 1048576) : parse own (text s) = .ok s := by
  have hok := lns_ok h ho
  have hsp := text_split s hok
  refine parse_words (text s) s hz ?_ ?_ ho
  · rw [hsp]
    intro x hx
    rcases List.mem_append.1 hx with hx | hx
    · rw [List.mem_map] at hx
      obtain ⟨l, hl, rfl⟩ := hx
      exact (hok l hl).read.1
    · rw [List.mem_singleton] at hx
      rw [hx]
      exact fine_nil
  · rw [hsp, List.flatMap_append, flat_words _ hok, show ([[]] : List Txt).flatMap wordsOf = [] from rfl, List.append_nil, read_lns s St.none_ h ho rfl (by simpa [St.none_] using h.rules.1) (by simpa [St.none_] using h.zones.1) (by simpa [St.none_] using h.links.1)]
    cases s
    rfl

/-! How long a text is. -/
/-- The texts of lines, counted. -/
def nw : List Line → Nat
  | [] => 0
  | l :: ls => l.2.length + nw ls
theorem nw_app (a b : List Line) : nw (a ++ b) = nw a + nw b := by
  induction a with
  | nil => simp [nw]
  | cons l a ih => simp only [List.cons_append, nw, ih]; omega
theorem nw_len : ∀ ls : List Line, (∀ l ∈ ls, LineOk l) → ls.length ≤ nw ls
  | [], _ => Nat.le_refl _
  | l :: ls, h => by
    have h1 := nw_len ls fun x hx => h x (List.mem_cons_of_mem _ hx)
    have h2 : l.2.length ≠ 0 := fun e => (h l List.mem_cons_self).ne (List.length_eq_zero_iff.1 e)
    simp only [nw, List.length_cons]
    omega
theorem ltn_len (l : Line) : (ltn l).length ≤ (Sc.line l.2).size + 2 := by
  unfold ltn lt
  rw [List.length_append, List.length_append, tl_length]
  have : ((if l.1 then [9] else []) : Txt).length ≤ 1 := by split <;> simp
  simp only [List.length_cons, List.length_nil]
  omega
theorem flat_len : ∀ ls : List Line, (∀ l ∈ ls, LineOk l) → (ls.flatMap ltn).length ≤ 67 * nw ls
  | [], _ => Nat.le_refl _
  | l :: ls, h => by
    have h1 := flat_len ls fun x hx => h x (List.mem_cons_of_mem _ hx)
    have h2 := (h l List.mem_cons_self).size
    have h3 : l.2.length ≠ 0 := fun e => (h l List.mem_cons_self).ne (List.length_eq_zero_iff.1 e)
    have h4 := ltn_len l
    rw [List.flatMap_cons, List.length_append]
    simp only [nw]
    omega
def nz (z : Txt × List Er.E) : Nat := nw (ofZone z)
def nzs : List (Txt × List Er.E) → Nat
  | [] => 0
  | z :: zs => nz z + nzs zs
theorem nzs_app (a b : List (Txt × List Er.E)) : nzs (a ++ b) = nzs a + nzs b := by
  induction a with
  | nil => simp [nzs]
  | cons l a ih => simp only [List.cons_append, nzs, ih]; omega
theorem nw_zones : ∀ zs : List (Txt × List Er.E), nw (zs.flatMap ofZone) = nzs zs
  | [] => rfl
  | z :: zs => by rw [List.flatMap_cons, nw_app, nw_zones zs]; rfl
theorem nw_rules : ∀ rs : List Ru.R, nw (rs.map ofRule) = 10 * rs.length
  | [] => rfl
  | r :: rs => by rw [List.map_cons, nw, nw_rules rs, List.length_cons]; show 10 + _ = _; omega
theorem nw_links : ∀ rs : List (Txt × Txt), nw (rs.map ofLink) = 3 * rs.length
  | [] => rfl
  | r :: rs => by rw [List.map_cons, nw, nw_links rs, List.length_cons]; show 3 + _ = _; omega
/-- The texts of a source's lines, counted. -/
def ns (s : S) : Nat := 10 * s.rules.length + (nzs s.zones + 3 * s.links.length)
theorem nw_lns (s : S) : nw (lns s) = ns s := by
  unfold lns ns
  rw [nw_app, nw_app, nw_rules, nw_zones, nw_links]
theorem nw_eras_app (es : List Er.E) (e : Er.E) : nw (ofEras (es ++ [e])) = nw (ofEras es) + e.texts.length := by
  unfold ofEras
  rw [List.map_append, nw_app]
  rfl
theorem nz_more (n : Txt) (es : List Er.E) (e : Er.E) (hne : es ≠ []) : nz (n, es ++ [e]) = nz (n, es) + e.texts.length := by
  cases es with
  | nil => exact absurd rfl hne
  | cons x l =>
    show nw (ofEra1 n x :: ofEras (l ++ [e])) = nw (ofEra1 n x :: ofEras l) + _
    rw [nw, nw, nw_eras_app]
    omega
theorem nz_one (n : Txt) (e : Er.E) : nz (n, [] ++ [e]) = 2 + e.texts.length := by
  show nw [ofEra1 n e] = _
  unfold nw
  show e.texts.length + 1 + 1 + 0 = _
  omega
theorem nz_le (n : Txt) (es : List Er.E) (e : Er.E) : nz (n, es ++ [e]) ≤ nz (n, es) + 2 + e.texts.length := by
  cases es with
  | nil => rw [nz_one]; omega
  | cons x l => rw [nz_more _ _ _ (by simp)]; omega
theorem nzs_add (e : Er.E) : ∀ zs : List (Txt × List Er.E), nzs (addEra e zs) ≤ nzs zs + 2 + e.texts.length
  | [] => by show 0 ≤ _; omega
  | [z] => by
    have := nz_le z.1 z.2 e
    show nz (z.1, z.2 ++ [e]) + 0 ≤ nz z + 0 + 2 + _
    rw [show nz z = nz (z.1, z.2) from rfl]
    omega
  | z :: y :: l => by
    have := nzs_add e (y :: l)
    show nz z + nzs (addEra e (y :: l)) ≤ nz z + nzs (y :: l) + 2 + _
    omega
theorem nzs_more (e : Er.E) : ∀ zs : List (Txt × List Er.E), (∀ z ∈ zs, z.2 ≠ []) → nzs (addEra e zs) ≤ nzs zs + e.texts.length
  | [], _ => by show 0 ≤ _; omega
  | [z], h => by
    have := nz_more z.1 z.2 e (h z (by simp))
    show nz (z.1, z.2 ++ [e]) + 0 ≤ nz z + 0 + _
    rw [show nz z = nz (z.1, z.2) from rfl]
    omega
  | z :: y :: l, h => by
    have := nzs_more e (y :: l) fun x hx => h x (List.mem_cons_of_mem _ hx)
    show nz z + nzs (addEra e (y :: l)) ≤ nz z + nzs (y :: l) + _
    omega
def Full (s : S) : Prop := ∀ z ∈ s.zones, z.2 ≠ []
theorem addEra_full (e : Er.E) : ∀ zs : List (Txt × List Er.E), (∀ z ∈ zs.dropLast, z.2 ≠ []) → ∀ z ∈ addEra e zs, z.2 ≠ []
  | [], _, z, hz => by cases hz
  | [x], _, z, hz => by
    rw [show addEra e [x] = [(x.1, x.2 ++ [e])] from rfl, List.mem_singleton] at hz
    rw [hz]
    simp
  | x :: y :: l, h, z, hz => by
    rcases List.mem_cons.1 (show z ∈ x :: addEra e (y :: l) from hz) with rfl | hz
    · exact h z (by rw [List.dropLast_cons_cons]; exact List.mem_cons_self)
    · exact addEra_full e (y :: l) (fun w hw => h w (by rw [List.dropLast_cons_cons]; exact List.mem_cons_of_mem _ hw)) z hz
theorem era_words (l : List Txt) (h : (own.era l).2.2 = 0) : (own.era l).1.texts.length ≤ l.length := by
  have e : own.era l = Er.parse (l.map bts) := rfl
  rw [e] at h ⊢
  rcases Er.parse_ok (l.map bts) with h1 | h1
  · have := h1.2.2.2.2.2
    rwa [List.length_map] at this
  · exact absurd h h1.1
theorem rule_words (l : List Txt) (h : (own.rule l).2.2 = 0) : l.length = 9 := by
  have e : own.rule l = Ru.parse (l.map bts) := rfl
  rw [e] at h
  rcases Ru.parse_ok (l.map bts) with h1 | h1
  · have := h1.2.2.1
    rwa [List.length_map] at this
  · exact absurd h h1.1
/-- A line that is read adds no more texts than it has. -/
theorem step_words (s s' : S) (t : List Txt) (hf : Full s) (h : Src.step own s t = .ok s') : Full s' ∧ ns s' ≤ ns s + t.length := by
  unfold Src.step at h
  split at h
  · split at h
    · cases h
    · unfold eraStep at h
      split at h
      · rename_i h0
        cases h
        have h1 := era_words _ h0
        have h2 := nzs_more (own.era (t.drop 0)).1 s.zones hf
        rw [List.length_drop] at h1
        refine ⟨addEra_full _ _ fun z hz => hf z ((List.dropLast_sublist _).subset hz), ?_⟩
        unfold ns
        simp only
        omega
      · cases h
  · split at h
    · unfold ruleStep at h
      split at h
      · cases h
      · split at h
        · rename_i h0
          cases h
          have h1 := rule_words _ h0
          rw [List.length_drop] at h1
          refine ⟨hf, ?_⟩
          unfold ns
          simp only [List.length_append, List.length_cons, List.length_nil]
          omega
        · cases h
    · split at h
      · unfold zoneStep at h
        split at h
        · cases h
        · split at h
          · cases h
          · split at h
            · cases h
            · unfold eraStep at h
              split at h
              · rename_i h0
                cases h
                have h1 := era_words _ h0
                have h2 := nzs_add (own.era (t.drop 2)).1 (s.zones ++ [(t.getD 1 [], [])])
                rw [nzs_app, show nzs [(t.getD 1 [], ([] : List Er.E))] = 0 from rfl] at h2
                rw [List.length_drop] at h1
                refine ⟨addEra_full _ _ fun z hz => hf z (by rw [List.dropLast_append_of_ne_nil (by simp)] at hz; simpa using hz), ?_⟩
                unfold ns
                simp only
                omega
              · cases h
      · split at h
        · unfold linkStep at h
          split at h
          · cases h
          · split at h
            · cases h
            · split at h
              · cases h
              · rename_i h3
                split at h
                · cases h
                · cases h
                  simp only [List.length_take, List.length_drop] at h3
                  refine ⟨hf, ?_⟩
                  unfold ns
                  simp only [List.length_append, List.length_cons, List.length_nil]
                  omega
        · cases h
theorem readGo_words : ∀ (L : List Ln) (s s' : S), Full s → readGo own L s = .ok s' → 2 * ns s' ≤ 2 * ns s + weight L
  | [], s, s', _, h => by
    simp only [readGo, Par.ok.injEq] at h
    subst h
    exact Nat.le_add_right _ _
  | l :: L, s, s', hf, h => by
    rw [readGo_cons] at h
    cases h1 : Src.step own s (l.2.map (·.1)) with
    | bad place why => rw [h1] at h; cases h
    | ok s1 =>
      rw [h1] at h
      obtain ⟨g1, w1⟩ := step_words s s1 _ hf h1
      have w2 := readGo_words L s1 s' g1 h
      rw [List.length_map] at w1
      simp only [weight]
      omega
/-- What is read of a short text is right, and has a text that is not too long. -/
theorem read_back (t : Txt) (x : S) (hs : t.length ≤ 16384) (h : parse own t = .ok x) : Rk x ∧ x.op = false ∧ (text x).length ≤ 1048576 := by
  obtain ⟨hR, ho⟩ := parse_right own RkR RkE (fun l hl => by
    have hown : own.rule l = Ru.parse (l.map bts) := rfl
    rw [hown] at hl ⊢
    rcases Ru.parse_ok (l.map bts) with h | h
    · exact ⟨h.2.2.2.1, h.2.2.2.2⟩
    · exact absurd hl h.1) (fun l hl => by
    have hown : own.era l = Er.parse (l.map bts) := rfl
    rw [hown] at hl ⊢
    rcases Er.parse_ok (l.map bts) with h | h
    · exact ⟨h.2.2.1, h.2.2.2.1⟩
    · exact absurd hl h.1) t x (by omega) h
  obtain ⟨L, h1, h2, _⟩ := parse_ok own t x (by omega) h
  have w1 := linesGo_weight _ _ _ _ h1
  rw [splitNl_bytes] at w1
  have w2 := readGo_words L St.none_ x (fun z hz => by cases hz) h2
  have w3 := flat_len (lns x) (lns_ok hR ho)
  rw [nw_lns] at w3
  refine ⟨hR, ho, ?_⟩
  have w4 : ns (St.none_ : S) = 0 := rfl
  have w5 : weight ([] : List Ln) = 0 := rfl
  have w6 : (text x).length = ((lns x).flatMap ltn).length := rfl
  omega
end Pr
end Go.Proofs.YtlhoggalhjadgaaGreatDoor

/- print.Zone of a right zone. -/
namespace Go.Proofs.YtlhoggalhjadgaaGreatDoor
open Go.RowKit

namespace Pr
open Go.Proofs.YtlhoggalhjadgaaGreatDoor.Src
/-- A line as a string. -/
def ltb (l : Line) : ByteArray := (if l.1 then ⟨#[9]⟩ else ⟨#[]⟩) ++ Sc.line l.2
theorem ltb_tl (l : Line) : tl (ltb l) = lt l := by
  unfold ltb lt tl
  rw [ByteArray.data_append, Array.toList_append]
  split <;> rfl
theorem ofZone_len (z : Txt × List Er.E) : (ofZone z).length = z.2.length := by
  unfold ofZone ofEras
  split
  · rename_i h; rw [h]; rfl
  · rename_i e es h; rw [h]; simp
theorem ofZone_at (z : Txt × List Er.E) (i : Nat) (e : Er.E) (h : z.2[i]? = some e) : (ofZone z)[i]? = some (if i = 0 then ofEra1 z.1 e else ofEra e) := by
  unfold ofZone ofEras
  split
  · rename_i h0; rw [h0] at h; simp at h
  · rename_i x es h0
    rw [h0] at h
    cases i with
    | zero => simp at h; subst h; simp
    | succ j => simp at h ⊢; exact ⟨e, h, rfl⟩
theorem take_next {α : Type} {l : List α} {i : Nat} {x : α} (h : l[i]? = some x) : l.take (i + 1) = l.take i ++ [x] := by
  rw [List.take_add_one, h]
  rfl
/-- The lines of a zone as strings. -/
def zl (z : Txt × List Er.E) : List ByteArray := (ofZone z).map ltb
/-- Strings that lie in a block. -/
def LinesAt (w : World) (g : Nat) (ls : List ByteArray) : Prop := ∃ (cur : Array Value) (fz : Nat × Nat), w.heap[g]? = some (.cells cur 9 fz) ∧ ∀ (j : Nat) (s : ByteArray), ls[j]? = some s → cur[j]? = some (Value.string s)
theorem own_lines {w : World} {B n : Nat} {v : Value} {ls : List ByteArray} (h : w.ownsRow B 9 1 v n (ls.map Value.string)) (hn : 1 ≤ n) : ∃ g c, v = .slice (some ⟨g, 0, none⟩) n c ∧ LinesAt w g ls := by
  obtain ⟨A, c, rfl, h1, h2⟩ := own_slice_cap h
  rcases h.2 with ⟨hv, h0⟩ | ⟨g, cap, cur, hv, hb, hg, _⟩
  · omega
  · injection hv with e1 e2 e3
    subst e1 e3
    refine ⟨g, c, rfl, cur, (0, 0), hg, fun j s hs => ?_⟩
    obtain ⟨ad, e, _, hc⟩ := (Reads.of_own h).2 (by omega)
    injection e with e
    subst e
    have h3 := hc j (.string s) (by rw [List.getElem?_map, hs]; rfl)
    have e : (⟨g, 0, none⟩ : Addr).add j = ⟨g, j, none⟩ := by
      unfold Addr.add
      rcases Nat.eq_zero_or_pos j with h0 | h0
      · subst h0; rfl
      · simp [show ¬ j = 0 by omega]
    rw [e, Lib.cell_of_heap hg] at h3
    exact h3
end Pr
theorem prZone_src (z : Src.Txt × List Er.E) (ev : Value) (w : World) (h : Src.RowR w w.heap.size 13 z.2.length ev (z.2.flatMap Er.E.cells)) : Src.SrcR (w.alloc (.cells #[.string (Src.bts z.1), ev] 53)) (w.alloc (.cells #[.string (Src.bts z.1), ev] 53)).heap.size ⟨[], [z], [], false⟩ (.slice none 0 0) (.slice (some ⟨w.heap.size, 0, none⟩) 1 1) (.slice none 0 0) [ev] := by
  have hn : ∀ (W : World) (B size : Nat), Src.RowR W B size 0 (.slice none 0 0) [] := fun W B size => ⟨none, 0, rfl, Nat.le_refl _, by decide, ⟨by simp, fun h => absurd h (by omega)⟩⟩
  refine ⟨hn _ _ _, ⟨_, 1, rfl, Nat.le_refl _, by decide, ⟨rfl, fun _ => ⟨_, rfl, by simp, fun j u hj => ?_⟩⟩⟩, hn _ _ _, rfl, fun p hp => ?_⟩
  · have hA := At.new w #[.string (Src.bts z.1), ev] 53
    have e : (([z].zip [ev]).flatMap Src.zc) = [.string (Src.bts z.1), ev] := rfl
    rw [e] at hj
    have hc := hA.cell j u hj
    rcases Nat.eq_zero_or_pos j with h0 | h0
    · subst h0; exact hc
    · simpa [Addr.add, show ¬ j = 0 by omega] using hc
  · rw [show ([z].zip [ev]) = [(z, ev)] from rfl, List.mem_singleton] at hp
    subst hp
    exact (h.below ((Below.refl w.heap.size w).alloc (Nat.le_refl _) _)).more (by simp)
theorem rk_zoneB {z : Src.Txt × List Er.E} (hb : Src.Base Src.own Pr.RkE z) (hd : Src.Done Src.own z) : Src.zoneB z = true := Src.zoneB_done ⟨hb.1, hb.2.1, fun e he => (hb.2.2 e he).1⟩ hd
theorem rkE_small {e : Er.E} (h : e.Ok) : e.fm.size ≤ 1000000 ∧ e.ru.size ≤ 1000000 := by
  obtain ⟨_, hf, hk, _⟩ := h
  refine ⟨by have := Ab.fmt_size e.fm hf; omega, ?_⟩
  rcases hk with ⟨_, _, hr⟩ | ⟨_, _, hr⟩ | ⟨_, _, hr⟩
  · rw [hr]; decide
  · rw [hr]; decide
  · have := Src.name_len hr
    rw [tl_length] at this
    omega
def ZRel (w1 : World) (ls : List ByteArray) (n : Nat) (v i : Value) (wr : World) : Prop :=
  ∃ k : Nat, k ≤ n ∧ i = .int .i64 k ∧ Hid (wr.ownsRow w1.heap.size 9 1 v k ((ls.take k).map Value.string)) ∧ Hid (Below w1.heap.size w1 wr)
set_option maxHeartbeats 4000000 in
set_option maxRecDepth 100000 in
theorem prZone_ok (z : Src.Txt × List Er.E) (ev : Value) (w : World) (hW : We w) (hb : Src.Base Src.own Pr.RkE z) (hd : Src.Done Src.own z) (hR : Src.RowR w w.heap.size 13 z.2.length ev (z.2.flatMap Er.E.cells)) :
    Calls Tryz.prog 14 #[.agg #[.string (Src.bts z.1), ev]] w fun e w' => ∃ g c, e = .returned (.tuple #[.slice (some ⟨g, 0, none⟩) z.2.length c, .int .i64 0]) ∧ Pr.LinesAt w' g (Pr.zl z) ∧ Below w.heap.size w w' := by
  have hC := fun W hw hr => srcCheck_any ⟨[], [z], [], false⟩ (.slice none 0 0) (.slice (some ⟨w.heap.size + 1, 0, none⟩) 1 1) (.slice none 0 0) [ev] W hw hr ⟨Nat.zero_le _, by show 1 ≤ 1024; omega, Nat.zero_le _⟩
    ⟨fun r hr => (by cases hr), fun q hq => by
      rw [List.mem_singleton] at hq
      subst hq
      refine ⟨by have := Src.name_len (show Ru.name q.1 = true from hb.1); omega, fun e he => ?_⟩
      have := rkE_small (hb.2.2 e he).1
      unfold maxLen
      exact ⟨by omega, by omega⟩, fun q hq => (by cases hq)⟩
  have hsb : Src.srcB ⟨[], [z], [], false⟩ = true := by
    unfold Src.srcB
    simp [rk_zoneB hb hd]
  rw [hsb, if_pos rfl] at hC
  have hn0 : 1 ≤ z.2.length := by
    obtain ⟨es, e, he, _⟩ := hd
    rw [he]
    simp
  have hn64 : z.2.length ≤ 64 := hb.2.1
  have hS := prZone_src z ev
  have hAt := Pr.ofZone_at z
  have hLn := Pr.ofZone_len z
  have hLk := Pr.ofZone_ok hb
  have hE : ∀ e ∈ z.2, Pr.RkE e := hb.2.2
  obtain ⟨nm, es⟩ := z
  simp only at hC hn0 hn64 hS hAt hLn hE hR ⊢
  obtain ⟨xn, hxn⟩ : ∃ x, Src.bts nm = x := ⟨_, rfl⟩
  rw [hxn] at hS ⊢
  have HX := Lib.hid hxn
  obtain ⟨LS, hLS⟩ : ∃ l, Pr.zl (nm, es) = l := ⟨_, rfl⟩
  have hls : LS.length = es.length := by rw [← hLS]; unfold Pr.zl; rw [List.length_map]; exact hLn
  have hlat : ∀ i e, es[i]? = some e → LS[i]? = some (Pr.ltb (if i = 0 then Pr.ofEra1 nm e else Pr.ofEra e)) := fun i e he => by
    rw [← hLS]
    unfold Pr.zl
    rw [List.getElem?_map, hAt i e he]
    rfl
  have hlok : ∀ i e, es[i]? = some e → Pr.LineOk (if i = 0 then Pr.ofEra1 nm e else Pr.ofEra e) := fun i e he => hLk _ (List.mem_of_getElem? (hAt i e he))
  rw [hLS]
  obtain ⟨A, c, rfl, hnc, hcm, hrr⟩ := hR
  obtain ⟨n, hn⟩ : ∃ n, es.length = n := ⟨_, rfl⟩
  rw [hn] at hrr hnc hn0 hn64 hls hC hS ⊢
  have HN := Lib.hid hn
  have HLs := Lib.hid hls
  have HLat := Lib.hid hlat
  have HLok := Lib.hid hlok
  have HEs := Lib.hid hE
  have HRr := Lib.hid hrr
  have HW := Lib.hid hW
  have HA0 := Lib.hid (At.new w #[.string xn, .slice A n c] 53)
  have HB0 := Lib.hid ((Below.refl w.heap.size w).alloc (Nat.le_refl _) (.cells #[.string xn, .slice A n c] 53))
  have HC := Lib.hid (hC _ (hW.a.below (((Below.refl w.heap.size w).alloc (Nat.le_refl _) (.cells #[.string xn, .slice A n c] 53)).alloc (by simp) (.cells #[.string xn, .slice A n c] 53)))
    (by
      have h1 := hS (w.alloc (.cells #[.string xn, .slice A n c] 53)) ⟨A, c, rfl, hnc, hcm, (hrr.below ((Below.refl w.heap.size w).alloc (Nat.le_refl _) _)).more (by simp)⟩
      simpa using h1))
  clear hC hsb hb hd hS hAt hLn hLk hE hxn hLS hls hlat hlok hrr hW hn
  obtain ⟨i0, i1, i2, i3, i4⟩ := info_parts str_info
  have HI := Lib.hid (And.intro i1 (And.intro i2 (And.intro i3 i4)))
  clear i1 i2 i3 i4
  unfold maxLen at hcm
  obtain ⟨h, hh⟩ : ∃ h, w.heap.size = h := ⟨_, rfl⟩
  rw [hh] at HC
  go_enter Tryz.func14, Tryz.ntmps14
  go_wp2_with fail
  refine HC.out.mono ?_
  rintro e w1 ⟨rfl, hb⟩
  have HA1 := Lib.hid ((HA0.out.alloc #[.string xn, .slice A n c] 53).call hb)
  have HB1 := Lib.hid (below_then (HB0.out.alloc HB0.out.size _) hb)
  clear hb HA0 HB0 HC
  rw [hh] at HA1
  have HH := Lib.hid hh
  obtain ⟨a0, a1, _⟩ := HA1.out.two
  have HO0 := Lib.hid (Go.World.ownsRow_nil w1 w1.heap.size 9 1)
  clear hh
  go_wp2_with fail
  clear a0 a1
  go_loopw [4, 20] (fun v i wr => ZRel w1 LS n v i wr) (fun _ i _ => n - (intOf i).toNat)
  case atStart => exact ⟨0, Nat.zero_le _, rfl, HO0.out, Below.refl _ _⟩
  case round =>
    obtain ⟨i, hi, rfl, HO, HB⟩ := hrel
    by_cases hlt : i < n
    · have q3 : (0 : Int) ≤ (i : Int) := by omega
      have q4 : (i : Int) < (n : Int) := by omega
      have hBw : Below w.heap.size w wr := HB1.out.trans (HB.out.mono HB1.out.size)
      obtain ⟨ad, x, rfl, hab, Hx, HL0⟩ := Ix.reads_cells (enc := Er.E.cells) (m := 13) (fun _ => rfl) HN.out (HRr.out.below hBw) hlt
      have HBw := Lib.hid hBw
      clear hBw
      obtain ⟨hxo, hxc⟩ := HEs.out x (List.mem_of_getElem? Hx.out)
      have hsm := rkE_small hxo
      have hT := fun W hw hwa => erText_ok x W hw hwa hxo hxc hsm.1 hsm.2
      have hla := HLat.out i x Hx.out
      have hlo := HLok.out i x Hx.out
      obtain ⟨TX, hTX⟩ : ∃ l, x.texts = l := ⟨_, rfl⟩
      have hlo0 : i = 0 → Pr.LineOk (false, [Pr.ZONE, xn] ++ TX) ∧ LS[i]? = some (⟨#[]⟩ ++ Sc.line ([Pr.ZONE, xn] ++ TX)) := fun h0 => by
        rw [if_pos h0] at hla hlo
        unfold Pr.ofEra1 at hla hlo
        rw [hTX, HX.out] at hla hlo
        exact ⟨hlo, hla⟩
      have hlo1 : ¬ i = 0 → Pr.LineOk (true, [] ++ TX) ∧ LS[i]? = some (⟨#[9]⟩ ++ Sc.line ([] ++ TX)) := fun h0 => by
        rw [if_neg h0] at hla hlo
        unfold Pr.ofEra at hla hlo
        rw [hTX] at hla hlo
        exact ⟨hlo, hla⟩
      unfold StrsRet at hT
      simp only [hTX] at hT
      obtain ⟨nT, hnT⟩ : ∃ n, TX.length = n := ⟨_, rfl⟩
      rw [hnT] at hT
      obtain ⟨std, ek, esv, ru, fm, en, ⟨y, m, dk, dn, dd, sc, cc⟩⟩ := x
      unfold Er.E.v at hT
      simp only at hT
      have HT := Lib.hid hT
      have HLo0 := Lib.hid hlo0
      have HLo1 := Lib.hid hlo1
      have x0 : wr.cell? (ad.add (i * 13)) = some (.int .i64 std) := HL0.out 0 _ rfl
      have x1 : wr.cell? ⟨(ad.add (i * 13)).block, (ad.add (i * 13)).off + 1, none⟩ = some (.int .u8 ek) := HL0.out 1 _ rfl
      have x2 : wr.cell? ⟨(ad.add (i * 13)).block, (ad.add (i * 13)).off + 2, none⟩ = some (.int .i64 esv) := HL0.out 2 _ rfl
      have x3 : wr.cell? ⟨(ad.add (i * 13)).block, (ad.add (i * 13)).off + 3, none⟩ = some (.string ru) := HL0.out 3 _ rfl
      have x4 : wr.cell? ⟨(ad.add (i * 13)).block, (ad.add (i * 13)).off + 4, none⟩ = some (.string fm) := HL0.out 4 _ rfl
      have x5 : wr.cell? ⟨(ad.add (i * 13)).block, (ad.add (i * 13)).off + 5, none⟩ = some (.bool en) := HL0.out 5 _ rfl
      have x6 : wr.cell? ⟨(ad.add (i * 13)).block, (ad.add (i * 13)).off + 6, none⟩ = some (.int .i64 y) := HL0.out 6 _ rfl
      have x7 : wr.cell? ⟨(ad.add (i * 13)).block, (ad.add (i * 13)).off + 7, none⟩ = some (.int .i64 m) := HL0.out 7 _ rfl
      have x8 : wr.cell? ⟨(ad.add (i * 13)).block, (ad.add (i * 13)).off + 8, none⟩ = some (.int .u8 dk) := HL0.out 8 _ rfl
      have x9 : wr.cell? ⟨(ad.add (i * 13)).block, (ad.add (i * 13)).off + 9, none⟩ = some (.int .i64 dn) := HL0.out 9 _ rfl
      have x10 : wr.cell? ⟨(ad.add (i * 13)).block, (ad.add (i * 13)).off + 10, none⟩ = some (.int .i64 dd) := HL0.out 10 _ rfl
      have x11 : wr.cell? ⟨(ad.add (i * 13)).block, (ad.add (i * 13)).off + 11, none⟩ = some (.int .i64 sc) := HL0.out 11 _ rfl
      have x12 : wr.cell? ⟨(ad.add (i * 13)).block, (ad.add (i * 13)).off + 12, none⟩ = some (.int .u8 cc) := HL0.out 12 _ rfl
      have HA2 := Lib.hid ((HA1.out.below HB.out HA1.out.lt).allocO (.cells #[.int .i64 std, .int .u8 ek, .int .i64 esv, .string ru, .string fm, .bool en, .int .i64 y, .int .i64 m, .int .u8 dk, .int .i64 dn, .int .i64 dd, .int .i64 sc, .int .u8 cc] 62))
      have HBa := Lib.hid (HB.out.alloc HB.out.size (.cells #[.int .i64 std, .int .u8 ek, .int .i64 esv, .string ru, .string fm, .bool en, .int .i64 y, .int .i64 m, .int .u8 dk, .int .i64 dn, .int .i64 dd, .int .i64 sc, .int .u8 cc] 62))
      have HOa := Lib.hid (own_below HO.out ((Below.refl wr.heap.size wr).alloc (Nat.le_refl _) (.cells #[.int .i64 std, .int .u8 ek, .int .i64 esv, .string ru, .string fm, .bool en, .int .i64 y, .int .i64 m, .int .u8 dk, .int .i64 dn, .int .i64 dd, .int .i64 sc, .int .u8 cc] 62)))
      clear hxo hxc hsm hT hla hlo hTX hlo0 hlo1 hnT
      go_wp2_with fail
      refine (HT.out _ (HW.out.below (HBw.out.alloc HBw.out.size _)).c (HW.out.below (HBw.out.alloc HBw.out.size _)).a).mono ?_
      rintro e w2 ⟨AT, cT, hcT, rfl, hrT, hb⟩
      have HA3 := Lib.hid (HA2.out.call hb)
      have HB3 := Lib.hid (below_then HBa.out hb)
      have HO3 := Lib.hid (own_below HOa.out hb)
      have HRT := Lib.hid hrT
      clear hb hrT x0 x1 x2 x3 x4 x5 x6 x7 x8 x9 x10 x11 x12 HA2 HBa HOa
      obtain ⟨a0, a1, _⟩ := HA3.out.two
      go_wp2_with fail
      go_region
      obtain ⟨g3, hg3⟩ : ∃ g, w2.heap.size = g := ⟨_, rfl⟩
      obtain ⟨w3, hw3⟩ : ∃ x, (w2.alloc (.cells #[.string ⟨#[90, 111, 110, 101]⟩, .string xn] 9)).drew = x := ⟨_, rfl⟩
      have HRf := Lib.hid (show Reads w3 w3.heap.size 1 (some ⟨g3, 0, none⟩) 2 ([Pr.ZONE, xn].map Value.string) by rw [← hw3]; exact er_reads w2 g3 [Pr.ZONE, xn] 9 hg3.symm)
      have hb3 : Below w2.heap.size w2 w3 := by rw [← hw3]; exact ((Below.refl w2.heap.size w2).alloc (Nat.le_refl _) _).drew
      have HB4 := Lib.hid (below_then HB3.out hb3)
      have HO4 := Lib.hid (own_below HO3.out hb3)
      have HRT4 := Lib.hid ((HRT.out.below hb3).more hb3.size)
      rw [hw3]
      rw [hg3]
      clear hw3 hg3 hb3 a0 a1 HB3 HO3 HRT HA3
      by_cases h0 : i = 0
      · obtain ⟨hok, hls⟩ := HLo0.out h0
        subst h0
        have HJ := Lib.hid fun (W : World) hr1 hr2 => prJoin_line (b := false) (some ⟨g3, 0, none⟩) AT 2 nT 2 cT [Pr.ZONE, xn] TX W hok hr1 hr2
        obtain ⟨Y, hY⟩ : ∃ Y, Sc.line ([Pr.ZONE, xn] ++ TX) = Y := ⟨_, rfl⟩
        have hys : Y.size ≤ 650 := by rw [← hY]; exact hok.size'
        rw [hY] at HJ hls
        have HLx := Lib.hid (Pr.take_next hls)
        have s1 : ∀ W, (Op.stringOp .add ⟨#[]⟩ Y).run Tryz.prog W = .ok (.string (⟨#[]⟩ ++ Y)) W := fun W => run_string_add_sum W _ _ (by have : (⟨#[]⟩ : ByteArray).size = 0 := rfl; omega)
        obtain ⟨YY, hYY⟩ : ∃ y, (⟨#[]⟩ : ByteArray) ++ Y = y := ⟨_, rfl⟩
        rw [hYY] at s1 HLx
        clear hok hls hY hYY hys HLo0 HLo1
        go_wp2_with fail
        refine (HJ.out _ HRf.out HRT4.out).mono ?_
        rintro e w5 ⟨rfl, hb⟩
        have HB5 := Lib.hid (below_then HB4.out hb)
        have HO5 := Lib.hid (own_below HO4.out hb)
        clear hb
        obtain ⟨vA, vc, hv, _, _⟩ := own_slice_cap HO5.out
        subst hv
        have hw5 := HB5.out.size
        have HAp := fun {ops : Array Oper} {rest : List Oper} {o : Oper} {a : Act} {Q : Exit → Act → World → Prop} (hgd : o.guard = none) (ho : o.op = .call { callee := .builtin .append, args := #[.tmp 46, .tmp 50], argTypes := #[48, 48] }) (hs : a.eval (.tmp 46) = .slice vA 0 vc) (hx : a.eval (.tmp 50) = .slice (some ⟨w5.heap.size, 0, none⟩) 1 1) h => wpList_append_any (P := Tryz.prog) (ops := ops) (rest := rest) (o := o) (a := a) (Q := Q) (w5.alloc (.cells #[.string YY] 9)) hgd (.tmp 46) (.tmp 50) 48 ho w1.heap.size 9 i0 _ 1 16 Tryz.underlying48 HI.out.1 HI.out.2.1 HI.out.2.2.1 HI.out.2.2.2 rfl (by decide) _ 0 _ hs (own_below HO5.out ((Below.refl w5.heap.size w5).alloc (Nat.le_refl _) _)) (w5.alloc (.cells #[.string YY] 9)).heap.size _ 1 1 _ hx (er_reads w5 w5.heap.size [YY] 9 rfl) (by simp [Value.oneCell']) (by unfold maxLen; omega) (by omega) (by simp; omega) h
        go_wp2_with (at_builtin; refine HAp rfl rfl rfl rfl ?_; intro v9' w9 hown9 hg9 hat9)
        have HO9 := Lib.hid (show w9.ownsRow w1.heap.size 9 1 v9' (0 + 1) ((LS.take (0 + 1)).map Value.string) by rw [HLx.out, List.map_append]; exact hown9)
        have HB9 := Lib.hid (show Below w1.heap.size w1 w9 from (HB5.out.alloc hw5 _).grown hg9 (by simp; omega) (fun kk hkk => (HO5.out.lt kk hkk).1))
        clear hown9 hg9 hat9 HAp
        go_wp2
        go_roundw
        case rel => exact ⟨0 + 1, by omega, by go_num, HO9.out, HB9.out⟩
        case measure => simp [intOf]; omega
      · obtain ⟨hok, hls⟩ := HLo1.out h0
        have q0 : (0 : Int) < (i : Int) := by omega
        have HJ := Lib.hid fun (W : World) hr1 hr2 => prJoin_line (b := true) none AT 0 nT 0 cT [] TX W hok hr1 hr2
        obtain ⟨Y, hY⟩ : ∃ Y, Sc.line ([] ++ TX) = Y := ⟨_, rfl⟩
        have hys : Y.size ≤ 650 := by rw [← hY]; exact hok.size'
        rw [hY] at HJ hls
        have HLx := Lib.hid (Pr.take_next hls)
        have s1 : ∀ W, (Op.stringOp .add ⟨#[9]⟩ Y).run Tryz.prog W = .ok (.string (⟨#[9]⟩ ++ Y)) W := fun W => run_string_add_sum W _ _ (by have : (⟨#[9]⟩ : ByteArray).size = 1 := rfl; omega)
        obtain ⟨YY, hYY⟩ : ∃ y, (⟨#[9]⟩ : ByteArray) ++ Y = y := ⟨_, rfl⟩
        rw [hYY] at s1 HLx
        clear hok hls hY hYY hys HLo0 HLo1 h0
        go_wp2_with fail
        refine (HJ.out _ Reads.none_ HRT4.out).mono ?_
        rintro e w5 ⟨rfl, hb⟩
        have HB5 := Lib.hid (below_then HB4.out hb)
        have HO5 := Lib.hid (own_below HO4.out hb)
        clear hb
        obtain ⟨vA, vc, hv, _, _⟩ := own_slice_cap HO5.out
        subst hv
        have hw5 := HB5.out.size
        have HAp := fun {ops : Array Oper} {rest : List Oper} {o : Oper} {a : Act} {Q : Exit → Act → World → Prop} (hgd : o.guard = none) (ho : o.op = .call { callee := .builtin .append, args := #[.tmp 46, .tmp 50], argTypes := #[48, 48] }) (hs : a.eval (.tmp 46) = .slice vA i vc) (hx : a.eval (.tmp 50) = .slice (some ⟨w5.heap.size, 0, none⟩) 1 1) h => wpList_append_any (P := Tryz.prog) (ops := ops) (rest := rest) (o := o) (a := a) (Q := Q) (w5.alloc (.cells #[.string YY] 9)) hgd (.tmp 46) (.tmp 50) 48 ho w1.heap.size 9 i0 _ 1 16 Tryz.underlying48 HI.out.1 HI.out.2.1 HI.out.2.2.1 HI.out.2.2.2 rfl (by decide) _ i _ hs (own_below HO5.out ((Below.refl w5.heap.size w5).alloc (Nat.le_refl _) _)) (w5.alloc (.cells #[.string YY] 9)).heap.size _ 1 1 _ hx (er_reads w5 w5.heap.size [YY] 9 rfl) (by simp [Value.oneCell']) (by unfold maxLen; omega) (by omega) (by simp; omega) h
        go_wp2_with (at_builtin; refine HAp rfl rfl rfl rfl ?_; intro v9' w9 hown9 hg9 hat9)
        have HO9 := Lib.hid (show w9.ownsRow w1.heap.size 9 1 v9' (i + 1) ((LS.take (i + 1)).map Value.string) by rw [HLx.out, List.map_append]; exact hown9)
        have HB9 := Lib.hid (show Below w1.heap.size w1 w9 from (HB5.out.alloc hw5 _).grown hg9 (by simp; omega) (fun kk hkk => (HO5.out.lt kk hkk).1))
        clear hown9 hg9 hat9 HAp
        go_wp2
        go_roundw
        case rel => exact ⟨i + 1, by omega, by go_num, HO9.out, HB9.out⟩
        case measure => simp [intOf]; omega
    · have q4 : ¬ (i : Int) < (n : Int) := by omega
      have hin : i = n := by omega
      subst hin
      have hown := HO.out
      rw [List.take_of_length_le (by rw [HLs.out]; exact Nat.le_refl _)] at hown
      obtain ⟨g, c', rfl, hLn⟩ := Pr.own_lines hown hn0
      have HLn := Lib.hid hLn
      have HBw := Lib.hid (show Below w.heap.size w wr from HB1.out.trans (HB.out.mono HB1.out.size))
      clear hown hLn
      go_wp2
      go_ret2
      exact ⟨g, ⟨c', rfl⟩, HLn.out, HBw.out⟩
end Go.Proofs.YtlhoggalhjadgaaGreatDoor
