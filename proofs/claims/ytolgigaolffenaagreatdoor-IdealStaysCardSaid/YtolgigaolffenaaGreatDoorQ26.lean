/- The plain law of ValidEach: what no flaws mean, and what a rule or a zone more does. -/
import Derived.Test.YtolgigaolffenaaGreatDoorQ25
import Derived.Test.YtolgigaolffenaaGreatDoorQ19
import Derived.Test.YtolgigaolffenaaGreatDoorQ08
import Derived.Laws.EntriesVeiled
import Derived.Lib.QuietBelow

namespace Go.Proofs.YtolgigaolffenaaGreatDoor
open Go.RowKit

namespace Vd
def Good (s : Src.S) : Nat → ByteArray → Prop
  | 0, x => x ∈ Lk.zn s
  | n + 1, x => x ∉ Lk.zn s ∧ ∃ j, Lk.first (Lk.ln s) x = some j ∧ Good s n ((Lk.tg s).getD j ⟨#[]⟩)
theorem good_one {s : Src.S} : ∀ {n m : Nat} {x : ByteArray}, Good s n x → Good s m x → n = m
  | 0, 0, _, _, _ => rfl
  | 0, m + 1, _, h, k => absurd h k.1
  | n + 1, 0, _, h, k => absurd k h.1
  | n + 1, m + 1, x, ⟨_, j, hj, h⟩, ⟨_, i, hi, k⟩ => by
    rw [hj] at hi
    cases hi
    rw [good_one h k]
theorem good_path {s : Src.S} : ∀ {n : Nat} {x : ByteArray}, Good s n x → ∃ p : List ByteArray, p.length = n ∧ p.Nodup ∧ ∀ y ∈ p, y ∈ Lk.ln s ∧ ∃ m, m ≤ n ∧ Good s m y
  | 0, _, _ => ⟨[], rfl, List.nodup_nil, fun y hy => by cases hy⟩
  | n + 1, x, h => by
    obtain ⟨hx, j, hj, hg⟩ := h
    obtain ⟨p, h1, h2, h3⟩ := good_path hg
    refine ⟨x :: p, by simp [h1], List.nodup_cons.2 ⟨fun hm => ?_, h2⟩, fun y hy => ?_⟩
    · obtain ⟨_, m, hm1, hm2⟩ := h3 x hm
      have := good_one hm2 (show Good s (n + 1) x from ⟨hx, j, hj, hg⟩)
      omega
    · rcases List.mem_cons.1 hy with rfl | hy
      · exact ⟨List.mem_of_getElem? (Lk.first_some hj), n + 1, Nat.le_refl _, hx, j, hj, hg⟩
      · obtain ⟨a, m, b, c⟩ := h3 y hy
        exact ⟨a, m, by omega, c⟩
theorem ln_len (s : Src.S) : (Lk.ln s).length = s.links.length := by unfold Lk.ln; simp
theorem good_le {s : Src.S} {n : Nat} {x : ByteArray} (h : Good s n x) : n ≤ s.links.length := by
  obtain ⟨p, h1, h2, h3⟩ := good_path h
  have := Lk.nodup_len p (Lk.ln s) h2 (fun y hy => (h3 y hy).1)
  rw [ln_len] at this
  omega
theorem find_good {s : Src.S} : ∀ (n f : Nat) (K : Lk.Kn) (x : ByteArray), Good s n x → n < f → (∀ m y, m ≤ n → Good s m y → K y = none) → (Lk.find (Lk.zn s) (Lk.ln s) (Lk.tg s) f K x).2.2 = 0
  | 0, f + 1, K, x, h, _, hK => by
    have h0 := hK 0 x (Nat.le_refl _) h
    cases hz : Lk.first (Lk.zn s) x with
    | none => exact absurd h (Lk.first_none.1 hz)
    | some i => rw [Lk.find, h0]; simp only [hz]
  | n + 1, f + 1, K, x, h, hf, hK => by
    obtain ⟨hx, j, hj, hg⟩ := h
    have hgx : Good s (n + 1) x := ⟨hx, j, hj, hg⟩
    have h0 := hK (n + 1) x (Nat.le_refl _) hgx
    have hz := Lk.first_none.2 hx
    rw [Lk.find, h0]
    simp only [hz, hj]
    refine find_good n f _ _ hg (by omega) (fun m y hm hy => ?_)
    have hne : y ≠ x := fun e => by
      rw [e] at hy
      have := good_one hy hgx
      omega
    unfold Lk.mark
    rw [if_neg hne]
    exact hK m y (by omega) hy
theorem good_find {s : Src.S} : ∀ (f : Nat) (K : Lk.Kn) (done : List ByteArray) (x : ByteArray), done.Nodup → (∀ d ∈ done, d ∈ Lk.ln s) → f + done.length = s.links.length + 1 → (∀ y ∈ done, K y = some Lk.loop) → (∀ y, y ∉ done → K y = none) →
    (Lk.find (Lk.zn s) (Lk.ln s) (Lk.tg s) f K x).2.2 = 0 → (∃ n, Good s n x) ∧ ∀ y ∈ (Lk.find (Lk.zn s) (Lk.ln s) (Lk.tg s) f K x).1, ∃ m, Good s m y
  | 0, K, done, x, hd, hl, hf, _, _, _ => by
    have := Lk.nodup_len done (Lk.ln s) hd hl
    rw [ln_len] at this
    omega
  | f + 1, K, done, x, hd, hl, hf, h1, h2, h => by
    by_cases hin : x ∈ done
    · rw [Lk.find, h1 x hin] at h
      cases h
    · have h0 := h2 x hin
      rw [Lk.find, h0] at h ⊢
      cases hz : Lk.first (Lk.zn s) x with
      | some i =>
        have hg : Good s 0 x := List.mem_of_getElem? (Lk.first_some hz)
        simp only
        exact ⟨⟨0, hg⟩, fun y hy => ⟨0, by rw [List.mem_singleton.1 hy]; exact hg⟩⟩
      | none =>
        simp only [hz] at h ⊢
        cases hj : Lk.first (Lk.ln s) x with
        | none =>
          simp only [hj] at h
          cases h
        | some j =>
          simp only [hj] at h ⊢
          have hxl : x ∈ Lk.ln s := List.mem_of_getElem? (Lk.first_some hj)
          obtain ⟨⟨n, hn⟩, hc⟩ := good_find f (Lk.mark K x Lk.loop) (x :: done) _ (List.nodup_cons.2 ⟨hin, hd⟩) (fun d hd => by
            rcases List.mem_cons.1 hd with rfl | hd
            · exact hxl
            · exact hl d hd) (by rw [List.length_cons]; omega) (fun y hy => by
            unfold Lk.mark
            by_cases e : y = x
            · rw [if_pos e]
            · rw [if_neg e]
              rcases List.mem_cons.1 hy with e2 | hy
              · exact absurd e2 e
              · exact h1 y hy) (fun y hy => by
            unfold Lk.mark
            rw [if_neg (fun e => hy (by rw [e]; exact List.mem_cons_self))]
            exact h2 y (fun q => hy (List.mem_cons_of_mem _ q))) h
          have hg : Good s (n + 1) x := ⟨Lk.first_none.1 hz, j, hj, hn⟩
          refine ⟨⟨n + 1, hg⟩, fun y hy => ?_⟩
          rcases List.mem_cons.1 hy with rfl | hy
          · exact ⟨n + 1, hg⟩
          · exact hc y hy
def Leads (s : Src.S) (x : ByteArray) : Prop := ∃ n, Good s n x
theorem leads_walk {s : Src.S} {x : ByteArray} (h : Leads s x) : (Lk.walk s x).2.2 = 0 := by
  obtain ⟨n, hn⟩ := h
  exact find_good n _ _ x hn (by have := good_le hn; omega) (fun _ _ _ _ => rfl)
theorem walk_leads {s : Src.S} {x : ByteArray} (h : (Lk.walk s x).2.2 = 0) : Leads s x ∧ ∀ y ∈ (Lk.walk s x).1, Leads s y :=
  good_find (s.links.length + 1) _ [] x List.nodup_nil (fun d hd => by cases hd) (by simp) (fun y hy => by cases hy) (fun y _ => rfl) h
def True_ (s : Src.S) (K : Em) : Prop := ∀ x e, K x = some e → e = 0 ∧ Leads s x
theorem True_.put {s : Src.S} {K : Em} (h : True_ s K) {x : ByteArray} (hx : Leads s x) : True_ s (em K x 0) := by
  intro y e he
  unfold em at he
  split at he
  · rename_i e2
    cases he
    rw [e2]
    exact ⟨rfl, hx⟩
  · exact h y e he
theorem True_.puts {s : Src.S} : ∀ {l : List ByteArray} {K : Em}, True_ s K → (∀ x ∈ l, Leads s x) → True_ s (ems K l 0)
  | [], _, h, _ => h
  | x :: l, K, h, hl => True_.puts (K := em K x 0) (h.put (hl x (by simp))) (fun y hy => hl y (by simp [hy]))
theorem K0_true (s : Src.S) : True_ s (K0 s) := True_.puts (fun x e h => by cases h) (fun x hx => ⟨0, hx⟩)
theorem asq_true {s : Src.S} {K : Em} {T : ByteArray} (h : True_ s K) (hq : (asq s K T).1 = 0) : Leads s T ∧ True_ s (asq s K T).2 := by
  cases hK : K T with
  | some e =>
    rw [asq_some hK] at hq ⊢
    exact ⟨(h T e hK).2, h⟩
  | none =>
    rw [asq_none hK] at hq ⊢
    simp only at hq ⊢
    obtain ⟨h1, h2⟩ := walk_leads hq
    rw [hq]
    exact ⟨h1, (h.put h1).puts h2⟩
theorem asq_leads {s : Src.S} {K : Em} {T : ByteArray} (h : True_ s K) (ht : Leads s T) : (asq s K T).1 = 0 := by
  cases hK : K T with
  | some e => rw [asq_some hK]; exact (h T e hK).1
  | none => rw [asq_none hK]; exact leads_walk ht
theorem first_nodup {l : List ByteArray} {k : Nat} {x : ByteArray} (hd : l.Nodup) (h : l[k]? = some x) : Lk.first l x = some k := by
  induction l generalizing k with
  | nil => simp at h
  | cons y l ih =>
    obtain ⟨h1, h2⟩ := List.nodup_cons.1 hd
    unfold Lk.first
    cases k with
    | zero =>
      have e : y = x := by simpa using h
      rw [if_pos e]
    | succ k =>
      have hx : x ∈ l := List.mem_of_getElem? (by simpa using h)
      rw [if_neg (fun e => h1 (by rw [e]; exact hx)), ih h2 (by simpa using h)]
      rfl
theorem link_leads {s : Src.S} (hn : (Src.names s).Nodup) {k : Nat} {l : Src.Txt × Src.Txt} (hk : s.links[k]? = some l) (ht : Leads s (Src.bts l.1)) : Leads s (Src.bts l.2) := by
  obtain ⟨n, hg⟩ := ht
  have h1 : (Lk.ln s)[k]? = some (Src.bts l.2) := by unfold Lk.ln; rw [List.getElem?_map, hk]; rfl
  have h2 : (Lk.tg s).getD k ⟨#[]⟩ = Src.bts l.1 := by unfold Lk.tg; rw [List.getD, List.getElem?_map, hk]; rfl
  have hn' : (Lk.zn s ++ Lk.ln s).Nodup := hn
  obtain ⟨_, hd2, hd3⟩ := List.nodup_append.1 hn'
  refine ⟨n + 1, fun hz => hd3 _ hz _ (List.mem_of_getElem? h1) rfl, k, first_nodup hd2 h1, ?_⟩
  rw [h2]
  exact hg
theorem as1_true {s : Src.S} (hn : (Src.names s).Nodup) {K : Em} {k : Nat} {l : Src.Txt × Src.Txt} (hk : s.links[k]? = some l) (h : True_ s K) (ht : Leads s (Src.bts l.1)) (fl : List Fl) : True_ s (as1 s (K, fl) l).1 ∧ (as1 s (K, fl) l).2 = fl := by
  have hq := asq_leads h ht
  obtain ⟨_, h2⟩ := asq_true h hq
  unfold as1
  simp only [hq, if_true]
  refine ⟨?_, trivial⟩
  split
  · exact h2
  · exact h2.put (link_leads hn hk ht)
theorem asl_true {s : Src.S} (hn : (Src.names s).Nodup) : ∀ k, k ≤ s.links.length → (∀ i l, i < k → s.links[i]? = some l → Leads s (Src.bts l.1)) → True_ s (asl s (s.links.take k)).1 ∧ (asl s (s.links.take k)).2 = []
  | 0, _, _ => ⟨K0_true s, rfl⟩
  | k + 1, hk, h => by
    obtain ⟨h1, h2⟩ := asl_true hn k (by omega) (fun i l hi => h i l (by omega))
    obtain ⟨l, hl⟩ : ∃ l, s.links[k]? = some l := ⟨_, List.getElem?_eq_getElem (by omega)⟩
    rw [asl_next hl]
    have := as1_true hn hl h1 (h k l (by omega) hl) (asl s (s.links.take k)).2
    rw [h2] at this
    rw [show asl s (s.links.take k) = ((asl s (s.links.take k)).1, []) from by rw [← h2]]
    exact this
theorem as1_grows (s : Src.S) (st : Em × List Fl) (l : Src.Txt × Src.Txt) (h : (as1 s st l).2 = []) : st.2 = [] ∧ (asq s st.1 (Src.bts l.1)).1 = 0 := by
  unfold as1 at h
  simp only at h
  split at h
  · rename_i e
    exact ⟨h, e⟩
  · simp at h
theorem asl_empty {s : Src.S} (hn : (Src.names s).Nodup) : ∀ k, k ≤ s.links.length → (asl s (s.links.take k)).2 = [] → True_ s (asl s (s.links.take k)).1 ∧ ∀ i l, i < k → s.links[i]? = some l → Leads s (Src.bts l.1)
  | 0, _, _ => ⟨K0_true s, fun i l hi => by omega⟩
  | k + 1, hk, h => by
    obtain ⟨l, hl⟩ : ∃ l, s.links[k]? = some l := ⟨_, List.getElem?_eq_getElem (by omega)⟩
    rw [asl_next hl] at h ⊢
    obtain ⟨h1, h2⟩ := as1_grows s _ l h
    obtain ⟨h3, h4⟩ := asl_empty hn k (by omega) h1
    have ht := (asq_true h3 h2).1
    refine ⟨(as1_true hn hl h3 ht (asl s (s.links.take k)).2).1, fun i l' hi hl' => ?_⟩
    by_cases e : i = k
    · subst e
      rw [hl] at hl'
      cases hl'
      exact ht
    · exact h4 i l' (by omega) hl'
def AllLead (s : Src.S) : Prop := ∀ l ∈ s.links, Leads s (Src.bts l.1)
theorem asl_iff {s : Src.S} (hn : (Src.names s).Nodup) : (asl s s.links).2 = [] ↔ AllLead s := by
  constructor
  · intro h l hl
    obtain ⟨i, hi⟩ := List.getElem?_of_mem hl
    have := asl_empty hn s.links.length (Nat.le_refl _) (by rw [List.take_length]; exact h)
    exact this.2 i l (List.getElem?_eq_some_iff.1 hi).1 hi
  · intro h
    have := asl_true hn s.links.length (Nat.le_refl _) (fun i l _ hi => h l (List.mem_of_getElem? hi))
    rw [List.take_length] at this
    exact this.2
theorem tw_steps (l : List ByteArray) : ∀ k, k ≤ l.length → (steps (tw1 l) l k = [] ↔ (l.take k).Nodup)
  | 0, _ => by simp [steps]
  | k + 1, hk => by
    obtain ⟨x, hx⟩ : ∃ x, l[k]? = some x := ⟨_, List.getElem?_eq_getElem (by omega)⟩
    rw [steps_next hx, List.append_eq_nil_iff, tw_steps l k (by omega), List.take_add_one, hx]
    simp only [Option.toList_some]
    rw [List.nodup_append]
    by_cases hin : x ∈ l.take k
    · rw [tw1_in hin]
      constructor
      · rintro ⟨_, h⟩
        cases h
      · rintro ⟨_, _, h⟩
        exact absurd rfl (h x hin x (by simp))
    · rw [tw1_out hin]
      constructor
      · rintro ⟨h, _⟩
        refine ⟨h, by simp, fun a ha b hb e => hin ?_⟩
        rw [List.mem_singleton] at hb
        rw [← hb, ← e]
        exact ha
      · rintro ⟨h, _⟩
        exact ⟨h, rfl⟩
theorem tw_iff (l : List ByteArray) : tw l = [] ↔ l.Nodup := by
  unfold tw
  rw [tw_steps l l.length (Nat.le_refl _), List.take_length]
def AllRules (s : Src.S) : Prop := ∀ z ∈ s.zones, ∀ e ∈ z.2, e.k = 2 → e.ru ∈ rn s
theorem ms_iff (rn : List ByteArray) (e : Er.E) : ms rn e = [] ↔ (e.k = 2 → e.ru ∈ rn) := by
  by_cases h : e.k = 2
  · by_cases h2 : e.ru ∈ rn
    · rw [ms_there h2]; simp [h2]
    · rw [ms_yes h h2]; simp [h, h2]
  · rw [ms_kind h]; simp [h]
theorem mz_iff (s : Src.S) : s.zones.flatMap (mz s) = [] ↔ AllRules s := by
  unfold AllRules mz
  simp only [List.flatMap_eq_nil_iff, ms_iff]
def AllOrder (s : Src.S) : Prop := ∀ z ∈ s.zones, dz z = []
theorem flaws_iff (s : Src.S) : flaws s = [] ↔ (Src.names s).Nodup ∧ AllRules s ∧ AllOrder s ∧ AllLead s := by
  unfold flaws fC fB fA
  rw [List.append_eq_nil_iff, List.append_eq_nil_iff, List.append_eq_nil_iff, tw_iff, mz_iff]
  constructor
  · rintro ⟨⟨⟨h1, h2⟩, h3⟩, h4⟩
    exact ⟨h1, h2, List.flatMap_eq_nil_iff.1 h3, (asl_iff h1).1 h4⟩
  · rintro ⟨h1, h2, h3, h4⟩
    exact ⟨⟨⟨h1, h2⟩, List.flatMap_eq_nil_iff.2 h3⟩, (asl_iff h1).2 h4⟩
theorem well_iff (s : Src.S) : well s = true ↔ Src.srcB s = true ∧ flaws s = [] := by
  unfold well
  simp
end Vd
end Go.Proofs.YtolgigaolffenaaGreatDoor

/- The plain law of ValidEach: a rule more, a zone more. -/
namespace Go.Proofs.YtolgigaolffenaaGreatDoor
open Go.RowKit

namespace Vd
theorem well_parts {s : Src.S} (h : well s = true) : Src.srcB s = true ∧ (Src.names s).Nodup ∧ AllRules s ∧ AllOrder s ∧ AllLead s := by
  obtain ⟨h1, h2⟩ := (well_iff s).1 h
  exact ⟨h1, (flaws_iff s).1 h2⟩
end Vd
end Go.Proofs.YtolgigaolffenaaGreatDoor

/- What a source without flaws says of its zones' eras. -/
namespace Go.Proofs.YtolgigaolffenaaGreatDoor
open Go.RowKit

namespace Eg
structure ZoneOk (eras : List Er.E) : Prop where
  len : 1 ≤ eras.length ∧ eras.length ≤ 64
  ok : ∀ e ∈ eras, e.Ok
  en : ∀ (i : Nat) (e : Er.E), eras[i]? = some e → e.en = decide (i + 1 < eras.length)
  nom : ∀ e ∈ eras, e.en = true → (nomU e.u).2 = 0
theorem ds_parts (zn : ByteArray) : ∀ (es : List Er.E) (st : Int × Bool × List Vd.Fl), (es.foldl (Vd.ds1 zn) st).2.2 = [] → st.2.2 = [] ∧ ∀ e ∈ es, e.en = true → (nomU e.u).2 = 0
  | [], st, h => ⟨h, fun e he => (by cases he)⟩
  | e :: es, st, h => by
    rw [List.foldl_cons] at h
    obtain ⟨h1, h2⟩ := ds_parts zn es _ h
    have key : st.2.2 = [] ∧ (e.en = true → (nomU e.u).2 = 0) := by
      obtain ⟨la, eb, fs⟩ := st
      cases hen : e.en with
      | false =>
        rw [Vd.ds1_no hen] at h1
        exact ⟨h1, fun q => by cases q⟩
      | true =>
        obtain ⟨a, b, hn⟩ : ∃ a b, Mo.nom e.u.k e.u.n e.u.d e.u.y e.u.m e.u.s e.u.c = (a, b) := ⟨_, _, rfl⟩
        by_cases hb : b = 0
        · subst hb
          refine ⟨?_, fun _ => by unfold nomU; rw [hn]⟩
          unfold Vd.ds1 at h1
          rw [hen, hn] at h1
          simp only [if_true] at h1
          split at h1
          · simp at h1
          · exact h1
        · rw [Vd.ds1_bad hen hn hb] at h1
          simp at h1
    refine ⟨key.1, fun x hx => ?_⟩
    rcases List.mem_cons.1 hx with rfl | hx
    · exact key.2
    · exact h2 x hx
theorem erasB_parts : ∀ (l : List Er.E), Src.erasB l = true → (∀ e ∈ l, e.good = true) ∧ ∀ (i : Nat) (e : Er.E), l[i]? = some e → e.en = decide (i + 1 < l.length)
  | [], _ => ⟨fun e he => (by cases he), fun i e h => (by simp at h)⟩
  | e :: l, h => by
    unfold Src.erasB at h
    rw [Bool.and_eq_true, Bool.and_eq_true] at h
    obtain ⟨h1, h2, h3⟩ := h
    obtain ⟨k1, k2⟩ := erasB_parts l h3
    refine ⟨fun x hx => ?_, fun i x hx => ?_⟩
    · rcases List.mem_cons.1 hx with rfl | hx
      · exact h1
      · exact k1 x hx
    · cases i with
      | zero =>
        have : x = e := by simpa using hx.symm
        subst this
        have h4 : x.en = !l.isEmpty := by simpa using h2
        rw [h4]
        cases l <;> simp
      | succ i =>
        rw [k2 i x (by simpa using hx)]
        simp
theorem good_ok {e : Er.E} (h : e.good = true) : e.Ok := by
  unfold Er.E.good at h
  rw [decide_eq_true_eq] at h
  exact Classical.byContradiction fun hn => by
    rw [Er.chk_bad e hn] at h
    cases h
theorem zone_ok {s : Src.S} (h : Vd.well s = true) {z : Src.Txt × List Er.E} (hz : z ∈ s.zones) : ZoneOk z.2 := by
  obtain ⟨h1, _, _, h4, _⟩ := Vd.well_parts h
  unfold Src.srcB at h1
  rw [Bool.and_eq_true, Bool.and_eq_true, List.all_eq_true, List.all_eq_true] at h1
  have hzb := h1.2.1 z hz
  unfold Src.zoneB at hzb
  rw [Bool.and_eq_true, Bool.and_eq_true, Bool.and_eq_true, decide_eq_true_eq, decide_eq_true_eq] at hzb
  obtain ⟨_, h5, h6, h7⟩ := hzb
  obtain ⟨k1, k2⟩ := erasB_parts z.2 h7
  have hd := h4 z hz
  exact ⟨⟨h5, h6⟩, fun e he => good_ok (k1 e he), k2, (ds_parts (Src.bts z.1) z.2 (0, false, []) hd).2⟩
theorem rules_ok {s : Src.S} (h : Vd.well s = true) (hl : s.rules.length ≤ 4096) (hs : ∀ r ∈ s.rules, r.nm.size ≤ 1000000 ∧ r.lt.size ≤ 1000000) : RulesOk s.rules := by
  obtain ⟨h1, _⟩ := Vd.well_parts h
  unfold Src.srcB at h1
  rw [Bool.and_eq_true, List.all_eq_true] at h1
  exact ⟨hl, fun r hr => ⟨(Ru.R.good_iff r).1 (h1.1 r hr), hs r hr⟩⟩
theorem ZoneOk.fit {eras : List Er.E} (h : ZoneOk eras) {rules : List Ru.R} (hr : RulesOk rules) : Ln.Fit rules eras :=
  ⟨hr.time, fun e he => by
    obtain ⟨h1, _, h3, _⟩ := h.ok e he
    refine ⟨h1, ?_⟩
    rcases h3 with q | q | q
    · exact .inl ⟨q.1, q.2.1⟩
    · exact .inr (.inl q.1)
    · exact .inr (.inr q.1)⟩
theorem E_time {e : Er.E} (h : e.Ok) : e.k = 1 → IsTime e.sv := fun hk => by
  rcases h.2.2.1 with q | q | q
  · omega
  · exact q.2.1
  · omega
theorem end_ok {rules : List Ru.R} {eras : List Er.E} (hr : RulesOk rules) (h : ZoneOk eras) {e : Er.E} (he : e ∈ eras) (hen : e.en = true) :
    (Mo.ins (nomU e.u).1 e.u.c e.std (saved rules e (nomU e.u).1)).2 = 0 ∧ InT (nomU e.u).1 := by
  have hn := h.nom e he hen
  have hok := h.ok e he
  obtain ⟨r, hrr⟩ : ∃ r : Ru.R, r = ⟨⟨#[]⟩, e.u.y, e.u.y, e.u.m, e.u.k, e.u.n, e.u.d, e.u.s, e.u.c, 0, ⟨#[]⟩⟩ := ⟨_, rfl⟩
  have hnr : Oc.nomOf r e.u.y = nomU e.u := by rw [hrr]; rfl
  have hb := Oc.nom_bd (r := r) (y := e.u.y) (by rw [hnr]; exact hn)
  have hp := Oc.nom_ok (r := r) (y := e.u.y) (by rw [hnr]; exact hn)
  have hy := (Oc.inS_ok hp.2.1).2.1
  have hc : e.u.c < 3 := by
    have := hp.1.2
    rw [hrr] at this
    exact this
  rw [hnr] at hb
  have a := Oc.D_mono (show (1 : Int) ≤ e.u.y by omega)
  have b := Oc.D_mono (show e.u.y + 1 ≤ (10000 : Int) by omega)
  have c : Oc.D 1 = -719162 := by decide
  have d : Oc.D 10000 = 2932897 := by decide
  have hi : InT (nomU e.u).1 := by unfold InT; omega
  exact ⟨(Oc.ins_ok hi hc hok.1 (saved_time hr.time (E_time hok))).1, hi⟩
end Eg
end Go.Proofs.YtolgigaolffenaaGreatDoor

/- edge.Ends. -/
namespace Go.Proofs.YtolgigaolffenaaGreatDoor
open Go.RowKit Go.Shelf Go.Sort
attribute [local go_sem] Oper.semAt_some

theorem i64_info : (Tryz.prog.info? 2).map (fun i => (i.zero, i.size, i.bytes)) = some (some (.int .i64 0), 1, 8) := by kernel_rfl
namespace Eg
theorem rule_small {r : Ru.R} (h : r.Ok) : r.nm.size ≤ 1000000 ∧ r.lt.size ≤ 1000000 := by
  obtain ⟨h1, _, _, _, _, _, h7⟩ := h
  unfold Ru.name at h1
  unfold Ab.letter at h7
  rw [Bool.and_eq_true, decide_eq_true_eq, tl_length] at h1
  rw [Bool.and_eq_true, Bool.and_eq_true, decide_eq_true_eq] at h7
  omega
theorem rules_ok2 {s : Src.S} (h : Vd.well s = true) (hl : s.rules.length ≤ 4096) : RulesOk s.rules := by
  obtain ⟨h1, _⟩ := Vd.well_parts h
  unfold Src.srcB at h1
  rw [Bool.and_eq_true, List.all_eq_true] at h1
  exact rules_ok h hl fun r hr => rule_small ((Ru.R.good_iff r).1 (h1.1 r hr))
def zoneAt (s : Src.S) (z : Int) : Option (Src.Txt × List Er.E) := if 0 ≤ z then s.zones[z.toNat]? else none
def EndsOf (s : Src.S) (z : Int) (B : Nat) (e : Ending) (w' : World) : Prop :=
  (Vd.well s = false ∧ e = .returned (.tuple #[.slice none 0 0, .int .i64 2])) ∨ (Vd.well s = true ∧ zoneAt s z = none ∧ e = .returned (.tuple #[.slice none 0 0, .int .i64 3])) ∨
  (∃ x v, Vd.well s = true ∧ zoneAt s z = some x ∧ e = .returned (.tuple #[v, .int .i64 0]) ∧ w'.ownsRow B 2 1 v (ends s.rules x.2).length (i64s (ends s.rules x.2)))
def EnAt (rules : List Ru.R) (es : List Er.E) (m0 B : Nat) (w2 : World) (v i : Value) (wr : World) : Prop :=
  ∃ j : Nat, j ≤ m0 ∧ i = .int .i64 (j : Int) ∧ Hid (wr.ownsRow (B + 1) 2 1 v j (i64s ((ends rules es).take j))) ∧ Hid (Below (B + 1) w2 wr)
theorem ends_next {rules : List Ru.R} {es : List Er.E} {j m0 : Nat} {e : Er.E} (hm : es.length = m0 + 1) (hj : j < m0) (he : es[j]? = some e) : i64s ((ends rules es).take (j + 1)) = i64s ((ends rules es).take j) ++ [.int .i64 (endOf rules e)] := by
  have h : (ends rules es)[j]? = some (endOf rules e) := by
    unfold ends
    rw [List.getElem?_map, List.getElem?_dropLast, if_pos (by omega), he]
    rfl
  unfold i64s
  rw [List.take_add_one, h, List.map_append]
  rfl
end Eg
set_option maxHeartbeats 8000000 in
set_option maxRecDepth 100000 in
theorem ends_any (s : Src.S) (z : Int) (rv zv lv : Value) (evs : List Value) (w : World) (hR : Src.SrcR w w.heap.size s rv zv lv evs) (hS : Vd.Sz s) (hW : Wo w) (hA : Wa w) (hz : -9223372036854775808 ≤ z ∧ z < 9223372036854775808) (hcc : ∀ x ∈ s.zones, ∀ e ∈ x.2, 0 ≤ e.u.c) :
    Calls Tryz.prog 15 #[.agg #[rv, zv, lv], .int .i64 z] w fun e w' => Below w.heap.size w w' ∧ Eg.EndsOf s z w.heap.size e w' := by
  have hlen : (s.zones.zip evs).length = s.zones.length := by rw [List.length_zip, hR.len]; omega
  have hers := hR.eras
  have hzn : ∀ k x, (s.zones.zip evs)[k]? = some x → s.zones[k]? = some x.1 ∧ x ∈ s.zones.zip evs := fun k x h => ⟨(List.getElem?_zip_eq_some.1 h).1, List.mem_of_getElem? h⟩
  have L2 := hS.lims.zones
  have hRu : Vd.well s = true → Eg.RulesOk s.rules := fun h => Eg.rules_ok2 h hS.lims.rules
  obtain ⟨rA, rc, rfl, _⟩ := hR.rules
  obtain ⟨zA, zc, rfl, hz1, hzc, hrz⟩ := hR.zones
  obtain ⟨lA, lc, rfl, _⟩ := hR.links
  obtain ⟨n1, hn1⟩ : ∃ n, s.rules.length = n := ⟨_, rfl⟩
  obtain ⟨n2, hn2⟩ : ∃ n, s.zones.length = n := ⟨_, rfl⟩
  obtain ⟨n3, hn3⟩ : ∃ n, s.links.length = n := ⟨_, rfl⟩
  obtain ⟨W1, hW1⟩ : ∃ W, w.alloc (.cells #[.slice rA n1 rc, .slice zA n2 zc, .slice lA n3 lc] 26) = W := ⟨_, rfl⟩
  have hb1 : Below w.heap.size w W1 := by rw [← hW1]; exact (Below.refl _ _).alloc (Nat.le_refl _) _
  have hz9 : w.heap.size + 1 ≤ W1.heap.size := by rw [← hW1, World.size_alloc]; omega
  have hA1 : At W1 w.heap.size [.slice rA n1 rc, .slice zA n2 zc, .slice lA n3 lc] := by rw [← hW1]; exact At.new _ _ _
  have hCw := vdWell_any s _ _ _ evs W1 (hR.call hb1) hS (hW.below hb1) (hA.below hb1)
  rw [hn1, hn2, hn3] at hR
  rw [hn1, hn2, hn3] at hCw ⊢
  rw [hn2] at hrz hlen L2
  obtain ⟨b0, b1, b2, _⟩ := hA1.three
  unfold maxLen at hzc
  have HS := Lib.hid hS
  have HR := Lib.hid hR
  have HN2 := Lib.hid hn2
  have HB1 := Lib.hid hb1
  have HW1 := Lib.hid hW1
  have HA1 := Lib.hid hA1
  have HRz := Lib.hid hrz
  have HLen := Lib.hid hlen
  have HErs := Lib.hid hers
  have HZn := Lib.hid hzn
  have HRu := Lib.hid hRu
  have HWo := Lib.hid hW
  obtain ⟨bw, hbw⟩ : ∃ b, Vd.well s = b := ⟨_, rfl⟩
  rw [hbw] at hCw
  have HCw := Lib.hid hCw
  clear hR hS hW hA hn1 hn2 hn3 hb1 hW1 hA1 hCw hrz hlen hers hzn hRu
  cases bw with
  | false =>
    have HFin : Hid (∀ w', Below w.heap.size w w' → Below w.heap.size w w' ∧ Eg.EndsOf s z w.heap.size (.returned (.tuple #[.slice none 0 0, .int .i64 2])) w') := fun w' hb => ⟨hb, .inl ⟨hbw, rfl⟩⟩
    clear hbw
    go_enter Tryz.func15, Tryz.ntmps15
    go_wp2_with fail
    rw [HW1.out]
    refine HCw.out.mono ?_
    rintro r w2 ⟨rfl, hb2⟩
    have HB2 := Lib.hid (below_then HB1.out hb2)
    clear hb2 b0 b1 b2
    go_wp2
    go_ret2
    exact HFin.out _ HB2.out
  | true =>
    have HRu2 := Lib.hid (HRu.out hbw)
    by_cases hout : z < 0 ∨ (n2 : Int) ≤ z
    · have hno : Eg.zoneAt s z = none := by
        unfold Eg.zoneAt
        split
        · rw [List.getElem?_eq_none (by rw [HN2.out]; omega)]
        · rfl
      have HFin : Hid (∀ w', Below w.heap.size w w' → Below w.heap.size w w' ∧ Eg.EndsOf s z w.heap.size (.returned (.tuple #[.slice none 0 0, .int .i64 3])) w') := fun w' hb => ⟨hb, .inr (.inl ⟨hbw, hno, rfl⟩)⟩
      clear hbw hno
      rcases hout with ho | ho
      · go_enter Tryz.func15, Tryz.ntmps15
        go_wp2_with fail
        rw [HW1.out]
        refine HCw.out.mono ?_
        rintro r w2 ⟨rfl, hb2⟩
        have HB2 := Lib.hid (below_then HB1.out hb2)
        have HA2 := Lib.hid (HA1.out.call hb2)
        clear hb2 b0 b1 b2
        obtain ⟨c0, c1, c2, _⟩ := HA2.out.three
        go_wp2
        go_ret2
        exact HFin.out _ HB2.out
      · have ho2 : ¬ z < 0 := by omega
        go_enter Tryz.func15, Tryz.ntmps15
        go_wp2_with fail
        rw [HW1.out]
        refine HCw.out.mono ?_
        rintro r w2 ⟨rfl, hb2⟩
        have HB2 := Lib.hid (below_then HB1.out hb2)
        have HA2 := Lib.hid (HA1.out.call hb2)
        clear hb2 b0 b1 b2
        obtain ⟨c0, c1, c2, _⟩ := HA2.out.three
        go_wp2
        go_ret2
        exact HFin.out _ HB2.out
    · obtain ⟨k, rfl⟩ : ∃ k : Nat, z = (k : Int) := ⟨z.toNat, by omega⟩
      have hk : k < n2 := by omega
      obtain ⟨adz, x, rfl, hab, Hx, HL⟩ := Ix.reads_cells (enc := Src.zc) (m := 2) (fun _ => rfl) HLen.out HRz.out hk
      obtain ⟨hzk, hzm⟩ := HZn.out k x Hx.out
      have hyes : Eg.zoneAt s (k : Int) = some x.1 := by
        unfold Eg.zoneAt
        rw [if_pos (by omega)]
        exact hzk
      have hzo := Eg.zone_ok hbw (List.mem_of_getElem? hzk)
      obtain ⟨eA, ec, he2, hmec, hec, hre⟩ := HErs.out x hzm
      obtain ⟨zb, hzb⟩ : ∃ t, Src.bts x.1.1 = t := ⟨_, rfl⟩
      obtain ⟨es, hes⟩ : ∃ l, x.1.2 = l := ⟨_, rfl⟩
      rw [hes] at he2 hre hzo
      obtain ⟨m0, hm0⟩ : ∃ m0, es.length = m0 + 1 := ⟨es.length - 1, by have := hzo.len.1; omega⟩
      have hm63 : m0 ≤ 63 := by have := hzo.len.2; omega
      rw [hes, hm0] at hmec
      rw [hm0] at he2 hre
      have q5 : m0 ≤ ec := by omega
      have q6 : (m0 : Int) ≤ (ec : Int) := by omega
      have q7 : (0 : Int) ≤ (m0 : Int) := by omega
      clear hmec
      unfold maxLen at hec
      obtain ⟨i0, i1, i2, i3, i4⟩ := info_parts i64_info
      have HI := Lib.hid (And.intro i1 (And.intro i2 (And.intro i3 i4)))
      clear i1 i2 i3 i4
      have hmk := fun W : World => run_make (P := Tryz.prog) W 39 2 i0 _ Tryz.underlying39 HI.out.1 HI.out.2.1 .i64 .i64 0 ((m0 : Int) + 1) (by omega) (by omega) (by rw [HI.out.2.2.2]; omega) (by omega)
      rw [HI.out.2.2.1] at hmk
      obtain ⟨MC, hMC⟩ : ∃ x, madeCells (Value.int .i64 0).cells (((m0 : Int) + 1).toNat * 1) = x := ⟨_, rfl⟩
      rw [hMC] at hmk
      have hMs : MC.size = (m0 + 1) * 1 := by
        rw [← hMC, size_madeCells]
        simp
        try omega
      clear hMC
      have hw : Hid (∀ e (w' : World) v, e = .returned (.tuple #[v, .int .i64 0]) → Below w.heap.size w w' → w'.ownsRow (w.heap.size + 1) 2 1 v m0 (Eg.i64s ((Eg.ends s.rules es).take m0)) → Below w.heap.size w w' ∧ Eg.EndsOf s (k : Int) w.heap.size e w') := fun e w' v he hb ho => by
        refine ⟨hb, .inr (.inr ⟨x.1, v, hbw, hyes, he, ?_⟩)⟩
        rw [hes]
        have hl := Eg.ends_len s.rules es
        rw [hl, hm0, Nat.add_sub_cancel]
        rw [List.take_of_length_le (by omega)] at ho
        exact Sc.own_mono ho (by omega)
      have hcc2 : ∀ e ∈ es, 0 ≤ e.u.c := by rw [← hes]; exact hcc _ (List.mem_of_getElem? hzk)
      have HCc := Lib.hid hcc2
      clear hcc hcc2
      have HHe := Lib.hid he2
      have HHzb := Lib.hid hzb
      have HZo := Lib.hid hzo
      have HRe := Lib.hid hre
      have HM0 := Lib.hid hm0
      have c0' : Hid (∀ W, Below w.heap.size w W → W.cell? (adz.add (k * 2)) = some (.string zb) ∧ W.cell? ⟨(adz.add (k * 2)).block, (adz.add (k * 2)).off + 1, none⟩ = some (.slice eA (m0 + 1) ec)) := fun W hb => by
        have hg := hb.block (adz.add (k * 2)).block (by rw [block_of_add]; exact hab)
        exact ⟨(World.cell?_of_block hg).trans (by rw [← hzb]; exact HL.out 0 _ rfl), (World.cell?_of_block (by exact hg)).trans (by rw [← he2]; exact HL.out 1 _ rfl)⟩
      have q1 : (0 : Int) ≤ (k : Int) := by omega
      have q2 : ¬ (k : Int) < 0 := by omega
      have q3 : (k : Int) < (n2 : Int) := by omega
      have q4 : ¬ (n2 : Int) ≤ (k : Int) := by omega
      clear hbw hyes hzo he2 hzb hes hm0 hre hzk hzm Hx HL hout hz
      go_enter Tryz.func15, Tryz.ntmps15
      go_wp2_with fail
      rw [HW1.out]
      refine HCw.out.mono ?_
      rintro r w2 ⟨rfl, hb2⟩
      have HB2 := Lib.hid (below_then HB1.out hb2)
      have HA2 := Lib.hid (HA1.out.call hb2)
      have HZ2 : w.heap.size + 1 ≤ w2.heap.size := Nat.le_trans hz9 hb2.size
      clear hb2 b0 b1 b2
      obtain ⟨c0, c1, c2, _⟩ := HA2.out.three
      obtain ⟨u0, u1⟩ := c0'.out w2 HB2.out
      have hown0 : Hid ((w2.alloc (.cells MC 2)).ownsRow (w.heap.size + 1) 2 1 (.slice (some ⟨w2.heap.size, 0, none⟩) 0 (m0 + 1)) 0 []) := World.ownsRow_made w2 MC (m0 + 1) HZ2 (by unfold maxLen; omega) hMs
      have hbl0 : Hid (Below (w.heap.size + 1) w2 (w2.alloc (.cells MC 2))) := (Below.refl _ _).alloc HZ2 _
      go_wp2_with fail
      clear hmk hMs c0 c1 c2 u0 u1 q2 q3 q4 q5 q6
      go_loopw [7, 41] (fun v i wr => Eg.EnAt s.rules es m0 w.heap.size w2 v i wr) (fun _ i _ => m0 - (intOf i).toNat)
      case atStart => exact ⟨0, Nat.zero_le _, rfl, hown0, hbl0⟩
      case round =>
        clear hown0 hbl0
        obtain ⟨j, hj, rfl, HO, HB⟩ := hrel
        obtain ⟨vA, vc, rfl, hv1, hv2⟩ := own_slice_cap HO.out
        have hsz : w2.heap.size ≤ wr.heap.size := HB.out.size
        by_cases hlt : j < m0
        · have p1 : (0 : Int) ≤ (j : Int) := by omega
          have p2 : (j : Int) < (m0 : Int) := by omega
          have HBr : Hid (Below w.heap.size w wr) := HB2.out.trans (HB.out.mono (by omega))
          obtain ⟨ad, xe, rfl, habe, Hxe, HLe⟩ := Ix.reads_cells (enc := Er.E.cells) (m := 13) (fun _ => rfl) HM0.out (HRe.out.below HBr.out) (show j < m0 + 1 by omega)
          have hmem : xe ∈ es := List.mem_of_getElem? Hxe.out
          have hen : xe.en = true := by rw [HZo.out.en j xe Hxe.out, HM0.out]; exact decide_eq_true (by omega)
          have hno := HZo.out.nom xe hmem hen
          have heo := Eg.end_ok HRu2.out HZo.out hmem hen
          have hnx := Eg.ends_next (rules := s.rules) HM0.out hlt Hxe.out
          have hcl := (HZo.out.ok xe hmem).2.2.2
          obtain ⟨std, ek, esv, ru, fm, en, ⟨y, m, dk, dn, dd, sc, cc⟩⟩ := xe
          obtain rfl : en = true := hen
          obtain ⟨na, hn⟩ : ∃ a, Mo.nom dk dn dd y m sc cc = (a, 0) := ⟨_, Prod.ext rfl hno⟩
          have hn2 : Eg.nomU ⟨y, m, dk, dn, dd, sc, cc⟩ = (na, 0) := hn
          unfold Eg.endOf at hnx
          simp only [hn2] at heo hnx
          obtain ⟨heo, hnT⟩ := heo
          unfold InT at hnT
          obtain ⟨sv, hsv⟩ : ∃ v, Eg.saved s.rules ⟨std, ek, esv, ru, fm, true, ⟨y, m, dk, dn, dd, sc, cc⟩⟩ na = v := ⟨_, rfl⟩
          rw [hsv] at heo hnx
          obtain ⟨q, hins⟩ : ∃ q, Mo.ins na cc std sv = (q, 0) := ⟨_, Prod.ext rfl heo⟩
          rw [hins] at hnx
          have hcc0 : 0 ≤ cc := HCc.out _ hmem
          have y0 : wr.cell? (ad.add (j * 13)) = some (.int .i64 std) := HLe.out 0 _ rfl
          have y1 : wr.cell? ⟨(ad.add (j * 13)).block, (ad.add (j * 13)).off + 1, none⟩ = some (.int .u8 ek) := HLe.out 1 _ rfl
          have y2 : wr.cell? ⟨(ad.add (j * 13)).block, (ad.add (j * 13)).off + 2, none⟩ = some (.int .i64 esv) := HLe.out 2 _ rfl
          have y3 : wr.cell? ⟨(ad.add (j * 13)).block, (ad.add (j * 13)).off + 3, none⟩ = some (.string ru) := HLe.out 3 _ rfl
          have y4 : wr.cell? ⟨(ad.add (j * 13)).block, (ad.add (j * 13)).off + 4, none⟩ = some (.string fm) := HLe.out 4 _ rfl
          have y5 : wr.cell? ⟨(ad.add (j * 13)).block, (ad.add (j * 13)).off + 5, none⟩ = some (.bool true) := HLe.out 5 _ rfl
          have y6 : wr.cell? ⟨(ad.add (j * 13)).block, (ad.add (j * 13)).off + 6, none⟩ = some (.int .i64 y) := HLe.out 6 _ rfl
          have y7 : wr.cell? ⟨(ad.add (j * 13)).block, (ad.add (j * 13)).off + 7, none⟩ = some (.int .i64 m) := HLe.out 7 _ rfl
          have y8 : wr.cell? ⟨(ad.add (j * 13)).block, (ad.add (j * 13)).off + 8, none⟩ = some (.int .u8 dk) := HLe.out 8 _ rfl
          have y9 : wr.cell? ⟨(ad.add (j * 13)).block, (ad.add (j * 13)).off + 9, none⟩ = some (.int .i64 dn) := HLe.out 9 _ rfl
          have y10 : wr.cell? ⟨(ad.add (j * 13)).block, (ad.add (j * 13)).off + 10, none⟩ = some (.int .i64 dd) := HLe.out 10 _ rfl
          have y11 : wr.cell? ⟨(ad.add (j * 13)).block, (ad.add (j * 13)).off + 11, none⟩ = some (.int .i64 sc) := HLe.out 11 _ rfl
          have y12 : wr.cell? ⟨(ad.add (j * 13)).block, (ad.add (j * 13)).off + 12, none⟩ = some (.int .u8 cc) := HLe.out 12 _ rfl
          have hb10 := ((Below.refl wr.heap.size wr).alloc (Nat.le_refl _) (.cells #[.int .i64 std, .int .u8 ek, .int .i64 esv, .string ru, .string fm, .bool true, .int .i64 y, .int .i64 m, .int .u8 dk, .int .i64 dn, .int .i64 dd, .int .i64 sc, .int .u8 cc] 53)).alloc (by simp) (.cells #[.int .i64 y, .int .i64 m, .int .u8 dk, .int .i64 dn, .int .i64 dd, .int .i64 sc, .int .u8 cc] 51)
          have HNm := Lib.hid (nominal_any y m dk dn dd sc cc _ (HWo.out.below (HBr.out.trans (hb10.mono HBr.out.size))))
          rw [hn] at HNm
          have HA9 := Lib.hid ((At.new wr #[.int .i64 std, .int .u8 ek, .int .i64 esv, .string ru, .string fm, .bool true, .int .i64 y, .int .i64 m, .int .u8 dk, .int .i64 dn, .int .i64 dd, .int .i64 sc, .int .u8 cc] 53).alloc #[.int .i64 y, .int .i64 m, .int .u8 dk, .int .i64 dn, .int .i64 dd, .int .i64 sc, .int .u8 cc] 51)
          have HAu : Hid (At ((wr.alloc (.cells #[.int .i64 std, .int .u8 ek, .int .i64 esv, .string ru, .string fm, .bool true, .int .i64 y, .int .i64 m, .int .u8 dk, .int .i64 dn, .int .i64 dd, .int .i64 sc, .int .u8 cc] 53)).alloc (.cells #[.int .i64 y, .int .i64 m, .int .u8 dk, .int .i64 dn, .int .i64 dd, .int .i64 sc, .int .u8 cc] 51)) (wr.heap.size + 1) #[.int .i64 y, .int .i64 m, .int .u8 dk, .int .i64 dn, .int .i64 dd, .int .i64 sc, .int .u8 cc].toList) := by
            have := At.new (wr.alloc (.cells #[.int .i64 std, .int .u8 ek, .int .i64 esv, .string ru, .string fm, .bool true, .int .i64 y, .int .i64 m, .int .u8 dk, .int .i64 dn, .int .i64 dd, .int .i64 sc, .int .u8 cc] 53)) #[.int .i64 y, .int .i64 m, .int .u8 dk, .int .i64 dn, .int .i64 dd, .int .i64 sc, .int .u8 cc] 51
            rw [World.size_alloc] at this
            exact this
          have HAs := Lib.hid ((HA2.out.below HB.out (by omega)).call hb10)
          have HB10 := Lib.hid hb10
          have HNx := Lib.hid hnx
          have HSv := Lib.hid hsv
          have HIns := Lib.hid hins
          clear hb10 hno hmem heo hcl hn hn2 hnx hsv hins
          go_wp2_with fail
          refine HNm.out.mono ?_
          rintro e w3 ⟨rfl, hb3⟩
          replace HA9 := Lib.hid (HA9.out.call hb3)
          replace HAu := Lib.hid (HAu.out.call hb3)
          replace HAs := Lib.hid (HAs.out.call hb3)
          have HB3 := Lib.hid (below_then HB10.out hb3)
          clear hb3 HB10 y0 y1 y2 y3 y4 y5 y6 y7 y8 y9 y10 y11 y12
          go_wp2_with fail
          have d0 := HA9.out.cell 0 _ rfl
          have e0 := cell_regrown d0
          have d1 := HA9.out.cell 1 _ rfl
          have e1 := cell_regrown d1
          have d2 := HA9.out.cell 2 _ rfl
          have e2 := cell_regrown d2
          have d3 := HA9.out.cell 3 _ rfl
          have e3 := cell_regrown d3
          have d4 := HA9.out.cell 4 _ rfl
          have e4 := cell_regrown d4
          have d5 := HA9.out.cell 5 _ rfl
          have e5 := cell_regrown d5
          have d6 := HA9.out.cell 6 _ rfl
          have e6 := cell_regrown d6
          have d7 := HA9.out.cell 7 _ rfl
          have e7 := cell_regrown d7
          have d8 := HA9.out.cell 8 _ rfl
          have e8 := cell_regrown d8
          have d9 := HA9.out.cell 9 _ rfl
          have e9 := cell_regrown d9
          have d10 := HA9.out.cell 10 _ rfl
          have e10 := cell_regrown d10
          have d11 := HA9.out.cell 11 _ rfl
          have e11 := cell_regrown d11
          have d12 := HA9.out.cell 12 _ rfl
          have e12 := cell_regrown d12
          have f0 := HAu.out.cell 0 _ rfl
          have g0 := cell_regrown f0
          have f1 := HAu.out.cell 1 _ rfl
          have g1 := cell_regrown f1
          have f2 := HAu.out.cell 2 _ rfl
          have g2 := cell_regrown f2
          have f3 := HAu.out.cell 3 _ rfl
          have g3 := cell_regrown f3
          have f4 := HAu.out.cell 4 _ rfl
          have g4 := cell_regrown f4
          have f5 := HAu.out.cell 5 _ rfl
          have g5 := cell_regrown f5
          have f6 := HAu.out.cell 6 _ rfl
          have g6 := cell_regrown f6
          have s0 := HAs.out.cell 0 _ rfl
          have t0 := cell_regrown s0
          have s1 := HAs.out.cell 1 _ rfl
          have t1 := cell_regrown s1
          have s2 := HAs.out.cell 2 _ rfl
          have t2 := cell_regrown s2
          have hs3 := HBr.out.trans (HB3.out.mono HBr.out.size)
          have hR3 := HR.out.call hs3
          have cS : ∀ dd' os, Calls Tryz.prog 47 #[.agg #[.slice rA n1 rc, .slice (some adz) n2 zc, .slice lA n3 lc], .agg #[.int .i64 std, .int .u8 ek, .int .i64 esv, .string ru, .string fm, .bool true, .int .i64 y, .int .i64 m, .int .u8 dk, .int .i64 dn, .int .i64 dd, .int .i64 sc, .int .u8 cc], .int .i64 na] (grow (redrawn w3 dd') os) fun e w'' => e = .returned (.int .i64 sv) ∧ ∃ p : Regrown, w'' = grow (redrawn w3 p.d) p.os := fun dd' os => Calls.regrown_of (by
            have hbq := below_regrown w3 dd' os
            have h := saved_any s _ _ _ evs ⟨std, ek, esv, ru, fm, true, ⟨y, m, dk, dn, dd, sc, cc⟩⟩ na (grow (redrawn w3 dd') os) (hR3.call hbq) HRu2.out (HWo.out.below (hs3.trans (hbq.mono hs3.size))) (by omega)
            rw [HSv.out] at h
            exact h)
          have cI : ∀ dd' os, Calls Tryz.prog 19 #[.int .i64 na, .int .u8 cc, .int .i64 std, .int .i64 sv] (grow (redrawn w3 dd') os) fun e w'' => e = .returned (.tuple #[.int .i64 q, .int .i64 0]) ∧ ∃ p : Regrown, w'' = grow (redrawn w3 p.d) p.os := fun dd' os => Calls.regrown_of (by
            have h := instant_any na cc std sv (grow (redrawn w3 dd') os) hcc0
            rw [HIns.out] at h
            exact h.mono fun e w' he => ⟨he.1, by rw [← he.2]; exact Below.refl _ _⟩)
          refine wp_region_tail 15 (by kernel_rfl) (by kernel_rfl) ?_
          repeat (quiet_step (first | exact cS _ _ | exact cI _ _))
          refine wpQuiet_nil ?_
          intro w4 hwz
          obtain ⟨⟨dq, osq⟩, hwz⟩ := hwz
          have hb4 : Below w3.heap.size w3 w4 := by rw [hwz]; exact below_regrown _ _ _
          clear hwz cS cI d0 e0 d1 e1 d2 e2 d3 e3 d4 e4 d5 e5 d6 e6 d7 e7 d8 e8 d9 e9 d10 e10 d11 e11 d12 e12 f0 g0 f1 g1 f2 g2 f3 g3 f4 g4 f5 g5 f6 g6 s0 t0 s1 t1 s2 t2
          show wpList _ _ _ (_ :: _) _ _
          have hz4 : w.heap.size + 1 ≤ w4.heap.size := by have := hs3.size; have := hb4.size; have := HB3.out.size; omega
          have hb14 := HB3.out.trans (hb4.mono HB3.out.size)
          have HO4 := Lib.hid (own_below HO.out hb14)
          have HB4 := Lib.hid (HB.out.trans (hb14.mono (show w.heap.size + 1 ≤ wr.heap.size by omega)))
          have HAp := fun {ops : Array Oper} {rest : List Oper} {o : Oper} {a : Act} {Q : Exit → Act → World → Prop} hgd ho hs hx h => row_append (ops := ops) (rest := rest) (o := o) (a := a) (Q := Q) 39 2 1 8 _ #[.int .i64 q] Tryz.underlying39 i64_info rfl (by decide) rfl (by
            intro u hu
            simp at hu
            subst hu
            rfl) (by decide) w4 (w.heap.size + 1) j _ (.slice vA j vc) 79 81 w4.heap.size rfl HO4.out (by omega) hz4 hgd ho hs hx h
          clear hb4 hb14 hs3 hR3
          go_wp2_with (at_builtin; refine HAp rfl rfl rfl rfl ?_; intro v9 w9 hown9 hb9 hg9 hat9)
          have HO9 : Hid (w9.ownsRow (w.heap.size + 1) 2 1 v9 (j + 1) (Eg.i64s ((Eg.ends s.rules es).take (j + 1)))) := by
            show World.ownsRow _ _ _ _ _ _ _
            rw [HNx.out]
            exact hown9
          have HB9 : Hid (Below (w.heap.size + 1) w2 w9) := HB4.out.trans hb9
          clear hown9 hb9 hg9 hat9 HAp hz4
          go_roundw
          case rel => exact ⟨_, _, _, _, _, _, _, _, .int .i64 ((j : Int) + 1), ⟨j + 1, by omega, by go_num, HO9, HB9⟩, rfl, rfl, rfl, rfl, rfl, rfl, rfl, rfl, rfl⟩
          case measure => simp [intOf]; omega
        · have hjm : j = m0 := by omega
          subst hjm
          have p2 : ¬ (j : Int) < (j : Int) := by omega
          have HEnd := Lib.hid (hw.out _ wr (.slice vA j vc) rfl (HB2.out.trans (HB.out.mono (by omega))) HO.out)
          clear hw
          go_wp2
          go_ret2
          exact HEnd.out
end Go.Proofs.YtolgigaolffenaaGreatDoor
