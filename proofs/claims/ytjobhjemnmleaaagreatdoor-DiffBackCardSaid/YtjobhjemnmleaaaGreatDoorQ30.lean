/- The plain law of ValidEach: what no flaws mean, and what a rule or a zone more does. -/
import Derived.Test.YtjobhjemnmleaaaGreatDoorQ29
import Derived.Test.YtjobhjemnmleaaaGreatDoorQ20
namespace Go.Proofs.YtjobhjemnmleaaaGreatDoor
open Go.RowKit
namespace Vd
def Good (s : Src.S) : Nat → ByteArray → Prop
 | 0, x => x ∈ Lk.zn s
 | n + 1, x => x ∉ Lk.zn s ∧ ∃ j, Lk.first (Lk.ln s) x = some j ∧ Good s n ((Lk.tg s).getD j ⟨#[]⟩)
theorem good_one {s : Src.S} : ∀ {n m : Nat} {x : ByteArray}, Good s n x → Good s m x → n = m
 | 0, 0, _, _, _ => rfl
 | 0, m + 1, _, h, k => absurd h k.1
 | n + 1, 0, _, h, k => absurd k h.1
 | n + 1, m + 1, x, ⟨_, j, hj, h⟩, ⟨_, i, hi, k⟩ => by
  rw [hj] at hi;cases hi
  rw [good_one h k]
theorem good_path {s : Src.S} : ∀ {n : Nat} {x : ByteArray}, Good s n x → ∃ p : List ByteArray, p.length = n ∧ p.Nodup ∧ ∀ y ∈ p, y ∈ Lk.ln s ∧ ∃ m, m ≤ n ∧ Good s m y
 | 0, _, _ => ⟨[], rfl, List.nodup_nil, fun y hy => by cases hy⟩
 | n + 1, x, h => by
  obtain ⟨hx, j, hj, hg⟩ := h;obtain ⟨p, h1, h2, h3⟩ := good_path hg;refine ⟨x :: p, by simp [h1], List.nodup_cons.2 ⟨fun hm => ?_, h2⟩, fun y hy => ?_⟩
  ·obtain ⟨_, m, hm1, hm2⟩ := h3 x hm;have := good_one hm2 (show Good s (n + 1) x from ⟨hx, j, hj, hg⟩);omega
  ·rcases List.mem_cons.1 hy with rfl | hy
   ·exact ⟨List.mem_of_getElem? (Lk.first_some hj), n + 1, Nat.le_refl _, hx, j, hj, hg⟩
   ·obtain ⟨a, m, b, c⟩ := h3 y hy;exact ⟨a, m, by omega, c⟩
theorem ln_len (s : Src.S) : (Lk.ln s).length = s.links.length := by unfold Lk.ln; simp
theorem good_le {s : Src.S} {n : Nat} {x : ByteArray} (h : Good s n x) : n ≤ s.links.length := by
 obtain ⟨p, h1, h2, h3⟩ := good_path h;have := Lk.nodup_len p (Lk.ln s) h2 (fun y hy => (h3 y hy).1);rw [ln_len] at this;omega
theorem find_good {s : Src.S} : ∀ (n f : Nat) (K : Lk.Kn) (x : ByteArray), Good s n x → n < f → (∀ m y, m ≤ n → Good s m y → K y = none) → (Lk.find (Lk.zn s) (Lk.ln s) (Lk.tg s) f K x).2.2 = 0
 | 0, f + 1, K, x, h, _, hK => by
  have h0 := hK 0 x (Nat.le_refl _) h;cases hz : Lk.first (Lk.zn s) x with
  | none => exact absurd h (Lk.first_none.1 hz)
  | some i => rw [Lk.find, h0]; simp only [hz]
 | n + 1, f + 1, K, x, h, hf, hK => by
  obtain ⟨hx, j, hj, hg⟩ := h;have hgx : Good s (n + 1) x := ⟨hx, j, hj, hg⟩
  have h0 := hK (n + 1) x (Nat.le_refl _) hgx;have hz := Lk.first_none.2 hx;rw [Lk.find, h0];simp only [hz, hj];refine find_good n f _ _ hg (by omega) (fun m y hm hy => ?_);have hne : y ≠ x := fun e => by
   rw [e] at hy;have := good_one hy hgx;omega
  unfold Lk.mark;rw [if_neg hne];exact hK m y (by omega) hy
theorem good_find {s : Src.S} : ∀ (f : Nat) (K : Lk.Kn) (done : List ByteArray) (x : ByteArray), done.Nodup → (∀ d ∈ done, d ∈ Lk.ln s) → f + done.length = s.links.length + 1 → (∀ y ∈ done, K y = some Lk.loop) → (∀ y, y ∉ done → K y = none) →
  (Lk.find (Lk.zn s) (Lk.ln s) (Lk.tg s) f K x).2.2 = 0 → (∃ n, Good s n x) ∧ ∀ y ∈ (Lk.find (Lk.zn s) (Lk.ln s) (Lk.tg s) f K x).1, ∃ m, Good s m y
 | 0, K, done, x, hd, hl, hf, _, _, _ => by
  have := Lk.nodup_len done (Lk.ln s) hd hl;rw [ln_len] at this;omega
 | f + 1, K, done, x, hd, hl, hf, h1, h2, h => by
  by_cases hin : x ∈ done
  ·rw [Lk.find, h1 x hin] at h;cases h
  ·have h0 := h2 x hin;rw [Lk.find, h0] at h ⊢;cases hz : Lk.first (Lk.zn s) x with
   | some i =>
    have hg : Good s 0 x := List.mem_of_getElem? (Lk.first_some hz);simp only;exact ⟨⟨0, hg⟩, fun y hy => ⟨0, by rw [List.mem_singleton.1 hy]; exact hg⟩⟩
   | none =>
    simp only [hz] at h ⊢;cases hj : Lk.first (Lk.ln s) x with
    | none =>
     simp only [hj] at h;cases h
    | some j =>
     simp only [hj] at h ⊢;have hxl : x ∈ Lk.ln s := List.mem_of_getElem? (Lk.first_some hj);obtain ⟨⟨n, hn⟩, hc⟩ := good_find f (Lk.mark K x Lk.loop) (x :: done) _ (List.nodup_cons.2 ⟨hin, hd⟩) (fun d hd => by
      rcases List.mem_cons.1 hd with rfl | hd
      ·exact hxl
      ·exact hl d hd) (by rw [List.length_cons]; omega) (fun y hy => by
      unfold Lk.mark
      by_cases e : y = x
      ·rw [if_pos e]
      ·rw [if_neg e];rcases List.mem_cons.1 hy with e2 | hy
       ·exact absurd e2 e
       ·exact h1 y hy) (fun y hy => by
      unfold Lk.mark;rw [if_neg (fun e => hy (by rw [e]; exact List.mem_cons_self))];exact h2 y (fun q => hy (List.mem_cons_of_mem _ q))) h
     have hg : Good s (n + 1) x := ⟨Lk.first_none.1 hz, j, hj, hn⟩
     refine ⟨⟨n + 1, hg⟩, fun y hy => ?_⟩;rcases List.mem_cons.1 hy with rfl | hy
     ·exact ⟨n + 1, hg⟩
     ·exact hc y hy
def Leads (s : Src.S) (x : ByteArray) : Prop := ∃ n, Good s n x
theorem leads_walk {s : Src.S} {x : ByteArray} (h : Leads s x) : (Lk.walk s x).2.2 = 0 := by
 obtain ⟨n, hn⟩ := h;exact find_good n _ _ x hn (by have := good_le hn; omega) (fun _ _ _ _ => rfl)
theorem walk_leads {s : Src.S} {x : ByteArray} (h : (Lk.walk s x).2.2 = 0) : Leads s x ∧ ∀ y ∈ (Lk.walk s x).1, Leads s y :=
 good_find (s.links.length + 1) _ [] x List.nodup_nil (fun d hd => by cases hd) (by simp) (fun y hy => by cases hy) (fun y _ => rfl) h
def True_ (s : Src.S) (K : Em) : Prop := ∀ x e, K x = some e → e = 0 ∧ Leads s x
theorem True_.put {s : Src.S} {K : Em} (h : True_ s K) {x : ByteArray} (hx : Leads s x) : True_ s (em K x 0) := by
 intro y e he;unfold em at he;split at he
 ·rename_i e2
  cases he
  rw [e2];exact ⟨rfl, hx⟩
 ·exact h y e he
theorem True_.puts {s : Src.S} : ∀ {l : List ByteArray} {K : Em}, True_ s K → (∀ x ∈ l, Leads s x) → True_ s (ems K l 0)
 | [], _, h, _ => h
 | x :: l, K, h, hl => True_.puts (K := em K x 0) (h.put (hl x (by simp))) (fun y hy => hl y (by simp [hy]))
theorem K0_true (s : Src.S) : True_ s (K0 s) := True_.puts (fun x e h => by cases h) (fun x hx => ⟨0, hx⟩)
theorem asq_true {s : Src.S} {K : Em} {T : ByteArray} (h : True_ s K) (hq : (asq s K T).1 = 0) : Leads s T ∧ True_ s (asq s K T).2 := by
 cases hK : K T with
 | some e =>
  rw [asq_some hK] at hq ⊢;exact ⟨(h T e hK).2, h⟩
 | none =>
  rw [asq_none hK] at hq ⊢;simp only at hq ⊢;obtain ⟨h1, h2⟩ := walk_leads hq;rw [hq];exact ⟨h1, (h.put h1).puts h2⟩
theorem asq_leads {s : Src.S} {K : Em} {T : ByteArray} (h : True_ s K) (ht : Leads s T) : (asq s K T).1 = 0 := by
 cases hK : K T with
 | some e => rw [asq_some hK]; exact (h T e hK).1
 | none => rw [asq_none hK]; exact leads_walk ht
theorem first_nodup {l : List ByteArray} {k : Nat} {x : ByteArray} (hd : l.Nodup) (h : l[k]? = some x) : Lk.first l x = some k := by
 induction l generalizing k with
 | nil => simp at h
 | cons y l ih =>
  obtain ⟨h1, h2⟩ := List.nodup_cons.1 hd;unfold Lk.first;cases k with
  | zero =>
   have e : y = x := by simpa using h
   rw [if_pos e]
  | succ k =>
   have hx : x ∈ l := List.mem_of_getElem? (by simpa using h);rw [if_neg (fun e => h1 (by rw [e]; exact hx)), ih h2 (by simpa using h)];rfl
theorem link_leads {s : Src.S} (hn : (Src.names s).Nodup) {k : Nat} {l : Src.Txt × Src.Txt} (hk : s.links[k]? = some l) (ht : Leads s (Src.bts l.1)) : Leads s (Src.bts l.2) := by
 obtain ⟨n, hg⟩ := ht;have h1 : (Lk.ln s)[k]? = some (Src.bts l.2) := by unfold Lk.ln; rw [List.getElem?_map, hk]; rfl
 have h2 : (Lk.tg s).getD k ⟨#[]⟩ = Src.bts l.1 := by unfold Lk.tg; rw [List.getD, List.getElem?_map, hk]; rfl
 have hn' : (Lk.zn s ++ Lk.ln s).Nodup := hn;obtain ⟨_, hd2, hd3⟩ := List.nodup_append.1 hn';refine ⟨n + 1, fun hz => hd3 _ hz _ (List.mem_of_getElem? h1) rfl, k, first_nodup hd2 h1, ?_⟩;rw [h2];exact hg
theorem as1_true {s : Src.S} (hn : (Src.names s).Nodup) {K : Em} {k : Nat} {l : Src.Txt × Src.Txt} (hk : s.links[k]? = some l) (h : True_ s K) (ht : Leads s (Src.bts l.1)) (fl : List Fl) : True_ s (as1 s (K, fl) l).1 ∧ (as1 s (K, fl) l).2 = fl := by
 have hq := asq_leads h ht;obtain ⟨_, h2⟩ := asq_true h hq;unfold as1;simp only [hq, if_true];refine ⟨?_, trivial⟩;split
 ·exact h2
 ·exact h2.put (link_leads hn hk ht)
theorem asl_true {s : Src.S} (hn : (Src.names s).Nodup) : ∀ k, k ≤ s.links.length → (∀ i l, i < k → s.links[i]? = some l → Leads s (Src.bts l.1)) → True_ s (asl s (s.links.take k)).1 ∧ (asl s (s.links.take k)).2 = []
 | 0, _, _ => ⟨K0_true s, rfl⟩
 | k + 1, hk, h => by
  obtain ⟨h1, h2⟩ := asl_true hn k (by omega) (fun i l hi => h i l (by omega));obtain ⟨l, hl⟩ : ∃ l, s.links[k]? = some l := ⟨_, List.getElem?_eq_getElem (by omega)⟩
  rw [asl_next hl];have := as1_true hn hl h1 (h k l (by omega) hl) (asl s (s.links.take k)).2;rw [h2] at this;rw [show asl s (s.links.take k) = ((asl s (s.links.take k)).1, []) from by rw [← h2]];exact this
theorem as1_grows (s : Src.S) (st : Em × List Fl) (l : Src.Txt × Src.Txt) (h : (as1 s st l).2 = []) : st.2 = [] ∧ (asq s st.1 (Src.bts l.1)).1 = 0 := by
 unfold as1 at h;simp only at h;split at h
 ·rename_i e
  exact ⟨h, e⟩
 ·simp at h
theorem asl_empty {s : Src.S} (hn : (Src.names s).Nodup) : ∀ k, k ≤ s.links.length → (asl s (s.links.take k)).2 = [] → True_ s (asl s (s.links.take k)).1 ∧ ∀ i l, i < k → s.links[i]? = some l → Leads s (Src.bts l.1)
 | 0, _, _ => ⟨K0_true s, fun i l hi => by omega⟩
 | k + 1, hk, h => by
  obtain ⟨l, hl⟩ : ∃ l, s.links[k]? = some l := ⟨_, List.getElem?_eq_getElem (by omega)⟩
  rw [asl_next hl] at h ⊢;obtain ⟨h1, h2⟩ := as1_grows s _ l h;obtain ⟨h3, h4⟩ := asl_empty hn k (by omega) h1;have ht := (asq_true h3 h2).1;refine ⟨(as1_true hn hl h3 ht (asl s (s.links.take k)).2).1, fun i l' hi hl' => ?_⟩
  by_cases e : i = k
  ·subst e;rw [hl] at hl';cases hl'
   exact ht
  ·exact h4 i l' (by omega) hl'
def AllLead (s : Src.S) : Prop := ∀ l ∈ s.links, Leads s (Src.bts l.1)
theorem asl_iff {s : Src.S} (hn : (Src.names s).Nodup) : (asl s s.links).2 = [] ↔ AllLead s := by
 constructor
 ·intro h l hl;obtain ⟨i, hi⟩ := List.getElem?_of_mem hl;have := asl_empty hn s.links.length (Nat.le_refl _) (by rw [List.take_length]; exact h);exact this.2 i l (List.getElem?_eq_some_iff.1 hi).1 hi
 ·intro h;have := asl_true hn s.links.length (Nat.le_refl _) (fun i l _ hi => h l (List.mem_of_getElem? hi));rw [List.take_length] at this;exact this.2
theorem tw_steps (l : List ByteArray) : ∀ k, k ≤ l.length → (steps (tw1 l) l k = [] ↔ (l.take k).Nodup)
 | 0, _ => by simp [steps]
 | k + 1, hk => by
  obtain ⟨x, hx⟩ : ∃ x, l[k]? = some x := ⟨_, List.getElem?_eq_getElem (by omega)⟩
  rw [steps_next hx, List.append_eq_nil_iff, tw_steps l k (by omega), List.take_add_one, hx];simp only [Option.toList_some];rw [List.nodup_append]
  by_cases hin : x ∈ l.take k
  ·rw [tw1_in hin];constructor
   ·rintro ⟨_, h⟩;cases h
   ·rintro ⟨_, _, h⟩;exact absurd rfl (h x hin x (by simp))
  ·rw [tw1_out hin];constructor
   ·rintro ⟨h, _⟩;refine ⟨h, by simp, fun a ha b hb e => hin ?_⟩;rw [List.mem_singleton] at hb;rw [← hb, ← e];exact ha
   ·rintro ⟨h, _⟩;exact ⟨h, rfl⟩
theorem tw_iff (l : List ByteArray) : tw l = [] ↔ l.Nodup := by
 unfold tw;rw [tw_steps l l.length (Nat.le_refl _), List.take_length]
def AllRules (s : Src.S) : Prop := ∀ z ∈ s.zones, ∀ e ∈ z.2, e.k = 2 → e.ru ∈ rn s
theorem ms_iff (rn : List ByteArray) (e : Er.E) : ms rn e = [] ↔ (e.k = 2 → e.ru ∈ rn) := by
 by_cases h : e.k = 2
 ·by_cases h2 : e.ru ∈ rn
  ·rw [ms_there h2]; simp [h2]
  ·rw [ms_yes h h2]; simp [h, h2]
 ·rw [ms_kind h]; simp [h]
theorem mz_iff (s : Src.S) : s.zones.flatMap (mz s) = [] ↔ AllRules s := by
 unfold AllRules mz;simp only [List.flatMap_eq_nil_iff, ms_iff]
def AllOrder (s : Src.S) : Prop := ∀ z ∈ s.zones, dz z = []
theorem flaws_iff (s : Src.S) : flaws s = [] ↔ (Src.names s).Nodup ∧ AllRules s ∧ AllOrder s ∧ AllLead s := by
 unfold flaws fC fB fA;rw [List.append_eq_nil_iff, List.append_eq_nil_iff, List.append_eq_nil_iff, tw_iff, mz_iff];constructor
 ·rintro ⟨⟨⟨h1, h2⟩, h3⟩, h4⟩;exact ⟨h1, h2, List.flatMap_eq_nil_iff.1 h3, (asl_iff h1).1 h4⟩
 ·rintro ⟨h1, h2, h3, h4⟩;exact ⟨⟨⟨h1, h2⟩, List.flatMap_eq_nil_iff.2 h3⟩, (asl_iff h1).2 h4⟩
theorem well_iff (s : Src.S) : well s = true ↔ Src.srcB s = true ∧ flaws s = [] := by
 unfold well;simp
end Vd
end Go.Proofs.YtjobhjemnmleaaaGreatDoor
namespace Go.Proofs.YtjobhjemnmleaaaGreatDoor
open Go.RowKit
namespace Vd
theorem well_parts {s : Src.S} (h : well s = true) : Src.srcB s = true ∧ (Src.names s).Nodup ∧ AllRules s ∧ AllOrder s ∧ AllLead s := by
 obtain ⟨h1, h2⟩ := (well_iff s).1 h;exact ⟨h1, (flaws_iff s).1 h2⟩
theorem well_leads {s : Src.S} (h : well s = true) : ∀ x ∈ Src.names s, Leads s x := by
 obtain ⟨_, hn, _, _, hl⟩ := well_parts h;intro x hx;unfold Src.names at hx;rcases List.mem_append.1 hx with hx | hx
 ·exact ⟨0, hx⟩
 ·unfold Src.linkNames at hx;obtain ⟨k, hk, rfl⟩ := List.mem_map.1 hx;obtain ⟨i, hi⟩ := List.getElem?_of_mem hk;exact link_leads hn hi (hl k hk)
end Vd
end Go.Proofs.YtjobhjemnmleaaaGreatDoor
namespace Go.Proofs.YtjobhjemnmleaaaGreatDoor
open Go.RowKit
namespace Eg
structure ZoneOk (eras : List Er.E) : Prop where
 len : 1 ≤ eras.length ∧ eras.length ≤ 64
 ok : ∀ e ∈ eras, e.Ok
 en : ∀ (i : Nat) (e : Er.E), eras[i]? = some e → e.en = decide (i + 1 < eras.length)
 nom : ∀ e ∈ eras, e.en = true → (nomU e.u).2 = 0
theorem ds_parts (zn : ByteArray) : ∀ (es : List Er.E) (st : Int × Bool × List Vd.Fl), (es.foldl (Vd.ds1 zn) st).2.2 = [] → st.2.2 = [] ∧ ∀ e ∈ es, e.en = true → (nomU e.u).2 = 0
 | [], st, h => ⟨h, fun e he => (by cases he)⟩
 | e :: es, st, h => by
  rw [List.foldl_cons] at h;obtain ⟨h1, h2⟩ := ds_parts zn es _ h;have key : st.2.2 = [] ∧ (e.en = true → (nomU e.u).2 = 0) := by
   obtain ⟨la, eb, fs⟩ := st;cases hen : e.en with
   | false =>
    rw [Vd.ds1_no hen] at h1;exact ⟨h1, fun q => by cases q⟩
   | true =>
    obtain ⟨a, b, hn⟩ : ∃ a b, Mo.nom e.u.k e.u.n e.u.d e.u.y e.u.m e.u.s e.u.c = (a, b) := ⟨_, _, rfl⟩
    by_cases hb : b = 0
    ·subst hb;refine ⟨?_, fun _ => by unfold nomU; rw [hn]⟩;unfold Vd.ds1 at h1;rw [hen, hn] at h1;simp only [if_true] at h1;split at h1
     ·simp at h1
     ·exact h1
    ·rw [Vd.ds1_bad hen hn hb] at h1;simp at h1
  refine ⟨key.1, fun x hx => ?_⟩;rcases List.mem_cons.1 hx with rfl | hx
  ·exact key.2
  ·exact h2 x hx
theorem erasB_parts : ∀ (l : List Er.E), Src.erasB l = true → (∀ e ∈ l, e.good = true) ∧ ∀ (i : Nat) (e : Er.E), l[i]? = some e → e.en = decide (i + 1 < l.length)
 | [], _ => ⟨fun e he => (by cases he), fun i e h => (by simp at h)⟩
 | e :: l, h => by
  unfold Src.erasB at h;rw [Bool.and_eq_true, Bool.and_eq_true] at h;obtain ⟨h1, h2, h3⟩ := h;obtain ⟨k1, k2⟩ := erasB_parts l h3;refine ⟨fun x hx => ?_, fun i x hx => ?_⟩
  ·rcases List.mem_cons.1 hx with rfl | hx
   ·exact h1
   ·exact k1 x hx
  ·cases i with
   | zero =>
    have : x = e := by simpa using hx.symm
    subst this;have h4 : x.en = !l.isEmpty := by simpa using h2
    rw [h4];cases l <;> simp
   | succ i =>
    rw [k2 i x (by simpa using hx)];simp
theorem good_ok {e : Er.E} (h : e.good = true) : e.Ok := by
 unfold Er.E.good at h;rw [decide_eq_true_eq] at h;exact Classical.byContradiction fun hn => by
  rw [Er.chk_bad e hn] at h;cases h
theorem zone_ok {s : Src.S} (h : Vd.well s = true) {z : Src.Txt × List Er.E} (hz : z ∈ s.zones) : ZoneOk z.2 := by
 obtain ⟨h1, _, _, h4, _⟩ := Vd.well_parts h;unfold Src.srcB at h1;rw [Bool.and_eq_true, Bool.and_eq_true, List.all_eq_true, List.all_eq_true] at h1;have hzb := h1.2.1 z hz;unfold Src.zoneB at hzb;rw [Bool.and_eq_true, Bool.and_eq_true, Bool.and_eq_true, decide_eq_true_eq, decide_eq_true_eq] at hzb;obtain ⟨_, h5, h6, h7⟩ := hzb;obtain ⟨k1, k2⟩ := erasB_parts z.2 h7;have hd := h4 z hz;exact ⟨⟨h5, h6⟩, fun e he => good_ok (k1 e he), k2, (ds_parts (Src.bts z.1) z.2 (0, false, []) hd).2⟩
theorem rules_ok {s : Src.S} (h : Vd.well s = true) (hl : s.rules.length ≤ 4096) (hs : ∀ r ∈ s.rules, r.nm.size ≤ 1000000 ∧ r.lt.size ≤ 1000000) : RulesOk s.rules := by
 obtain ⟨h1, _⟩ := Vd.well_parts h;unfold Src.srcB at h1;rw [Bool.and_eq_true, List.all_eq_true] at h1;exact ⟨hl, fun r hr => ⟨(Ru.R.good_iff r).1 (h1.1 r hr), hs r hr⟩⟩
theorem ZoneOk.fit {eras : List Er.E} (h : ZoneOk eras) {rules : List Ru.R} (hr : RulesOk rules) : Ln.Fit rules eras :=
 ⟨hr.time, fun e he => by
  obtain ⟨h1, _, h3, _⟩ := h.ok e he;refine ⟨h1, ?_⟩;rcases h3 with q | q | q
  ·exact .inl ⟨q.1, q.2.1⟩
  ·exact .inr (.inl q.1)
  ·exact .inr (.inr q.1)⟩
theorem E_time {e : Er.E} (h : e.Ok) : e.k = 1 → IsTime e.sv := fun hk => by
 rcases h.2.2.1 with q | q | q
 ·omega
 ·exact q.2.1
 ·omega
theorem end_ok {rules : List Ru.R} {eras : List Er.E} (hr : RulesOk rules) (h : ZoneOk eras) {e : Er.E} (he : e ∈ eras) (hen : e.en = true) :
  (Mo.ins (nomU e.u).1 e.u.c e.std (saved rules e (nomU e.u).1)).2 = 0 ∧ InT (nomU e.u).1 := by
 have hn := h.nom e he hen;have hok := h.ok e he;obtain ⟨r, hrr⟩ : ∃ r : Ru.R, r = ⟨⟨#[]⟩, e.u.y, e.u.y, e.u.m, e.u.k, e.u.n, e.u.d, e.u.s, e.u.c, 0, ⟨#[]⟩⟩ := ⟨_, rfl⟩
 have hnr : Oc.nomOf r e.u.y = nomU e.u := by rw [hrr]; rfl
 have hb := Oc.nom_bd (r := r) (y := e.u.y) (by rw [hnr]; exact hn);have hp := Oc.nom_ok (r := r) (y := e.u.y) (by rw [hnr]; exact hn);have hy := (Oc.inS_ok hp.2.1).2.1;have hc : e.u.c < 3 := by
  have := hp.1.2;rw [hrr] at this;exact this
 rw [hnr] at hb;have a := Oc.D_mono (show (1 : Int) ≤ e.u.y by omega);have b := Oc.D_mono (show e.u.y + 1 ≤ (10000 : Int) by omega);have c : Oc.D 1 = -719162 := by decide
 have d : Oc.D 10000 = 2932897 := by decide
 have hi : InT (nomU e.u).1 := by unfold InT; omega
 exact ⟨(Oc.ins_ok hi hc hok.1 (saved_time hr.time (E_time hok))).1, hi⟩
end Eg
end Go.Proofs.YtjobhjemnmleaaaGreatDoor
