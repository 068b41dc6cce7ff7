/- solsticelaw39.small, and what the law's loops meet, in plain words. -/
import Derived.Test.YtlmheieabkdhjaaDoorLives39
namespace Go.Proofs.YtlmheieabkdhjaaDoor
open Go.RowKit

namespace Te
theorem len_text (l : List M) : l.length ≤ (text l).length := by
  induction l with
  | nil => exact Nat.le_refl _
  | cons m l ih =>
    have e : text (m :: l) = line m ++ 10 :: text l := by unfold text; simp
    rw [e, List.length_append, List.length_cons, List.length_cons]
    omega
theorem parseF_why : ∀ (f no : Nat) (s : Txt) (a b : Nat), (parseF f no s).2 = some (a, b) → 0 < b
  | 0, no, s, a, b, h => by cases h
  | f + 1, no, s, a, b, h => by
    rw [parseF] at h
    split at h
    · cases h
    · split at h
      · cases hp : pl (Lib.cut s [10]).1 with
        | none =>
          rw [hp] at h
          cases h
          decide
        | some m =>
          rw [hp] at h
          exact parseF_why f _ _ a b h
      · cases h
        decide
/-- The years of the first k runs. -/
def pre (l : List M) (k : Nat) : List M := ((runs l).take k).flatMap expand
theorem pre_zero (l : List M) : pre l 0 = [] := rfl
theorem pre_all (l : List M) : pre l (runs l).length = l := by
  unfold pre
  rw [List.take_length]
  exact (runs_all l).all
theorem pre_succ {l : List M} {k : Nat} {p : Run} (h : (runs l)[k]? = some p) : pre l (k + 1) = pre l k ++ expand p := by
  unfold pre
  rw [List.take_add_one, h, List.flatMap_append]
  simp
theorem expand_last {p : Run} (h : Good p) : (expand p).getLast? = some p.2 := by
  rw [List.getLast?_eq_getElem?, expand_get p _ (by rw [expand_len]; omega), expand_len]
  obtain ⟨⟨k, y, r⟩, ⟨k', y', r'⟩⟩ := p
  have h1 := h.k
  have h2 := h.r
  have h3 := h.y
  simp only at h1 h2 h3
  subst h1 h2
  congr 2
  simp only
  omega
structure RunAt (l : List M) (k : Nat) (p : Run) : Prop where
  good : Good p
  all : ∃ r, l = pre l k ++ (expand p ++ r)
  first : l[(pre l k).length]? = some p.1
  fits : (pre l k).length + (expand p).length ≤ l.length
  apart : 0 < k → ∃ q, (pre l k).getLast? = some q ∧ goesOn q p.1 = false
theorem run_at {l : List M} {k : Nat} {p : Run} (h : (runs l)[k]? = some p) : RunAt l k p := by
  have hI := runs_all l
  have hg := hI.good p (List.mem_of_getElem? h)
  have hlt := (List.getElem?_eq_some_iff.1 h).1
  have hall : ∃ r, l = pre l k ++ (expand p ++ r) := by
    refine ⟨((runs l).drop (k + 1)).flatMap expand, ?_⟩
    rw [← List.append_assoc, ← pre_succ h]
    unfold pre
    rw [← List.flatMap_append, List.take_append_drop]
    exact hI.all.symm
  obtain ⟨r, hr⟩ := hall
  have hlen := congrArg List.length hr
  rw [List.length_append, List.length_append] at hlen
  have hpos : 0 < (expand p).length := by rw [expand_len]; omega
  refine ⟨hg, ⟨r, hr⟩, ?_, by omega, fun hk => ?_⟩
  · have h0 := expand_get p 0 hpos
    have : l[(pre l k).length]? = (pre l k ++ (expand p ++ r))[(pre l k).length]? := by rw [← hr]
    rw [this, List.getElem?_append_right (Nat.le_refl _), Nat.sub_self, List.getElem?_append_left hpos, h0]
    simp
  · obtain ⟨q, hq⟩ : ∃ q, (runs l)[k - 1]? = some q := ⟨_, List.getElem?_eq_getElem (by omega)⟩
    have hqg := hI.good q (List.mem_of_getElem? hq)
    refine ⟨q.2, ?_, hI.apart (k - 1) q p hq (by rw [Nat.sub_add_cancel hk]; exact h)⟩
    have e := pre_succ hq
    rw [Nat.sub_add_cancel hk] at e
    rw [e, List.getLast?_append, expand_last hqg]
    rfl
/-- The year in place j of a run, and when it is the last one. -/
theorem expand_end {p : Run} (h : Good p) (j : Nat) : (⟨p.1.k, p.1.y + (j : Int), p.1.r⟩ : M) = p.2 ↔ j + 1 = (expand p).length := by
  rw [expand_len]
  obtain ⟨⟨k, y, r⟩, ⟨k', y', r'⟩⟩ := p
  have h1 := h.k
  have h2 := h.r
  have h3 := h.y
  simp only at h1 h2 h3
  subst h1 h2
  simp only [M.mk.injEq, true_and, and_true]
  omega
theorem take_one {p : Run} {j : Nat} (h : j < (expand p).length) : (expand p).take (j + 1) = (expand p).take j ++ [⟨p.1.k, p.1.y + (j : Int), p.1.r⟩] := by
  rw [List.take_add_one, expand_get p j h]
  rfl
end Te
def Te.Few (l : List Te.M) : Prop := l.length ≤ 60 ∧ ∀ m ∈ l, m.k.size ≤ 1000
def Te.SmRet (l : List Te.M) (w : World) (e : Ending) (w' : World) : Prop := (∃ b, e = .returned (.bool b) ∧ (b = true → Te.Few l)) ∧ Below w.heap.size w w'
set_option maxHeartbeats 4000000 in
set_option maxRecDepth 100000 in
theorem tellFew_any (A : Option Addr) (n c : Nat) (l : List Te.M) (w : World) (hn : l.length = n) (hn6 : n ≤ maxLen) (hr : Reads w w.heap.size 3 A n (Te.rows l)) :
    Calls Tryd.prog 5 #[.slice A n c] w (Te.SmRet l w) := by
  have HN := Lib.hid hn
  have HR := Lib.hid hr
  unfold maxLen at hn6
  clear hn hr
  go_enter Tryd.func5, Tryd.ntmps5
  by_cases q0 : (60 : Int) < (n : Int)
  · go_wp2
    go_ret
    exact ⟨⟨false, rfl, fun h => by cases h⟩, Below.refl _ _⟩
  go_wp2
  go_loopw [10] (fun i wr => ∃ k : Nat, k ≤ n ∧ i = .int .i64 k ∧ Hid (∀ m ∈ l.take k, m.k.size ≤ 1000) ∧ Hid (Below w.heap.size w wr)) (fun i _ => n - (intOf i).toNat)
  case atStart => exact ⟨0, Nat.zero_le _, rfl, (fun m h => by simp at h), Below.refl _ _⟩
  case round =>
    obtain ⟨k, hk, rfl, HK, HB⟩ := hrel
    by_cases hlt : k < n
    · obtain ⟨m, hm⟩ : ∃ m, l[k]? = some m := ⟨_, List.getElem?_eq_getElem (by rw [HN.out]; exact hlt)⟩
      obtain ⟨ad, rfl, hab, c0, c1, c2⟩ := Te.row_cells (HR.out.below HB.out) hm hlt
      have q1 : (0 : Int) ≤ (k : Int) := by omega
      have q2 : (k : Int) < (n : Int) := by omega
      have HBa := Lib.hid (HB.out.alloc HB.out.size (.cells #[.string m.k, .int .i64 m.y, .int .u8 m.r] 37))
      by_cases q3 : (1000 : Int) < (m.k.size : Int)
      · clear hm
        go_wp2
        go_ret
        exact ⟨⟨false, rfl, fun h => by cases h⟩, HBa.out⟩
      · have HK2 : Hid (∀ x ∈ l.take (k + 1), x.k.size ≤ 1000) := by
          show ∀ x ∈ _, _
          rw [List.take_add_one, hm]
          intro x hx
          rcases List.mem_append.1 hx with hx | hx
          · exact HK.out x hx
          · have e : x = m := by simpa using hx
            rw [e]
            omega
        clear hm
        go_wp2
        go_roundw
        case rel => exact ⟨k + 1, by omega, by go_num, HK2, HBa.out⟩
        case measure => simp [intOf]; omega
    · have q2 : ¬ (k : Int) < (n : Int) := by omega
      have HF : Hid (Te.Few l) := by
        have h := HK.out
        rw [List.take_of_length_le (by rw [HN.out]; omega)] at h
        exact ⟨by rw [HN.out]; omega, h⟩
      go_wp2
      go_ret
      exact ⟨⟨true, rfl, fun _ => HF.out⟩, HB.out⟩
end Go.Proofs.YtlmheieabkdhjaaDoor
