/- The cells of a year in a row of years; the builder's words; how long a text is. -/
import Derived.Test.YtlmheieabkdhjaaDoorTellText
import Derived.Test.YtlmheieabkdhjaaDoorShelfBuild
namespace Go.Proofs.YtlmheieabkdhjaaDoor
open Go.RowKit

namespace Te
theorem rows_get : ∀ (l : List M) (k j : Nat) (m : M), l[k]? = some m → j < 3 → (rows l)[k * 3 + j]? = (mc m)[j]?
  | [], k, j, m, h, _ => by simp at h
  | x :: l, 0, j, m, h, hj => by
    have e : x = m := by simpa using h
    subst e
    have hx : rows (x :: l) = mc x ++ rows l := by unfold rows; simp
    rw [hx, Nat.zero_mul, Nat.zero_add, List.getElem?_append_left (by unfold mc; simpa using hj)]
  | x :: l, k + 1, j, m, h, hj => by
    have hx : rows (x :: l) = mc x ++ rows l := by unfold rows; simp
    have hl : (mc x).length = 3 := rfl
    rw [hx, List.getElem?_append_right (by rw [hl]; omega), hl, show (k + 1) * 3 + j - 3 = k * 3 + j from by omega]
    exact rows_get l k j m (by simpa using h) hj
theorem rows_len (l : List M) : (rows l).length = l.length * 3 := by
  induction l with
  | nil => rfl
  | cons x l ih =>
    have hx : rows (x :: l) = mc x ++ rows l := by unfold rows; simp
    rw [hx, List.length_append, ih, List.length_cons, show (mc x).length = 3 from rfl]
    omega
/-- The three cells of the year in place k. -/
theorem row_cells {w : World} {B n k : Nat} {A : Option Addr} {l : List M} {m : M} (h : Reads w B 3 A n (rows l)) (hm : l[k]? = some m) (hk : k < n) :
    ∃ ad, A = some ad ∧ ad.block < B ∧ w.cell? (ad.add (k * 3)) = some (.string m.k) ∧
      w.cell? ⟨(ad.add (k * 3)).block, (ad.add (k * 3)).off + 1, none⟩ = some (.int .i64 m.y) ∧ w.cell? ⟨(ad.add (k * 3)).block, (ad.add (k * 3)).off + 2, none⟩ = some (.int .u8 m.r) := by
  obtain ⟨ad, e, hb, hc⟩ := h.2 (by omega)
  refine ⟨ad, e, hb, ?_, ?_, ?_⟩
  · exact hc (k * 3) _ (by have := rows_get l k 0 m hm (by omega); rw [Nat.add_zero] at this; rw [this]; rfl)
  · have h1 := hc (k * 3 + 1) _ (by rw [rows_get l k 1 m hm (by omega)]; rfl)
    rw [← add_of_add] at h1
    exact h1
  · have h1 := hc (k * 3 + 2) _ (by rw [rows_get l k 2 m hm (by omega)]; rfl)
    rw [← add_of_add] at h1
    exact h1
theorem line_len {m : M} (h : okM m = true) : (line m).length ≤ 76 := by
  obtain ⟨hk, h1, h2, h3, h4⟩ := okM_parts h
  have a := (key_size hk).2
  have b := word_len m.r h4
  have c : (Lib.itoa m.y).length = 4 := by rw [itoa_four m.y h1 h2]; rfl
  unfold line
  simp only [List.length_append, List.length_singleton, tl_length]
  omega
theorem text_snoc (l : List M) (m : M) : text (l ++ [m]) = text l ++ (line m ++ [10]) := by unfold text; simp
theorem text_len : ∀ l : List M, okAll l = true → (text l).length ≤ 77 * l.length
  | [], _ => Nat.le_refl _
  | m :: l, h => by
    unfold okAll at h
    rw [List.all_cons, Bool.and_eq_true] at h
    have ih := text_len l h.2
    have hl := line_len h.1
    have e : text (m :: l) = line m ++ 10 :: text l := by unfold text; simp
    rw [e, List.length_append, List.length_cons, List.length_cons]
    omega
theorem okAll_snoc (l : List M) (m : M) : okAll (l ++ [m]) = (okAll l && okM m) := by unfold okAll; simp
theorem okAll_take {l : List M} {k : Nat} {m : M} (hm : l[k]? = some m) (h : okM m = false) : okAll l = false := by
  unfold okAll
  rw [List.all_eq_false]
  exact ⟨m, List.mem_of_getElem? hm, by rw [h]; decide⟩
/-- A builder in block b, that holds these bytes. -/
abbrev IsB (w : World) (b : Nat) (l : Txt) : Prop := Lib.IsBuilderF 48 5 b b (Lib.byteCells l) w
theorem atF_call {w w' : World} {B b : Nat} {T e : TypeId} {p : Value} {bs : List Value} (h : Lib.BuilderAtF T e B b p bs w) (hb : Below w.heap.size w w') : Lib.BuilderAtF T e B b p bs w' := by
  have hlt := h.lt
  obtain ⟨hB, v, hbk, hown, hne⟩ := h
  refine ⟨hB, v, (hb.block b hlt).trans hbk, ?_, hne⟩
  refine hown.kept (row := none) ⟨hb.os, hb.tape, hb.output, hb.size, fun k hk _ => hb.block k hk⟩ ?_
  cases v.ownBlock <;> simp
theorem IsB.call {w w' : World} {b : Nat} {l : Txt} (h : IsB w b l) (hb : Below w.heap.size w w') : IsB w' b l := h.elim (fun x => .inl (atF_call x hb)) (fun x => .inr (atF_call x hb))
theorem IsB.lt {w : World} {b : Nat} {l : Txt} (h : IsB w b l) : b < w.heap.size := h.elim (fun x => x.lt) (fun x => x.lt)
theorem bytes_app (a b : Txt) : Lib.byteCells (a ++ b) = Lib.byteCells a ++ Lib.byteCells b := by unfold Lib.byteCells; rw [List.map_append]
theorem bytes_line (l : Txt) (m : M) : Lib.byteCells l ++ Lib.strCells (bts (line m)) ++ [.int .u8 10] = Lib.byteCells (l ++ (line m ++ [10])) := by
  rw [bytes_app, bytes_app, List.append_assoc]
  rfl
end Te
end Go.Proofs.YtlmheieabkdhjaaDoor
