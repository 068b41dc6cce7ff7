/- The contract of the statements' own 'lives' of package day. -/
import Derived.Test.YtokimlfbfbfenaaDoorDayIn
namespace Go.Proofs.YtokimlfbfbfenaaDoor
open Go.RowKit

theorem inS_ok (k n d y m : Int) (h : Dy.Ok k n d) (hc : InCal y m) (hn : ¬ n > Cv.len y m) : Dy.inS k n d y m = (if -719162 ≤ Dy.res k n d y m ∧ Dy.res k n d y m < 2932897 then Dy.res k n d y m else 0, if -719162 ≤ Dy.res k n d y m ∧ Dy.res k n d y m < 2932897 then 0 else 1) := by
  unfold Dy.inS
  rw [if_neg (fun x => x h), if_neg (fun x => x hc), if_neg hn]
  by_cases hr : -719162 ≤ Dy.res k n d y m ∧ Dy.res k n d y m < 2932897
  · rw [if_pos hr, if_pos hr, if_pos hr]
  · rw [if_neg hr, if_neg hr, if_neg hr]
theorem in_any (k n d y m : Int) (w : World) (hW : Wo w) :
    Calls Tryd.prog 26 #[.agg #[.int .u8 k, .int .i64 n, .int .i64 d], .int .i64 y, .int .i64 m] w fun e w' => e = .returned (.tuple #[.int .i64 (Dy.inS k n d y m).1, .int .i64 (Dy.inS k n d y m).2]) ∧ Below w.heap.size w w' := by
  by_cases h : Dy.Ok k n d
  · by_cases hc : InCal y m
    · by_cases hn : n > Cv.len y m
      · have e : Dy.inS k n d y m = (0, 3) := by unfold Dy.inS; rw [if_neg (fun x => x h), if_neg (fun x => x hc), if_pos hn]
        rw [e]
        exact in_none k n d y m w hW h hc hn
      · rw [inS_ok k n d y m h hc hn]
        rcases h with ⟨rfl, h1, h2, rfl⟩ | ⟨rfl, rfl, h1, h2⟩ | ⟨rfl | rfl, h1, h2, h3, h4⟩
        · exact in_k0 n y m w hW hc h1 h2 (by omega)
        · exact in_k1 d y m w hW hc h1 h2
        · exact in_k2 n d y m w hW hc h1 h2 h3 h4 (by omega)
        · exact in_k3 n d y m w hW hc h1 h2 h3 h4 (by omega)
    · have e : Dy.inS k n d y m = (0, 1) := by unfold Dy.inS; rw [if_neg (fun x => x h), if_pos (show ¬ (1 ≤ y ∧ y ≤ 9999 ∧ 1 ≤ m ∧ m ≤ 12) from hc)]
      rw [e]
      exact in_range k n d y m w h hc
  · have e : Dy.inS k n d y m = (0, 2) := by unfold Dy.inS; rw [if_pos h]
    rw [e]
    exact in_form k n d y m w h
theorem parse_is (s : ByteArray) (w : World) (hW : Wl w) (hs : s.size ≤ 1000000) (k n d : Int) (hT : Dy.told (tl s) = (k, n, d)) (hok : Dy.Ok k n d) :
    Calls Tryd.prog 59 #[.string s] w fun e w' => e = .returned (.tuple #[.agg #[.int .u8 k, .int .i64 n, .int .i64 d], .int .i64 0]) ∧ Below w.heap.size w w' :=
  calls_val (parse_any s w hW hs k n d hT) (if_pos hok)
theorem parse_no (s : ByteArray) (w : World) (hW : Wl w) (hs : s.size ≤ 1000000) (k n d : Int) (hT : Dy.told (tl s) = (k, n, d)) (hok : ¬ Dy.Ok k n d) :
    Calls Tryd.prog 59 #[.string s] w fun e w' => e = .returned (.tuple #[.agg #[.int .u8 0, .int .i64 0, .int .i64 0], .int .i64 4]) ∧ Below w.heap.size w w' :=
  calls_val (parse_any s w hW hs k n d hT) (if_neg hok)
theorem in_is (k n d y m : Int) (w : World) (hW : Wo w) (a b : Int) (h : Dy.inS k n d y m = (a, b)) :
    Calls Tryd.prog 26 #[.agg #[.int .u8 k, .int .i64 n, .int .i64 d], .int .i64 y, .int .i64 m] w fun e w' => e = .returned (.tuple #[.int .i64 a, .int .i64 b]) ∧ Below w.heap.size w w' :=
  calls_val (in_any k n d y m w hW) (by rw [h])

/-- What a block of cells holds stays behind what a callee did. -/
theorem kept3 {w w1 : World} {g : Nat} {a b c : Value} (h : w.cell? ⟨g, 0, none⟩ = some a ∧ w.cell? ⟨g, 1, none⟩ = some b ∧ w.cell? ⟨g, 2, none⟩ = some c) (hb : Below w.heap.size w w1) :
    w1.cell? ⟨g, 0, none⟩ = some a ∧ w1.cell? ⟨g, 1, none⟩ = some b ∧ w1.cell? ⟨g, 2, none⟩ = some c := by
  have hg : g < w.heap.size := block_lt_of_cell h.1
  exact ⟨(hb.cell (p := ⟨g, 0, none⟩) hg).trans h.1, (hb.cell (p := ⟨g, 1, none⟩) hg).trans h.2.1, (hb.cell (p := ⟨g, 2, none⟩) hg).trans h.2.2⟩
theorem laid3 (w : World) (a b c : Value) (t : TypeId) : (w.alloc (.cells #[a, b, c] t)).cell? ⟨w.heap.size, 0, none⟩ = some a ∧ (w.alloc (.cells #[a, b, c] t)).cell? ⟨w.heap.size, 1, none⟩ = some b ∧ (w.alloc (.cells #[a, b, c] t)).cell? ⟨w.heap.size, 2, none⟩ = some c :=
  ⟨cell_of_row _ w.heap.size 0 _ _ _ (heap_alloc_new w _), cell_of_row _ w.heap.size 1 _ _ _ (heap_alloc_new w _), cell_of_row _ w.heap.size 2 _ _ _ (heap_alloc_new w _)⟩

theorem kept3a {w w1 : World} {o : Obj} {g : Nat} {a b c : Value} (h : w.cell? ⟨g, 0, none⟩ = some a ∧ w.cell? ⟨g, 1, none⟩ = some b ∧ w.cell? ⟨g, 2, none⟩ = some c) (hb : Below (w.alloc o).heap.size (w.alloc o) w1) :
    w1.cell? ⟨g, 0, none⟩ = some a ∧ w1.cell? ⟨g, 1, none⟩ = some b ∧ w1.cell? ⟨g, 2, none⟩ = some c := kept3 (kept3 h ((Below.refl _ _).alloc (Nat.le_refl _) _)) hb

end Go.Proofs.YtokimlfbfbfenaaDoor
