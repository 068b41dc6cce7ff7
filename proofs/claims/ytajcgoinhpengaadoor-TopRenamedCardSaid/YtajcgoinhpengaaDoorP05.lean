/- Plain law of digits: what a text of digits tells. -/
import Derived.Test.YtajcgoinhpengaaDoorP03
import Derived.Test.YtajcgoinhpengaaDoorP04
import Derived.Lib.AppendIntMem
import Derived.Deep.RegionHeld3
import Derived.Deep.QuietTactic
import Derived.BigQuiet
import Derived.WideShapes
import Derived.Lib.Split
import Derived.Lib.CutLaws
import Derived.Laws.IdiomStrings

namespace Go.Proofs.YtajcgoinhpengaaDoor.Dy
open Go.RowKit

def numLoop : List UInt8 → Int → Int
  | [], a => a
  | c :: r, a => if (c.toNat : Int) < 48 ∨ 57 < (c.toNat : Int) then -1 else numLoop r (a * 10 + ((c.toNat : Int) - 48))

theorem numLoop_bad (l : List UInt8) (k : Nat) (c : UInt8) (a : Int) (N : Int) (hN : N = numLoop (l.drop k) a) (hc : l[k]? = some c) (h : (c.toNat : Int) < 48 ∨ 57 < (c.toNat : Int)) : N = -1 := by
  obtain ⟨hk, e⟩ := List.getElem?_eq_some_iff.1 hc
  rw [hN, List.drop_eq_getElem_cons hk, e]
  simp only [numLoop]
  rw [if_pos h]
theorem numLoop_next (l : List UInt8) (k : Nat) (c : UInt8) (a : Int) (N : Int) (hN : N = numLoop (l.drop k) a) (hc : l[k]? = some c) (h : ¬ ((c.toNat : Int) < 48 ∨ 57 < (c.toNat : Int))) : N = numLoop (l.drop (k + 1)) (a * 10 + ((c.toNat : Int) - 48)) := by
  obtain ⟨hk, e⟩ := List.getElem?_eq_some_iff.1 hc
  rw [hN, List.drop_eq_getElem_cons hk, e]
  simp only [numLoop]
  rw [if_neg h]
theorem numLoop_end (l : List UInt8) (k : Nat) (a : Int) (N : Int) (hN : N = numLoop (l.drop k) a) (h : l.length = k) : N = a := by
  rw [hN, List.drop_eq_nil_of_le (by omega)]; rfl
theorem tl_get (s : ByteArray) (k : Nat) (h : k < s.size) : (tl s)[k]? = some s[k] := by
  unfold tl
  rw [List.getElem?_eq_getElem (by simpa using h), Array.getElem_toList]
  rfl
end Go.Proofs.YtajcgoinhpengaaDoor.Dy

/- Plain law of the days of a month: what is read of a text, and how one is written. -/
namespace Go.Proofs.YtajcgoinhpengaaDoor.Dy
open Go.RowKit

/-- Whether a day is right: 0, or 2. -/
def Ok (k n w : Int) : Prop := (k = 0 ∧ 1 ≤ n ∧ n ≤ 31 ∧ w = 0) ∨ (k = 1 ∧ n = 0 ∧ 0 ≤ w ∧ w ≤ 6) ∨ ((k = 2 ∨ k = 3) ∧ 1 ≤ n ∧ n ≤ 31 ∧ 0 ≤ w ∧ w ≤ 6)
instance (k n w : Int) : Decidable (Ok k n w) := by unfold Ok; exact inferInstance

def numD (l : List UInt8) : Int := if l.length < 1 ∨ 2 < l.length then -1 else numLoop l 0

theorem numLoop_bd : ∀ (l : List UInt8) (a : Int), 0 ≤ a → a < 100000 → l.length ≤ 2 → -1 ≤ numLoop l a ∧ numLoop l a < 100000000 := by
  intro l a h0 h1 hl
  match l, hl with
  | [], _ => simp only [numLoop]; omega
  | [c], _ =>
    simp only [numLoop]
    split <;> omega
  | [c, d], _ =>
    simp only [numLoop]
    split
    · omega
    · split <;> omega
theorem numD_bd (l : List UInt8) : -1 ≤ numD l ∧ numD l < 100000000 := by
  unfold numD
  split
  · omega
  · exact numLoop_bd l 0 (by omega) (by omega) (by omega)

def lastL : List UInt8 := [108, 97, 115, 116]
def fromL : List UInt8 := [62, 61]
def uptoL : List UInt8 := [60, 61]
def told (l : List UInt8) : Int × Int × Int :=
  if 0 ≤ numD l then (0, numD l, 0)
  else if 4 ≤ l.length ∧ Wd.same (l.take 4) lastL = true then (1, 0, Wd.pick (l.drop 4) (Days.map tl))
  else if (Lib.cut l fromL).2.2 = true then (2, numD (Lib.cut l fromL).2.1, Wd.pick (Lib.cut l fromL).1 (Days.map tl))
  else if (Lib.cut l uptoL).2.2 = true then (3, numD (Lib.cut l uptoL).2.1, Wd.pick (Lib.cut l uptoL).1 (Days.map tl))
  else (4, 0, 0)
def dec (n : Int) : List UInt8 := if n < 10 then [UInt8.ofNat (48 + n.toNat)] else [UInt8.ofNat (48 + n.toNat / 10), UInt8.ofNat (48 + n.toNat % 10)]
theorem dec_eq (n : Nat) (h : n < 100) : Lib.decDigits n = dec (n : Int) := by
  unfold dec Lib.decDigits
  by_cases h1 : n < 10
  · rw [dif_pos h1, if_pos (by omega), Int.toNat_natCast]
  · rw [dif_neg h1, if_neg (by omega), Int.toNat_natCast]
    unfold Lib.decDigits
    rw [dif_pos (by omega)]; rfl
def text (k n w : Int) : List UInt8 :=
  if k = 1 then lastL ++ tl (textOf Days w) else if k = 2 then tl (textOf Days w) ++ fromL ++ dec n else if k = 3 then tl (textOf Days w) ++ uptoL ++ dec n else dec n

def backOk (k n w : Int) : Bool := decide (told (text k n w) = (k, n, w))
theorem back0 : ∀ n : Nat, n < 31 → backOk 0 ((n : Int) + 1) 0 = true := by decide +kernel
theorem back1 : ∀ w : Nat, w < 7 → backOk 1 0 (w : Int) = true := by decide +kernel
theorem back2 : ∀ n : Nat, n < 31 → ∀ w : Nat, w < 7 → backOk 2 ((n : Int) + 1) (w : Int) = true := by decide +kernel
theorem back3 : ∀ n : Nat, n < 31 → ∀ w : Nat, w < 7 → backOk 3 ((n : Int) + 1) (w : Int) = true := by decide +kernel
/-- A right day is read from its text. -/
theorem told_text (k n w : Int) (h : Ok k n w) : told (text k n w) = (k, n, w) := by
  rcases h with ⟨rfl, h1, h2, rfl⟩ | ⟨rfl, rfl, h1, h2⟩ | ⟨hk, h1, h2, h3, h4⟩
  · have := back0 (n - 1).toNat (by omega)
    rw [show (((n - 1).toNat : Nat) : Int) + 1 = n by omega] at this
    exact of_decide_eq_true this
  · have := back1 w.toNat (by omega)
    rw [show ((w.toNat : Nat) : Int) = w by omega] at this
    exact of_decide_eq_true this
  · rcases hk with rfl | rfl
    · have := back2 (n - 1).toNat (by omega) w.toNat (by omega)
      rw [show (((n - 1).toNat : Nat) : Int) + 1 = n by omega, show ((w.toNat : Nat) : Int) = w by omega] at this
      exact of_decide_eq_true this
    · have := back3 (n - 1).toNat (by omega) w.toNat (by omega)
      rw [show (((n - 1).toNat : Nat) : Int) + 1 = n by omega, show ((w.toNat : Nat) : Int) = w by omega] at this
      exact of_decide_eq_true this
end Go.Proofs.YtajcgoinhpengaaDoor.Dy

/- The contracts of package day. -/
namespace Go.Proofs.YtajcgoinhpengaaDoor
open Go.RowKit

set_option maxHeartbeats 1000000 in
theorem dayCheck_ok (k n d : Int) (w : World) (h : Dy.Ok k n d) :
    Calls Tryd.prog 48 #[.agg #[.int .u8 k, .int .i64 n, .int .i64 d]] w fun e w' => e = .returned (.int .i64 0) ∧ Below w.heap.size w w' := by
  rcases h with ⟨rfl, h1, h2, rfl⟩ | ⟨rfl, rfl, h1, h2⟩ | ⟨rfl | rfl, h1, h2, h3, h4⟩
  all_goals
    go_enter Tryd.func48, Tryd.ntmps48
    go_wp2
    go_ret
    exact ⟨rfl, (Below.refl _ _).alloc (Nat.le_refl _) _⟩

set_option maxHeartbeats 2000000 in
theorem dayCheck_bad (k n d : Int) (w : World) (h : ¬ Dy.Ok k n d) :
    Calls Tryd.prog 48 #[.agg #[.int .u8 k, .int .i64 n, .int .i64 d]] w fun e w' => e = .returned (.int .i64 2) ∧ Below w.heap.size w w' := by
  have H := Lib.hid h
  clear h
  by_cases k0 : k = 0
  · subst k0
    go_enter Tryd.func48, Tryd.ntmps48
    go_wp2
    all_goals first
      | (exfalso; refine H.out ?_; unfold Dy.Ok; omega)
      | (go_ret; exact ⟨rfl, (Below.refl _ _).alloc (Nat.le_refl _) _⟩)
  by_cases k1 : k = 1
  · subst k1
    go_enter Tryd.func48, Tryd.ntmps48
    go_wp2
    all_goals first
      | (exfalso; refine H.out ?_; unfold Dy.Ok; omega)
      | (go_ret; exact ⟨rfl, (Below.refl _ _).alloc (Nat.le_refl _) _⟩)
  by_cases k2 : k = 2
  · subst k2
    go_enter Tryd.func48, Tryd.ntmps48
    go_wp2
    all_goals first
      | (exfalso; refine H.out ?_; unfold Dy.Ok; omega)
      | (go_ret; exact ⟨rfl, (Below.refl _ _).alloc (Nat.le_refl _) _⟩)
  by_cases k3 : k = 3
  · subst k3
    go_enter Tryd.func48, Tryd.ntmps48
    go_wp2
    all_goals first
      | (exfalso; refine H.out ?_; unfold Dy.Ok; omega)
      | (go_ret; exact ⟨rfl, (Below.refl _ _).alloc (Nat.le_refl _) _⟩)
  have e0 : (k == 0) = false := by simp [k0]
  have e1 : (k == 1) = false := by simp [k1]
  have e2 : (k == 2) = false := by simp [k2]
  have e3 : (k == 3) = false := by simp [k3]
  clear k0 k1 k2 k3
  go_enter Tryd.func48, Tryd.ntmps48
  go_wp2
  go_ret
  exact ⟨rfl, (Below.refl _ _).alloc (Nat.le_refl _) _⟩

end Go.Proofs.YtajcgoinhpengaaDoor

/- The contracts of package day: what a text tells, and a day's text. -/
namespace Go.Proofs.YtajcgoinhpengaaDoor
open Go.RowKit


theorem tl_take (s : ByteArray) (k : Nat) : tl (s.extract 0 k) = (tl s).take k := by simp [tl]
/-- The library's bound alone. -/
structure Wl (w : World) : Prop where
  maxl : ∃ m, w.cell? ⟨1, 0, none⟩ = some (.int .i64 m)
theorem Wl.below {w w' : World} (h : Wl w) (hb : Below w.heap.size w w') : Wl w' := by
  obtain ⟨m, hm⟩ := h.maxl
  exact ⟨m, (hb.cell (p := ⟨_, 0, none⟩) (block_lt_of_cell hm)).trans hm⟩
/-- A day as a value. -/
def dayV (x : Int × Int × Int) : Value := .agg #[.int .u8 x.1, .int .i64 x.2.1, .int .i64 x.2.2]
theorem tl_mk (l : List UInt8) : tl ⟨l.toArray⟩ = l := by simp [tl]
theorem size_mk (l : List UInt8) : (⟨l.toArray⟩ : ByteArray).size = l.length := rfl
theorem cut_len (s sep : List UInt8) : (Lib.cut s sep).1.length ≤ s.length ∧ (Lib.cut s sep).2.1.length ≤ s.length := by
  unfold Lib.cut
  split
  · simp only [List.length_take, List.length_drop]; omega
  · simp
theorem tl_drop (s : ByteArray) (k : Nat) : tl (s.extract k s.size) = (tl s).drop k := by
  have h : (s.extract k s.size).data.toList = (s.data.toList.drop k) := by
    simp [ByteArray.data_extract, Array.toList_extract]
    exact List.take_of_length_le (by rw [List.length_drop]; exact Nat.le_refl _)
  exact h

/-- A block of three cells, behind what a callee did. -/
theorem new3 {w w1 : World} {a b c : Value} {t : TypeId} (hb : Below (w.heap.size + 1) (w.alloc (.cells #[a, b, c] t)) w1) :
    w1.cell? ⟨w.heap.size, 0, none⟩ = some a ∧ w1.cell? ⟨w.heap.size, 1, none⟩ = some b ∧ w1.cell? ⟨w.heap.size, 2, none⟩ = some c ∧
    w1.frozen? ⟨w.heap.size, 0, none⟩ = false ∧ w1.frozen? ⟨w.heap.size, 1, none⟩ = false ∧ w1.frozen? ⟨w.heap.size, 2, none⟩ = false := by
  have h : ∀ i, w1.cell? ⟨w.heap.size, i, none⟩ = #[a, b, c][i]? := fun i => (hb.cell (p := ⟨w.heap.size, i, none⟩) (Nat.lt_succ_self _)).trans (cell_of_row _ w.heap.size i _ _ _ (heap_alloc_new w _))
  have hf : ∀ i, w1.frozen? ⟨w.heap.size, i, none⟩ = false := fun i => (hb.frozen (p := ⟨w.heap.size, i, none⟩) (Nat.lt_succ_self _)).trans (by have e := heap_alloc_new w (.cells #[a, b, c] t); unfold World.frozen?; simp only [e]; simp)
  exact ⟨h 0, h 1, h 2, hf 0, hf 1, hf 2⟩
theorem below_new {w w1 : World} {o : Obj} (hb : Below (w.heap.size + 1) (w.alloc o) w1) : Below w.heap.size w w1 := ((Below.refl _ _).alloc (Nat.le_refl _) _).trans (hb.mono (Nat.le_succ _))

end Go.Proofs.YtajcgoinhpengaaDoor

/- The contracts of package day: Parse, Text. -/
namespace Go.Proofs.YtajcgoinhpengaaDoor
open Go.RowKit

theorem app_mk (a b : ByteArray) : a ++ b = ⟨(tl a ++ tl b).toArray⟩ := by
  apply WideShapes.bytes_inj
  simp [tl]
theorem app_mk2 (a b c : ByteArray) : a ++ b ++ c = ⟨(tl a ++ tl b ++ tl c).toArray⟩ := by
  rw [app_mk (a ++ b) c, app_mk a b, tl_mk]
theorem textDays_size (d : Int) : (textOf Days d).size ≤ 3 := by
  unfold textOf
  split
  · simp only [ByteArray.size_extract]; omega
  · exact Nat.zero_le _
theorem dec_size (n : Int) : (⟨(Dy.dec n).toArray⟩ : ByteArray).size ≤ 2 := by
  rw [size_mk]; unfold Dy.dec; split <;> simp
theorem ret_str2 {a b : ByteArray} {v : Value} (h : a = b) : Ending.returned (.tuple #[.string a, v]) = .returned (.tuple #[.string b, v]) := by rw [h]

end Go.Proofs.YtajcgoinhpengaaDoor

/- The contract of day.In. -/
namespace Go.Proofs.YtajcgoinhpengaaDoor
open Go.RowKit

namespace Dy
/-- The day that a kind tells, ahead of the look at the calendar's bounds. -/
def base (k n y m : Int) : Int := Cv.num y m (if k = 1 then Cv.len y m else n)
def res (k n d y m : Int) : Int := if k = 2 then base k n y m + (d - dow (base k n y m)) % 7 else if k = 0 then base k n y m else base k n y m - (dow (base k n y m) - d) % 7
def inS (k n d y m : Int) : Int × Int :=
  if ¬ Ok k n d then (0, 2) else if ¬ (1 ≤ y ∧ y ≤ 9999 ∧ 1 ≤ m ∧ m ≤ 12) then (0, 1) else if n > Cv.len y m then (0, 3)
  else if -719162 ≤ res k n d y m ∧ res k n d y m < 2932897 then (res k n d y m, 0) else (0, 1)
end Dy
theorem dow_bd (n : Int) : 0 ≤ dow n ∧ dow n ≤ 6 := by unfold dow; omega
theorem num_bd (y m d : Int) (h : Cv.Valid y m d) : -719162 ≤ Cv.num y m d ∧ Cv.num y m d < 2932897 := by
  have h1 := Cv.first_le y m d h
  obtain ⟨a, b, _⟩ := h
  have h2 := Cv.first_mono 1 y a
  have h3 := Cv.first_mono (y + 1) 10000 (by omega)
  rw [num_min] at h2
  rw [num_max] at h3
  omega

end Go.Proofs.YtajcgoinhpengaaDoor

/- The contract of the statements' own 'lives' of package day. -/
namespace Go.Proofs.YtajcgoinhpengaaDoor
open Go.RowKit

theorem inS_ok (k n d y m : Int) (h : Dy.Ok k n d) (hc : InCal y m) (hn : ¬ n > Cv.len y m) : Dy.inS k n d y m = (if -719162 ≤ Dy.res k n d y m ∧ Dy.res k n d y m < 2932897 then Dy.res k n d y m else 0, if -719162 ≤ Dy.res k n d y m ∧ Dy.res k n d y m < 2932897 then 0 else 1) := by
  unfold Dy.inS
  rw [if_neg (fun x => x h), if_neg (fun x => x hc), if_neg hn]
  by_cases hr : -719162 ≤ Dy.res k n d y m ∧ Dy.res k n d y m < 2932897
  · rw [if_pos hr, if_pos hr, if_pos hr]
  · rw [if_neg hr, if_neg hr, if_neg hr]
/-- What a block of cells holds stays behind what a callee did. -/
theorem kept3 {w w1 : World} {g : Nat} {a b c : Value} (h : w.cell? ⟨g, 0, none⟩ = some a ∧ w.cell? ⟨g, 1, none⟩ = some b ∧ w.cell? ⟨g, 2, none⟩ = some c) (hb : Below w.heap.size w w1) :
    w1.cell? ⟨g, 0, none⟩ = some a ∧ w1.cell? ⟨g, 1, none⟩ = some b ∧ w1.cell? ⟨g, 2, none⟩ = some c := by
  have hg : g < w.heap.size := block_lt_of_cell h.1
  exact ⟨(hb.cell (p := ⟨g, 0, none⟩) hg).trans h.1, (hb.cell (p := ⟨g, 1, none⟩) hg).trans h.2.1, (hb.cell (p := ⟨g, 2, none⟩) hg).trans h.2.2⟩
theorem laid3 (w : World) (a b c : Value) (t : TypeId) : (w.alloc (.cells #[a, b, c] t)).cell? ⟨w.heap.size, 0, none⟩ = some a ∧ (w.alloc (.cells #[a, b, c] t)).cell? ⟨w.heap.size, 1, none⟩ = some b ∧ (w.alloc (.cells #[a, b, c] t)).cell? ⟨w.heap.size, 2, none⟩ = some c :=
  ⟨cell_of_row _ w.heap.size 0 _ _ _ (heap_alloc_new w _), cell_of_row _ w.heap.size 1 _ _ _ (heap_alloc_new w _), cell_of_row _ w.heap.size 2 _ _ _ (heap_alloc_new w _)⟩

theorem kept3a {w w1 : World} {o : Obj} {g : Nat} {a b c : Value} (h : w.cell? ⟨g, 0, none⟩ = some a ∧ w.cell? ⟨g, 1, none⟩ = some b ∧ w.cell? ⟨g, 2, none⟩ = some c) (hb : Below (w.alloc o).heap.size (w.alloc o) w1) :
    w1.cell? ⟨g, 0, none⟩ = some a ∧ w1.cell? ⟨g, 1, none⟩ = some b ∧ w1.cell? ⟨g, 2, none⟩ = some c := kept3 (kept3 h ((Below.refl _ _).alloc (Nat.le_refl _) _)) hb

end Go.Proofs.YtajcgoinhpengaaDoor

/- The contracts of package clock: instants. -/
namespace Go.Proofs.YtajcgoinhpengaaDoor
open Go.RowKit

def IsTime (s : Int) : Prop := -604800 ≤ s ∧ s ≤ 604800
instance (s : Int) : Decidable (IsTime s) := by unfold IsTime; exact inferInstance
def InT (s : Int) : Prop := -1099511627776 ≤ s ∧ s ≤ 1099511627776
instance (s : Int) : Decidable (InT s) := by unfold InT; exact inferInstance

theorem ret_int22 {k : IntKind} {a b c d : Int} (h : a = b) (h' : c = d) : Ending.returned (.tuple #[.int k a, .int k c]) = .returned (.tuple #[.int k b, .int k d]) := by rw [h, h']
end Go.Proofs.YtajcgoinhpengaaDoor

/- The contracts of package clock: a time's text is read. -/
namespace Go.Proofs.YtajcgoinhpengaaDoor
open Go.RowKit

namespace Ck
def numC (l : List UInt8) (least most : Nat) : Int := if l.length < least ∨ most < l.length then -1 else Dy.numLoop l 0
def resN (N : Int) : Int := if N = -1 then 0 else N
def okN (N : Int) : Bool := !decide (N = -1)
end Ck
theorem ret_nb {a c : Int} {b d : Bool} (h : a = c) (h' : b = d) : Ending.returned (.tuple #[.int .i64 a, .bool b]) = .returned (.tuple #[.int .i64 c, .bool d]) := by rw [h, h']

theorem numLoop3_bd : ∀ (l : List UInt8) (a : Int), 0 ≤ a → -1 ≤ Dy.numLoop l a := by
  intro l
  induction l with
  | nil => intro a h; simp only [Dy.numLoop]; omega
  | cons c r ih =>
    intro a h
    simp only [Dy.numLoop]
    split
    · omega
    · exact ih _ (by omega)

end Go.Proofs.YtajcgoinhpengaaDoor

/- The contract of clock.Parse. -/
namespace Go.Proofs.YtajcgoinhpengaaDoor
open Go.RowKit

namespace Ck
def part (i : Nat) : Int := if i = 0 then 3600 else if i = 1 then 60 else 1
def least (i : Nat) : Nat := if i = 0 then 1 else 2
def most (i : Nat) : Nat := if i = 0 then 3 else 2
def bad (v : Int) (i : Nat) : Bool := decide (v = -1) || (decide (0 < i) && decide (60 ≤ v))
def loop : List ByteArray → Nat → Int → Option Int
  | [], _, s => some s
  | f :: r, i, s => if bad (numC (tl f) (least i) (most i)) i = true then none else loop r (i + 1) (s + numC (tl f) (least i) (most i) * part i)
def fin (o : Option Int) (b : Bool) : Int × Int :=
  match o with
  | none => (0, 4)
  | some v => if IsTime (if b then -v else v) then (if b then -v else v, 0) else (0, 1)
def rest (s : ByteArray) : ByteArray := ⟨(Lib.trimPrefix s.data.toList [45]).toArray⟩
def fields (r : ByteArray) : List ByteArray := Lib.splitB ⟨#[58]⟩ 0 (min 4 (r.size + 1) - 1) r
def parse (s : ByteArray) : Int × Int := if 3 < (fields (rest s)).length then (0, 4) else fin (loop (fields (rest s)) 0 0) (Lib.hasPrefix s.data.toList [45])
end Ck

theorem numC_bd (l : List UInt8) (least most : Nat) (h : most ≤ 3) : -1 ≤ Ck.numC l least most ∧ Ck.numC l least most ≤ 999 := by
  unfold Ck.numC
  split
  · omega
  · rename_i hn
    have hl : l.length ≤ 3 := by omega
    match l, hl with
    | [], _ => simp only [Dy.numLoop]; omega
    | [c], _ => simp only [Dy.numLoop]; split <;> omega
    | [c, d], _ =>
      simp only [Dy.numLoop]
      split
      · omega
      · split <;> omega
    | [c, d, e], _ =>
      simp only [Dy.numLoop]
      split
      · omega
      · split
        · omega
        · split <;> omega

theorem field_cell (w : World) (F : List ByteArray) (N : Nat) (t : TypeId) (k : Nat) (f : ByteArray) (h : F[k]? = some f) : (w.alloc (.cells (Lib.cellsOf F N) t)).cell? ⟨w.heap.size, k, none⟩ = some (.string f) := by
  rw [cell_of_row (w.alloc (.cells (Lib.cellsOf F N) t)) w.heap.size k (Lib.cellsOf F N) t (0, 0) (heap_alloc_new w _)]
  unfold Lib.cellsOf
  obtain ⟨hk, e⟩ := List.getElem?_eq_some_iff.1 h
  simp [List.getElem?_append, hk, e]
theorem loop_bad (F : List ByteArray) (k : Nat) (s : Int) (f : ByteArray) (o : Option Int) (h : o = Ck.loop (F.drop k) k s) (hf : F[k]? = some f) (hb : Ck.bad (Ck.numC (tl f) (Ck.least k) (Ck.most k)) k = true) : o = none := by
  obtain ⟨hk, e⟩ := List.getElem?_eq_some_iff.1 hf
  rw [h, List.drop_eq_getElem_cons hk, e, Ck.loop, if_pos hb]
theorem loop_next (F : List ByteArray) (k : Nat) (s : Int) (f : ByteArray) (o : Option Int) (h : o = Ck.loop (F.drop k) k s) (hf : F[k]? = some f) (hb : Ck.bad (Ck.numC (tl f) (Ck.least k) (Ck.most k)) k = false) : o = Ck.loop (F.drop (k + 1)) (k + 1) (s + Ck.numC (tl f) (Ck.least k) (Ck.most k) * Ck.part k) := by
  obtain ⟨hk, e⟩ := List.getElem?_eq_some_iff.1 hf
  rw [h, List.drop_eq_getElem_cons hk, e, Ck.loop, if_neg (by rw [hb]; decide)]
theorem loop_end (F : List ByteArray) (k : Nat) (s : Int) (o : Option Int) (h : o = Ck.loop (F.drop k) k s) (hk : F.length = k) : o = some s := by
  rw [h, List.drop_eq_nil_of_le (by omega)]; rfl

end Go.Proofs.YtajcgoinhpengaaDoor

/- The contract of clock.Text. -/
namespace Go.Proofs.YtajcgoinhpengaaDoor
open Go.RowKit

namespace Ck
def two (n : Int) : List UInt8 := [58, UInt8.ofNat (48 + n.toNat / 10), UInt8.ofNat (48 + n.toNat % 10)]
def body (a : Int) : List UInt8 := Lib.itoa (a / 3600) ++ two (a % 3600 / 60) ++ (if 0 < a % 3600 % 60 then two (a % 3600 % 60) else [])
def sign (s : Int) : List UInt8 := if s < 0 then [45] else []
def text (s : Int) : List UInt8 := if IsTime s then sign s ++ body (if s < 0 then -s else s) else []
/-- What is written ahead of a round. -/
def out (l : List UInt8) (a : Int) (k : Nat) : List UInt8 :=
  if k = 0 then l else if k = 1 then l ++ Lib.itoa (a / 3600) else if k = 2 then l ++ Lib.itoa (a / 3600) ++ two (a % 3600 / 60) else l ++ body a
def sec (a : Int) (k : Nat) : Int := if k = 0 then a else if k = 1 then a % 3600 else if k = 2 then a % 3600 % 60 else 0
end Ck

theorem two_cells (m : Int) (h0 : 0 ≤ m) (h1 : m < 100) : Lib.byteCells (Ck.two m) = [.int .u8 58, .int .u8 (48 + m / 10), .int .u8 (48 + m % 10)] := by
  obtain ⟨n, rfl⟩ : ∃ n : Nat, m = (n : Int) := ⟨m.toNat, by omega⟩
  unfold Ck.two Lib.byteCells
  have a1 : (48 + n / 10) % 256 = 48 + n / 10 := by omega
  have a2 : (48 + n % 10) % 256 = 48 + n % 10 := by omega
  simp [UInt8.toNat_ofNat, a1, a2]
theorem reads_cells (w : World) (cs : Array Value) (t : TypeId) : Reads (w.alloc (.cells cs t)) (w.heap.size + 1) 1 (some ⟨w.heap.size, 0, none⟩) cs.size cs.toList := by
  refine ⟨by simp, fun _ => ⟨_, rfl, Nat.lt_succ_self _, fun j u hu => ?_⟩⟩
  have h := cell_of_row (w.alloc (.cells cs t)) w.heap.size j cs t (0, 0) (heap_alloc_new w _)
  have e : (⟨w.heap.size, 0, none⟩ : Addr).add j = ⟨w.heap.size, j, none⟩ := by
    unfold Addr.add
    split
    · subst_vars; rfl
    · simp
  rw [e, h]
  simpa using hu
theorem u8_info : (Tryd.prog.info? 5).map (fun i => (i.zero, i.size, i.bytes)) = some (some (.int .u8 0), 1, 1) := by kernel_rfl
theorem byteCells_append (a b : List UInt8) : Lib.byteCells (a ++ b) = Lib.byteCells a ++ Lib.byteCells b := by simp [Lib.byteCells]
theorem itoa_len (n : Int) (h0 : 0 ≤ n) (h1 : n < 1000) : 1 ≤ (Lib.itoa n).length ∧ (Lib.itoa n).length ≤ 3 := by
  unfold Lib.itoa
  rw [if_neg (by omega)]
  have hn : n.toNat < 1000 := by omega
  obtain ⟨u, hu⟩ : ∃ u, n.toNat = u := ⟨_, rfl⟩
  rw [hu] at hn ⊢
  unfold Lib.decDigits
  split
  · simp
  · unfold Lib.decDigits
    split
    · simp
    · unfold Lib.decDigits
      rw [dif_pos (by omega)]
      simp
theorem two_len (n : Int) : (Ck.two n).length = 3 := rfl

/-- What a loop of Text holds. -/
def TextRel (w : World) (l : List UInt8) (a : Int) (s v i : Value) (wr : World) : Prop :=
  ∃ k : Nat, k ≤ 3 ∧ i = .int .i64 k ∧ s = .int .i64 (Ck.sec a k) ∧ wr.ownsRow w.heap.size 5 1 v (Ck.out l a k).length (Lib.byteCells (Ck.out l a k)) ∧ Below w.heap.size w wr
theorem owned_bytes {w wr : World} {v : Value} {L : List UInt8} (h : wr.ownsRow w.heap.size 5 1 v L.length (Lib.byteCells L)) (hp : 0 < L.length) :
    ∃ g cap, v = .slice (some ⟨g, 0, none⟩) L.length cap ∧ ∀ j (hj : j < L.length), wr.cell? ((⟨g, 0, none⟩ : Addr).add j) = some (.int .u8 (L[j].toNat : Int)) := by
  obtain ⟨g, cap, rfl, _, _⟩ := h.form hp
  exact ⟨g, cap, rfl, fun j hj => h.cells (g := g) rfl j _ (by simp [Lib.byteCells, hj])⟩
theorem out_len (l : List UInt8) (a : Int) (k : Nat) (hl : l.length ≤ 1) (h0 : 0 ≤ a) (h1 : a ≤ 604800) : (Ck.out l a k).length ≤ 10 := by
  have h := itoa_len (a / 3600) (by omega) (by omega)
  unfold Ck.out
  split
  · omega
  · split
    · simp only [List.length_append]; omega
    · split
      · simp only [List.length_append, two_len]; omega
      · unfold Ck.body
        split
        · simp only [List.length_append, two_len]; omega
        · simp only [List.length_append, two_len, List.length_nil]; omega
theorem out_pos (l : List UInt8) (a : Int) (h0 : 0 ≤ a) (h1 : a ≤ 604800) : 0 < (Ck.out l a 3).length := by
  have h := itoa_len (a / 3600) (by omega) (by omega)
  have e : Ck.out l a 3 = l ++ Ck.body a := rfl
  rw [e]; unfold Ck.body
  simp only [List.length_append]; omega

theorem own_next {wr : World} {B : Nat} {v : Value} {L M : List UInt8} (h : wr.ownsRow B 5 1 v (L.length + M.length) (Lib.byteCells L ++ Lib.byteCells M)) : wr.ownsRow B 5 1 v (L ++ M).length (Lib.byteCells (L ++ M)) := by
  rw [List.length_append, byteCells_append]; exact h
theorem own_two {wr : World} {B : Nat} {v : Value} {L : List UInt8} (L' : List UInt8) (m : Int) (h0 : 0 ≤ m) (h1 : m < 100) (e : L' = L ++ Ck.two m) (h : wr.ownsRow B 5 1 v (L.length + 3) (Lib.byteCells L ++ [.int .u8 58, .int .u8 (48 + m / 10), .int .u8 (48 + m % 10)])) : wr.ownsRow B 5 1 v L'.length (Lib.byteCells L') := by
  rw [e]
  exact own_next (by rw [two_cells m h0 h1, two_len]; exact h)
theorem grown_below {w wr w4 : World} {v : Value} {n : Nat} {xs : List Value} {o : Obj} (hb : Below w.heap.size w wr) (hown : wr.ownsRow w.heap.size 5 1 v n xs) (hg : (wr.alloc o).grownBy w4 v.ownBlock) : Below w.heap.size w w4 :=
  (hb.alloc hb.size o).grown hg (Nat.le_trans hb.size (by simp)) (fun k hk => (hown.lt k hk).1)

end Go.Proofs.YtajcgoinhpengaaDoor

/- Contracts of package clock in plain form. -/
namespace Go.Proofs.YtajcgoinhpengaaDoor
open Go.RowKit

namespace Ck
def dec3 (n : Int) : List UInt8 := if n < 10 then [UInt8.ofNat (48 + n.toNat)] else if n < 100 then [UInt8.ofNat (48 + n.toNat / 10), UInt8.ofNat (48 + n.toNat % 10)] else [UInt8.ofNat (48 + n.toNat / 10 / 10), UInt8.ofNat (48 + n.toNat / 10 % 10), UInt8.ofNat (48 + n.toNat % 10)]
def body' (a : Int) : List UInt8 := dec3 (a / 3600) ++ two (a % 3600 / 60) ++ (if 0 < a % 3600 % 60 then two (a % 3600 % 60) else [])
def text' (s : Int) : List UInt8 := if IsTime s then sign s ++ body' (if s < 0 then -s else s) else []
end Ck
theorem itoa_dec3 (n : Int) (h0 : 0 ≤ n) (h1 : n < 1000) : Lib.itoa n = Ck.dec3 n := by
  unfold Lib.itoa Ck.dec3
  rw [if_neg (by omega)]
  unfold Lib.decDigits
  by_cases a : n < 10
  · rw [dif_pos (by omega), if_pos a]
  · rw [dif_neg (by omega), if_neg a]
    unfold Lib.decDigits
    by_cases b : n < 100
    · rw [dif_pos (by omega), if_pos b]; rfl
    · rw [dif_neg (by omega), if_neg b]
      unfold Lib.decDigits
      rw [dif_pos (by omega)]; rfl
theorem text_eq (s : Int) : Ck.text s = Ck.text' s := by
  unfold Ck.text Ck.text'
  by_cases h : IsTime s
  · rw [if_pos h, if_pos h]
    have hb : 0 ≤ (if s < 0 then -s else s) ∧ (if s < 0 then -s else s) ≤ 604800 := by obtain ⟨a, b⟩ := h; split <;> omega
    unfold Ck.body Ck.body'
    rw [itoa_dec3 _ (by omega) (by omega)]
  · rw [if_neg h, if_neg h]

theorem int64_bd {t : Int} (h : (Lit.int .i64 t).wf = true) : -9223372036854775808 ≤ t ∧ t ≤ 9223372036854775807 := by
  simpa [Lit.wf, IntKind.min, IntKind.max, IntKind.signed, IntKind.bits] using h
end Go.Proofs.YtajcgoinhpengaaDoor

/- Plain law of times' texts: a time is read from its text. -/
namespace Go.Proofs.YtajcgoinhpengaaDoor
open Go.RowKit

namespace Ck
def loopL : List (List UInt8) → Nat → Int → Option Int
  | [], _, s => some s
  | f :: r, i, s => if bad (numC f (least i) (most i)) i = true then none else loopL r (i + 1) (s + numC f (least i) (most i) * part i)
theorem loop_lists : ∀ (F : List ByteArray) (i : Nat) (s : Int), loop F i s = loopL (F.map tl) i s
  | [], _, _ => rfl
  | f :: r, i, s => by
    simp only [loop, List.map_cons, loopL]
    split
    · rfl
    · exact loop_lists r _ _
theorem index_free : ∀ (p q : List UInt8), (∀ c ∈ p, c ≠ 58) → Lib.index (p ++ 58 :: q) [58] = p.length := by
  intro p q h
  rw [Lib.index_one]
  induction p with
  | nil => simp [Lib.indexByte]
  | cons c p ih =>
    have hc : (c == 58) = false := by simp [h c]
    have hi := ih fun d hd => h d (by simp [hd])
    simp only [List.cons_append, Lib.indexByte, hc, hi]
    have : (((p.length : Nat) : Int) == -1) = false := by rw [beq_eq_false_iff_ne]; omega
    simp [this]
theorem index_none : ∀ (p : List UInt8), (∀ c ∈ p, c ≠ 58) → Lib.index p [58] = -1 := by
  intro p h
  rw [Lib.index_one]
  induction p with
  | nil => rfl
  | cons c p ih =>
    have hc : (c == 58) = false := by simp [h c]
    have hi := ih fun d hd => h d (by simp [hd])
    simp [Lib.indexByte, hc, hi]
theorem split_next (p q : List UInt8) (k : Nat) (h : ∀ c ∈ p, c ≠ 58) : Lib.splitK [58] 0 (k + 1) (p ++ 58 :: q) = p :: Lib.splitK [58] 0 k q := by
  have e : (((p.length : Nat) : Int) == -1) = false := by rw [beq_eq_false_iff_ne]; omega
  have hd : (p ++ 58 :: q).drop (p.length + 1) = q := by
    rw [List.drop_append]
    simp
  have ht : (p ++ 58 :: q).take p.length = p := by simp
  show (if Lib.index (p ++ 58 :: q) [58] == -1 then [p ++ 58 :: q] else (p ++ 58 :: q).take ((Lib.index (p ++ 58 :: q) [58]).toNat + 0) :: Lib.splitK [58] 0 k ((p ++ 58 :: q).drop ((Lib.index (p ++ 58 :: q) [58]).toNat + ([58] : List UInt8).length))) = _
  rw [index_free p q h, e, Int.toNat_natCast]
  simp only [List.length_cons, List.length_nil, Nat.zero_add, Nat.add_zero, hd, ht]
  rfl
theorem split_last (p : List UInt8) (k : Nat) (h : ∀ c ∈ p, c ≠ 58) : Lib.splitK [58] 0 k p = [p] := by
  cases k with
  | zero => rfl
  | succ k =>
    show (if Lib.index p [58] == -1 then [p] else _) = _
    rw [index_none p h]
    rfl
def dig2 (n : Int) : List UInt8 := [UInt8.ofNat (48 + n.toNat / 10), UInt8.ofNat (48 + n.toNat % 10)]
theorem two_dig (n : Int) : two n = 58 :: dig2 n := rfl
def hourOk (h : Nat) : Bool := decide (numC (dec3 (h : Int)) 1 3 = (h : Int)) && (dec3 (h : Int)).all (fun c => decide (c ≠ 58)) && decide (Lib.hasPrefix (dec3 (h : Int)) [45] = false)
theorem hours_ok : ∀ h, h < 169 → hourOk h = true := by decide +kernel
def minOk (m : Nat) : Bool := decide (numC (dig2 (m : Int)) 2 2 = (m : Int)) && (dig2 (m : Int)).all (fun c => decide (c ≠ 58))
theorem mins_ok : ∀ m, m < 60 → minOk m = true := by decide +kernel
theorem hour (h : Int) (h0 : 0 ≤ h) (h1 : h < 169) : numC (dec3 h) 1 3 = h ∧ (∀ c ∈ dec3 h, c ≠ 58) ∧ Lib.hasPrefix (dec3 h) [45] = false := by
  have := hours_ok h.toNat (by omega)
  unfold hourOk at this
  rw [show ((h.toNat : Nat) : Int) = h by omega] at this
  simp only [Bool.and_eq_true, decide_eq_true_eq, List.all_eq_true] at this
  exact ⟨this.1.1, this.1.2, this.2⟩
theorem minute (m : Int) (h0 : 0 ≤ m) (h1 : m < 60) : numC (dig2 m) 2 2 = m ∧ (∀ c ∈ dig2 m, c ≠ 58) := by
  have := mins_ok m.toNat (by omega)
  unfold minOk at this
  rw [show ((m.toNat : Nat) : Int) = m by omega] at this
  simp only [Bool.and_eq_true, decide_eq_true_eq, List.all_eq_true] at this
  exact this
theorem bad_not (v : Int) (i : Nat) (h0 : 0 ≤ v) (h : i = 0 ∨ v < 60) : bad v i = false := by
  unfold bad
  rw [decide_eq_false (by omega)]
  rcases h with h | h
  · subst h; rfl
  · rw [decide_eq_false (show ¬ 60 ≤ v by omega)]; simp
/-- The fields of a time's digits, and what they come to. -/
theorem loop_body (a : Int) (h0 : 0 ≤ a) (h1 : a ≤ 604800) : loopL (Lib.splitK [58] 0 3 (body' a)) 0 0 = some a ∧ (Lib.splitK [58] 0 3 (body' a)).length ≤ 3 := by
  have H := hour (a / 3600) (by omega) (by omega)
  have M := minute (a % 3600 / 60) (by omega) (by omega)
  have S := minute (a % 3600 % 60) (by omega) (by omega)
  by_cases hs : 0 < a % 3600 % 60
  · have e : body' a = dec3 (a / 3600) ++ 58 :: (dig2 (a % 3600 / 60) ++ 58 :: dig2 (a % 3600 % 60)) := by
      unfold body'
      rw [if_pos hs, two_dig, two_dig]
      simp
    rw [e, split_next _ _ 2 H.2.1, split_next _ _ 1 M.2, split_last _ 1 S.2]
    refine ⟨?_, by simp⟩
    simp only [loopL, least, most, part, if_true, H.1, M.1, S.1, Nat.zero_add, Nat.one_ne_zero, if_false, show (1 + 1 : Nat) ≠ 0 by omega]
    rw [bad_not _ 0 (by omega) (.inl rfl), bad_not _ 1 (by omega) (.inr (by omega)), bad_not _ (1 + 1) (by omega) (.inr (by omega))]
    simp
    omega
  · have e : body' a = dec3 (a / 3600) ++ 58 :: dig2 (a % 3600 / 60) := by
      unfold body'
      rw [if_neg hs, two_dig]
      simp
    rw [e, split_next _ _ 2 H.2.1, split_last _ 2 M.2]
    refine ⟨?_, by simp⟩
    simp only [loopL, least, most, part, if_true, H.1, M.1, Nat.zero_add, Nat.one_ne_zero, if_false]
    rw [bad_not _ 0 (by omega) (.inl rfl), bad_not _ 1 (by omega) (.inr (by omega))]
    simp
    omega
theorem body_prefix (a : Int) (h0 : 0 ≤ a) (h1 : a ≤ 604800) : Lib.hasPrefix (body' a) [45] = false ∧ 4 ≤ (body' a).length := by
  have H := hour (a / 3600) (by omega) (by omega)
  obtain ⟨h, hh⟩ : ∃ h, dec3 (a / 3600) = h := ⟨_, rfl⟩
  unfold body'
  rw [hh] at H ⊢
  match h, H with
  | [], H =>
    have := H.1
    simp [numC] at this
    omega
  | c :: l, H =>
    have hp := H.2.2
    refine ⟨?_, ?_⟩
    · unfold Lib.hasPrefix at hp ⊢
      simp only [List.isPrefixOf, Bool.and_true] at hp
      simp [List.isPrefixOf]
      simpa using hp
    · split <;> simp [two] <;> omega
theorem fields_lists (r : ByteArray) : (fields r).map tl = Lib.splitK [58] 0 (min 4 (r.size + 1) - 1) (tl r) := Lib.splitB_data ⟨#[58]⟩ 0 _ r
theorem parse_of (s : ByteArray) (a : Int) (b : Bool) (h0 : 0 ≤ a) (h1 : a ≤ 604800) (hb : Lib.hasPrefix s.data.toList [45] = b) (hr : tl (rest s) = body' a) : parse s = (if b then -a else a, 0) := by
  have hl := loop_body a h0 h1
  have hp := body_prefix a h0 h1
  have hsz : (rest s).size = (body' a).length := by rw [← tl_length, hr]
  have hf := fields_lists (rest s)
  rw [hr, hsz, show min 4 ((body' a).length + 1) - 1 = 3 by omega] at hf
  have hlen : (fields (rest s)).length ≤ 3 := by
    have := congrArg List.length hf
    rw [List.length_map] at this
    omega
  unfold parse
  rw [if_neg (by omega), loop_lists, hf, hl.1, hb]
  unfold fin
  have ht : IsTime (if b then -a else a) := by unfold IsTime; split <;> omega
  simp only [if_pos ht]
theorem parse_text (n : Int) (h : IsTime n) : parse ⟨(text n).toArray⟩ = (n, 0) := by
  have ht := text_eq n
  unfold text' at ht
  rw [if_pos h] at ht
  obtain ⟨a1, a2⟩ := h
  by_cases hn : n < 0
  · have e : text n = 45 :: body' (-n) := by rw [ht]; unfold sign; rw [if_pos hn, if_pos hn]; rfl
    have hb : Lib.hasPrefix (⟨(text n).toArray⟩ : ByteArray).data.toList [45] = true := by
      show Lib.hasPrefix (text n) [45] = true
      rw [e]; simp [Lib.hasPrefix, List.isPrefixOf]
    have hr : tl (rest ⟨(text n).toArray⟩) = body' (-n) := by
      show (Lib.trimPrefix (text n) [45]).toArray.toList = _
      unfold Lib.trimPrefix
      have hb' : Lib.hasPrefix (text n) [45] = true := hb
      rw [hb', e]; simp
    have := parse_of _ (-n) true (by omega) (by omega) hb hr
    rw [this]; simp
  · have e : text n = body' n := by rw [ht]; unfold sign; rw [if_neg hn, if_neg hn]; rfl
    have hb : Lib.hasPrefix (⟨(text n).toArray⟩ : ByteArray).data.toList [45] = false := by
      show Lib.hasPrefix (text n) [45] = false
      rw [e]; exact (body_prefix n (by omega) (by omega)).1
    have hr : tl (rest ⟨(text n).toArray⟩) = body' n := by
      show (Lib.trimPrefix (text n) [45]).toArray.toList = _
      unfold Lib.trimPrefix
      have hb' : Lib.hasPrefix (text n) [45] = false := hb
      rw [hb', e]; simp
    have := parse_of _ n false (by omega) (by omega) hb hr
    rw [this]; simp
theorem parse_time (s : ByteArray) (n : Int) (h : parse s = (n, 0)) : IsTime n := by
  unfold parse at h
  split at h
  · simp at h
  · unfold fin at h
    split at h
    · simp at h
    · rename_i v _
      obtain ⟨x, hx⟩ : ∃ x, (if Lib.hasPrefix s.data.toList [45] = true then -v else v) = x := ⟨_, rfl⟩
      rw [hx] at h
      by_cases hi : IsTime x
      · rw [if_pos hi] at h
        rw [← (Prod.mk.inj h).1]
        exact hi
      · rw [if_neg hi] at h
        simp at h
theorem text_inj (m n : Int) (hn : IsTime n) (h : text m = text n) : m = n := by
  by_cases hm : IsTime m
  · have a := parse_text m hm
    rw [h, parse_text n hn] at a
    exact ((Prod.mk.inj a).1).symm
  · have e : text m = [] := by unfold text; rw [if_neg hm]
    rw [e] at h
    have a := parse_text n hn
    rw [← h] at a
    have b : parse ⟨([] : List UInt8).toArray⟩ = (0, 4) := by decide +kernel
    rw [b] at a
    simp at a
theorem piece_size : ∀ (k : Nat) (s : ByteArray), ∀ f ∈ Lib.splitB ⟨#[58]⟩ 0 k s, f.size ≤ s.size
  | 0, s => by intro f hf; simp [Lib.splitB] at hf; subst hf; exact Nat.le_refl _
  | k + 1, s => by
    intro f hf
    unfold Lib.splitB at hf
    split at hf
    · simp at hf; subst hf; exact Nat.le_refl _
    · rcases List.mem_cons.1 hf with rfl | hf
      · simp only [ByteArray.size_extract]; omega
      · have := piece_size k _ f hf
        simp only [ByteArray.size_extract] at this
        omega
theorem rest_size (s : ByteArray) : (rest s).size ≤ s.size := by
  show ((Lib.trimPrefix s.data.toList [45]).toArray).size ≤ _
  unfold Lib.trimPrefix
  have : s.data.toList.length = s.size := tl_length s
  split
  · simp only [List.size_toArray, List.length_drop]; omega
  · simp only [List.size_toArray]; omega
theorem text_size (n : Int) : (⟨(text n).toArray⟩ : ByteArray).size ≤ 1000 := by
  show (text n).length ≤ 1000
  unfold text
  split
  · rename_i h
    obtain ⟨a1, a2⟩ := h
    have := out_len (sign n) (if n < 0 then -n else n) 3 (by unfold sign; split <;> simp) (by split <;> omega) (by split <;> omega)
    have e2 : out (sign n) (if n < 0 then -n else n) 3 = sign n ++ body (if n < 0 then -n else n) := rfl
    rw [e2] at this
    omega
  · simp
end Ck
end Go.Proofs.YtajcgoinhpengaaDoor

/- clock.Parse and clock.Text at all texts. -/
namespace Go.Proofs.YtajcgoinhpengaaDoor
open Go.RowKit

theorem text_ne (n : Int) (h : IsTime n) : (⟨(Ck.text n).toArray⟩ : ByteArray).toList.isEmpty = false := by
  rw [ByteArray.toList_eq]
  cases e : Ck.text n with
  | nil =>
    have a := Ck.parse_text n h
    rw [e] at a
    have b : Ck.parse ⟨([] : List UInt8).toArray⟩ = (0, 4) := by decide +kernel
    rw [b] at a
    simp at a
  | cons c l => rfl
end Go.Proofs.YtajcgoinhpengaaDoor

/- The contracts of package moment: Check, Nominal, Instant. -/
namespace Go.Proofs.YtajcgoinhpengaaDoor
open Go.RowKit

/-- What stood ahead of a call reads as it did. -/
theorem bcell {B : Nat} {W w1 : World} (hb : Below B W w1) : (∀ b o, b < B → w1.cell? ⟨b, o, none⟩ = W.cell? ⟨b, o, none⟩) ∧ (∀ b o, b < B → w1.frozen? ⟨b, o, none⟩ = W.frozen? ⟨b, o, none⟩) :=
  ⟨fun b o h => hb.cell (p := ⟨b, o, none⟩) h, fun b o h => hb.frozen (p := ⟨b, o, none⟩) h⟩
namespace Mo
def Ok (s c : Int) : Prop := IsTime s ∧ c < 3
instance (s c : Int) : Decidable (Ok s c) := by unfold Ok; exact inferInstance
def nom (k n d y m s c : Int) : Int × Int := if Ok s c then (if (Dy.inS k n d y m).2 = 0 then ((Dy.inS k n d y m).1 * 86400 + s, 0) else (0, (Dy.inS k n d y m).2)) else (0, 2)
def ins (n c std save : Int) : Int × Int :=
  if 3 ≤ c then (0, 2) else if InT n ∧ InT std ∧ InT save then (if c = 0 then n - save - std else if c = 1 then n - std else n, 0) else (0, 1)
end Mo
theorem momCheck_ok (s c : Int) (w : World) (h : Mo.Ok s c) :
    Calls Tryd.prog 49 #[.agg #[.int .i64 s, .int .u8 c]] w fun e w' => e = .returned (.int .i64 0) ∧ Below w.heap.size w w' := by
  obtain ⟨⟨h1, h2⟩, h3⟩ := h
  go_enter Tryd.func49, Tryd.ntmps49
  go_wp2
  go_ret
  exact ⟨rfl, (Below.refl _ _).alloc (Nat.le_refl _) _⟩
theorem momCheck_bad (s c : Int) (w : World) (h : ¬ Mo.Ok s c) :
    Calls Tryd.prog 49 #[.agg #[.int .i64 s, .int .u8 c]] w fun e w' => e = .returned (.int .i64 2) ∧ Below w.heap.size w w' := by
  have h' : s < -604800 ∨ 604800 < s ∨ 3 ≤ c := by unfold Mo.Ok IsTime at h; omega
  clear h
  by_cases h1 : s < -604800
  · clear h'
    go_enter Tryd.func49, Tryd.ntmps49
    go_wp2
    go_ret
    exact ⟨rfl, (Below.refl _ _).alloc (Nat.le_refl _) _⟩
  · by_cases h2 : 604800 < s
    · clear h'
      go_enter Tryd.func49, Tryd.ntmps49
      go_wp2
      go_ret
      exact ⟨rfl, (Below.refl _ _).alloc (Nat.le_refl _) _⟩
    · have h3 : 3 ≤ c := by omega
      clear h'
      go_enter Tryd.func49, Tryd.ntmps49
      go_wp2
      go_ret
      exact ⟨rfl, (Below.refl _ _).alloc (Nat.le_refl _) _⟩

theorem inS_range (k n d y m a : Int) (h : Dy.inS k n d y m = (a, 0)) : -719162 ≤ a ∧ a < 2932897 := by
  unfold Dy.inS at h
  split at h
  · simp at h
  · split at h
    · simp at h
    · split at h
      · simp at h
      · split at h
        · rename_i hr
          simp at h
          subst h
          exact hr
        · simp at h

theorem inT_bd (n : Int) (h : ¬ InT n) : n < -1099511627776 ∨ 1099511627776 < n := by unfold InT at h; omega
end Go.Proofs.YtajcgoinhpengaaDoor
