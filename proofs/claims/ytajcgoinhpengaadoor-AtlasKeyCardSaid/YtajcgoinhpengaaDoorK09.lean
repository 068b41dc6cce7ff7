/- The contracts of package moment: CheckUntil, ParseUntil. -/
import Derived.Test.YtajcgoinhpengaaDoorK08
import Derived.Deep.RegionWith

namespace Go.Proofs.YtajcgoinhpengaaDoor
open Go.RowKit

namespace Mo
/-- An until: year, month, day (kind, number, day of the week), seconds, clock. -/
structure U where
  y : Int
  m : Int
  k : Int
  n : Int
  d : Int
  s : Int
  c : Int
def U.v (u : U) : Value := .agg #[.int .i64 u.y, .int .i64 u.m, .int .u8 u.k, .int .i64 u.n, .int .i64 u.d, .int .i64 u.s, .int .u8 u.c]
def U.cells (u : U) : List Value := [.int .i64 u.y, .int .i64 u.m, .int .u8 u.k, .int .i64 u.n, .int .i64 u.d, .int .i64 u.s, .int .u8 u.c]
def U.Ok (u : U) : Prop := InCal u.y u.m ∧ Dy.Ok u.k u.n u.d ∧ Mo.Ok u.s u.c
def U.zero : U := ⟨0, 0, 0, 0, 0, 0, 0⟩
def U.one : U := ⟨0, 1, 0, 1, 0, 0, 0⟩
/-- What the text at place k makes of an until, and why it does not. -/
def yearSt (u : U) (N : Int) : U × Int := (⟨yearV N, u.m, u.k, u.n, u.d, u.s, u.c⟩, if yearB N = true then 0 else 4)
def monthSt (u : U) (p : Int) : U × Int := (⟨u.y, p + 1, u.k, u.n, u.d, u.s, u.c⟩, if p + 1 = 0 then 7 else 0)
def daySt (u : U) (t : Int × Int × Int) : U × Int := if Dy.Ok t.1 t.2.1 t.2.2 then (⟨u.y, u.m, t.1, t.2.1, t.2.2, u.s, u.c⟩, 0) else (⟨u.y, u.m, 0, 0, 0, u.s, u.c⟩, 4)
def momSt (u : U) (p : (Int × Int) × Int) : U × Int := (⟨u.y, u.m, u.k, u.n, u.d, p.1.1, p.1.2⟩, p.2)
def step (k : Nat) (u : U) (t : ByteArray) : U × Int :=
  if k = 0 then yearSt u (yearN (tl t)) else if k = 1 then monthSt u (Wd.pick (tl t) (Months.map tl)) else if k = 2 then daySt u (Dy.told (tl t)) else momSt u (parse t)
def run : List ByteArray → Nat → U → U × Int × Int
  | [], _, u => (u, 0, 0)
  | t :: r, k, u => if (step k u t).2 = 0 then run r (k + 1) (step k u t).1 else (U.zero, k, (step k u t).2)
def uParse (l : List ByteArray) : U × Int × Int := if l.length = 0 then (U.zero, 0, 5) else if 4 < l.length then (U.zero, 4, 6) else run l 0 U.one
theorem run_bad (l : List ByteArray) (k : Nat) (u : U) (t : ByteArray) (P : U × Int × Int) (h : P = run (l.drop k) k u) (ht : l[k]? = some t) (e : Int) (hs : (step k u t).2 = e) (he : e ≠ 0) : P = (U.zero, (k : Int), e) := by
  rw [h, drop_of ht, run, if_neg (by rw [hs]; exact he), hs]
theorem run_next (l : List ByteArray) (k : Nat) (u : U) (t : ByteArray) (P : U × Int × Int) (h : P = run (l.drop k) k u) (ht : l[k]? = some t) (u' : U) (hs : step k u t = (u', 0)) : P = run (l.drop (k + 1)) (k + 1) u' := by
  rw [h, drop_of ht, run, if_pos (by rw [hs]), hs]
theorem run_end (l : List ByteArray) (k : Nat) (u : U) (P : U × Int × Int) (h : P = run (l.drop k) k u) (hk : l.length = k) : P = (u, 0, 0) := by
  rw [h, List.drop_eq_nil_of_le (by omega)]; rfl
end Mo
set_option maxHeartbeats 1000000 in
theorem checkUntil_ok (u : Mo.U) (w : World) (h : u.Ok) :
    Calls Tryd.prog 72 #[u.v] w fun e w' => e = .returned (.int .i64 0) ∧ Below w.heap.size w w' := by
  obtain ⟨⟨h1, h2, h3, h4⟩, hd, hm⟩ := h
  have HD := Lib.hid fun W => dayCheck_ok u.k u.n u.d W hd
  have HM := Lib.hid fun W => momCheck_ok u.s u.c W hm
  obtain ⟨y, m, k, n, d, s, c⟩ := u
  simp only at h1 h2 h3 h4 HD HM
  unfold Mo.U.v
  clear hd hm
  go_enter Tryd.func72, Tryd.ntmps72
  go_wp2_with fail
  refine (HD.out _).mono ?_
  rintro e w1 ⟨rfl, hb1⟩
  obtain ⟨c1, f1⟩ := bcell hb1
  have HB := Lib.hid ((((Below.refl w.heap.size w).alloc (Nat.le_refl _) (.cells #[.int .i64 y, .int .i64 m, .int .u8 k, .int .i64 n, .int .i64 d, .int .i64 s, .int .u8 c] 63))).trans (hb1.mono (by simp)))
  clear hb1
  go_wp2_with fail
  refine (HM.out _).mono ?_
  rintro e w2 ⟨rfl, hb2⟩
  replace HB := Lib.hid (below_then HB.out hb2)
  clear hb2
  go_wp2
  go_ret
  exact ⟨rfl, HB.out⟩
set_option maxHeartbeats 1000000 in
theorem checkUntil_bad (u : Mo.U) (w : World) (h : ¬ u.Ok) :
    Calls Tryd.prog 72 #[u.v] w fun e w' => e = .returned (.int .i64 2) ∧ Below w.heap.size w w' := by
  by_cases hc : InCal u.y u.m
  · by_cases hd : Dy.Ok u.k u.n u.d
    · have HD := Lib.hid fun W => dayCheck_ok u.k u.n u.d W hd
      have HM := Lib.hid fun W => momCheck_bad u.s u.c W (fun x => h ⟨hc, hd, x⟩)
      obtain ⟨h1, h2, h3, h4⟩ := hc
      clear h hd
      obtain ⟨y, m, k, n, d, s, c⟩ := u
      simp only at h1 h2 h3 h4 HD HM
      unfold Mo.U.v
      go_enter Tryd.func72, Tryd.ntmps72
      go_wp2_with fail
      refine (HD.out _).mono ?_
      rintro e w1 ⟨rfl, hb1⟩
      obtain ⟨c1, f1⟩ := bcell hb1
      have HB := Lib.hid ((((Below.refl w.heap.size w).alloc (Nat.le_refl _) (.cells #[.int .i64 y, .int .i64 m, .int .u8 k, .int .i64 n, .int .i64 d, .int .i64 s, .int .u8 c] 63))).trans (hb1.mono (by simp)))
      clear hb1
      go_wp2_with fail
      refine (HM.out _).mono ?_
      rintro e w2 ⟨rfl, hb2⟩
      replace HB := Lib.hid (below_then HB.out hb2)
      clear hb2
      go_wp2
      go_ret
      exact ⟨rfl, HB.out⟩
    · have HD := Lib.hid fun W => dayCheck_bad u.k u.n u.d W hd
      obtain ⟨h1, h2, h3, h4⟩ := hc
      clear h hd
      obtain ⟨y, m, k, n, d, s, c⟩ := u
      simp only at h1 h2 h3 h4 HD
      unfold Mo.U.v
      go_enter Tryd.func72, Tryd.ntmps72
      go_wp2_with fail
      refine (HD.out _).mono ?_
      rintro e w1 ⟨rfl, hb1⟩
      have HB := Lib.hid ((((Below.refl w.heap.size w).alloc (Nat.le_refl _) (.cells #[.int .i64 y, .int .i64 m, .int .u8 k, .int .i64 n, .int .i64 d, .int .i64 s, .int .u8 c] 63))).trans (hb1.mono (by simp)))
      clear hb1
      go_wp2
      go_ret
      exact ⟨rfl, HB.out⟩
  · obtain ⟨y, m, k, n, d, s, c⟩ := u
    have h' : y < 1 ∨ 9999 < y ∨ m < 1 ∨ 12 < m := by unfold InCal at hc; simp only at hc; omega
    clear h hc
    unfold Mo.U.v
    by_cases h1 : y < 1
    · clear h'
      go_enter Tryd.func72, Tryd.ntmps72
      go_wp2
      go_ret
      exact ⟨rfl, (Below.refl _ _).alloc (Nat.le_refl _) _⟩
    by_cases h2 : 9999 < y
    · clear h'
      go_enter Tryd.func72, Tryd.ntmps72
      go_wp2
      go_ret
      exact ⟨rfl, (Below.refl _ _).alloc (Nat.le_refl _) _⟩
    by_cases h3 : m < 1
    · clear h'
      go_enter Tryd.func72, Tryd.ntmps72
      go_wp2
      go_ret
      exact ⟨rfl, (Below.refl _ _).alloc (Nat.le_refl _) _⟩
    have h4 : 12 < m := by omega
    clear h'
    go_enter Tryd.func72, Tryd.ntmps72
    go_wp2
    go_ret
    exact ⟨rfl, (Below.refl _ _).alloc (Nat.le_refl _) _⟩

def Mo.URel (w : World) (n : Nat) (ss : List ByteArray) (P : Mo.U × Int × Int) (i : Value) (wr : World) : Prop :=
  ∃ (k : Nat) (u : Mo.U), k ≤ n ∧ i = .int .i64 k ∧ Hid (At wr (w.heap.size + 1) u.cells) ∧ Hid (At wr w.heap.size Mo.U.zero.cells) ∧ Hid (Below w.heap.size w wr) ∧ Hid (P = Mo.run (ss.drop k) k u)
end Go.Proofs.YtajcgoinhpengaaDoor

/- The contract of package moment: TextUntil. -/
namespace Go.Proofs.YtajcgoinhpengaaDoor
open Go.RowKit

namespace Mo
def u0 : ByteArray := ⟨#[]⟩
def u1 : ByteArray := ⟨#[74, 97, 110]⟩
def u2 : ByteArray := ⟨#[49]⟩
def u3 : ByteArray := ⟨#[48, 58, 48, 48]⟩
/-- The four texts of an until. -/
def U.full (u : U) : List ByteArray := [⟨(Lib.itoa u.y).toArray⟩, textOf Months (u.m - 1), ⟨(Dy.text u.k u.n u.d).toArray⟩, ⟨(text u.s u.c).toArray⟩]
/-- How many of them are written. -/
def U.count (u : U) : Nat :=
  if (⟨(text u.s u.c).toArray⟩ : ByteArray) = u3 then (if (⟨(Dy.text u.k u.n u.d).toArray⟩ : ByteArray) = u2 then (if textOf Months (u.m - 1) = u1 then 1 else 2) else 3) else 4
def U.texts (u : U) : List ByteArray := u.full.take u.count
end Mo
/-- A list of texts was returned, and no error. -/
def StrsRet (l : List ByteArray) (w : World) (e : Ending) (w' : World) : Prop :=
  ∃ A c, (l.length ≤ c ∧ c ≤ maxLen) ∧ e = .returned (.tuple #[.slice A l.length c, .int .i64 0]) ∧ Reads w' w'.heap.size 1 A l.length (l.map Value.string) ∧ Below w.heap.size w w'
def Mo.TRel (w2 : World) (C : Nat → Nat) (N : Nat) (v : Value) (wr : World) : Prop := ∃ k : Nat, 1 ≤ k ∧ k ≤ 4 ∧ v = .int .i64 k ∧ Drew w2 wr ∧ Hid (C k = N)
/-- How many are left, ahead of a look at the last of k. -/
def Mo.cnt (a b c : ByteArray) (k : Nat) : Nat := if k = 4 then (if c = Mo.u3 then (if b = Mo.u2 then (if a = Mo.u1 then 1 else 2) else 3) else 4) else if k = 3 then (if b = Mo.u2 then (if a = Mo.u1 then 1 else 2) else 3) else if k = 2 then (if a = Mo.u1 then 1 else 2) else 1
/-- A slice of the first ones. -/
theorem reads_first {w : World} {g B : Nat} {l : List ByteArray} (h : At w g (l.map Value.string)) (hg : g < B) (k : Nat) (hk : k ≤ l.length) : Reads w B 1 (some ⟨g, 0, none⟩) k ((l.take k).map Value.string) := by
  refine ⟨by simp; omega, fun _ => ⟨_, rfl, hg, fun j v hj => ?_⟩⟩
  have e : (⟨g, 0, none⟩ : Addr).add j = ⟨g, j, none⟩ := by
    unfold Addr.add
    split
    · subst_vars; rfl
    · simp
  rw [e]
  refine h.cell j v ?_
  have hl := (List.getElem?_eq_some_iff.1 hj).1
  simp only [List.length_map, List.length_take] at hl
  rw [List.map_take, List.getElem?_take] at hj
  split at hj
  · exact hj
  · simp at hj
theorem four {w : World} {g : Nat} {a b c d : Value} (h : At w g [a, b, c, d]) : w.cell? ⟨g, 0, none⟩ = some a ∧ w.cell? ⟨g, 1, none⟩ = some b ∧ w.cell? ⟨g, 2, none⟩ = some c ∧ w.cell? ⟨g, 3, none⟩ = some d :=
  ⟨h.cell 0 a rfl, h.cell 1 b rfl, h.cell 2 c rfl, h.cell 3 d rfl⟩
end Go.Proofs.YtajcgoinhpengaaDoor
