/- Eras in plain words: what is right, what is read, what is written. -/
import Derived.Test.YthmhadgbhakdlaaDoorP21
import Derived.Lib.CutLaws
import Derived.Deep.DeepCutAuto

namespace Go.Proofs.YthmhadgbhakdlaaDoor
open Go.RowKit

namespace Ab
def b0 : ByteArray := ⟨#[]⟩
def pS : ByteArray := ⟨#[37, 115]⟩
def pZ : ByteArray := ⟨#[37, 122]⟩
def pE : ByteArray := ⟨#[47]⟩
def ahd (f p : ByteArray) : ByteArray := ⟨(Lib.cut f.data.toList p.data.toList).1.toArray⟩
def bhd (f p : ByteArray) : ByteArray := ⟨(Lib.cut f.data.toList p.data.toList).2.1.toArray⟩
def has (f p : ByteArray) : Bool := (Lib.cut f.data.toList p.data.toList).2.2
/-- A format in parts, and whether it is right. -/
def cutf (f : ByteArray) : ByteArray × ByteArray × ByteArray × Bool :=
  if f.size < 1 ∨ 32 < f.size then (b0, b0, b0, false)
  else if has f pS = true then (ahd f pS, pS, bhd f pS, all [ahd f pS, bhd f pS])
  else if has f pZ = true then (ahd f pZ, pZ, bhd f pZ, all [ahd f pZ, bhd f pZ])
  else if has f pE = true then (ahd f pE, pE, bhd f pE, !decide (ahd f pE = b0) && (!decide (bhd f pE = b0) && all [ahd f pE, bhd f pE]))
  else (f, b0, b0, all [f])
def fmt (f : ByteArray) : Bool := (cutf f).2.2.2
theorem fmt_size (f : ByteArray) (h : fmt f = true) : 1 ≤ f.size ∧ f.size ≤ 32 := by
  unfold fmt cutf at h
  split at h
  · simp at h
  · omega
end Ab
instance decU : DecidableEq Mo.U := fun a b => decidable_of_iff (a.y = b.y ∧ a.m = b.m ∧ a.k = b.k ∧ a.n = b.n ∧ a.d = b.d ∧ a.s = b.s ∧ a.c = b.c) (by cases a; cases b; simp)
namespace Er
/-- An era: offset, kind, what is saved, rules' name, format, whether it ends, until. -/
structure E where
  std : Int
  k : Int
  sv : Int
  ru : ByteArray
  fm : ByteArray
  en : Bool
  u : Mo.U
instance decE : DecidableEq E := fun a b => decidable_of_iff (a.std = b.std ∧ a.k = b.k ∧ a.sv = b.sv ∧ a.ru = b.ru ∧ a.fm = b.fm ∧ a.en = b.en ∧ a.u = b.u) (by cases a; cases b; simp)
def E.v (e : E) : Value := .agg #[.int .i64 e.std, .int .u8 e.k, .int .i64 e.sv, .string e.ru, .string e.fm, .bool e.en, .int .i64 e.u.y, .int .i64 e.u.m, .int .u8 e.u.k, .int .i64 e.u.n, .int .i64 e.u.d, .int .i64 e.u.s, .int .u8 e.u.c]
def E.cells (e : E) : List Value := [.int .i64 e.std, .int .u8 e.k, .int .i64 e.sv, .string e.ru, .string e.fm, .bool e.en, .int .i64 e.u.y, .int .i64 e.u.m, .int .u8 e.u.k, .int .i64 e.u.n, .int .i64 e.u.d, .int .i64 e.u.s, .int .u8 e.u.c]
def E.zero : E := ⟨0, 0, 0, ⟨#[]⟩, ⟨#[]⟩, false, Mo.U.zero⟩
def E.Kind (e : E) : Prop := (e.k = 0 ∧ e.sv = 0 ∧ e.ru = ⟨#[]⟩) ∨ (e.k = 1 ∧ IsTime e.sv ∧ e.ru = ⟨#[]⟩) ∨ (e.k = 2 ∧ e.sv = 0 ∧ Ru.name (tl e.ru) = true)
def E.Ok (e : E) : Prop := IsTime e.std ∧ Ab.fmt e.fm = true ∧ e.Kind ∧ (e.en = true → e.u.Ok) ∧ (e.en = false → e.u = Mo.U.zero)
def digAt (s : ByteArray) (k : Nat) : Bool := match (tl s)[k]? with
  | some c => decide (48 ≤ (c.toNat : Int) ∧ (c.toNat : Int) ≤ 57)
  | none => false
def num (s : ByteArray) : Bool := digAt s 0 || (decide ((tl s)[0]? = some 45) && digAt s 1)
def stdS (e : E) (s : ByteArray) : E × Int := if s = ⟨#[45]⟩ then (e, 0) else (⟨(Ck.parse s).1, e.k, e.sv, e.ru, e.fm, e.en, e.u⟩, (Ck.parse s).2)
def savS (e : E) (s : ByteArray) : E × Int :=
  if s = ⟨#[45]⟩ then (e, 0) else if num s = true then (⟨e.std, 1, (Ck.parse s).1, e.ru, e.fm, e.en, e.u⟩, (Ck.parse s).2)
  else if Ru.name (tl s) = true then (⟨e.std, 2, e.sv, s, e.fm, e.en, e.u⟩, 0) else (e, 7)
def fmS (e : E) (s : ByteArray) : E × Int := (⟨e.std, e.k, e.sv, e.ru, s, e.en, e.u⟩, if Ab.fmt s = true then 0 else 4)
def estep (j : Nat) (e : E) (s : ByteArray) : E × Int := if j = 0 then stdS e s else if j = 1 then savS e s else fmS e s
def run : List ByteArray → Nat → E → E × Int × Int
  | [], _, e => (e, 0, 0)
  | t :: l, j, e => if (estep j e t).2 = 0 then run l (j + 1) (estep j e t).1 else (E.zero, j, (estep j e t).2)
def E.until_ (e : E) (u : Mo.U) : E := ⟨e.std, e.k, e.sv, e.ru, e.fm, true, u⟩
def parse (l : List ByteArray) : E × Int × Int :=
  if (run (l.take 3) 0 E.zero).2.2 = 0 then
    (if l.length < 3 then (E.zero, l.length, 5) else if l.length = 3 then ((run (l.take 3) 0 E.zero).1, 0, 0)
     else if (Mo.uParse (l.drop 3)).2.2 = 0 then ((run (l.take 3) 0 E.zero).1.until_ (Mo.uParse (l.drop 3)).1, 0, 0)
     else (E.zero, 3 + (Mo.uParse (l.drop 3)).2.1, (Mo.uParse (l.drop 3)).2.2))
  else run (l.take 3) 0 E.zero
def E.mid (e : E) : ByteArray := if e.k = 1 then ⟨(Ck.text e.sv).toArray⟩ else if e.k = 2 then e.ru else ⟨#[45]⟩
def E.front (e : E) : List ByteArray := [⟨(Ck.text e.std).toArray⟩, e.mid, e.fm]
/-- The texts of an era. -/
def E.texts (e : E) : List ByteArray := if e.en = true then e.front ++ e.u.texts else e.front
theorem run_bad (l : List ByteArray) (k : Nat) (r : E) (t : ByteArray) (P : E × Int × Int) (h : P = run (l.drop k) k r) (ht : l[k]? = some t) (he : (estep k r t).2 ≠ 0) : P = (E.zero, (k : Int), (estep k r t).2) := by
  rw [h, drop_of ht, run, if_neg he]
theorem run_next (l : List ByteArray) (k : Nat) (r : E) (t : ByteArray) (P : E × Int × Int) (h : P = run (l.drop k) k r) (ht : l[k]? = some t) (he : (estep k r t).2 = 0) : P = run (l.drop (k + 1)) (k + 1) (estep k r t).1 := by
  rw [h, drop_of ht, run, if_pos he]
theorem run_end (l : List ByteArray) (k : Nat) (r : E) (P : E × Int × Int) (h : P = run (l.drop k) k r) (hk : l.length = k) : P = (r, 0, 0) := by
  rw [h, List.drop_eq_nil_of_le (by omega)]; rfl
end Er
end Go.Proofs.YthmhadgbhakdlaaDoor

/- The contracts of package abbr: cut, Check. -/
namespace Go.Proofs.YthmhadgbhakdlaaDoor
open Go.RowKit

theorem cut_parts (f p : ByteArray) : (Ab.ahd f p).size ≤ f.size ∧ (Ab.bhd f p).size ≤ f.size := by
  have := cut_len f.data.toList p.data.toList
  have e : f.data.toList.length = f.size := tl_length f
  rw [e] at this
  exact this
theorem reads_pair (w : World) (a b : ByteArray) (t : TypeId) : Reads (w.alloc (.cells #[.string a, .string b] t)) (w.alloc (.cells #[.string a, .string b] t)).heap.size 1 (some ⟨w.heap.size, 0, none⟩) 2 ([a, b].map Value.string) := reads_new w [a, b] t
def Ab.Ret (c : ByteArray × ByteArray × ByteArray × Bool) (w : World) (e : Ending) (w' : World) : Prop :=
  e = .returned (.tuple #[.string c.1, .string c.2.1, .string c.2.2.1, .bool c.2.2.2]) ∧ Below w.heap.size w w'
def Ab.Rel (w : World) (K : Nat) (i : Value) (wr : World) : Prop := ∃ k : Nat, k ≤ K ∧ i = .int .i64 k ∧ Hid (Drew w wr)
theorem name_all (s : ByteArray) (w : World) (hs : s.size ≤ maxLen) :
    Calls Tryd.prog 35 #[.string s] w fun e w' => e = .returned (.bool (Ru.name (tl s))) ∧ Below w.heap.size w w' := by
  by_cases hl : s.size ≤ 1000000
  · exact name_any s w hl
  · unfold maxLen at hs
    have HRs := Lib.hid fun W => calls_bool (rising3_any 1 (s.size : Int) 64 W) (show _ = false by simp; omega)
    have HX : Hid (Ru.name (tl s) = false) := by
      show Ru.name (tl s) = false
      unfold Ru.name
      rw [tl_length, decide_eq_false (by omega), Bool.false_and]
    go_enter Tryd.func35, Tryd.ntmps35
    go_wp2_with fail
    refine (HRs.out _).mono ?_
    rintro e w1 ⟨rfl, hb⟩
    go_wp2
    go_ret
    exact ⟨ret_bool (by rw [HX.out]), hb⟩
end Go.Proofs.YthmhadgbhakdlaaDoor

/- The contracts of package era: isTime, isDigit, Check. -/
namespace Go.Proofs.YthmhadgbhakdlaaDoor
open Go.RowKit

namespace Er
def kindB (k sv : Int) (ru : ByteArray) : Bool := decide ((k = 0 ∧ sv = 0 ∧ ru = ⟨#[]⟩) ∨ (k = 1 ∧ IsTime sv ∧ ru = ⟨#[]⟩) ∨ (k = 2 ∧ sv = 0 ∧ Ru.name (tl ru) = true))
noncomputable instance decUOk (u : Mo.U) : Decidable u.Ok := Classical.propDecidable _
/-- What a check says of an era. -/
noncomputable def chk (e : E) : Int := if IsTime e.std ∧ Ab.fmt e.fm = true ∧ kindB e.k e.sv e.ru = true then (if e.en = true then (if e.u.Ok then 0 else 2) else (if e.u = Mo.U.zero then 0 else 2)) else 2
theorem chk_ok (e : E) (h : e.Ok) : chk e = 0 := by
  obtain ⟨h1, h2, h3, h4, h5⟩ := h
  unfold chk kindB
  rw [if_pos ⟨h1, h2, decide_eq_true h3⟩]
  cases hx : e.en
  · rw [if_neg (by decide), if_pos (h5 hx)]
  · rw [if_pos rfl, if_pos (h4 hx)]
theorem chk_bad (e : E) (h : ¬ e.Ok) : chk e = 2 := by
  unfold chk
  by_cases h1 : IsTime e.std ∧ Ab.fmt e.fm = true ∧ kindB e.k e.sv e.ru = true
  · rw [if_pos h1]
    unfold kindB at h1
    rw [decide_eq_true_eq] at h1
    cases hx : e.en
    · rw [if_neg (by decide), if_neg (fun hu => h ⟨h1.1, h1.2.1, h1.2.2, fun y => (by rw [hx] at y; cases y), fun _ => hu⟩)]
    · rw [if_pos rfl, if_neg (fun hu => h ⟨h1.1, h1.2.1, h1.2.2, fun _ => hu, fun y => (by rw [hx] at y; cases y)⟩)]
  · rw [if_neg h1]
end Er
def Er.At13 (w : World) (cs : List Value) (t : Value) (b : Bool) (wx : World) : Prop := t = .bool b ∧ Hid (At wx w.heap.size cs) ∧ Hid (Below w.heap.size w wx)
end Go.Proofs.YthmhadgbhakdlaaDoor

/- Plain law of rules: a right rule is read from its texts; what is read is right. -/
namespace Go.Proofs.YthmhadgbhakdlaaDoor
open Go.RowKit

namespace Ru
theorem pick_digit (c : UInt8) (l : List UInt8) (h1 : 48 ≤ c.toNat) (h2 : c.toNat ≤ 57) : Wd.pick (c :: l) [tl only, tl maximum] = -1 := by
  have hlow : Wd.low c = c := by
    unfold Wd.low
    rw [if_neg]
    intro x
    have := x.1
    rw [UInt8.le_iff_toNat_le] at this
    have e : (65 : UInt8).toNat = 65 := rfl
    omega
  have hb : ∀ (d : UInt8) (m : List UInt8), 97 ≤ d.toNat → d.toNat ≤ 122 → Wd.begins (d :: m) (c :: l) = false := by
    intro d m d1 d2
    unfold Wd.begins Wd.same Wd.lows
    rw [Bool.and_eq_false_iff]
    right
    rw [decide_eq_false_iff_not]
    simp only [List.length_cons, List.take_succ_cons, List.map_cons]
    intro e
    have e1 := (List.cons.inj e).1
    rw [hlow] at e1
    have hd : Wd.low d = d := by
      unfold Wd.low
      rw [if_neg]
      intro x
      have := x.2
      rw [UInt8.le_iff_toNat_le] at this
      have e : (90 : UInt8).toNat = 90 := rfl
      omega
    rw [hd] at e1
    rw [e1] at d1
    omega
  unfold Wd.pick
  rw [if_neg (by simp)]
  have e1 : tl only = 111 :: [110, 108, 121] := rfl
  have e2 : tl maximum = 109 :: [97, 120, 105, 109, 117, 109] := rfl
  rw [e1, e2]
  simp only [Wd.pickLoop, hb 111 _ (by decide) (by decide), hb 109 _ (by decide) (by decide)]
  simp
theorem dec_head (n : Nat) : ∃ (k : Nat) (l : List UInt8), Lib.decDigits n = UInt8.ofNat (48 + k) :: l ∧ k < 10 := by
  induction n using Nat.strongRecOn with
  | _ n ih =>
    rw [Lib.decDigits]
    by_cases h : n < 10
    · rw [dif_pos h]; exact ⟨n, [], rfl, h⟩
    · rw [dif_neg h]
      obtain ⟨k, l, e, hk⟩ := ih (n / 10) (by omega)
      rw [e]
      exact ⟨k, l ++ [UInt8.ofNat (48 + n % 10)], rfl, hk⟩
theorem pick_itoa (y : Int) (h : 0 ≤ y) : Wd.pick (Lib.itoa y) [tl only, tl maximum] = -1 := by
  unfold Lib.itoa
  rw [if_neg (by omega)]
  obtain ⟨k, l, e, hk⟩ := dec_head y.toNat
  rw [e]
  have hu := u8_of (48 + k) (by omega)
  exact pick_digit _ l (by rw [hu]; omega) (by rw [hu]; omega)
theorem to_last (r : R) (h1 : 1 ≤ r.fr) (h2 : r.fr ≤ r.tt) (h3 : r.tt ≤ 9999) : toS r.last r.fr = (r.tt, 0) := by
  unfold R.last
  by_cases ha : r.tt = r.fr
  · rw [if_pos ha]
    unfold toS
    rw [if_pos (by decide +kernel), ha]
  · rw [if_neg ha]
    by_cases hb : r.tt = 9999
    · rw [if_pos hb]
      unfold toS
      rw [if_neg (by decide +kernel), if_pos (by decide +kernel), hb]
    · rw [if_neg hb]
      unfold toS
      rw [tl_mk, pick_itoa r.tt (by omega), if_neg (by decide), if_neg (by decide), Mo.year_itoa r.tt (by omega) h3, if_pos (Mo.yearB_of r.tt (by omega) h3), Mo.yearV_of r.tt (by omega), if_pos h2]
theorem text_dash (s : Int) (h : IsTime s) : ¬ (⟨(Ck.text s).toArray⟩ : ByteArray) = ⟨#[45]⟩ := by
  obtain ⟨X, k, hX, _, hl⟩ := Mo.text_last s h
  exact Mo.ne_dash _ (by rw [hX]; simp; omega)
theorem lett_step (r : R) (v : R) (h : Ab.letter r.lt = true) (hv : v.lt = ⟨#[]⟩) : rstep 8 v r.lett = (⟨v.nm, v.fr, v.tt, v.mo, v.k, v.n, v.d, v.s, v.c, v.sv, r.lt⟩, 0) := by
  unfold rstep R.lett
  rw [if_neg (by omega), if_neg (by omega), if_neg (by omega), if_neg (by omega), if_neg (by omega), if_neg (by omega), if_neg (by omega), if_neg (by omega)]
  by_cases he : r.lt = ⟨#[]⟩
  · rw [if_pos he, if_pos rfl, he, ← hv]
  · rw [if_neg he]
    have hd : ¬ r.lt = ⟨#[45]⟩ := by
      intro x
      unfold Ab.letter at h
      rw [x] at h
      simp at h
    rw [if_neg hd, if_pos h]
section
variable (r : R)
theorem run_texts (h : r.Ok) (hc : 0 ≤ r.c) : ∀ j, j ≤ 9 → run (r.texts.take j) 0 R.zero =
    (⟨if 1 ≤ j then r.nm else R.zero.nm, if 2 ≤ j then r.fr else 0, if 3 ≤ j then r.tt else 0, if 5 ≤ j then r.mo else 0, if 6 ≤ j then r.k else 0, if 6 ≤ j then r.n else 0, if 6 ≤ j then r.d else 0, if 7 ≤ j then r.s else 0, if 7 ≤ j then r.c else 0, if 8 ≤ j then r.sv else 0, if 9 ≤ j then r.lt else R.zero.lt⟩, 0, 0) := by
  obtain ⟨h1, ⟨h2, h3, h4⟩, ⟨h5, h6⟩, hd, hm, hv, hl⟩ := h
  have s0 : ∀ v : R, rstep 0 v r.nm = (⟨r.nm, v.fr, v.tt, v.mo, v.k, v.n, v.d, v.s, v.c, v.sv, v.lt⟩, 0) := fun v => by unfold rstep; rw [if_pos rfl, if_pos h1]
  have s1 : ∀ v : R, rstep 1 v ⟨(Lib.itoa r.fr).toArray⟩ = (⟨v.nm, r.fr, v.tt, v.mo, v.k, v.n, v.d, v.s, v.c, v.sv, v.lt⟩, 0) := fun v => by
    unfold rstep; rw [if_neg (by omega), if_pos rfl, tl_mk, Mo.year_itoa r.fr h2 (by omega), Mo.yearV_of r.fr h2, if_pos (Mo.yearB_of r.fr h2 (by omega))]
  have s2 : ∀ v : R, v.fr = r.fr → rstep 2 v r.last = (⟨v.nm, v.fr, r.tt, v.mo, v.k, v.n, v.d, v.s, v.c, v.sv, v.lt⟩, 0) := fun v e => by
    unfold rstep; rw [if_neg (by omega), if_neg (by omega), if_pos rfl, e, to_last r h2 h3 h4]
  have s3 : ∀ v : R, rstep 3 v ⟨#[45]⟩ = (v, 0) := fun v => by
    unfold rstep; rw [if_neg (by omega), if_neg (by omega), if_neg (by omega), if_pos rfl, if_pos rfl]
  have s4 : ∀ v : R, rstep 4 v (textOf Months (r.mo - 1)) = (⟨v.nm, v.fr, v.tt, r.mo, v.k, v.n, v.d, v.s, v.c, v.sv, v.lt⟩, 0) := fun v => by
    unfold rstep; rw [if_neg (by omega), if_neg (by omega), if_neg (by omega), if_neg (by omega), if_pos rfl, Mo.pick_month r.mo h5 h6, if_neg (by omega)]
  have s5 : ∀ v : R, rstep 5 v ⟨(Dy.text r.k r.n r.d).toArray⟩ = (⟨v.nm, v.fr, v.tt, v.mo, r.k, r.n, r.d, v.s, v.c, v.sv, v.lt⟩, 0) := fun v => by
    unfold rstep; rw [if_neg (by omega), if_neg (by omega), if_neg (by omega), if_neg (by omega), if_neg (by omega), if_pos rfl, tl_mk, Dy.told_text r.k r.n r.d hd]
    simp only
    rw [if_pos hd]
  have s6 : ∀ v : R, rstep 6 v ⟨(Mo.text r.s r.c).toArray⟩ = (⟨v.nm, v.fr, v.tt, v.mo, v.k, v.n, v.d, r.s, r.c, v.sv, v.lt⟩, 0) := fun v => by
    unfold rstep; rw [if_neg (by omega), if_neg (by omega), if_neg (by omega), if_neg (by omega), if_neg (by omega), if_neg (by omega), if_pos rfl, Mo.parse_text r.s r.c hm hc]
  have s7 : ∀ v : R, rstep 7 v ⟨(Ck.text r.sv).toArray⟩ = (⟨v.nm, v.fr, v.tt, v.mo, v.k, v.n, v.d, v.s, v.c, r.sv, v.lt⟩, 0) := fun v => by
    unfold rstep; rw [if_neg (by omega), if_neg (by omega), if_neg (by omega), if_neg (by omega), if_neg (by omega), if_neg (by omega), if_neg (by omega), if_pos rfl, if_neg (text_dash r.sv hv), Ck.parse_text r.sv hv]
  have s8 := fun v hv => lett_step r v hl hv
  intro j hj
  have hjj : j = 0 ∨ j = 1 ∨ j = 2 ∨ j = 3 ∨ j = 4 ∨ j = 5 ∨ j = 6 ∨ j = 7 ∨ j = 8 ∨ j = 9 := by omega
  unfold R.texts
  rcases hjj with rfl | rfl | rfl | rfl | rfl | rfl | rfl | rfl | rfl | rfl
  all_goals
    simp only [List.take_zero, List.take_succ_cons, run, s0, s1, s2, s3, s4, s5, s6, s7, if_true, Nat.zero_add, Nat.reduceAdd]
    first
    | rfl
    | (rw [s8 _ rfl]; rfl)
theorem parse_texts (h : r.Ok) (hc : 0 ≤ r.c) : parse r.texts = (r, 0, 0) := by
  have e : r.texts.take 9 = r.texts := rfl
  have hr := run_texts r h hc 9 (by omega)
  rw [e] at hr
  unfold parse
  rw [e, hr, if_pos rfl, if_neg (show ¬ r.texts.length < 9 from by show ¬ 9 < 9; omega), if_neg (show ¬ 9 < r.texts.length from by show ¬ 9 < 9; omega)]
  rfl
theorem parse_eight (h : r.Ok) (hc : 0 ≤ r.c) : parse (r.texts.take 8) = (R.zero, 8, 5) := by
  have e : (r.texts.take 8).take 9 = r.texts.take 8 := rfl
  have hr := run_texts r h hc 8 (by omega)
  unfold parse
  rw [e, hr, if_pos rfl, if_pos (show (r.texts.take 8).length < 9 from by show 8 < 9; omega)]
  rfl
end
/-- What holds behind k texts. -/
def Inv (k : Nat) (r : R) : Prop :=
  (1 ≤ k → name (tl r.nm) = true) ∧ (2 ≤ k → 1 ≤ r.fr ∧ r.fr ≤ 9999) ∧ (3 ≤ k → r.fr ≤ r.tt ∧ r.tt ≤ 9999) ∧ (5 ≤ k → 1 ≤ r.mo ∧ r.mo ≤ 12) ∧ (6 ≤ k → Dy.Ok r.k r.n r.d) ∧ Mo.Ok r.s r.c ∧ 0 ≤ r.c ∧ IsTime r.sv ∧ Ab.letter r.lt = true
theorem inv_zero : Inv 0 R.zero := ⟨fun h => absurd h (by omega), fun h => absurd h (by omega), fun h => absurd h (by omega), fun h => absurd h (by omega), fun h => absurd h (by omega), by decide, by decide, by decide, by decide +kernel⟩
theorem to_ok (x : ByteArray) (f v : Int) (h : toS x f = (v, 0)) (h1 : 1 ≤ f) (h2 : f ≤ 9999) : f ≤ v ∧ v ≤ 9999 := by
  unfold toS at h
  split at h
  · have := (Prod.mk.inj h).1; omega
  · split at h
    · have := (Prod.mk.inj h).1; omega
    · split at h
      · split at h
        · rename_i hb hf
          have := (Prod.mk.inj h).1
          unfold Mo.yearB at hb
          rw [decide_eq_true_eq] at hb
          have e : Mo.yearV (Mo.yearN (tl x)) = Mo.yearN (tl x) := by unfold Mo.yearV; rw [if_neg (by omega)]
          omega
        · simp at h
      · simp at h
theorem inv_step (k : Nat) (hk : k < 9) (r r' : R) (x : ByteArray) (h : rstep k r x = (r', 0)) (hi : Inv k r) : Inv (k + 1) r' := by
  obtain ⟨i1, i2, i3, i4, i5, i6, i7, i8, i9⟩ := hi
  have hkk : k = 0 ∨ k = 1 ∨ k = 2 ∨ k = 3 ∨ k = 4 ∨ k = 5 ∨ k = 6 ∨ k = 7 ∨ k = 8 := by omega
  unfold rstep at h
  rcases hkk with rfl | rfl | rfl | rfl | rfl | rfl | rfl | rfl | rfl
  · rw [if_pos rfl] at h
    have e := Prod.mk.inj h
    have hn : name (tl x) = true := by
      cases hx : name (tl x)
      · rw [hx] at e; simp at e
      · rfl
    rw [← e.1]
    exact ⟨fun _ => hn, fun h => absurd h (by omega), fun h => absurd h (by omega), fun h => absurd h (by omega), fun h => absurd h (by omega), i6, i7, i8, i9⟩
  · rw [if_neg (by omega), if_pos rfl] at h
    have e := Prod.mk.inj h
    have hb : Mo.yearB (Mo.yearN (tl x)) = true := by
      cases hx : Mo.yearB (Mo.yearN (tl x))
      · rw [hx] at e; simp at e
      · rfl
    unfold Mo.yearB at hb
    rw [decide_eq_true_eq] at hb
    have ev : Mo.yearV (Mo.yearN (tl x)) = Mo.yearN (tl x) := by unfold Mo.yearV; rw [if_neg (by omega)]
    rw [← e.1]
    exact ⟨fun _ => i1 (by omega), fun _ => by show 1 ≤ Mo.yearV _ ∧ Mo.yearV _ ≤ 9999; rw [ev]; exact hb, fun h => absurd h (by omega), fun h => absurd h (by omega), fun h => absurd h (by omega), i6, i7, i8, i9⟩
  · rw [if_neg (by omega), if_neg (by omega), if_pos rfl] at h
    have e := Prod.mk.inj h
    have hf := i2 (by omega)
    have ht := to_ok x r.fr (toS x r.fr).1 (by rw [← e.2]) hf.1 hf.2
    rw [← e.1]
    exact ⟨fun _ => i1 (by omega), fun _ => hf, fun _ => ht, fun h => absurd h (by omega), fun h => absurd h (by omega), i6, i7, i8, i9⟩
  · rw [if_neg (by omega), if_neg (by omega), if_neg (by omega), if_pos rfl] at h
    have e := Prod.mk.inj h
    rw [← e.1]
    exact ⟨fun _ => i1 (by omega), fun _ => i2 (by omega), fun _ => i3 (by omega), fun h => absurd h (by omega), fun h => absurd h (by omega), i6, i7, i8, i9⟩
  · rw [if_neg (by omega), if_neg (by omega), if_neg (by omega), if_neg (by omega), if_pos rfl] at h
    have e := Prod.mk.inj h
    have hb := Mo.pick_months_bd (tl x)
    have hz : ¬ Wd.pick (tl x) (Months.map tl) + 1 = 0 := by intro y; rw [if_pos y] at e; simp at e
    rw [← e.1]
    exact ⟨fun _ => i1 (by omega), fun _ => i2 (by omega), fun _ => i3 (by omega), fun _ => ⟨by show 1 ≤ _ + 1; omega, by show _ + 1 ≤ 12; omega⟩, fun h => absurd h (by omega), i6, i7, i8, i9⟩
  · rw [if_neg (by omega), if_neg (by omega), if_neg (by omega), if_neg (by omega), if_neg (by omega), if_pos rfl] at h
    by_cases hd : Dy.Ok (Dy.told (tl x)).1 (Dy.told (tl x)).2.1 (Dy.told (tl x)).2.2
    · rw [if_pos hd] at h
      rw [← (Prod.mk.inj h).1]
      exact ⟨fun _ => i1 (by omega), fun _ => i2 (by omega), fun _ => i3 (by omega), fun _ => i4 (by omega), fun _ => hd, i6, i7, i8, i9⟩
    · rw [if_neg hd] at h
      have := (Prod.mk.inj h).2
      simp at this
  · rw [if_neg (by omega), if_neg (by omega), if_neg (by omega), if_neg (by omega), if_neg (by omega), if_neg (by omega), if_pos rfl] at h
    have e := Prod.mk.inj h
    have hp := Mo.parse_ok x (Mo.parse x).1.1 (Mo.parse x).1.2 (by rw [← e.2])
    rw [← e.1]
    exact ⟨fun _ => i1 (by omega), fun _ => i2 (by omega), fun _ => i3 (by omega), fun _ => i4 (by omega), fun _ => i5 (by omega), hp.1, hp.2, i8, i9⟩
  · rw [if_neg (by omega), if_neg (by omega), if_neg (by omega), if_neg (by omega), if_neg (by omega), if_neg (by omega), if_neg (by omega), if_pos rfl] at h
    by_cases hx : x = ⟨#[45]⟩
    · rw [if_pos hx] at h
      rw [← (Prod.mk.inj h).1]
      exact ⟨fun _ => i1 (by omega), fun _ => i2 (by omega), fun _ => i3 (by omega), fun _ => i4 (by omega), fun _ => i5 (by omega), i6, i7, i8, i9⟩
    · rw [if_neg hx] at h
      have e := Prod.mk.inj h
      have ht := Ck.parse_time x (Ck.parse x).1 (by rw [← e.2])
      rw [← e.1]
      exact ⟨fun _ => i1 (by omega), fun _ => i2 (by omega), fun _ => i3 (by omega), fun _ => i4 (by omega), fun _ => i5 (by omega), i6, i7, ht, i9⟩
  · rw [if_neg (by omega), if_neg (by omega), if_neg (by omega), if_neg (by omega), if_neg (by omega), if_neg (by omega), if_neg (by omega), if_neg (by omega)] at h
    by_cases hx : x = ⟨#[45]⟩
    · rw [if_pos hx] at h
      rw [← (Prod.mk.inj h).1]
      exact ⟨fun _ => i1 (by omega), fun _ => i2 (by omega), fun _ => i3 (by omega), fun _ => i4 (by omega), fun _ => i5 (by omega), i6, i7, i8, i9⟩
    · rw [if_neg hx] at h
      have e := Prod.mk.inj h
      have hl : Ab.letter x = true := by
        cases hy : Ab.letter x
        · rw [hy] at e; simp at e
        · rfl
      rw [← e.1]
      exact ⟨fun _ => i1 (by omega), fun _ => i2 (by omega), fun _ => i3 (by omega), fun _ => i4 (by omega), fun _ => i5 (by omega), i6, i7, i8, hl⟩
theorem run_ok : ∀ (l : List ByteArray) (k : Nat) (r : R), k + l.length ≤ 9 → Inv k r →
    ((run l k r).2.2 = 0 ∧ Inv (k + l.length) (run l k r).1) ∨ ((run l k r).2.2 ≠ 0 ∧ (run l k r).1 = R.zero ∧ (k : Int) ≤ (run l k r).2.1 ∧ (run l k r).2.1 < k + l.length)
  | [], k, r, _, hi => .inl ⟨rfl, hi⟩
  | t :: l, k, r, hk, hi => by
    simp only [List.length_cons] at hk
    unfold run
    by_cases h : (rstep k r t).2 = 0
    · rw [if_pos h]
      have := run_ok l (k + 1) (rstep k r t).1 (by omega) (inv_step k (by omega) r _ t (by rw [← h]) hi)
      rcases this with ⟨a, b⟩ | ⟨a, b, c, d⟩
      · left
        refine ⟨a, ?_⟩
        rw [List.length_cons, show k + (l.length + 1) = k + 1 + l.length by omega]
        exact b
      · exact .inr ⟨a, b, by omega, by rw [List.length_cons]; omega⟩
    · rw [if_neg h]
      exact .inr ⟨h, rfl, by simp, by simp; omega⟩
/-- What is read of any texts. -/
theorem parse_ok (l : List ByteArray) : ((parse l).2.2 = 0 ∧ (parse l).2.1 = 0 ∧ l.length = 9 ∧ (parse l).1.Ok ∧ 0 ≤ (parse l).1.c) ∨
    ((parse l).2.2 ≠ 0 ∧ (parse l).1 = R.zero ∧ 0 ≤ (parse l).2.1 ∧ (parse l).2.1 ≤ l.length ∧ (parse l).2.1 ≤ 9) := by
  have hl : (l.take 9).length = min 9 l.length := List.length_take
  unfold parse
  rcases run_ok (l.take 9) 0 R.zero (by omega) inv_zero with ⟨a, b⟩ | ⟨a, b, c, d⟩
  · rw [if_pos a]
    by_cases h1 : l.length < 9
    · rw [if_pos h1]; right; exact ⟨by show (5 : Int) ≠ 0; decide, rfl, by simp, by simp, by show (l.length : Int) ≤ 9; omega⟩
    · rw [if_neg h1]
      by_cases h2 : 9 < l.length
      · rw [if_pos h2]; right; exact ⟨by decide, rfl, by decide, by show (9 : Int) ≤ _; omega, by decide⟩
      · rw [if_neg h2]
        left
        have e9 : 0 + (l.take 9).length = 9 := by omega
        rw [e9] at b
        obtain ⟨i1, i2, i3, i4, i5, i6, i7, i8, i9⟩ := b
        exact ⟨rfl, rfl, by omega, ⟨i1 (by omega), ⟨(i2 (by omega)).1, (i3 (by omega)).1, (i3 (by omega)).2⟩, i4 (by omega), i5 (by omega), i6, i8, i9⟩, i7⟩
  · rw [if_neg a]
    exact .inr ⟨a, b, by omega, by omega, by omega⟩
end Ru
end Go.Proofs.YthmhadgbhakdlaaDoor

/- Plain law of eras: a right era is read from its texts; what is read is right, and has no more texts than it was read from. -/
namespace Go.Proofs.YthmhadgbhakdlaaDoor
open Go.RowKit

namespace Er
theorem dig_mk (c : UInt8) (l : List UInt8) (k : Nat) (h : c = UInt8.ofNat (48 + k)) (hk : k < 10) : digAt ⟨(c :: l).toArray⟩ 0 = true := by
  unfold digAt
  rw [tl_mk]
  have hu := u8_of (48 + k) (by omega)
  simp only [List.getElem?_cons_zero]
  rw [h, hu, decide_eq_true]
  omega
theorem body_head (a : Int) (h : 0 ≤ a) : ∃ (k : Nat) (l : List UInt8), Ck.body a = UInt8.ofNat (48 + k) :: l ∧ k < 10 := by
  obtain ⟨k, l, e, hk⟩ := Ru.dec_head (a / 3600).toNat
  refine ⟨k, l ++ Ck.two (a % 3600 / 60) ++ (if 0 < a % 3600 % 60 then Ck.two (a % 3600 % 60) else []), ?_, hk⟩
  unfold Ck.body Lib.itoa
  rw [if_neg (by omega), e]
  simp
theorem num_text (s : Int) (h : IsTime s) : num ⟨(Ck.text s).toArray⟩ = true := by
  unfold Ck.text
  rw [if_pos h]
  unfold Ck.sign
  by_cases hs : s < 0
  · rw [if_pos hs, if_pos hs]
    obtain ⟨k, l, e, hk⟩ := body_head (-s) (by omega)
    rw [e]
    unfold num
    rw [Bool.or_eq_true]
    right
    rw [Bool.and_eq_true]
    refine ⟨by rw [tl_mk]; rfl, ?_⟩
    unfold digAt
    rw [tl_mk]
    have hu := u8_of (48 + k) (by omega)
    simp only [List.cons_append, List.nil_append, List.getElem?_cons_succ, List.getElem?_cons_zero]
    rw [hu, decide_eq_true]
    omega
  · rw [if_neg hs, if_neg hs]
    obtain ⟨k, l, e, hk⟩ := body_head s (by omega)
    rw [e]
    unfold num
    rw [Bool.or_eq_true]
    left
    exact dig_mk _ l k rfl hk
theorem name_num (s : ByteArray) (h : Ru.name (tl s) = true) : num s = false ∧ ¬ s = ⟨#[45]⟩ := by
  unfold Ru.name at h
  rw [Bool.and_eq_true, decide_eq_true_eq] at h
  obtain ⟨⟨h1, _⟩, h2⟩ := h
  constructor
  · unfold num digAt
    cases e : tl s with
    | nil => rw [e] at h1; simp at h1
    | cons c l =>
      rw [e] at h2
      unfold Ru.nameAll at h2
      have h3 : Ru.letr (c.toNat : Int) = true := by
        have := (Bool.and_eq_true _ _).mp h2 |>.1
        simpa using this
      unfold Ru.letr at h3
      rw [decide_eq_true_eq] at h3
      simp only [List.getElem?_cons_zero]
      rw [Bool.or_eq_false_iff, Bool.and_eq_false_iff]
      refine ⟨by rw [decide_eq_false]; omega, .inl ?_⟩
      rw [decide_eq_false]
      intro hc
      have hc' := Option.some.inj hc
      rw [hc'] at h3
      revert h3
      decide
  · intro hs
    rw [hs] at h2
    revert h2
    decide
theorem std_step (e : E) (v : E) (h : IsTime e.std) : estep 0 v ⟨(Ck.text e.std).toArray⟩ = (⟨e.std, v.k, v.sv, v.ru, v.fm, v.en, v.u⟩, 0) := by
  unfold estep
  rw [if_pos rfl]
  unfold stdS
  rw [if_neg (Ru.text_dash e.std h), Ck.parse_text e.std h]
theorem mid_step (e : E) (v : E) (h : e.Kind) (h0 : v.k = 0) (h1 : v.sv = 0) (h2 : v.ru = ⟨#[]⟩) : estep 1 v e.mid = (⟨v.std, e.k, e.sv, e.ru, v.fm, v.en, v.u⟩, 0) := by
  unfold estep
  rw [if_neg (by omega), if_pos rfl]
  obtain ⟨v0, v1, v2, v3, v4, v5, v6⟩ := v
  simp only at h0 h1 h2
  subst h0 h1 h2
  rcases h with ⟨a, b, c⟩ | ⟨a, b, c⟩ | ⟨a, b, c⟩
  · have hm : e.mid = ⟨#[45]⟩ := by unfold E.mid; rw [if_neg (by omega), if_neg (by omega)]
    rw [hm]
    unfold savS
    rw [if_pos rfl, a, b, c]
  · have hm : e.mid = ⟨(Ck.text e.sv).toArray⟩ := by unfold E.mid; rw [if_pos a]
    rw [hm]
    unfold savS
    rw [if_neg (Ru.text_dash e.sv b), if_pos (num_text e.sv b), Ck.parse_text e.sv b, a, c]
  · have hm : e.mid = e.ru := by unfold E.mid; rw [if_neg (by omega), if_pos a]
    have := name_num e.ru c
    rw [hm]
    unfold savS
    rw [if_neg this.2, if_neg (by rw [this.1]; decide), if_pos c, a, b]
theorem fm_step (e : E) (v : E) (h : Ab.fmt e.fm = true) : estep 2 v e.fm = (⟨v.std, v.k, v.sv, v.ru, e.fm, v.en, v.u⟩, 0) := by
  unfold estep
  rw [if_neg (by omega), if_neg (by omega)]
  unfold fmS
  rw [if_pos h]
theorem run_front (e : E) (h : e.Ok) : run e.front 0 E.zero = (⟨e.std, e.k, e.sv, e.ru, e.fm, false, Mo.U.zero⟩, 0, 0) := by
  obtain ⟨h1, h2, h3, _, _⟩ := h
  unfold E.front
  rw [run, std_step e E.zero h1, if_pos rfl, run, mid_step e _ h3 rfl rfl rfl, if_pos rfl, run, fm_step e _ h2, if_pos rfl, run]
  rfl
theorem take_front (e : E) : e.texts.take 3 = e.front := by
  unfold E.texts
  split
  · rfl
  · rfl
theorem drop_front (e : E) (h : e.en = true) : e.texts.drop 3 = e.u.texts := by
  unfold E.texts
  rw [if_pos h]
  rfl
theorem texts_len (e : E) : e.texts.length = if e.en = true then 3 + e.u.count else 3 := by
  unfold E.texts
  split
  · rw [List.length_append, Mo.texts_len]; rfl
  · rfl
theorem parse_texts (e : E) (h : e.Ok) (hc : 0 ≤ e.u.c) : parse e.texts = (e, 0, 0) := by
  have hr := run_front e h
  have hl := texts_len e
  have hcnt := Mo.count_bd e.u
  unfold parse
  rw [take_front, hr, if_pos rfl]
  by_cases he : e.en = true
  · rw [if_pos he] at hl
    rw [if_neg (by omega), if_neg (by omega), drop_front e he, Mo.parse_texts e.u (h.2.2.2.1 he) hc, if_pos rfl]
    unfold E.until_
    cases e
    simp only at he
    subst he
    rfl
  · rw [if_neg he] at hl
    have he' : e.en = false := by cases hx : e.en; rfl; exact absurd hx he
    rw [if_neg (by omega), if_pos hl]
    have hu := h.2.2.2.2 he'
    cases e
    simp only at hu he'
    subst hu he'
    rfl
/-- Of an era's texts the first ones. -/
theorem parse_some (e : E) (h : e.Ok) (hc : 0 ≤ e.u.c) (j : Nat) (h3 : 3 ≤ j) (hj : j ≤ e.texts.length) :
    ∃ x : E, parse (e.texts.take j) = (x, 0, 0) ∧ x.std = e.std ∧ x.fm = e.fm ∧ x.en = decide (3 < j) ∧ (3 < j → x.u.y = e.u.y) := by
  have hr := run_front e h
  have hl := texts_len e
  have hcnt := Mo.count_bd e.u
  have ht : (e.texts.take j).take 3 = e.front := by rw [List.take_take, Nat.min_eq_left h3, take_front]
  have hlen : (e.texts.take j).length = j := by rw [List.length_take]; omega
  by_cases h4 : 3 < j
  · have he : e.en = true := by
      cases hx : e.en
      · rw [hx] at hl; simp at hl; omega
      · rfl
    rw [if_pos he] at hl
    have hd : (e.texts.take j).drop 3 = e.u.full.take (j - 3) := by
      rw [List.drop_take, drop_front e he]
      unfold Mo.U.texts
      rw [List.take_take, Nat.min_eq_left (by omega)]
    have hp := Mo.parse_first e.u (h.2.2.2.1 he) hc (j - 3) (by omega) (by omega)
    refine ⟨⟨e.std, e.k, e.sv, e.ru, e.fm, true, Mo.first e.u (j - 3)⟩, ?_, rfl, rfl, by rw [decide_eq_true h4], fun _ => by show (Mo.first e.u (j - 3)).y = e.u.y; unfold Mo.first; split; rfl; split; rfl; split; rfl; rfl⟩
    unfold parse
    rw [ht, hr, if_pos rfl, if_neg (by omega), if_neg (by omega), hd, hp, if_pos rfl]
    rfl
  · have hj3 : j = 3 := by omega
    refine ⟨⟨e.std, e.k, e.sv, e.ru, e.fm, false, Mo.U.zero⟩, ?_, rfl, rfl, by rw [decide_eq_false h4], fun x => absurd x h4⟩
    unfold parse
    rw [ht, hr, if_pos rfl, if_neg (by omega), if_pos (by omega)]
/-- What holds behind k texts. -/
def Inv (k : Nat) (e : E) : Prop := IsTime e.std ∧ e.Kind ∧ (k < 2 → e.k = 0 ∧ e.sv = 0 ∧ e.ru = ⟨#[]⟩) ∧ (3 ≤ k → Ab.fmt e.fm = true) ∧ e.en = false ∧ e.u = Mo.U.zero
theorem inv_zero : Inv 0 E.zero := ⟨by decide, .inl ⟨rfl, rfl, rfl⟩, fun _ => ⟨rfl, rfl, rfl⟩, fun h => absurd h (by omega), rfl, rfl⟩
theorem inv_step (k : Nat) (hk : k < 3) (e e' : E) (x : ByteArray) (h : estep k e x = (e', 0)) (hi : Inv k e) : Inv (k + 1) e' := by
  obtain ⟨i1, i2, i3, i4, i5, i6⟩ := hi
  have hkk : k = 0 ∨ k = 1 ∨ k = 2 := by omega
  unfold estep at h
  rcases hkk with rfl | rfl | rfl
  · rw [if_pos rfl] at h
    unfold stdS at h
    by_cases hx : x = ⟨#[45]⟩
    · rw [if_pos hx] at h
      rw [← (Prod.mk.inj h).1]
      exact ⟨i1, i2, fun _ => i3 (by omega), fun y => absurd y (by omega), i5, i6⟩
    · rw [if_neg hx] at h
      have e := Prod.mk.inj h
      have ht := Ck.parse_time x (Ck.parse x).1 (by rw [← e.2])
      rw [← e.1]
      exact ⟨ht, i2, fun _ => i3 (by omega), fun y => absurd y (by omega), i5, i6⟩
  · rw [if_neg (by omega), if_pos rfl] at h
    unfold savS at h
    obtain ⟨k0, k1, k2⟩ := i3 (by omega)
    by_cases hx : x = ⟨#[45]⟩
    · rw [if_pos hx] at h
      rw [← (Prod.mk.inj h).1]
      exact ⟨i1, i2, fun y => absurd y (by omega), fun y => absurd y (by omega), i5, i6⟩
    · rw [if_neg hx] at h
      by_cases hn : num x = true
      · rw [if_pos hn] at h
        have e := Prod.mk.inj h
        have ht := Ck.parse_time x (Ck.parse x).1 (by rw [← e.2])
        rw [← e.1]
        exact ⟨i1, .inr (.inl ⟨rfl, ht, k2⟩), fun y => absurd y (by omega), fun y => absurd y (by omega), i5, i6⟩
      · rw [if_neg hn] at h
        by_cases hm : Ru.name (tl x) = true
        · rw [if_pos hm] at h
          rw [← (Prod.mk.inj h).1]
          exact ⟨i1, .inr (.inr ⟨rfl, k1, hm⟩), fun y => absurd y (by omega), fun y => absurd y (by omega), i5, i6⟩
        · rw [if_neg hm] at h
          have := (Prod.mk.inj h).2
          simp at this
  · rw [if_neg (by omega), if_neg (by omega)] at h
    unfold fmS at h
    have e := Prod.mk.inj h
    have hf : Ab.fmt x = true := by
      cases hy : Ab.fmt x
      · rw [hy] at e; simp at e
      · rfl
    rw [← e.1]
    exact ⟨i1, i2, fun y => absurd y (by omega), fun _ => hf, i5, i6⟩
theorem run_ok : ∀ (l : List ByteArray) (k : Nat) (r : E), k + l.length ≤ 3 → Inv k r →
    ((run l k r).2.2 = 0 ∧ Inv (k + l.length) (run l k r).1) ∨ ((run l k r).2.2 ≠ 0 ∧ (run l k r).1 = E.zero ∧ (k : Int) ≤ (run l k r).2.1 ∧ (run l k r).2.1 < k + l.length)
  | [], k, r, _, hi => .inl ⟨rfl, hi⟩
  | t :: l, k, r, hk, hi => by
    simp only [List.length_cons] at hk
    unfold run
    by_cases h : (estep k r t).2 = 0
    · rw [if_pos h]
      have := run_ok l (k + 1) (estep k r t).1 (by omega) (inv_step k (by omega) r _ t (by rw [← h]) hi)
      rcases this with ⟨a, b⟩ | ⟨a, b, c, d⟩
      · left
        refine ⟨a, ?_⟩
        rw [List.length_cons, show k + (l.length + 1) = k + 1 + l.length by omega]
        exact b
      · exact .inr ⟨a, b, by omega, by rw [List.length_cons]; omega⟩
    · rw [if_neg h]
      exact .inr ⟨h, rfl, by simp, by simp; omega⟩
end Er
namespace Mo
/-- What is not read stays as it is at first. -/
def Left (k : Nat) (u : U) : Prop := (k ≤ 1 → u.m = 1) ∧ (k ≤ 2 → u.k = 0 ∧ u.n = 1 ∧ u.d = 0) ∧ (k ≤ 3 → u.s = 0 ∧ u.c = 0)
theorem left_step (k : Nat) (hk : k < 4) (u u' : U) (t : ByteArray) (h : (step k u t).1 = u') (hl : Left k u) : Left (k + 1) u' := by
  obtain ⟨l1, l2, l3⟩ := hl
  have hkk : k = 0 ∨ k = 1 ∨ k = 2 ∨ k = 3 := by omega
  unfold step at h
  rcases hkk with rfl | rfl | rfl | rfl
  · rw [if_pos rfl] at h
    unfold yearSt at h
    subst h
    exact ⟨fun _ => l1 (by omega), fun _ => l2 (by omega), fun _ => l3 (by omega)⟩
  · rw [if_neg (by omega), if_pos rfl] at h
    unfold monthSt at h
    subst h
    exact ⟨fun y => absurd y (by omega), fun _ => l2 (by omega), fun _ => l3 (by omega)⟩
  · rw [if_neg (by omega), if_neg (by omega), if_pos rfl] at h
    unfold daySt at h
    subst h
    split
    · exact ⟨fun y => absurd y (by omega), fun y => absurd y (by omega), fun _ => l3 (by omega)⟩
    · exact ⟨fun y => absurd y (by omega), fun y => absurd y (by omega), fun _ => l3 (by omega)⟩
  · exact ⟨fun y => absurd y (by omega), fun y => absurd y (by omega), fun y => absurd y (by omega)⟩
theorem left_run : ∀ (l : List ByteArray) (k : Nat) (u : U), k + l.length ≤ 4 → Left k u → (run l k u).2.2 = 0 → Left (k + l.length) (run l k u).1
  | [], k, u, _, hl, _ => hl
  | t :: l, k, u, hk, hl, h0 => by
    simp only [List.length_cons] at hk
    unfold run at h0 ⊢
    by_cases h : (step k u t).2 = 0
    · rw [if_pos h] at h0 ⊢
      have := left_run l (k + 1) (step k u t).1 (by omega) (left_step k (by omega) u _ t rfl hl) h0
      rw [List.length_cons, show k + (l.length + 1) = k + 1 + l.length by omega]
      exact this
    · rw [if_neg h] at h0
      exact absurd h0 h
theorem left_one : Left 0 U.one := ⟨fun _ => rfl, fun _ => ⟨rfl, rfl, rfl⟩, fun _ => ⟨rfl, rfl⟩⟩
theorem count_left (u : U) (h : u.Ok) (hc : 0 ≤ u.c) (j : Nat) (hj : 1 ≤ j) (hl : Left j u) : u.count ≤ j := by
  rw [count_of u h hc]
  obtain ⟨l1, l2, l3⟩ := hl
  by_cases h3 : j ≤ 3
  · rw [if_pos (l3 h3)]
    by_cases h2 : j ≤ 2
    · rw [if_pos (l2 h2)]
      by_cases h1 : j ≤ 1
      · rw [if_pos (l1 h1)]; exact hj
      · split <;> omega
    · split
      · split <;> omega
      · omega
  · have := count_bd u
    rw [count_of u h hc] at this
    omega
theorem uParse_fewest (l : List ByteArray) (h : (uParse l).2.2 = 0) : (uParse l).1.count ≤ l.length := by
  have hok := uParse_ok l
  rcases hok with ⟨_, _, ho, hc⟩ | ⟨a, _⟩
  · have h0 : l.length ≠ 0 := by
      intro e
      unfold uParse at h
      rw [if_pos e] at h
      simp at h
    have h4 : l.length ≤ 4 := by
      rcases Nat.lt_or_ge 4 l.length with x | x
      · unfold uParse at h
        rw [if_neg h0, if_pos x] at h
        simp at h
      · exact x
    have hr := uParse_run l h0 h4
    refine count_left _ ho hc _ (by omega) ?_
    rw [hr] at h ⊢
    have := left_run l 0 U.one (by omega) left_one h
    simpa using this
  · exact absurd h a
end Mo
namespace Er
/-- What is read of any texts. -/
theorem parse_ok (l : List ByteArray) : ((parse l).2.2 = 0 ∧ (parse l).2.1 = 0 ∧ (parse l).1.Ok ∧ 0 ≤ (parse l).1.u.c ∧ (parse l).1.en = decide (3 < l.length) ∧ (parse l).1.texts.length ≤ l.length) ∨
    ((parse l).2.2 ≠ 0 ∧ (parse l).1 = E.zero ∧ 0 ≤ (parse l).2.1 ∧ (parse l).2.1 ≤ l.length) := by
  have hl : (l.take 3).length = min 3 l.length := List.length_take
  unfold parse
  rcases run_ok (l.take 3) 0 E.zero (by omega) inv_zero with ⟨a, b⟩ | ⟨a, b, c, d⟩
  · rw [if_pos a]
    by_cases h1 : l.length < 3
    · rw [if_pos h1]
      exact .inr ⟨by show (5 : Int) ≠ 0; decide, rfl, by simp, by simp⟩
    · rw [if_neg h1]
      have e3 : 0 + (l.take 3).length = 3 := by omega
      rw [e3] at b
      obtain ⟨i1, i2, _, i4, i5, i6⟩ := b
      by_cases h2 : l.length = 3
      · rw [if_pos h2]
        left
        refine ⟨rfl, rfl, ⟨i1, i4 (by omega), i2, fun y => ?_, fun _ => i6⟩, ?_, ?_, ?_⟩
        · rw [i5] at y; simp at y
        · show 0 ≤ (run (l.take 3) 0 E.zero).1.u.c
          rw [i6]; decide
        · show (run (l.take 3) 0 E.zero).1.en = _
          rw [i5, decide_eq_false (by omega)]
        · show (run (l.take 3) 0 E.zero).1.texts.length ≤ _
          rw [texts_len, i5]; simp; omega
      · rw [if_neg h2]
        by_cases hu : (Mo.uParse (l.drop 3)).2.2 = 0
        · rw [if_pos hu]
          have hfew := Mo.uParse_fewest _ hu
          rw [List.length_drop] at hfew
          rcases Mo.uParse_ok (l.drop 3) with ⟨_, _, ho, hc⟩ | ⟨x, _⟩
          · left
            refine ⟨rfl, rfl, ⟨i1, i4 (by omega), i2, fun _ => ho, fun y => by cases y⟩, hc, ?_, ?_⟩
            · show true = _
              rw [decide_eq_true (by omega)]
            · rw [texts_len]
              show (if true = true then 3 + (Mo.uParse (l.drop 3)).1.count else 3) ≤ _
              rw [if_pos rfl]
              omega
          · exact absurd hu x
        · rw [if_neg hu]
          rcases Mo.uParse_ok (l.drop 3) with ⟨x, _⟩ | ⟨_, _, c0, _, c2⟩
          · exact absurd x hu
          · right
            rw [List.length_drop] at c2
            refine ⟨hu, rfl, ?_, ?_⟩
            · show 0 ≤ 3 + _; omega
            · show 3 + _ ≤ _; omega
  · rw [if_neg a]
    exact .inr ⟨a, b, by omega, by omega⟩
/-- An era's texts are no rule's. -/
theorem texts_no_rule (e : E) : (Ru.parse e.texts).2.2 ≠ 0 := by
  rcases Ru.parse_ok e.texts with ⟨_, _, h9, _⟩ | ⟨h, _⟩
  · exfalso
    have := texts_len e
    have hc := Mo.count_bd e.u
    split at this <;> omega
  · exact h
end Er
end Go.Proofs.YthmhadgbhakdlaaDoor
