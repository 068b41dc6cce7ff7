/- The contracts of package clock: a time's text is read. -/
import Derived.Test.YtlhoggalhjadgaaGreatDoorK05
import Derived.Lib.AppendIntMem

namespace Go.Proofs.YtlhoggalhjadgaaGreatDoor
open Go.RowKit

namespace Ck
def numC (l : List UInt8) (least most : Nat) : Int := if l.length < least ∨ most < l.length then -1 else Dy.numLoop l 0
def resN (N : Int) : Int := if N = -1 then 0 else N
def okN (N : Int) : Bool := !decide (N = -1)
end Ck
theorem ret_nb {a c : Int} {b d : Bool} (h : a = c) (h' : b = d) : Ending.returned (.tuple #[.int .i64 a, .bool b]) = .returned (.tuple #[.int .i64 c, .bool d]) := by rw [h, h']

theorem numLoop3_bd : ∀ (l : List UInt8) (a : Int), 0 ≤ a → -1 ≤ Dy.numLoop l a := by
  intro l
  induction l with
  | nil => intro a h; simp only [Dy.numLoop]; omega
  | cons c r ih =>
    intro a h
    simp only [Dy.numLoop]
    split
    · omega
    · exact ih _ (by omega)

set_option maxHeartbeats 1000000 in
theorem clockNumber_any (s : ByteArray) (least most : Nat) (w : World) (hs : s.size ≤ maxLen) (hm : most ≤ 3) :
    Calls Tryz.prog 118 #[.string s, .int .i64 least, .int .i64 most] w fun e w' => e = .returned (.tuple #[.int .i64 (Ck.resN (Ck.numC (tl s) least most)), .bool (Ck.okN (Ck.numC (tl s) least most))]) ∧ w = w' := by
  unfold maxLen at hs
  by_cases h1 : s.size < least
  · have hE : Ck.numC (tl s) least most = -1 := by unfold Ck.numC; rw [tl_length, if_pos (.inl h1)]
    rw [hE]
    have q : (s.size : Int) < (least : Int) := by omega
    clear hE h1
    go_enter Tryz.func118, Tryz.ntmps118
    go_wp2
    go_ret2
    exact ⟨rfl, rfl⟩
  by_cases h2 : most < s.size
  · have hE : Ck.numC (tl s) least most = -1 := by unfold Ck.numC; rw [tl_length, if_pos (.inr h2)]
    rw [hE]
    have q : ¬ (s.size : Int) < (least : Int) := by omega
    have q2 : (most : Int) < (s.size : Int) := by omega
    clear hE h1 h2
    go_enter Tryz.func118, Tryz.ntmps118
    go_wp2
    go_ret2
    exact ⟨rfl, rfl⟩
  have hE : Ck.numC (tl s) least most = Dy.numLoop ((tl s).drop 0) 0 := by unfold Ck.numC; rw [tl_length, if_neg (by omega)]; rfl
  have hNb := numLoop3_bd ((tl s).drop 0) 0 (by omega)
  obtain ⟨N, hN⟩ : ∃ N, Ck.numC (tl s) least most = N := ⟨_, rfl⟩
  rw [hN] at hE ⊢
  have HE := Lib.hid hE
  have q : ¬ (s.size : Int) < (least : Int) := by omega
  have q2 : ¬ (most : Int) < (s.size : Int) := by omega
  have q3 : s.size ≤ 3 := by omega
  clear hN hE hNb h1 h2
  go_enter Tryz.func118, Tryz.ntmps118
  go_wp2
  go_loop [8, 22] (fun t i => ∃ (k : Nat) (a : Int), k ≤ s.size ∧ i = .int .i64 k ∧ t = .int .i64 a ∧ 0 ≤ a ∧ a ≤ 999 ∧ Hid (k ≤ 2 → a ≤ 99) ∧ Hid (k ≤ 1 → a ≤ 9) ∧ Hid (k = 0 → a = 0) ∧ Hid (N = Dy.numLoop ((tl s).drop k) a)) (fun _ i => s.size - (intOf i).toNat)
  case atStart => exact ⟨0, 0, by omega, rfl, rfl, by omega, by omega, fun _ => by omega, fun _ => by omega, fun _ => rfl, HE.out⟩
  case round =>
    obtain ⟨k, a, hk, rfl, rfl, a0, a1, HA2, HA1, HA0, HN⟩ := hrel
    by_cases hlt : k < s.size
    · have p1 : (0 : Int) ≤ (k : Int) := by omega
      have p2 : (k : Int) < (s.size : Int) := by omega
      have b1 := u8_bd s[k]
      have a2 : a ≤ 99 := HA2.out (by omega)
      by_cases hc : (s[k].toNat : Int) < 48 ∨ 57 < (s[k].toNat : Int)
      · have HB := Lib.hid (Dy.numLoop_bad (tl s) k s[k] a N HN.out (Dy.tl_get s k hlt) hc)
        by_cases hc1 : (s[k].toNat : Int) < 48
        · clear hc
          go_wp2
          go_ret2
          exact ⟨ret_nb (by rw [HB.out]; rfl) (by rw [HB.out]; rfl), rfl⟩
        · have hc2 : 57 < (s[k].toNat : Int) := by omega
          clear hc
          go_wp2
          go_ret2
          exact ⟨ret_nb (by rw [HB.out]; rfl) (by rw [HB.out]; rfl), rfl⟩
      · have HB := Lib.hid (Dy.numLoop_next (tl s) k s[k] a N HN.out (Dy.tl_get s k hlt) hc)
        have c1 : 48 ≤ (s[k].toNat : Int) := by omega
        have c2 : (s[k].toNat : Int) ≤ 57 := by omega
        have HA0' := HA0.out
        have HA1' := HA1.out
        have HZ : Hid (k + 1 ≤ 1 → a * 10 + ((s[k].toNat : Int) - 48) ≤ 9) := by intro h; have := HA0' (by omega); omega
        have HZ2 : Hid (k + 1 ≤ 2 → a * 10 + ((s[k].toNat : Int) - 48) ≤ 99) := by intro h; have := HA1' (by omega); omega
        clear hc HA0' HA1'
        go_wp2
        go_round
        case rel => exact ⟨k + 1, a * 10 + ((s[k].toNat : Int) - 48), by omega, by go_num, rfl, by omega, by omega, HZ2, HZ, fun h => absurd h (by omega), HB⟩
        case measure => simp [intOf]; omega
    · obtain rfl : k = s.size := by omega
      have HB := Lib.hid (Dy.numLoop_end (tl s) s.size a N HN.out (tl_length s))
      go_wp2
      go_ret2
      have hne : ¬ N = -1 := by have := HB.out; omega
      exact ⟨ret_nb (by unfold Ck.resN; rw [if_neg hne, HB.out]) (by unfold Ck.okN; rw [decide_eq_false hne]; rfl), rfl⟩

/-- What stands in the program's variables: what reading asks. -/
structure Wp (w : World) : Prop where
  p0 : w.cell? ⟨0, 0, none⟩ = some (.int .i64 3600)
  p1 : w.cell? ⟨0, 1, none⟩ = some (.int .i64 60)
  p2 : w.cell? ⟨0, 2, none⟩ = some (.int .i64 1)
  maxl : ∃ m, w.cell? ⟨2, 0, none⟩ = some (.int .i64 m)
theorem Wp.below {w w' : World} (h : Wp w) (hb : Below w.heap.size w w') : Wp w' := by
  obtain ⟨m, hm⟩ := h.maxl
  have hl : 0 < w.heap.size := block_lt_of_cell h.p0
  exact ⟨(hb.cell (p := ⟨_, 0, none⟩) hl).trans h.p0, (hb.cell (p := ⟨_, 1, none⟩) hl).trans h.p1, (hb.cell (p := ⟨_, 2, none⟩) hl).trans h.p2,
    ⟨m, (hb.cell (p := ⟨_, 0, none⟩) (block_lt_of_cell hm)).trans hm⟩⟩
/-- What stands in the program's variables: what writing asks, too. -/
structure Wc (w : World) : Prop where
  p0 : w.cell? ⟨0, 0, none⟩ = some (.int .i64 3600)
  p1 : w.cell? ⟨0, 1, none⟩ = some (.int .i64 60)
  p2 : w.cell? ⟨0, 2, none⟩ = some (.int .i64 1)
  maxl : ∃ m, w.cell? ⟨2, 0, none⟩ = some (.int .i64 m)
  pow : Lib.TabIs Tryz.prog w "internal/strconv.uint64pow10" .u64 Lib.pow10Tab
theorem Wc.below {w w' : World} (h : Wc w) (hb : Below w.heap.size w w') : Wc w' := by
  obtain ⟨m, hm⟩ := h.maxl
  have hl : 0 < w.heap.size := block_lt_of_cell h.p0
  exact ⟨(hb.cell (p := ⟨_, 0, none⟩) hl).trans h.p0, (hb.cell (p := ⟨_, 1, none⟩) hl).trans h.p1, (hb.cell (p := ⟨_, 2, none⟩) hl).trans h.p2,
    ⟨m, (hb.cell (p := ⟨_, 0, none⟩) (block_lt_of_cell hm)).trans hm⟩, Lib.tabBelow_of_tabIs h.pow w' hb⟩
theorem Wc.p {w : World} (h : Wc w) : Wp w := ⟨h.p0, h.p1, h.p2, h.maxl⟩
end Go.Proofs.YtlhoggalhjadgaaGreatDoor

/- The contract of clock.Parse. -/
namespace Go.Proofs.YtlhoggalhjadgaaGreatDoor
open Go.RowKit

namespace Ck
def part (i : Nat) : Int := if i = 0 then 3600 else if i = 1 then 60 else 1
def least (i : Nat) : Nat := if i = 0 then 1 else 2
def most (i : Nat) : Nat := if i = 0 then 3 else 2
def bad (v : Int) (i : Nat) : Bool := decide (v = -1) || (decide (0 < i) && decide (60 ≤ v))
def loop : List ByteArray → Nat → Int → Option Int
  | [], _, s => some s
  | f :: r, i, s => if bad (numC (tl f) (least i) (most i)) i = true then none else loop r (i + 1) (s + numC (tl f) (least i) (most i) * part i)
def fin (o : Option Int) (b : Bool) : Int × Int :=
  match o with
  | none => (0, 4)
  | some v => if IsTime (if b then -v else v) then (if b then -v else v, 0) else (0, 1)
def rest (s : ByteArray) : ByteArray := ⟨(Lib.trimPrefix s.data.toList [45]).toArray⟩
def fields (r : ByteArray) : List ByteArray := Lib.splitB ⟨#[58]⟩ 0 (min 4 (r.size + 1) - 1) r
def parse (s : ByteArray) : Int × Int := if 3 < (fields (rest s)).length then (0, 4) else fin (loop (fields (rest s)) 0 0) (Lib.hasPrefix s.data.toList [45])
end Ck

theorem numC_bd (l : List UInt8) (least most : Nat) (h : most ≤ 3) : -1 ≤ Ck.numC l least most ∧ Ck.numC l least most ≤ 999 := by
  unfold Ck.numC
  split
  · omega
  · rename_i hn
    have hl : l.length ≤ 3 := by omega
    match l, hl with
    | [], _ => simp only [Dy.numLoop]; omega
    | [c], _ => simp only [Dy.numLoop]; split <;> omega
    | [c, d], _ =>
      simp only [Dy.numLoop]
      split
      · omega
      · split <;> omega
    | [c, d, e], _ =>
      simp only [Dy.numLoop]
      split
      · omega
      · split
        · omega
        · split <;> omega

theorem splitN4 (r : ByteArray) (w : World) (hW : Wp w) (hr : r.size ≤ 1000000) :
    Calls Tryz.prog 117 #[.string r, .string ⟨#[58]⟩, .int .i64 4] w fun e w' =>
      e = .returned (.slice (some ⟨w.heap.size, 0, none⟩) (Ck.fields r).length (min 4 (r.size + 1))) ∧ w' = w.alloc (.cells (Lib.cellsOf (Ck.fields r) (min 4 (r.size + 1))) 9) := by
  obtain ⟨m, hm⟩ := hW.maxl
  exact Tryz.strings_SplitN r ⟨#[58]⟩ 4 m w (by omega) hm (by decide) (by omega) (by omega)

theorem field_cell (w : World) (F : List ByteArray) (N : Nat) (t : TypeId) (k : Nat) (f : ByteArray) (h : F[k]? = some f) : (w.alloc (.cells (Lib.cellsOf F N) t)).cell? ⟨w.heap.size, k, none⟩ = some (.string f) := by
  rw [cell_of_row (w.alloc (.cells (Lib.cellsOf F N) t)) w.heap.size k (Lib.cellsOf F N) t (0, 0) (heap_alloc_new w _)]
  unfold Lib.cellsOf
  obtain ⟨hk, e⟩ := List.getElem?_eq_some_iff.1 h
  simp [List.getElem?_append, hk, e]
theorem loop_bad (F : List ByteArray) (k : Nat) (s : Int) (f : ByteArray) (o : Option Int) (h : o = Ck.loop (F.drop k) k s) (hf : F[k]? = some f) (hb : Ck.bad (Ck.numC (tl f) (Ck.least k) (Ck.most k)) k = true) : o = none := by
  obtain ⟨hk, e⟩ := List.getElem?_eq_some_iff.1 hf
  rw [h, List.drop_eq_getElem_cons hk, e, Ck.loop, if_pos hb]
theorem loop_next (F : List ByteArray) (k : Nat) (s : Int) (f : ByteArray) (o : Option Int) (h : o = Ck.loop (F.drop k) k s) (hf : F[k]? = some f) (hb : Ck.bad (Ck.numC (tl f) (Ck.least k) (Ck.most k)) k = false) : o = Ck.loop (F.drop (k + 1)) (k + 1) (s + Ck.numC (tl f) (Ck.least k) (Ck.most k) * Ck.part k) := by
  obtain ⟨hk, e⟩ := List.getElem?_eq_some_iff.1 hf
  rw [h, List.drop_eq_getElem_cons hk, e, Ck.loop, if_neg (by rw [hb]; decide)]
theorem loop_end (F : List ByteArray) (k : Nat) (s : Int) (o : Option Int) (h : o = Ck.loop (F.drop k) k s) (hk : F.length = k) : o = some s := by
  rw [h, List.drop_eq_nil_of_le (by omega)]; rfl

set_option maxHeartbeats 2000000 in
set_option maxRecDepth 100000 in
theorem clockParse_any (s : ByteArray) (w : World) (hW : Wp w) (hs : s.size ≤ 1000000) (hF : ∀ f ∈ Ck.fields (Ck.rest s), f.size ≤ 1000000) :
    Calls Tryz.prog 99 #[.string s] w fun e w' => e = .returned (.tuple #[.int .i64 (Ck.parse s).1, .int .i64 (Ck.parse s).2]) ∧ Below w.heap.size w w' := by
  have hr : (Ck.rest s).size ≤ 1000000 := by
    show ((Lib.trimPrefix s.data.toList [45]).toArray).size ≤ _
    unfold Lib.trimPrefix
    have : s.data.toList.length = s.size := tl_length s
    split
    · simp only [List.size_toArray, List.length_drop]; omega
    · simp only [List.size_toArray]; omega
  have hC : ∀ W, Calls Tryz.prog 116 #[.string s, .string ⟨#[45]⟩] W fun e w' => e = .returned (.tuple #[.string (Ck.rest s), .bool (Lib.hasPrefix s.data.toList [45])]) ∧ W = w' := fun W => (Tryz.strings_CutPrefix s ⟨#[45]⟩ W).mono fun _ _ ⟨x, y⟩ => ⟨x, y.symm⟩
  have hP : Ck.parse s = if 3 < (Ck.fields (Ck.rest s)).length then (0, 4) else Ck.fin (Ck.loop (Ck.fields (Ck.rest s)) 0 0) (Lib.hasPrefix s.data.toList [45]) := rfl
  have hS := splitN4 (Ck.rest s) w hW hr
  obtain ⟨b, hb⟩ : ∃ b, Lib.hasPrefix s.data.toList [45] = b := ⟨_, rfl⟩
  obtain ⟨R, hR⟩ : ∃ R, Ck.rest s = R := ⟨_, rfl⟩
  rw [hR] at hP hS hF
  simp only [hR, hb] at hC
  rw [hb] at hP
  obtain ⟨F, hFF⟩ : ∃ F, Ck.fields R = F := ⟨_, rfl⟩
  rw [hFF] at hP hS hF
  obtain ⟨N, hN⟩ : ∃ N, min 4 (R.size + 1) = N := ⟨_, rfl⟩
  rw [hN] at hS
  have hlen : F.length ≤ 4 := by
    have := Lib.splitB_length_le ⟨#[58]⟩ 0 (min 4 (R.size + 1) - 1) R
    rw [← hFF]
    unfold Ck.fields
    omega
  have hW2 : Wp (w.alloc (.cells (Lib.cellsOf F N) 9)) := hW.below ((Below.refl _ _).alloc (Nat.le_refl _) _)
  have HC := Lib.hid hC
  have HS := Lib.hid hS
  have HP := Lib.hid hP
  have HF := Lib.hid hF
  have HPg := Lib.hid (And.intro hW2.p0 (And.intro hW2.p1 hW2.p2))
  clear hC hS hP hF hW hW2 hR hb hFF hN
  go_enter Tryz.func99, Tryz.ntmps99
  go_wp2_with fail
  refine (HC.out _).mono ?_
  rintro e w1 ⟨rfl, rfl⟩
  go_wp2_with fail
  refine HS.out.mono ?_
  rintro e w1 ⟨rfl, rfl⟩
  obtain ⟨n, hn⟩ : ∃ n, F.length = n := ⟨_, rfl⟩
  rw [hn] at hlen ⊢
  have HN := Lib.hid hn
  clear hn
  by_cases h3 : 3 < n
  · have hE : Ck.parse s = (0, 4) := by rw [HP.out, if_pos (by rw [HN.out]; exact h3)]
    have HE := Lib.hid hE
    have q : (3 : Int) < (n : Int) := by omega
    clear hE
    go_wp2
    go_ret2
    exact ⟨ret_int22 (by rw [HE.out]) (by rw [HE.out]), (Below.refl _ _).alloc (Nat.le_refl _) _⟩
  · have q : ¬ (3 : Int) < (n : Int) := by omega
    have hE : Ck.parse s = Ck.fin (Ck.loop (F.drop 0) 0 0) b := by rw [HP.out, if_neg (by rw [HN.out]; exact h3)]; rfl
    obtain ⟨o, ho⟩ : ∃ o, Ck.loop (F.drop 0) 0 0 = o := ⟨_, rfl⟩
    rw [ho] at hE
    have HE := Lib.hid hE
    have HO := Lib.hid ho
    clear hE ho
    go_wp2
    go_loop [7, 26] (fun t i => ∃ (k : Nat) (a : Int), k ≤ n ∧ i = .int .i64 k ∧ t = .int .i64 a ∧ 0 ≤ a ∧ a ≤ 100000000 ∧ Hid (a ≤ 4000000 * k) ∧ Hid (o = Ck.loop (F.drop k) k a)) (fun _ i => n - (intOf i).toNat)
    case atStart => exact ⟨0, 0, by omega, rfl, rfl, by omega, by omega, by show (0 : Int) ≤ 4000000 * ((0 : Nat) : Int); omega, HO.out.symm⟩
    case round =>
      obtain ⟨k, a, hk, rfl, rfl, a0, a1, HA, HK⟩ := hrel
      by_cases hlt : k < n
      · obtain ⟨f, hf⟩ : ∃ f, F[k]? = some f := ⟨F[k]'(by have := HN.out; omega), List.getElem?_eq_getElem _⟩
        have hcell := field_cell w F N 9 k f hf
        have hfs : f.size ≤ maxLen := by have := HF.out f (List.mem_iff_getElem?.2 ⟨k, hf⟩); unfold maxLen; omega
        have hvb := numC_bd (tl f) (Ck.least k) (Ck.most k) (by unfold Ck.most; split <;> omega)
        have hnum := fun W => clockNumber_any f (Ck.least k) (Ck.most k) W hfs (by unfold Ck.most; split <;> omega)
        have hbad := loop_bad F k a f o HK.out hf
        have hnext := loop_next F k a f o HK.out hf
        obtain ⟨v, hv⟩ : ∃ v, Ck.numC (tl f) (Ck.least k) (Ck.most k) = v := ⟨_, rfl⟩
        rw [hv] at hvb hbad hnext
        simp only [hv] at hnum
        obtain ⟨v1, v2⟩ := hvb
        have HBad := Lib.hid hbad
        have HNext := Lib.hid hnext
        have ha := HA.out
        clear hbad hnext hv hf hfs HA HK
        have hk3 : k = 0 ∨ k = 1 ∨ k = 2 := by omega
        rcases hk3 with rfl | rfl | rfl
        · have hnum' : ∀ W, Calls Tryz.prog 118 #[.string f, .int .i64 1, .int .i64 3] W fun e w' => e = .returned (.tuple #[.int .i64 (Ck.resN v), .bool (Ck.okN v)]) ∧ W = w' := hnum
          clear hnum
          have pg := HPg.out.1
          by_cases hv1 : v = -1
          · have e1 : Ck.resN v = 0 := by unfold Ck.resN; rw [if_pos hv1]
            have e2 : Ck.okN v = false := by unfold Ck.okN; rw [hv1]; rfl
            have hE : Ck.parse s = (0, 4) := by rw [HE.out, HBad.out (by unfold Ck.bad; rw [hv1]; rfl)]; rfl
            simp only [e1, e2] at hnum'
            have HNum := Lib.hid hnum'
            have HE2 := Lib.hid hE
            clear hE hv1 e1 e2 hnum' ha
            go_wp2_with (go_at_call 118; refine (HNum.out _).mono ?_; rintro e w2 ⟨rfl, rfl⟩)
            go_ret2
            exact ⟨ret_int22 (by rw [HE2.out]) (by rw [HE2.out]), (Below.refl _ _).alloc (Nat.le_refl _) _⟩
          have e1 : Ck.resN v = v := by unfold Ck.resN; rw [if_neg hv1]
          have e2 : Ck.okN v = true := by unfold Ck.okN; rw [decide_eq_false hv1]; rfl
          simp only [e1, e2] at hnum'
          have HNum := Lib.hid hnum'
          have v3 : 0 ≤ v := by omega
          have hgo : Ck.bad v 0 = false := by unfold Ck.bad; rw [decide_eq_false hv1]; rfl
          have HK2 := Lib.hid (HNext.out hgo)
          have ha2 : a + v * 3600 ≤ 100000000 := by omega
          have ha3 : Hid (a + v * 3600 ≤ 4000000 * ((1 : Nat) : Int)) := by show a + v * 3600 ≤ 4000000 * ((1 : Nat) : Int); omega
          clear hgo hv1 e1 e2 hnum' ha
          go_wp2_with (go_at_call 118; refine (HNum.out _).mono ?_; rintro e w2 ⟨rfl, rfl⟩)
          go_round
          case rel => exact ⟨1, a + v * 3600, by omega, rfl, rfl, by omega, by omega, ha3, HK2.out⟩
          case measure => simp [intOf]; omega
        · have hnum' : ∀ W, Calls Tryz.prog 118 #[.string f, .int .i64 2, .int .i64 2] W fun e w' => e = .returned (.tuple #[.int .i64 (Ck.resN v), .bool (Ck.okN v)]) ∧ W = w' := hnum
          clear hnum
          have pg := HPg.out.2.1
          by_cases hv1 : v = -1
          · have e1 : Ck.resN v = 0 := by unfold Ck.resN; rw [if_pos hv1]
            have e2 : Ck.okN v = false := by unfold Ck.okN; rw [hv1]; rfl
            have hE : Ck.parse s = (0, 4) := by rw [HE.out, HBad.out (by unfold Ck.bad; rw [hv1]; rfl)]; rfl
            simp only [e1, e2] at hnum'
            have HNum := Lib.hid hnum'
            have HE2 := Lib.hid hE
            clear hE hv1 e1 e2 hnum' ha
            go_wp2_with (go_at_call 118; refine (HNum.out _).mono ?_; rintro e w2 ⟨rfl, rfl⟩)
            go_ret2
            exact ⟨ret_int22 (by rw [HE2.out]) (by rw [HE2.out]), (Below.refl _ _).alloc (Nat.le_refl _) _⟩
          have e1 : Ck.resN v = v := by unfold Ck.resN; rw [if_neg hv1]
          have e2 : Ck.okN v = true := by unfold Ck.okN; rw [decide_eq_false hv1]; rfl
          simp only [e1, e2] at hnum'
          have HNum := Lib.hid hnum'
          have v3 : 0 ≤ v := by omega
          by_cases h60 : 60 ≤ v
          · have hE : Ck.parse s = (0, 4) := by rw [HE.out, HBad.out (by unfold Ck.bad; rw [decide_eq_true h60]; simp)]; rfl
            have HE2 := Lib.hid hE
            clear hE hv1 e1 e2 hnum' ha
            go_wp2_with (go_at_call 118; refine (HNum.out _).mono ?_; rintro e w2 ⟨rfl, rfl⟩)
            go_ret2
            exact ⟨ret_int22 (by rw [HE2.out]) (by rw [HE2.out]), (Below.refl _ _).alloc (Nat.le_refl _) _⟩
          have hgo : Ck.bad v 1 = false := by unfold Ck.bad; rw [decide_eq_false hv1]; rw [decide_eq_false h60]; simp
          have HK2 := Lib.hid (HNext.out hgo)
          have ha2 : a + v * 60 ≤ 100000000 := by omega
          have ha3 : Hid (a + v * 60 ≤ 4000000 * ((2 : Nat) : Int)) := by show a + v * 60 ≤ 4000000 * ((2 : Nat) : Int); omega
          clear hgo hv1 e1 e2 hnum' ha
          go_wp2_with (go_at_call 118; refine (HNum.out _).mono ?_; rintro e w2 ⟨rfl, rfl⟩)
          go_round
          case rel => exact ⟨2, a + v * 60, by omega, rfl, rfl, by omega, by omega, ha3, HK2.out⟩
          case measure => simp [intOf]; omega
        · have hnum' : ∀ W, Calls Tryz.prog 118 #[.string f, .int .i64 2, .int .i64 2] W fun e w' => e = .returned (.tuple #[.int .i64 (Ck.resN v), .bool (Ck.okN v)]) ∧ W = w' := hnum
          clear hnum
          have pg := HPg.out.2.2
          by_cases hv1 : v = -1
          · have e1 : Ck.resN v = 0 := by unfold Ck.resN; rw [if_pos hv1]
            have e2 : Ck.okN v = false := by unfold Ck.okN; rw [hv1]; rfl
            have hE : Ck.parse s = (0, 4) := by rw [HE.out, HBad.out (by unfold Ck.bad; rw [hv1]; rfl)]; rfl
            simp only [e1, e2] at hnum'
            have HNum := Lib.hid hnum'
            have HE2 := Lib.hid hE
            clear hE hv1 e1 e2 hnum' ha
            go_wp2_with (go_at_call 118; refine (HNum.out _).mono ?_; rintro e w2 ⟨rfl, rfl⟩)
            go_ret2
            exact ⟨ret_int22 (by rw [HE2.out]) (by rw [HE2.out]), (Below.refl _ _).alloc (Nat.le_refl _) _⟩
          have e1 : Ck.resN v = v := by unfold Ck.resN; rw [if_neg hv1]
          have e2 : Ck.okN v = true := by unfold Ck.okN; rw [decide_eq_false hv1]; rfl
          simp only [e1, e2] at hnum'
          have HNum := Lib.hid hnum'
          have v3 : 0 ≤ v := by omega
          by_cases h60 : 60 ≤ v
          · have hE : Ck.parse s = (0, 4) := by rw [HE.out, HBad.out (by unfold Ck.bad; rw [decide_eq_true h60]; simp)]; rfl
            have HE2 := Lib.hid hE
            clear hE hv1 e1 e2 hnum' ha
            go_wp2_with (go_at_call 118; refine (HNum.out _).mono ?_; rintro e w2 ⟨rfl, rfl⟩)
            go_ret2
            exact ⟨ret_int22 (by rw [HE2.out]) (by rw [HE2.out]), (Below.refl _ _).alloc (Nat.le_refl _) _⟩
          have hgo : Ck.bad v 2 = false := by unfold Ck.bad; rw [decide_eq_false hv1]; rw [decide_eq_false h60]; simp
          have HK2 := Lib.hid (HNext.out hgo)
          have ha2 : a + v * 1 ≤ 100000000 := by omega
          have ha3 : Hid (a + v * 1 ≤ 4000000 * ((3 : Nat) : Int)) := by show a + v * 1 ≤ 4000000 * ((3 : Nat) : Int); omega
          clear hgo hv1 e1 e2 hnum' ha
          go_wp2_with (go_at_call 118; refine (HNum.out _).mono ?_; rintro e w2 ⟨rfl, rfl⟩)
          go_round
          case rel => exact ⟨3, a + v * 1, by omega, rfl, by rw [Int.mul_one], by omega, by omega, ha3, HK2.out⟩
          case measure => simp [intOf]; omega
      · obtain rfl : k = n := by omega
        have hend := loop_end F k a o HK.out HN.out
        have hE : Ck.parse s = Ck.fin (some a) b := by rw [HE.out, hend]
        have HE2 := Lib.hid hE
        clear hE hend HA
        cases b
        · by_cases ht : IsTime a
          · have HT := Lib.hid fun W => calls_bool (isTime_any a W) (decide_eq_true ht)
            have HE3 : Hid (Ck.parse s = (a, 0)) := by show Ck.parse s = _; rw [HE2.out]; unfold Ck.fin; simp [ht]
            clear ht
            go_wp2_with (go_at_call 79; refine (HT.out _).mono ?_; rintro e w2 ⟨rfl, rfl⟩)
            go_ret2
            exact ⟨ret_int22 (by rw [HE3.out]) (by rw [HE3.out]), (Below.refl _ _).alloc (Nat.le_refl _) _⟩
          · have HT := Lib.hid fun W => calls_bool (isTime_any a W) (decide_eq_false ht)
            have HE3 : Hid (Ck.parse s = (0, 1)) := by show Ck.parse s = _; rw [HE2.out]; unfold Ck.fin; simp [ht]
            clear ht
            go_wp2_with (go_at_call 79; refine (HT.out _).mono ?_; rintro e w2 ⟨rfl, rfl⟩)
            go_ret2
            exact ⟨ret_int22 (by rw [HE3.out]) (by rw [HE3.out]), (Below.refl _ _).alloc (Nat.le_refl _) _⟩
        · by_cases ht : IsTime (-a)
          · have HT := Lib.hid fun W => calls_bool (isTime_any (-a) W) (decide_eq_true ht)
            have HE3 : Hid (Ck.parse s = (-a, 0)) := by show Ck.parse s = _; rw [HE2.out]; unfold Ck.fin; simp [ht]
            clear ht
            go_wp2_with (go_at_call 79; refine (HT.out _).mono ?_; rintro e w2 ⟨rfl, rfl⟩)
            go_ret2
            exact ⟨ret_int22 (by rw [HE3.out]) (by rw [HE3.out]), (Below.refl _ _).alloc (Nat.le_refl _) _⟩
          · have HT := Lib.hid fun W => calls_bool (isTime_any (-a) W) (decide_eq_false ht)
            have HE3 : Hid (Ck.parse s = (0, 1)) := by show Ck.parse s = _; rw [HE2.out]; unfold Ck.fin; simp [ht]
            clear ht
            go_wp2_with (go_at_call 79; refine (HT.out _).mono ?_; rintro e w2 ⟨rfl, rfl⟩)
            go_ret2
            exact ⟨ret_int22 (by rw [HE3.out]) (by rw [HE3.out]), (Below.refl _ _).alloc (Nat.le_refl _) _⟩
end Go.Proofs.YtlhoggalhjadgaaGreatDoor
