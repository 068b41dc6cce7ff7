/- The contracts of package word: small, Same, Pick, the tables of names. -/
import Derived.Test.YtlhoggalhjadgaaDoorChecked
import Derived.Test.YtlhoggalhjadgaaDoorK01
import Derived.WalkKit
import Derived.Outline
import Derived.Deep.QuietTactic
import Derived.BigQuiet
import Derived.Deep.DeepFit
import Derived.Lib.Hide
import Derived.IntWalk
import Derived.WalkSpells
import Derived.WalkLawsBesides
namespace Go.Proofs.YtlhoggalhjadgaaDoor
open Go.RowKit

def lowI (x : Int) : Int := if 65 ≤ x ∧ x ≤ 90 then x + 32 else x

theorem small_any (x : Int) (w : World) (h0 : 0 ≤ x) (h1 : x ≤ 255) :
    Calls Tryd.prog 83 #[.int .u8 x] w fun e w' => e = .returned (.int .u8 (lowI x)) ∧ w' = w := by
  go_enter Tryd.func83, Tryd.ntmps83
  go_wp2
  · go_ret
    exact ⟨ret_int (by unfold lowI; rw [if_pos ⟨‹_›, ‹_›⟩]; omega), rfl⟩
  · go_ret
    exact ⟨ret_int (by unfold lowI; rw [if_neg (by omega)]), rfl⟩
  · go_ret
    exact ⟨ret_int (by unfold lowI; rw [if_neg (by omega)]), rfl⟩

theorem lowI_low (c : UInt8) : lowI (c.toNat : Int) = ((Wd.low c).toNat : Int) := by
  unfold lowI Wd.low
  have e : (65 ≤ c ∧ c ≤ 90) ↔ (65 ≤ (c.toNat : Int) ∧ (c.toNat : Int) ≤ 90) := by
    simp [UInt8.le_iff_toNat_le]; omega
  by_cases h : 65 ≤ c ∧ c ≤ 90
  · rw [if_pos h, if_pos (e.1 h), UInt8.toNat_add]
    have := e.1 h
    simp; omega
  · rw [if_neg h, if_neg (fun h' => h (e.2 h'))]
theorem lowI_eq (c d : UInt8) : lowI (c.toNat : Int) = lowI (d.toNat : Int) ↔ Wd.low c = Wd.low d := by
  rw [lowI_low, lowI_low]
  constructor
  · intro h; exact UInt8.toNat_inj.1 (by omega)
  · intro h; rw [h]

theorem same_len (a b : ByteArray) (h : ¬ a.size = b.size) : Wd.same a.data.toList b.data.toList = false := by
  simp only [Wd.same, decide_eq_false_iff_not]
  intro e
  have := congrArg List.length e
  simp [Wd.lows] at this
  exact h this
theorem same_step (a b : ByteArray) (k : Nat) (hla : k < a.size) (hlb : k < b.size) (H : ∀ j (_ : j < k) (_ : k ≤ a.size) (_ : k ≤ b.size), Wd.low a[j] = Wd.low b[j]) (e : Wd.low a[k] = Wd.low b[k]) :
    ∀ j (_ : j < k + 1) (_ : k + 1 ≤ a.size) (_ : k + 1 ≤ b.size), Wd.low a[j] = Wd.low b[j] := by
  intro j hj ha hb
  by_cases h : j = k
  · subst h; exact e
  · exact H j (by omega) (by omega) (by omega)
theorem same_no (a b : ByteArray) (k : Nat) (hla : k < a.size) (hlb : k < b.size) (e : ¬ Wd.low a[k] = Wd.low b[k]) : Wd.same a.data.toList b.data.toList = false := by
  simp only [Wd.same, decide_eq_false_iff_not]
  intro h
  have h2 : (Wd.lows a.data.toList)[k]? = (Wd.lows b.data.toList)[k]? := by rw [h]
  simp only [Wd.lows, List.getElem?_map] at h2
  rw [List.getElem?_eq_getElem (by simpa using hla), List.getElem?_eq_getElem (by simpa using hlb)] at h2
  simp only [Option.map_some, Option.some.injEq, Array.getElem_toList] at h2
  exact e h2
theorem same_yes (a b : ByteArray) (hl : a.size = b.size) (H : ∀ j (_ : j < a.size) (_ : a.size ≤ a.size) (_ : a.size ≤ b.size), Wd.low a[j] = Wd.low b[j]) : Wd.same a.data.toList b.data.toList = true := by
  simp only [Wd.same, decide_eq_true_eq]
  refine List.ext_getElem (by simpa [Wd.lows] using hl) fun j h1 h2 => ?_
  simp only [Wd.lows, List.getElem_map]
  have hj : j < a.size := by simpa [Wd.lows] using h1
  simp only [Array.getElem_toList]
  exact H j hj (by omega) (by omega)

set_option maxHeartbeats 400000 in
theorem same_any (a b : ByteArray) (w : World) (ha : a.size ≤ maxLen) :
    Calls Tryd.prog 70 #[.string a, .string b] w fun e w' => e = .returned (.bool (Wd.same a.data.toList b.data.toList)) ∧ Drew w w' := by
  unfold maxLen at ha
  by_cases hl : a.size = b.size
  · have Hl := Lib.hid hl
    have t1 : ((a.size : Int) == (b.size : Int)) = true := by simp [hl]
    have t2 : ((a.size : Int) != (b.size : Int)) = false := by simp [hl]
    clear hl
    go_enter Tryd.func70, Tryd.ntmps70
    go_wp2
    go_loopw [13] (fun i wr => ∃ k : Nat, k ≤ a.size ∧ i = .int .i64 k ∧ Hid (∀ j (h : j < k) (ha : k ≤ a.size) (hb : k ≤ b.size), Wd.low a[j] = Wd.low b[j]) ∧ Hid (Drew w wr)) (fun i _ => a.size - (intOf i).toNat)
    case atStart => exact ⟨0, Nat.zero_le _, rfl, fun j hj => absurd hj (by omega), Drew.refl w⟩
    case round =>
      obtain ⟨k, hk, rfl, Hall, HD⟩ := hrel
      by_cases hlt : k < a.size
      · have hlb : k < b.size := by have := Hl.out; omega
        have q1 : (0 : Int) ≤ (k : Int) := by omega
        have q2 : (k : Int) < (a.size : Int) := by omega
        have q3 : (k : Int) < (b.size : Int) := by omega
        have b1 := u8_bd a[k]
        have b2 := u8_bd b[k]
        go_wp2_with fail
        go_quiet ((go_at_call 83; exact Calls.quiet_of_same (small_any _ _ (by omega) (by omega))))
        by_cases he : lowI (a[k].toNat : Int) = lowI (b[k].toNat : Int)
        · have t3 : (lowI (a[k].toNat : Int) != lowI (b[k].toNat : Int)) = false := by simp [he]
          have He := Lib.hid he
          clear he
          go_wp2
          go_roundw
          case rel => exact ⟨k + 1, by omega, by go_num, same_step a b k hlt hlb Hall.out ((lowI_eq _ _).1 He.out), HD.out.drewN _⟩
          case measure => simp [intOf]; omega
        · have t3 : (lowI (a[k].toNat : Int) != lowI (b[k].toNat : Int)) = true := by simp [he]
          have He := Lib.hid he
          clear he
          go_wp2
          go_ret
          exact ⟨ret_bool (same_no a b k hlt hlb fun e => He.out ((lowI_eq _ _).2 e)).symm, HD.out.drewN _⟩
      · obtain rfl : k = a.size := by omega
        go_wp2
        go_ret
        exact ⟨ret_bool (same_yes a b Hl.out Hall.out).symm, HD.out⟩
  · have t1 : ((a.size : Int) == (b.size : Int)) = false := by simp; omega
    have t2 : ((a.size : Int) != (b.size : Int)) = true := by simp; omega
    have Hl := Lib.hid hl
    clear hl
    go_enter Tryd.func70, Tryd.ntmps70
    go_wp2
    go_ret
    refine ⟨ret_bool ?_, Drew.refl w⟩
    exact (same_len a b Hl.out).symm


theorem reads_str {w : World} {B : Nat} {A : Option Addr} {n k : Nat} {ss : List ByteArray} (h : Reads w B 1 A n (ss.map Value.string)) (hk : k < n) :
    ∃ ad nm, A = some ad ∧ Hid (ss[k]? = some nm) ∧ w.cell? (ad.add k) = some (.string nm) := by
  obtain ⟨ad, u, e, _, hx, hc⟩ := h.at_ hk
  rw [List.getElem?_map] at hx
  match hs : ss[k]? with
  | none => rw [hs] at hx; simp at hx
  | some nm =>
    rw [hs] at hx
    obtain rfl : Value.string nm = u := by simpa using hx
    exact ⟨ad, nm, e, rfl, hc⟩
theorem pick_start (s : ByteArray) (ss : List ByteArray) (h : ¬ s.toList = []) : Wd.pick (tl s) (ss.map tl) = Wd.pickLoop (tl s) ((ss.map tl).drop 0) 0 (-1) 0 := by
  unfold Wd.pick
  rw [if_neg (show ¬ tl s = [] from fun e => h (by rw [ByteArray.toList_eq]; exact e)), List.drop_zero]
theorem drop_of {α : Type} {l : List α} {k : Nat} {a : α} (h : l[k]? = some a) : l.drop k = a :: l.drop (k + 1) := by
  obtain ⟨hk, e⟩ := List.getElem?_eq_some_iff.1 h
  rw [List.drop_eq_getElem_cons hk, e]
theorem pick_next1 (s : ByteArray) (ss : List ByteArray) (k : Nat) (bg : Int) (cnt : Nat) (nm : ByteArray) (h : Wd.pick (tl s) (ss.map tl) = Wd.pickLoop (tl s) ((ss.map tl).drop k) k bg cnt) (hn : ss[k]? = some nm) (hs : nm.size < s.size) :
    Wd.pick (tl s) (ss.map tl) = Wd.pickLoop (tl s) ((ss.map tl).drop (k + 1)) (k + 1) bg cnt := by
  rw [h, drop_of (a := tl nm) (by simp [hn]), Wd.pickLoop, if_neg]
  simp only [Wd.begins, tl_length, Bool.and_eq_true, decide_eq_true_eq]
  omega

theorem begins_of (s nm : ByteArray) (hs : ¬ nm.size < s.size) : Wd.begins (tl nm) (tl s) = Wd.same (nm.extract 0 s.size).data.toList s.data.toList := by
  have e : (nm.extract 0 s.size).data.toList = (tl nm).take (tl s).length := by
    rw [tl_length]; simp [tl]
  unfold Wd.begins
  rw [e]
  have : (tl s).length ≤ (tl nm).length := by rw [tl_length, tl_length]; omega
  simp [this]; rfl
theorem pick_next2 (s : ByteArray) (ss : List ByteArray) (k : Nat) (bg : Int) (cnt : Nat) (nm : ByteArray) (h : Wd.pick (tl s) (ss.map tl) = Wd.pickLoop (tl s) ((ss.map tl).drop k) k bg cnt) (hn : ss[k]? = some nm) (hs : ¬ nm.size < s.size)
    (hb : Wd.same (nm.extract 0 s.size).data.toList s.data.toList = false) :
    Wd.pick (tl s) (ss.map tl) = Wd.pickLoop (tl s) ((ss.map tl).drop (k + 1)) (k + 1) bg cnt := by
  rw [h, drop_of (a := tl nm) (by simp [hn]), Wd.pickLoop, if_neg]
  rw [begins_of s nm hs, hb]; simp
theorem pick_next3 (s : ByteArray) (ss : List ByteArray) (k : Nat) (bg : Int) (cnt : Nat) (nm : ByteArray) (h : Wd.pick (tl s) (ss.map tl) = Wd.pickLoop (tl s) ((ss.map tl).drop k) k bg cnt) (hn : ss[k]? = some nm) (hs : nm.size = s.size)
    (hb : Wd.same (nm.extract 0 s.size).data.toList s.data.toList = true) :
    Wd.pick (tl s) (ss.map tl) = (k : Int) := by
  rw [h, drop_of (a := tl nm) (by simp [hn]), Wd.pickLoop, if_pos (by rw [begins_of s nm (by omega), hb]), if_pos (by rw [tl_length, tl_length, hs])]
theorem pick_next4 (s : ByteArray) (ss : List ByteArray) (k : Nat) (bg : Int) (cnt : Nat) (nm : ByteArray) (h : Wd.pick (tl s) (ss.map tl) = Wd.pickLoop (tl s) ((ss.map tl).drop k) k bg cnt) (hn : ss[k]? = some nm) (hs : ¬ nm.size < s.size) (hne : ¬ nm.size = s.size)
    (hb : Wd.same (nm.extract 0 s.size).data.toList s.data.toList = true) :
    Wd.pick (tl s) (ss.map tl) = Wd.pickLoop (tl s) ((ss.map tl).drop (k + 1)) (k + 1) k (cnt + 1) := by
  rw [h, drop_of (a := tl nm) (by simp [hn]), Wd.pickLoop, if_pos (by rw [begins_of s nm hs, hb]), if_neg (by rw [tl_length, tl_length]; exact hne)]
theorem pick_end (s : ByteArray) (ss : List ByteArray) (k : Nat) (bg : Int) (cnt : Nat) (h : Wd.pick (tl s) (ss.map tl) = Wd.pickLoop (tl s) ((ss.map tl).drop k) k bg cnt) (hk : ss.length = k) :
    Wd.pick (tl s) (ss.map tl) = if cnt = 1 then bg else -1 := by
  rw [h, List.drop_eq_nil_of_le (by simp; omega)]; rfl

set_option maxHeartbeats 1000000 in
theorem pick_any (s : ByteArray) (A : Option Addr) (n c : Nat) (ss : List ByteArray) (w : World) (hs : s.size ≤ maxLen) (hn : n ≤ maxLen) (hr : Reads w w.heap.size 1 A n (ss.map Value.string)) :
    Calls Tryd.prog 56 #[.string s, .slice A n c] w fun e w' => e = .returned (.int .i64 (Wd.pick (tl s) (ss.map tl))) ∧ Drew w w' := by
  unfold maxLen at hs hn
  by_cases he : s.toList = []
  · have t1 : s.toList.isEmpty = true := by simp [he]
    have hE : Wd.pick (tl s) (ss.map tl) = -1 := by unfold Wd.pick; rw [if_pos (show tl s = [] by rw [← he, ByteArray.toList_eq]; rfl)]
    have HE := Lib.hid hE
    clear he hE hr
    go_enter Tryd.func56, Tryd.ntmps56
    go_wp2
    go_ret
    exact ⟨ret_int HE.out.symm, Drew.refl w⟩
  · have t1 : s.toList.isEmpty = false := by simp [he]
    have He := Lib.hid he
    clear he
    have HR := Lib.hid hr
    clear hr
    go_enter Tryd.func56, Tryd.ntmps56
    go_wp2
    go_loopw [5, 6, 13] (fun b cn i wr => ∃ (k cnt : Nat) (bg : Int), k ≤ n ∧ cnt ≤ k ∧ b = .int .i64 bg ∧ cn = .int .i64 cnt ∧ i = .int .i64 k ∧ Hid (Wd.pick (tl s) (ss.map tl) = Wd.pickLoop (tl s) ((ss.map tl).drop k) k bg cnt) ∧ Hid (Drew w wr)) (fun _ _ i _ => n - (intOf i).toNat)
    case atStart => exact ⟨0, 0, -1, Nat.zero_le _, Nat.le_refl _, rfl, rfl, rfl, pick_start s ss He.out, Drew.refl w⟩
    case round =>
      obtain ⟨k, cnt, bg, hk, hcnt, rfl, rfl, rfl, HP, HD⟩ := hrel
      by_cases hlt : k < n
      · obtain ⟨ad, nm, rfl, hnm, hcell⟩ : ∃ ad nm, A = some ad ∧ Hid (ss[k]? = some nm) ∧ wr.cell? (ad.add k) = some (.string nm) := reads_str (HR.out.of_drew HD.out) hlt
        have q1 : (0 : Int) ≤ (k : Int) := by omega
        have q2 : (k : Int) < (n : Int) := by omega
        by_cases hsz : nm.size < s.size
        · go_wp2
          go_roundw
          case rel => exact ⟨k + 1, cnt, bg, by omega, by omega, rfl, rfl, by go_num, pick_next1 s ss k bg cnt nm HP.out hnm.out hsz, HD⟩
          case measure => simp [intOf]; omega
        · have q3 : (s.size : Int) ≤ (nm.size : Int) := by omega
          have q4 : (nm.extract 0 s.size).size ≤ maxLen := by simp only [ByteArray.size_extract, maxLen]; omega
          cases hsm : Wd.same (nm.extract 0 s.size).data.toList s.data.toList
          · have Hsm := Lib.hid hsm
            clear hsm
            go_wp2_with (go_at_call 70; refine (same_any _ _ _ q4).mono ?_; rw [Hsm.out]; rintro e w' ⟨rfl, HD2⟩)
            go_roundw
            case rel => exact ⟨k + 1, cnt, bg, by omega, by omega, rfl, rfl, by go_num, pick_next2 s ss k bg cnt nm HP.out hnm.out hsz Hsm.out, HD.out.trans HD2⟩
            case measure => simp [intOf]; omega
          · have Hsm := Lib.hid hsm
            clear hsm
            by_cases heq : nm.size = s.size
            · have t2 : ((nm.size : Int) == (s.size : Int)) = true := by simp [heq]
              have Heq := Lib.hid heq
              clear heq
              go_wp2_with (go_at_call 70; refine (same_any _ _ _ q4).mono ?_; rw [Hsm.out]; rintro e w' ⟨rfl, HD2⟩)
              go_ret
              exact ⟨ret_int (pick_next3 s ss k bg cnt nm HP.out hnm.out Heq.out Hsm.out).symm, HD.out.trans HD2⟩
            · have t2 : ((nm.size : Int) == (s.size : Int)) = false := by simp; omega
              have Heq := Lib.hid heq
              clear heq
              go_wp2_with (go_at_call 70; refine (same_any _ _ _ q4).mono ?_; rw [Hsm.out]; rintro e w' ⟨rfl, HD2⟩)
              go_roundw
              case rel => exact ⟨k + 1, cnt + 1, k, by omega, by omega, rfl, by go_num, by go_num, pick_next4 s ss k bg cnt nm HP.out hnm.out hsz Heq.out Hsm.out, HD.out.trans HD2⟩
              case measure => simp [intOf]; omega
      · obtain rfl : k = n := by omega
        have hE := pick_end s ss k bg cnt HP.out (by have := HR.out.1; simpa using this)
        by_cases h1 : cnt = 1
        · have t2 : ((cnt : Int) != 1) = false := by simp [h1]
          rw [if_pos h1] at hE
          have HE := Lib.hid hE
          clear hE h1
          go_wp2
          go_ret
          exact ⟨ret_int HE.out.symm, HD.out⟩
        · have t2 : ((cnt : Int) != 1) = true := by simp; omega
          rw [if_neg h1] at hE
          have HE := Lib.hid hE
          clear hE h1
          go_wp2
          go_ret
          exact ⟨ret_int HE.out.symm, HD.out⟩
end Go.Proofs.YtlhoggalhjadgaaDoor
/- The contracts of package word: the days of the week. -/
namespace Go.Proofs.YtlhoggalhjadgaaDoor
open Go.RowKit

def Days : List ByteArray := [⟨#[83, 117, 110, 100, 97, 121]⟩, ⟨#[77, 111, 110, 100, 97, 121]⟩, ⟨#[84, 117, 101, 115, 100, 97, 121]⟩, ⟨#[87, 101, 100, 110, 101, 115, 100, 97, 121]⟩, ⟨#[84, 104, 117, 114, 115, 100, 97, 121]⟩, ⟨#[70, 114, 105, 100, 97, 121]⟩, ⟨#[83, 97, 116, 117, 114, 100, 97, 121]⟩]
def strCells (l : List ByteArray) : Array Value := (l.map Value.string).toArray

theorem weekdays_any (w : World) :
    Calls Tryd.prog 51 #[] w fun e w' => e = .returned (.slice (some ⟨w.heap.size, 0, none⟩) 7 7) ∧ w' = w.alloc (.cells (strCells Days) 9) := by
  go_enter Tryd.func51, Tryd.ntmps51
  go_wp2
  go_ret
  exact ⟨rfl, rfl⟩

theorem reads_new (w : World) (l : List ByteArray) (t : TypeId) : Reads (w.alloc (.cells (strCells l) t)) (w.alloc (.cells (strCells l) t)).heap.size 1 (some ⟨w.heap.size, 0, none⟩) l.length (l.map Value.string) := by
  refine ⟨by simp, fun _ => ⟨_, rfl, by simp, fun j u hu => ?_⟩⟩
  have h := cell_of_row (w.alloc (.cells (strCells l) t)) w.heap.size j (strCells l) t (0, 0) (heap_alloc_new w _)
  have e : (⟨w.heap.size, 0, none⟩ : Addr).add j = ⟨w.heap.size, j, none⟩ := by
    unfold Addr.add
    split
    · subst_vars; rfl
    · simp
  rw [e, h]
  simpa [strCells] using hu

theorem weekday_any (s : ByteArray) (w : World) (hs : s.size ≤ maxLen) :
    Calls Tryd.prog 72 #[.string s] w fun e w' => e = .returned (.int .i64 (Wd.pick (tl s) (Days.map tl))) ∧ Below w.heap.size w w' := by
  go_enter Tryd.func72, Tryd.ntmps72
  go_wp2_with fail
  refine (weekdays_any _).mono ?_
  rintro e w1 ⟨rfl, rfl⟩
  go_wp2_with fail
  refine (pick_any s _ 7 7 Days _ hs (by unfold maxLen; omega) (reads_new w Days 9)).mono ?_
  rintro e w2 ⟨rfl, HD⟩
  go_wp2
  go_ret
  exact ⟨rfl, ((Below.refl _ _).alloc (Nat.le_refl _) _).trans (HD.below _)⟩

/-- How a month, a day is written. -/
def textOf (l : List ByteArray) (i : Int) : ByteArray := if 0 ≤ i ∧ i < l.length then (l.getD i.toNat ByteArray.empty).extract 0 3 else ByteArray.empty

theorem textOf_out (l : List ByteArray) (i : Int) (h : ¬ (0 ≤ i ∧ i < l.length)) : textOf l i = ByteArray.empty := by unfold textOf; rw [if_neg h]
theorem days_len (k : Nat) (hk : k < 7) : ∃ nm, Days[k]? = some nm ∧ 3 ≤ nm.size ∧ textOf Days (k : Int) = nm.extract 0 3 := by
  have : k = 0 ∨ k = 1 ∨ k = 2 ∨ k = 3 ∨ k = 4 ∨ k = 5 ∨ k = 6 := by omega
  rcases this with rfl | rfl | rfl | rfl | rfl | rfl | rfl <;> exact ⟨_, rfl, by decide, rfl⟩

theorem cell_new (w : World) (l : List ByteArray) (t : TypeId) (k : Nat) (nm : ByteArray) (h : l[k]? = some nm) : (w.alloc (.cells (strCells l) t)).cell? ⟨w.heap.size, k, none⟩ = some (.string nm) := by
  rw [cell_of_row (w.alloc (.cells (strCells l) t)) w.heap.size k (strCells l) t (0, 0) (heap_alloc_new w _)]
  simp [strCells, h]

theorem weekdayText_any (m : Int) (w : World) :
    Calls Tryd.prog 33 #[.int .i64 m] w fun e w' => e = .returned (.string (textOf Days m)) ∧ Below w.heap.size w w' := by
  by_cases h1 : m < 0
  · have HE := Lib.hid (textOf_out Days m (by omega))
    go_enter Tryd.func33, Tryd.ntmps33
    go_wp2
    go_ret
    exact ⟨by rw [HE.out]; rfl, Below.refl _ _⟩
  · by_cases h2 : 6 < m
    · have HE := Lib.hid (textOf_out Days m (by simp [Days]; omega))
      go_enter Tryd.func33, Tryd.ntmps33
      go_wp2
      go_ret
      exact ⟨by rw [HE.out]; rfl, Below.refl _ _⟩
    · obtain ⟨k, rfl⟩ : ∃ k : Nat, m = (k : Int) := ⟨m.toNat, by omega⟩
      obtain ⟨nm, h3, h4, h5⟩ := days_len k (by omega)
      have hc := cell_new w Days 9 k nm h3
      have H5 := Lib.hid h5
      have q1 : (0 : Int) ≤ (k : Int) := by omega
      have q2 : (k : Int) < 7 := by omega
      clear h5 h3 h1 h2
      go_enter Tryd.func33, Tryd.ntmps33
      go_wp2_with fail
      refine (weekdays_any _).mono ?_
      rintro e w1 ⟨rfl, rfl⟩
      go_wp2
      go_ret
      exact ⟨ret_str H5.out.symm, (Below.refl _ _).alloc (Nat.le_refl _) _⟩

theorem day_text (n : Int) : (textOf Days n).toList.isEmpty = !(decide (0 ≤ n) && decide (n ≤ 6)) ∧ (textOf Days n).size ≤ maxLen ∧ (0 ≤ n ∧ n ≤ 6 → Wd.pick (tl (textOf Days n)) (Days.map tl) = n) := by
  by_cases h : 0 ≤ n ∧ n ≤ 6
  · have : n = 0 ∨ n = 1 ∨ n = 2 ∨ n = 3 ∨ n = 4 ∨ n = 5 ∨ n = 6 := by omega
    rcases this with rfl | rfl | rfl | rfl | rfl | rfl | rfl <;> exact ⟨by rw [ByteArray.toList_eq]; decide, by decide, fun _ => by decide⟩
  · rw [textOf_out Days n (by simp [Days]; omega)]
    refine ⟨?_, by decide, fun h' => absurd h' h⟩
    have : (decide (0 ≤ n) && decide (n ≤ 6)) = false := by simpa using h
    rw [this, ByteArray.toList_eq]; rfl
end Go.Proofs.YtlhoggalhjadgaaDoor
