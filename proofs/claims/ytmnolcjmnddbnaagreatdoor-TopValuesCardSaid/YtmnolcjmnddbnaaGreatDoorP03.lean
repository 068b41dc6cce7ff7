/- utf.Check and utf.Plain: whether a text is right, and plain. -/
import Derived.Test.YtmnolcjmnddbnaaGreatDoorP01
import Derived.Test.YtmnolcjmnddbnaaGreatDoorP02
import Derived.Lib.OthersKept
import Derived.Laws.Runes
import Derived.Deep.QuietTactic
import Derived.BigQuiet
import Derived.Deep.DeepMust
import Derived.Lib.SplitLaws

namespace Go.Proofs.YtmnolcjmnddbnaaGreatDoor
open Go.RowKit

theorem iter_below {w : World} (s : ByteArray) (pos : Nat) : Below w.heap.size w (w.iter s pos) := (Below.refl _ _).alloc (Nat.le_refl _) _
set_option maxHeartbeats 2000000 in
set_option maxRecDepth 100000 in
theorem utfCheck_any (s : ByteArray) (hs : s.size ≤ maxLen) (w : World) :
    Calls Tryz.prog 47 #[.string s] w fun e w' => (∃ i : Int, e = .returned (.tuple #[.int .i64 i, .int .i64 (if Te.right s then 0 else 11)])) ∧ Below w.heap.size w w' := by
  unfold maxLen at hs
  have HP := Lib.hid (fun (pos : Nat) W => Tryz.strings_HasPrefix (s.extract pos s.size) ⟨#[239, 191, 189]⟩ W)
  have hmax : IntKind.i64.wrap (s.size : Int) = s.size := by rw [IntKind.wrap_i64]; omega
  obtain ⟨v, hv⟩ : ∃ v : Int, (if Te.right s then (0 : Int) else 11) = v := ⟨_, rfl⟩
  rw [hv]
  have HT : Hid (Te.right s = true → v = 0) := fun h => by rw [← hv, if_pos h]
  have HF : Hid (Te.right s = false → v = 11) := fun h => by rw [← hv, if_neg (by rw [h]; decide)]
  clear hv
  go_enter Tryz.func47, Tryz.ntmps47
  go_wp2
  go_loopw [8] (fun _ wr => ∃ (pos f : Nat), wr = w.iter s pos ∧ s.size ≤ pos + f ∧ Hid (Te.rightFrom s f pos = Te.right s)) (fun _ wr => s.size - wr.iterPos w.heap.size)
  case atStart => exact ⟨0, s.size, rfl, by omega, rfl⟩
  case round =>
    obtain ⟨pos, f, rfl, hf, HR⟩ := hrel
    by_cases hp : pos < s.size
    · have hnx : ∀ ty, (Instr.next (.pointer (some ⟨w.heap.size, 0, none⟩)) true ty).run Tryz.prog (w.iter s pos) = _ := fun ty => run_next_any w s pos ty hp
      have hw := Te.width_pos s pos hp
      obtain ⟨f, rfl⟩ : ∃ g, f = g + 1 := ⟨f - 1, by omega⟩
      have HB : Hid (Te.bad s pos = true → Te.right s = false) := fun hb => by
        rw [← HR.out, Te.rightFrom, if_pos hp, hb]; rfl
      have HG : Hid (Te.bad s pos = false → Te.rightFrom s f (pos + (Utf8.decode s pos).2) = Te.right s) := fun hb => by
        rw [← HR.out, Te.rightFrom, if_pos hp, hb]; rfl
      have HU : Hid (Te.bad s pos = (decide ((Utf8.decode s pos).1 = 65533) && !(Lib.hasPrefix (s.extract pos s.size).data.toList [239, 191, 189]))) := by
        show Te.bad s pos = _
        unfold Te.bad Te.wrongL tl
        rw [Lib.extract_data, List.take_of_length_le (by rw [List.length_drop]; rw [← Lib.size_eq]; exact Nat.le_refl _)]
        rfl
      clear HR
      obtain ⟨c, hc⟩ : ∃ c, (Utf8.decode s pos).1 = c := ⟨_, rfl⟩
      obtain ⟨n, hn⟩ : ∃ n, (Utf8.decode s pos).2 = n := ⟨_, rfl⟩
      rw [hc] at HU hnx
      rw [hn] at HG hnx hw
      clear hc hn
      have c1 : (0 : Int) ≤ (pos : Int) := by omega
      have c2 : (pos : Int) ≤ (s.size : Int) := by omega
      by_cases hce : c = 65533
      · subst hce
        obtain ⟨b, hb⟩ : ∃ b, Lib.hasPrefix (s.extract pos s.size).data.toList [239, 191, 189] = b := ⟨_, rfl⟩
        rw [hb] at HU
        have HP1 : Hid (∀ W, Calls Tryz.prog 19 #[.string (s.extract pos s.size), .string ⟨#[239, 191, 189]⟩] W fun e w' => e = .returned (.bool b) ∧ w' = W) := fun W => by
          have h := HP.out pos W
          rw [hb] at h
          exact h
        clear hb
        cases b with
        | false =>
          have HE := Lib.hid (HF.out (HB.out (by rw [HU.out]; rfl)))
          clear HU HB HG
          go_wp2_with (refine (HP1.out _).mono ?_; rintro e w' ⟨rfl, rfl⟩)
          go_ret2
          exact ⟨⟨_, by rw [HE.out]; rfl⟩, iter_below s _⟩
        | true =>
          have HE := Lib.hid (HG.out (by rw [HU.out]; rfl))
          clear HU HB HG
          go_wp2_with (refine (HP1.out _).mono ?_; rintro e w' ⟨rfl, rfl⟩)
          go_wp2
          go_roundw
          case rel => exact ⟨pos + n, f, rfl, by omega, HE⟩
          case measure => simp only [World.iterPos_iter]; omega
      · have qc : ((c : Int) == 65533) = false := by rw [beq_eq_false_iff_ne]; omega
        have qd : ¬ (c : Int) = 65533 := by omega
        have HE := Lib.hid (HG.out (by rw [HU.out, decide_eq_false hce]; rfl))
        clear HU HB HG
        go_wp2
        go_roundw
        case rel => exact ⟨pos + n, f, rfl, by omega, HE⟩
        case measure => simp only [World.iterPos_iter]; omega
    · have hnx : ∀ ty, (Instr.next (.pointer (some ⟨w.heap.size, 0, none⟩)) true ty).run Tryz.prog (w.iter s pos) = _ := fun ty => run_next_end w s pos ty hp
      have HE : Hid (v = 0) := HT.out (by
        rw [← HR.out]
        exact Te.rightFrom_end s f pos hp)
      go_wp2
      go_ret2
      exact ⟨⟨_, by rw [HE.out]; rfl⟩, iter_below s pos⟩
set_option maxHeartbeats 2000000 in
set_option maxRecDepth 100000 in
theorem utfPlain_any (s : ByteArray) (hs : s.size ≤ maxLen) (w : World) :
    Calls Tryz.prog 25 #[.string s] w fun e w' => e = .returned (.bool (Te.plain s)) ∧ Below w.heap.size w w' := by
  have hC := utfCheck_any s hs w
  obtain ⟨v, hv⟩ : ∃ v, Te.plain s = v := ⟨_, rfl⟩
  rw [hv]
  have HV := Lib.hid hv
  clear hv
  go_enter Tryz.func25, Tryz.ntmps25
  cases hr : Te.right s with
  | false =>
    rw [hr, if_neg (by decide)] at hC
    have HE : Hid (v = false) := by
      show v = false
      rw [← HV.out]; unfold Te.plain; rw [hr]; rfl
    have HC := Lib.hid hC
    clear hC hr
    go_wp2_with (refine HC.out.mono ?_; rintro e w1 ⟨⟨i, rfl⟩, hb⟩)
    go_ret
    exact ⟨by rw [HE.out]; rfl, hb⟩
  | true =>
    rw [hr, if_pos rfl] at hC
    have HE : Hid (v = Te.plainFrom s s.size 0) := by
      show v = _
      rw [← HV.out]; unfold Te.plain; rw [hr]; rfl
    have HC := Lib.hid hC
    clear hC hr HV
    go_wp2_with (refine HC.out.mono ?_; rintro e w1 ⟨⟨i, rfl⟩, hb⟩)
    have HB1 := Lib.hid hb
    clear hb HC
    go_loopw [16] (fun _ wr => ∃ (pos f : Nat), wr = w1.iter s pos ∧ s.size ≤ pos + f ∧ Hid (v = Te.plainFrom s f pos)) (fun _ wr => s.size - wr.iterPos w1.heap.size)
    case atStart => exact ⟨0, s.size, rfl, by omega, HE⟩
    case round =>
      obtain ⟨pos, f, rfl, hf, HR⟩ := hrel
      by_cases hp : pos < s.size
      · have hnx : ∀ ty, (Instr.next (.pointer (some ⟨w1.heap.size, 0, none⟩)) true ty).run Tryz.prog (w1.iter s pos) = _ := fun ty => run_next_any w1 s pos ty hp
        have hw := Te.width_pos s pos hp
        obtain ⟨f, rfl⟩ : ∃ g, f = g + 1 := ⟨f - 1, by omega⟩
        have HG : Hid (v = (!(Te.low (Utf8.decode s pos).1) && Te.plainFrom s f (pos + (Utf8.decode s pos).2))) := by
          show v = _
          rw [HR.out, Te.plainFrom, if_pos hp]
        clear HR
        obtain ⟨c, hc⟩ : ∃ c, (Utf8.decode s pos).1 = c := ⟨_, rfl⟩
        obtain ⟨n, hn⟩ : ∃ n, (Utf8.decode s pos).2 = n := ⟨_, rfl⟩
        rw [hc, hn] at HG hnx
        rw [hn] at hw
        clear hc hn
        by_cases h32 : c < 32
        · have q1 : (c : Int) < 32 := by omega
          have HX : Hid (v = false) := by
            show v = false
            rw [HG.out]; unfold Te.low; rw [decide_eq_true h32]; rfl
          clear HG
          go_wp2
          go_ret
          exact ⟨by rw [HX.out]; rfl, HB1.out.trans ((iter_below s _).mono HB1.out.size)⟩
        · have q1 : ¬ (c : Int) < 32 := by omega
          by_cases h127 : c = 127
          · subst h127
            have HX : Hid (v = false) := by
              show v = false
              rw [HG.out]; rfl
            clear HG
            go_wp2
            go_ret
            exact ⟨by rw [HX.out]; rfl, HB1.out.trans ((iter_below s _).mono HB1.out.size)⟩
          · have q2 : ¬ (c : Int) = 127 := by omega
            have HX : Hid (v = Te.plainFrom s f (pos + n)) := by
              show v = _
              rw [HG.out]; unfold Te.low; rw [decide_eq_false h32, show (c == 127) = false from by rw [beq_eq_false_iff_ne]; exact h127]; rfl
            clear HG
            go_wp2
            go_roundw
            case rel => exact ⟨pos + n, f, rfl, by omega, HX⟩
            case measure => simp only [World.iterPos_iter]; omega
      · have hnx : ∀ ty, (Instr.next (.pointer (some ⟨w1.heap.size, 0, none⟩)) true ty).run Tryz.prog (w1.iter s pos) = _ := fun ty => run_next_end w1 s pos ty hp
        have HX : Hid (v = true) := by
          show v = true
          rw [HR.out]
          exact Te.plainFrom_end s f pos hp
        go_wp2
        go_ret
        exact ⟨by rw [HX.out]; rfl, HB1.out.trans ((iter_below s _).mono HB1.out.size)⟩
end Go.Proofs.YtmnolcjmnddbnaaGreatDoor

/- hive.CheckValue: whether a value is right. -/
namespace Go.Proofs.YtmnolcjmnddbnaaGreatDoor
open Go.RowKit

namespace Hv
def nameB (v : V) : Bool := decide (1 ≤ v.name.size) && (decide (v.name.size ≤ 64) && Te.plain v.name)
def kindB (v : V) : Bool :=
  if v.kind = 1 then decide (v.text.size ≤ 4096) && (Te.plain v.text && (decide (v.num = 0) && decide (v.bytes.size = 0)))
  else if v.kind = 2 then decide (v.text.size = 0) && decide (v.bytes.size = 0)
  else if v.kind = 3 then decide (v.bytes.size ≤ 4096) && (decide (v.text.size = 0) && decide (v.num = 0))
  else false
def valB (v : V) : Bool := nameB v && kindB v
theorem emp_yes {s : ByteArray} (h : s.size = 0) : s.toList.isEmpty = true := by
  rw [ByteArray.toList_eq, List.isEmpty_iff]
  apply List.eq_nil_of_length_eq_zero
  simpa using h
theorem emp_no {s : ByteArray} (h : ¬ s.size = 0) : s.toList.isEmpty = false := by
  cases e : s.toList.isEmpty with
  | false => rfl
  | true =>
    rw [ByteArray.toList_eq, List.isEmpty_iff] at e
    exact absurd (by have := congrArg List.length e; simpa using this) h
end Hv
set_option maxHeartbeats 4000000 in
set_option maxRecDepth 100000 in
theorem hvValue_any (v : Hv.V) (hv : v.Ok) (w : World) :
    Calls Tryz.prog 14 #[v.v] w fun e w' => e = .returned (.int .i64 (if Hv.valB v = true then 0 else 2)) ∧ Below w.heap.size w w' := by
  obtain ⟨nm, kd, tx, nu, bs⟩ := v
  obtain ⟨h1, h2, h3, k0, k1, n0, n1⟩ := hv
  simp only at h1 h2 h3 k0 k1 n0 n1
  unfold Hv.V.v
  simp only
  have HPn := Lib.hid (fun W => utfPlain_any nm h1 W)
  have HPt := Lib.hid (fun W => utfPlain_any tx h2 W)
  unfold maxLen at h1 h2 h3
  obtain ⟨X, hX⟩ : ∃ X : Int, (if Hv.valB ⟨nm, kd, tx, nu, bs⟩ = true then (0 : Int) else 2) = X := ⟨_, rfl⟩
  rw [hX]
  unfold Hv.valB Hv.nameB Hv.kindB at hX
  simp only at hX
  obtain ⟨W0, hW0⟩ : ∃ W, w.alloc (.cells #[.string nm, .int .u8 kd, .string tx, .int .u32 nu, .string bs] 25) = W := ⟨_, rfl⟩
  have HB0 : Hid (Below w.heap.size w W0) := by show Below _ _ _; rw [← hW0]; exact Hv.bl1 _ _
  have HA0 : Hid (At W0 w.heap.size [.string nm, .int .u8 kd, .string tx, .int .u32 nu, .string bs]) := by show At _ _ _; rw [← hW0]; exact At.new _ _ _
  have HW0 := Lib.hid hW0
  have HX := Lib.hid hX
  clear hW0 hX
  have c0 := HA0.out.cell 0 _ rfl
  go_enter Tryz.func14, Tryz.ntmps14
  by_cases q1 : nm.size < 1
  · have p1 : (nm.size : Int) < 1 := by omega
    have HE : Hid (X = 2) := by show X = 2; rw [← HX.out, decide_eq_false (by omega)]; rfl
    go_wp2_with fail
    rw [HW0.out]
    go_ret
    exact ⟨by rw [HE.out]; rfl, HB0.out⟩
  have p1 : ¬ (nm.size : Int) < 1 := by omega
  by_cases q2 : 64 < nm.size
  · have p2 : (64 : Int) < (nm.size : Int) := by omega
    have HE : Hid (X = 2) := by show X = 2; rw [← HX.out, decide_eq_false (show ¬ nm.size ≤ 64 by omega)]; simp
    go_wp2_with fail
    rw [HW0.out]
    go_ret
    exact ⟨by rw [HE.out]; rfl, HB0.out⟩
  have p2 : ¬ (64 : Int) < (nm.size : Int) := by omega
  have HX := Lib.hid HX.out
  have hx := HX.out
  rw [decide_eq_true (show 1 ≤ nm.size by omega), decide_eq_true (show nm.size ≤ 64 by omega), Bool.true_and, Bool.true_and] at hx
  clear HX
  go_wp2_with fail
  rw [HW0.out]
  refine (HPn.out _).mono ?_
  rintro e w1 ⟨rfl, hb1⟩
  have HB1 := Lib.hid (below_then HB0.out hb1)
  have HA1 := Lib.hid (HA0.out.call hb1)
  clear hb1 c0 HW0 HPn
  obtain ⟨pn, hpn⟩ : ∃ b, Te.plain nm = b := ⟨_, rfl⟩
  rw [hpn] at hx ⊢
  clear hpn
  have c1 := HA1.out.cell 1 _ rfl
  have c2 := HA1.out.cell 2 _ rfl
  have c3 := HA1.out.cell 3 _ rfl
  have c4 := HA1.out.cell 4 _ rfl
  cases pn with
  | false =>
    have HE : Hid (X = 2) := by show X = 2; rw [← hx]; rfl
    clear hx
    go_wp2
    go_ret
    exact ⟨by rw [HE.out]; rfl, HB1.out⟩
  | true =>
    rw [Bool.true_and] at hx
    by_cases hk1 : kd = 1
    · subst hk1
      rw [if_pos rfl] at hx
      by_cases ht : tx.size ≤ 4096
      case neg =>
        have p3 : ¬ (tx.size : Int) ≤ 4096 := by omega
        have p3' : (4096 : Int) < (tx.size : Int) := by omega
        rw [decide_eq_false ht] at hx
        have HE : Hid (X = 2) := by show X = 2; rw [← hx]; rfl
        clear hx
        go_wp2
        go_ret
        exact ⟨by rw [HE.out]; rfl, HB1.out⟩
      have p3 : (tx.size : Int) ≤ 4096 := by omega
      rw [decide_eq_true ht, Bool.true_and] at hx
      go_wp2_with fail
      refine (HPt.out _).mono ?_
      rintro e w2 ⟨rfl, hb2⟩
      have HB2 := Lib.hid (below_then HB1.out hb2)
      have d3 := (HA1.out.call hb2).cell 3 _ rfl
      have d4 := (HA1.out.call hb2).cell 4 _ rfl
      clear hb2 c1 c2 c3 c4 HPt
      obtain ⟨pt, hpt⟩ : ∃ b, Te.plain tx = b := ⟨_, rfl⟩
      rw [hpt] at hx ⊢
      clear hpt
      cases pt with
      | false =>
        have HE : Hid (X = 2) := by show X = 2; rw [← hx]; rfl
        clear hx
        go_wp2
        go_ret
        exact ⟨by rw [HE.out]; rfl, HB2.out⟩
      | true =>
        rw [Bool.true_and] at hx
        by_cases hn : nu = 0
        case neg =>
          have qn : (nu == 0) = false := by simpa using hn
          rw [decide_eq_false hn] at hx
          have HE : Hid (X = 2) := by show X = 2; rw [← hx]; rfl
          clear hx
          go_wp2
          go_ret
          exact ⟨by rw [HE.out]; rfl, HB2.out⟩
        subst hn
        rw [decide_eq_true rfl, Bool.true_and] at hx
        by_cases hb : bs.size = 0
        · have qb := Hv.emp_yes hb
          rw [decide_eq_true hb] at hx
          have HE : Hid (X = 0) := by show X = 0; rw [← hx]; rfl
          clear hx
          go_wp2
          go_ret
          exact ⟨by rw [HE.out]; rfl, HB2.out⟩
        · have qb := Hv.emp_no hb
          rw [decide_eq_false hb] at hx
          have HE : Hid (X = 2) := by show X = 2; rw [← hx]; rfl
          clear hx
          go_wp2
          go_ret
          exact ⟨by rw [HE.out]; rfl, HB2.out⟩
    rw [if_neg hk1] at hx
    have qk1 : (kd == 1) = false := by simpa using hk1
    by_cases hk2 : kd = 2
    · subst hk2
      rw [if_pos rfl] at hx
      by_cases ht : tx.size = 0
      · have qt := Hv.emp_yes ht
        rw [decide_eq_true ht, Bool.true_and] at hx
        by_cases hb : bs.size = 0
        · have qb := Hv.emp_yes hb
          rw [decide_eq_true hb] at hx
          have HE : Hid (X = 0) := by show X = 0; rw [← hx]; rfl
          clear hx
          go_wp2
          go_ret
          exact ⟨by rw [HE.out]; rfl, HB1.out⟩
        · have qb := Hv.emp_no hb
          rw [decide_eq_false hb] at hx
          have HE : Hid (X = 2) := by show X = 2; rw [← hx]; rfl
          clear hx
          go_wp2
          go_ret
          exact ⟨by rw [HE.out]; rfl, HB1.out⟩
      · have qt := Hv.emp_no ht
        rw [decide_eq_false ht] at hx
        have HE : Hid (X = 2) := by show X = 2; rw [← hx]; rfl
        clear hx
        go_wp2
        go_ret
        exact ⟨by rw [HE.out]; rfl, HB1.out⟩
    rw [if_neg hk2] at hx
    have qk2 : (kd == 2) = false := by simpa using hk2
    by_cases hk3 : kd = 3
    · subst hk3
      rw [if_pos rfl] at hx
      by_cases hb : bs.size ≤ 4096
      · have p4 : (bs.size : Int) ≤ 4096 := by omega
        rw [decide_eq_true hb, Bool.true_and] at hx
        by_cases ht : tx.size = 0
        · have qt := Hv.emp_yes ht
          rw [decide_eq_true ht, Bool.true_and] at hx
          by_cases hn : nu = 0
          · subst hn
            have HE : Hid (X = 0) := by show X = 0; rw [← hx]; rfl
            clear hx
            go_wp2
            go_ret
            exact ⟨by rw [HE.out]; rfl, HB1.out⟩
          · have qn : (nu == 0) = false := by simpa using hn
            rw [decide_eq_false hn] at hx
            have HE : Hid (X = 2) := by show X = 2; rw [← hx]; rfl
            clear hx
            go_wp2
            go_ret
            exact ⟨by rw [HE.out]; rfl, HB1.out⟩
        · have qt := Hv.emp_no ht
          rw [decide_eq_false ht] at hx
          have HE : Hid (X = 2) := by show X = 2; rw [← hx]; rfl
          clear hx
          go_wp2
          go_ret
          exact ⟨by rw [HE.out]; rfl, HB1.out⟩
      · have p4 : ¬ (bs.size : Int) ≤ 4096 := by omega
        rw [decide_eq_false hb] at hx
        have HE : Hid (X = 2) := by show X = 2; rw [← hx]; rfl
        clear hx
        go_wp2
        go_ret
        exact ⟨by rw [HE.out]; rfl, HB1.out⟩
    rw [if_neg hk3] at hx
    have qk3 : (kd == 3) = false := by simpa using hk3
    have HE : Hid (X = 2) := by show X = 2; rw [← hx]; rfl
    clear hx
    go_wp2
    go_ret
    exact ⟨by rw [HE.out]; rfl, HB1.out⟩
end Go.Proofs.YtmnolcjmnddbnaaGreatDoor

/- strings.IndexRune of a sign that is no letter of ASCII, in the four signs that a key has not; strings.ContainsAny of any text. -/
namespace Go.Proofs.YtmnolcjmnddbnaaGreatDoor
open Go.RowKit

def sg : ByteArray := ⟨#[92, 91, 93, 34]⟩
theorem sg_size : sg.size = 4 := rfl
theorem sg_ascii : ∀ j (h : j < sg.size), (sg[j]'h).toNat < 128 := by
  intro j h
  have h' : j < 4 := h
  rcases (by omega : j = 0 ∨ j = 1 ∨ j = 2 ∨ j = 3) with rfl | rfl | rfl | rfl <;> decide +revert
theorem no_high (l : List UInt8) (c : UInt8) (h : ∀ b ∈ l, b ≠ c) : Lib.indexByte l c = -1 := by
  induction l with
  | nil => rfl
  | cons b l ih =>
    unfold Lib.indexByte
    have hb : (b == c) = false := by rw [beq_eq_false_iff_ne]; exact h b (List.mem_cons_self ..)
    rw [hb, ih (fun x hx => h x (List.mem_cons_of_mem _ hx))]
    rfl
set_option maxHeartbeats 2000000 in
set_option maxRecDepth 100000 in
theorem indexRune_wrong (w : World) :
    Calls Tryz.prog 71 #[.string sg, .int .i32 65533] w fun e w' => e = .returned (.int .i64 (-1)) ∧ Below w.heap.size w w' := by
  have HS := Lib.hid sg_size
  have HA := Lib.hid sg_ascii
  obtain ⟨s, hs⟩ : ∃ s, sg = s := ⟨_, rfl⟩
  rw [hs] at HS HA ⊢
  clear hs
  go_enter Tryz.func71, Tryz.ntmps71
  go_wp2
  go_loopw [176] (fun _ wr => ∃ (pos : Nat), wr = w.iter s pos) (fun _ wr => s.size - wr.iterPos w.heap.size)
  case atStart => exact ⟨0, rfl⟩
  case round =>
    obtain ⟨pos, rfl⟩ := hrel
    by_cases hp : pos < s.size
    · have hx := HA.out pos hp
      have hnx := fun ty => run_next_ascii (P := Tryz.prog) w s pos ty hp hx
      obtain ⟨x, hxx⟩ : ∃ x, (s[pos]'hp).toNat = x := ⟨_, rfl⟩
      rw [hxx] at hx hnx
      clear hxx
      have q1 : ((x : Int) == 65533) = false := by rw [beq_eq_false_iff_ne]; omega
      have q2 : ¬ (x : Int) = 65533 := by omega
      go_wp2
      go_roundw
      case rel => exact ⟨pos + 1, rfl⟩
      case measure => simp only [World.iterPos_iter]; omega
    · have hnx : ∀ ty, (Instr.next (.pointer (some ⟨w.heap.size, 0, none⟩)) true ty).run Tryz.prog (w.iter s pos) = _ := fun ty => run_next_end w s pos ty hp
      go_wp2
      go_ret
      exact ⟨rfl, iter_below s pos⟩
set_option maxHeartbeats 2000000 in
set_option maxRecDepth 100000 in
theorem indexRune_high (r : Int) (h1 : 128 ≤ r) (h2 : r ≤ 2147483647) (h3 : r ≠ 65533) (w : World) :
    Calls Tryz.prog 71 #[.string sg, .int .i32 r] w fun e w' => e = .returned (.int .i64 (-1)) ∧ Below w.heap.size w w' := by
  have q1 : ¬ r < 128 := by omega
  have q2 : (r == 65533) = false := by rw [beq_eq_false_iff_ne]; exact h3
  have q0 : 0 ≤ r := by omega
  have hV := fun W => Tryz.utf8_ValidRune r W
  cases hv : Lib.validRune r with
  | false =>
    rw [hv] at hV
    have HV := Lib.hid hV
    clear hv hV
    go_enter Tryz.func71, Tryz.ntmps71
    go_wp2_with (refine (HV.out _).mono ?_; rintro e w' ⟨rfl, rfl⟩)
    go_wp2
    go_ret
    exact ⟨rfl, Below.refl _ _⟩
  | true =>
    rw [hv] at hV
    have HV := Lib.hid hV
    have hvv : Utf8.valid r = true := by
      unfold Lib.validRune at hv
      have := of_decide_eq_true hv
      unfold Utf8.valid
      simp only [Bool.or_eq_true, Bool.and_eq_true, decide_eq_true_eq]
      omega
    obtain ⟨f1, f2, f3⟩ := encode_facts r hvv h1
    clear hv hV hvv h1 h2
    obtain ⟨x, hx⟩ : ∃ x, Utf8.encode r = x := ⟨_, rfl⟩
    have hcv : ∀ W, (convert 21 9 (.int .i32 r)).run Tryz.prog W = .ok (.string x) W := fun W => by
      rw [← hx]
      exact run_convert_int_string W _ _ _ _ (by rw [Tryz.underlying21]; rfl) Tryz.underlying9
    rw [hx] at f1 f2 f3
    clear hx
    obtain ⟨c, hc⟩ : ∃ c, x[x.size - 1]'(by omega) = c := ⟨_, rfl⟩
    have hc128 : 128 ≤ c.toNat := by rw [← hc]; exact f3 (by omega)
    have HI : Hid (∀ k W, Calls Tryz.prog 83 #[.string (sg.extract k sg.size), .int .u8 c.toNat] W fun e w' => e = .returned (.int .i64 (-1)) ∧ w' = W) := by
      intro k W
      have h := Tryz.strings_IndexByte (sg.extract k sg.size) c.toNat W
      rw [no_high] at h
      · exact h
      · intro b hb e
        rw [Lib.extract_data] at hb
        have hb2 := List.mem_of_mem_drop (List.mem_of_mem_take hb)
        have : ∀ b ∈ sg.data.toList, b.toNat < 128 := by decide
        have h5 := this b hb2
        rw [e] at h5
        simp at h5
        omega
    have HS := Lib.hid sg_size
    have HA := Lib.hid sg_ascii
    obtain ⟨s, hs⟩ : ∃ s, sg = s := ⟨_, rfl⟩
    rw [hs] at HS HA HI ⊢
    clear hs
    obtain ⟨m, hm⟩ : ∃ m, x.size - 1 = m := ⟨_, rfl⟩
    have hm1 : x.size = m + 1 := by omega
    have hm2 : 1 ≤ m ∧ m ≤ 3 := by omega
    simp only [hm] at hc
    have hmx : m < x.size := by omega
    have hc' : x[m]'hmx = c := hc
    clear hc
    have hms : m < s.size := by rw [HS.out]; omega
    obtain ⟨y, hy⟩ : ∃ y, s[m]'hms = y := ⟨_, rfl⟩
    have hy128 : y.toNat < 128 := by rw [← hy]; exact HA.out m hms
    have qy : ((y.toNat : Int) != (c.toNat : Int)) = true := by simp; omega
    have qy' : ¬ (y.toNat : Int) = (c.toNat : Int) := by omega
    have w1 : IntKind.i64.wrap ((m : Int) + 1 - 1) = m := by rw [IntKind.wrap_i64]; omega
    have w2 : IntKind.i64.wrap ((m : Int) + 1) = (m : Int) + 1 := by rw [IntKind.wrap_i64]; omega
    have w3 : wrap64 (m : Int) = m := by unfold wrap64; omega
    have l1 : (m : Int) < (s.size : Int) := by omega
    have l2 : (0 : Int) ≤ (m : Int) := by omega
    have l3 : (m : Int) < (m : Int) + 1 := by omega
    have l4 : (m : Int) + 1 ≤ (s.size : Int) := by omega
    have l5 : (0 : Int) ≤ (m : Int) + 1 := by omega
    clear hm f1 f2 f3 hc128 hm2 hy128
    go_enter Tryz.func71, Tryz.ntmps71
    go_wp2_with (refine (HV.out _).mono ?_; rintro e w' ⟨rfl, rfl⟩)
    go_wp2
    go_step3
    go_wp2
    go_loopw [9] (fun i wr => i = .int .i64 m ∧ Hid (Drew w' wr)) (fun _ _ => 0)
    case atStart => exact ⟨by rw [w3], Drew.refl _⟩
    case round =>
      obtain ⟨rfl, HD⟩ := hrel
      have HI1 := Lib.hid (fun W => HI.out (m + 1) W)
      have e1 : ((m + 1 : Nat) : Int) = (m : Int) + 1 := rfl
      go_wp2
      go_step3
      go_wp2
      go_quiet (fail)
      go_wp2
      go_quiet ((go_at_call 83; exact (HI1.out _).mono fun e w2 h => ⟨h.1, _, h.2⟩))
      go_wp2
      simp +zetaDelta only [Exit.inBlock, Exit.noGoto_ret, Exit.then]
      go_ret
      exact ⟨rfl, ((HD.out.drewN _).below _)⟩
theorem indexRune_any (r : Int) (h1 : 128 ≤ r) (h2 : r ≤ 2147483647) (w : World) :
    Calls Tryz.prog 71 #[.string sg, .int .i32 r] w fun e w' => e = .returned (.int .i64 (-1)) ∧ Below w.heap.size w w' := by
  by_cases h3 : r = 65533
  · subst h3
    exact indexRune_wrong w
  · exact indexRune_high r h1 h2 h3 w
end Go.Proofs.YtmnolcjmnddbnaaGreatDoor

/- strings.ContainsAny of any text and the four signs that a key has not. -/
namespace Go.Proofs.YtmnolcjmnddbnaaGreatDoor
open Go.RowKit

theorem sg_list : sg.data.toList = Te.signs := rfl
theorem signs_low : ∀ b ∈ Te.signs, b.toNat < 128 := by decide
theorem high_not (b : UInt8) (h : 128 ≤ b.toNat) : Te.signs.contains b = false := by
  cases hc : Te.signs.contains b with
  | false => rfl
  | true =>
    have := signs_low b (by simpa using hc)
    omega
/-- A sign of several letters has none of the four. -/
theorem noAny_high (s : ByteArray) (pos : Nat) (ha : 128 ≤ (s.get! pos).toNat) (h : Lib.NoAny (tl s) Te.signs pos) : Lib.NoAny (tl s) Te.signs (pos + (Utf8.decode s pos).2) := by
  intro j b hj hb
  by_cases h1 : j < pos
  · exact h j b h1 hb
  · have hjs : j < s.size := by
      have := (List.getElem?_eq_some_iff.1 hb).1
      rwa [tl_length] at this
    have hb2 := Te.get_tl s j hjs
    rw [hb] at hb2
    rw [Option.some.inj hb2]
    apply high_not
    by_cases h2 : j = pos
    · rw [h2]; exact ha
    · have := (Te.tail_high s pos (j - pos) (by omega) (by omega)).2
      rwa [show pos + (j - pos) = j from by omega] at this
set_option maxHeartbeats 4000000 in
set_option maxRecDepth 100000 in
theorem indexAny_short (s : ByteArray) (h8 : s.size ≤ 8) (w : World) :
    Calls Tryz.prog 48 #[.string s, .string sg] w fun e w' => e = .returned (.int .i64 (Lib.indexAny (tl s) Te.signs)) ∧ Below w.heap.size w w' := by
  have HR : Hid (∀ (r : Int) W, 128 ≤ r → r ≤ 2147483647 → Calls Tryz.prog 71 #[.string sg, .int .i32 r] W fun e w' => e = .returned (.int .i64 (-1)) ∧ Below W.heap.size W w') := fun r W h1 h2 => indexRune_any r h1 h2 W
  have HA : Hid (∀ (x : UInt8) W, x.toNat < 128 → Calls Tryz.prog 71 #[.string sg, .int .i32 x.toNat] W fun e w' => e = .returned (.int .i64 (Lib.indexByte Te.signs x)) ∧ w' = W) := by
    intro x W hx
    have h := Tryz.strings_IndexRune_ascii sg x.toNat W (by omega) (by omega)
    rw [sg_list, show ((x.toNat : Int)).toNat.toUInt8 = x from by simp] at h
    exact h
  have hemp : sg.toList.isEmpty = false := by rw [Lib.toList_data]; rfl
  have hn4 : (sg.size : Int) = 4 := rfl
  obtain ⟨q, hq⟩ : ∃ q, sg = q := ⟨_, rfl⟩
  rw [hq] at HR HA hemp hn4 ⊢
  clear hq
  have h8z : decide ((8 : Int) < (s.size : Int)) = false := decide_eq_false (by omega)
  have HU := Lib.hid (fun W => Tryz.strings_shouldUseASCIISet s.size W)
  rw [h8z] at HU
  obtain ⟨v, hv⟩ : ∃ v, Lib.indexAny (tl s) Te.signs = v := ⟨_, rfl⟩
  rw [hv]
  have HV := Lib.hid hv
  clear hv h8z
  go_enter Tryz.func48, Tryz.ntmps48
  go_wp2_with (refine (HU.out _).mono ?_; rintro e w' ⟨rfl, rfl⟩)
  go_loopw [46] (fun _ wr => ∃ (pos : Nat), wr.heap[w'.heap.size]? = some (.stringIter s pos) ∧ Hid (Below w'.heap.size w' wr) ∧ Hid (Lib.NoAny (tl s) Te.signs pos)) (fun _ wr => s.size - wr.iterPos w'.heap.size)
  case atStart => exact ⟨0, World.iter_heap _ s 0, iter_below s 0, Lib.NoAny.zero _ _⟩
  case round =>
    obtain ⟨pos, hit, HB, HN⟩ := hrel
    have hsz : w'.heap.size < wr.heap.size := (Array.getElem?_eq_some_iff.1 hit).1
    by_cases hp : pos < s.size
    · have hnx : ∀ ty, (Instr.next (.pointer (some ⟨w'.heap.size, 0, none⟩)) true ty).run Tryz.prog wr = _ := fun ty => Lib.run_next_any_at wr w'.heap.size s pos ty hit hp
      have hw := Te.width_pos s pos hp
      by_cases ha : (s.get! pos).toNat < 128
      · rw [Te.first_ascii s pos hp ha] at hnx
        have HX := Lib.hid (Te.get_tl s pos hp)
        obtain ⟨x, hx⟩ : ∃ x, s.get! pos = x := ⟨_, rfl⟩
        rw [hx] at hnx ha HX
        clear hx hw
        have hit2 := Lib.iterAt_heap wr w'.heap.size s pos (pos + 1) hit
        have HB2 := Lib.hid (Lib.below_iterAt HB.out (k := w'.heap.size) (Nat.le_refl _) s (pos + 1))
        have HC := Lib.hid (fun W => HA.out x W ha)
        have hcon := Lib.contains_iff_indexByte Te.signs x
        cases hin : Te.signs.contains x with
        | false =>
          rw [hin] at hcon
          have hlt : ¬ ((0 : Int) ≤ Lib.indexByte Te.signs x) := of_decide_eq_false hcon.symm
          have HN2 := Lib.hid (HN.out.succ HX.out hin)
          clear hcon hin HN HX HB
          go_wp2_with (refine (HC.out _).mono ?_; rintro e w2 ⟨rfl, rfl⟩)
          go_wp2
          go_roundw
          case rel => exact ⟨pos + 1, hit2, HB2, HN2⟩
          case measure => simp only [World.iterPos, hit2, hit]; omega
        | true =>
          rw [hin] at hcon
          have hge : (0 : Int) ≤ Lib.indexByte Te.signs x := of_decide_eq_true hcon.symm
          have HE : Hid (v = pos) := by
            show v = pos
            rw [← HV.out]
            exact Lib.indexAny_hit HN.out HX.out hin
          clear hcon hin HN HX HB
          go_wp2_with (refine (HC.out _).mono ?_; rintro e w2 ⟨rfl, rfl⟩)
          go_wp2
          go_ret
          exact ⟨by rw [HE.out]; rfl, HB2.out⟩
      · have hh := Te.first_high s pos hp (by omega)
        have hle := decode_le s pos
        have HN2 := Lib.hid (noAny_high s pos (by omega) HN.out)
        obtain ⟨c, hc⟩ : ∃ c, (Utf8.decode s pos).1 = c := ⟨_, rfl⟩
        obtain ⟨n, hn⟩ : ∃ n, (Utf8.decode s pos).2 = n := ⟨_, rfl⟩
        rw [hc, hn] at hnx
        rw [hc] at hh hle
        rw [hn] at hw HN2
        clear hc hn ha
        have hit2 := Lib.iterAt_heap wr w'.heap.size s pos (pos + n) hit
        have HB2 := Lib.hid (Lib.below_iterAt HB.out (k := w'.heap.size) (Nat.le_refl _) s (pos + n))
        have hsz2 : w'.heap.size < (wr.iterAt w'.heap.size s (pos + n)).heap.size := by rw [Lib.iterAt_size]; exact hsz
        have HC := Lib.hid (fun W => HR.out (c : Int) W (by omega) (by omega))
        clear HN HB
        go_wp2_with (refine (HC.out _).mono ?_; rintro e w2 ⟨rfl, hb⟩)
        have hit3 : w2.heap[w'.heap.size]? = some (.stringIter s (pos + n)) := (hb.block _ hsz2).trans hit2
        have HB3 := Lib.hid (HB2.out.trans (hb.mono (Nat.le_of_lt hsz2)))
        clear hb
        go_wp2
        go_roundw
        case rel => exact ⟨pos + n, hit3, HB3, HN2⟩
        case measure => simp only [World.iterPos, hit3, hit]; omega
    · have hnx : ∀ ty, (Instr.next (.pointer (some ⟨w'.heap.size, 0, none⟩)) true ty).run Tryz.prog wr = _ := fun ty => Lib.run_next_end_at wr w'.heap.size s pos ty hit hp
      have HE : Hid (v = -1) := by
        show v = -1
        rw [← HV.out]
        apply Lib.indexAny_none
        intro j b hj hb
        rw [tl_length] at hj
        exact HN.out j b (by omega) hb
      go_wp2
      go_ret
      exact ⟨by rw [HE.out]; rfl, HB.out⟩
theorem indexAny_all (s : ByteArray) (hs : s.size < 4294967281) (w : World) :
    Calls Tryz.prog 48 #[.string s, .string sg] w fun e w' => e = .returned (.int .i64 (Lib.indexAny (tl s) Te.signs)) ∧ Below w.heap.size w w' := by
  by_cases h8 : s.size ≤ 8
  · exact indexAny_short s h8 w
  · have h116 : (Tryz.prog.info? 111).map (fun i => (i.zero, i.size)) = some (some (.agg (Array.replicate 256 (.bool false))), 256) := by kernel_rfl
    refine (Tryz.strings_IndexAny_long (zero_of_info h116).1 s sg w (by decide) (by omega) hs (by decide) ?_).mono ?_
    · intro j b hb
      exact signs_low b (List.mem_of_getElem? hb)
    · rintro e w' ⟨rfl, rfl⟩
      exact ⟨rfl, ((Below.refl _ _).alloc (Nat.le_refl _) _).alloc (by simp) _⟩
set_option maxHeartbeats 1000000 in
theorem containsAny_all (s : ByteArray) (hs : s.size < 4294967281) (w : World) :
    Calls Tryz.prog 26 #[.string s, .string sg] w fun e w' => e = .returned (.bool (Lib.containsAny (tl s) Te.signs)) ∧ Below w.heap.size w w' := by
  have HC := Lib.hid (fun W => indexAny_all s hs W)
  obtain ⟨q, hq⟩ : ∃ q, sg = q := ⟨_, rfl⟩
  rw [hq] at HC ⊢
  clear hq
  go_enter Tryz.func26, Tryz.ntmps26
  go_wp2_with (refine (HC.out _).mono ?_; rintro e w' ⟨rfl, hb⟩)
  go_ret
  exact ⟨rfl, hb⟩
end Go.Proofs.YtmnolcjmnddbnaaGreatDoor

/- strings.ContainsAny of any text and the two signs [ and ]. -/
namespace Go.Proofs.YtmnolcjmnddbnaaGreatDoor
open Go.RowKit

namespace Hv
def sqs : List UInt8 := [91, 93]
end Hv
def sq : ByteArray := ⟨#[91, 93]⟩
theorem sq_size : sq.size = 2 := rfl
theorem sq_ascii : ∀ j (h : j < sq.size), (sq[j]'h).toNat < 128 := by
  intro j h
  have h' : j < 2 := h
  rcases (by omega : j = 0 ∨ j = 1) with rfl | rfl <;> decide +revert
set_option maxHeartbeats 2000000 in
set_option maxRecDepth 100000 in
theorem sqRune_wrong (w : World) :
    Calls Tryz.prog 71 #[.string sq, .int .i32 65533] w fun e w' => e = .returned (.int .i64 (-1)) ∧ Below w.heap.size w w' := by
  have HS := Lib.hid sq_size
  have HA := Lib.hid sq_ascii
  obtain ⟨s, hs⟩ : ∃ s, sq = s := ⟨_, rfl⟩
  rw [hs] at HS HA ⊢
  clear hs
  go_enter Tryz.func71, Tryz.ntmps71
  go_wp2
  go_loopw [176] (fun _ wr => ∃ (pos : Nat), wr = w.iter s pos) (fun _ wr => s.size - wr.iterPos w.heap.size)
  case atStart => exact ⟨0, rfl⟩
  case round =>
    obtain ⟨pos, rfl⟩ := hrel
    by_cases hp : pos < s.size
    · have hx := HA.out pos hp
      have hnx := fun ty => run_next_ascii (P := Tryz.prog) w s pos ty hp hx
      obtain ⟨x, hxx⟩ : ∃ x, (s[pos]'hp).toNat = x := ⟨_, rfl⟩
      rw [hxx] at hx hnx
      clear hxx
      have q1 : ((x : Int) == 65533) = false := by rw [beq_eq_false_iff_ne]; omega
      have q2 : ¬ (x : Int) = 65533 := by omega
      go_wp2
      go_roundw
      case rel => exact ⟨pos + 1, rfl⟩
      case measure => simp only [World.iterPos_iter]; omega
    · have hnx : ∀ ty, (Instr.next (.pointer (some ⟨w.heap.size, 0, none⟩)) true ty).run Tryz.prog (w.iter s pos) = _ := fun ty => run_next_end w s pos ty hp
      go_wp2
      go_ret
      exact ⟨rfl, iter_below s pos⟩
set_option maxHeartbeats 2000000 in
set_option maxRecDepth 100000 in
theorem sqRune_high (r : Int) (h1 : 128 ≤ r) (h2 : r ≤ 2147483647) (h3 : r ≠ 65533) (w : World) :
    Calls Tryz.prog 71 #[.string sq, .int .i32 r] w fun e w' => e = .returned (.int .i64 (-1)) ∧ Below w.heap.size w w' := by
  have q1 : ¬ r < 128 := by omega
  have q2 : (r == 65533) = false := by rw [beq_eq_false_iff_ne]; exact h3
  have q0 : 0 ≤ r := by omega
  have hV := fun W => Tryz.utf8_ValidRune r W
  cases hv : Lib.validRune r with
  | false =>
    rw [hv] at hV
    have HV := Lib.hid hV
    clear hv hV
    go_enter Tryz.func71, Tryz.ntmps71
    go_wp2_with (refine (HV.out _).mono ?_; rintro e w' ⟨rfl, rfl⟩)
    go_wp2
    go_ret
    exact ⟨rfl, Below.refl _ _⟩
  | true =>
    rw [hv] at hV
    have HV := Lib.hid hV
    have hvv : Utf8.valid r = true := by
      unfold Lib.validRune at hv
      have := of_decide_eq_true hv
      unfold Utf8.valid
      simp only [Bool.or_eq_true, Bool.and_eq_true, decide_eq_true_eq]
      omega
    obtain ⟨f1, f2, f3⟩ := encode_facts r hvv h1
    clear hv hV hvv h1 h2
    obtain ⟨x, hx⟩ : ∃ x, Utf8.encode r = x := ⟨_, rfl⟩
    have hcv : ∀ W, (convert 21 9 (.int .i32 r)).run Tryz.prog W = .ok (.string x) W := fun W => by
      rw [← hx]
      exact run_convert_int_string W _ _ _ _ (by rw [Tryz.underlying21]; rfl) Tryz.underlying9
    rw [hx] at f1 f2 f3
    clear hx
    obtain ⟨c, hc⟩ : ∃ c, x[x.size - 1]'(by omega) = c := ⟨_, rfl⟩
    have hc128 : 128 ≤ c.toNat := by rw [← hc]; exact f3 (by omega)
    have HI : Hid (∀ k W, Calls Tryz.prog 83 #[.string (sq.extract k sq.size), .int .u8 c.toNat] W fun e w' => e = .returned (.int .i64 (-1)) ∧ w' = W) := by
      intro k W
      have h := Tryz.strings_IndexByte (sq.extract k sq.size) c.toNat W
      rw [no_high] at h
      · exact h
      · intro b hb e
        rw [Lib.extract_data] at hb
        have hb2 := List.mem_of_mem_drop (List.mem_of_mem_take hb)
        have : ∀ b ∈ sq.data.toList, b.toNat < 128 := by decide
        have h5 := this b hb2
        rw [e] at h5
        simp at h5
        omega
    have HS := Lib.hid sq_size
    have HA := Lib.hid sq_ascii
    obtain ⟨s, hs⟩ : ∃ s, sq = s := ⟨_, rfl⟩
    rw [hs] at HS HA HI ⊢
    clear hs
    obtain ⟨m, hm⟩ : ∃ m, x.size - 1 = m := ⟨_, rfl⟩
    have hm1 : x.size = m + 1 := by omega
    have hm2 : 1 ≤ m ∧ m ≤ 3 := by omega
    simp only [hm] at hc
    have hmx : m < x.size := by omega
    have hc' : x[m]'hmx = c := hc
    clear hc
    by_cases hms : m < s.size
    case neg =>
      have w1 : IntKind.i64.wrap ((m : Int) + 1 - 1) = m := by rw [IntKind.wrap_i64]; omega
      have w3 : wrap64 (m : Int) = m := by unfold wrap64; omega
      have l1 : ¬ (m : Int) < (s.size : Int) := by omega
      clear hm f1 f2 f3 hc128 hm2
      go_enter Tryz.func71, Tryz.ntmps71
      go_wp2_with (refine (HV.out _).mono ?_; rintro e w' ⟨rfl, rfl⟩)
      go_wp2
      go_step3
      go_wp2
      go_loopw [9] (fun i wr => i = .int .i64 m ∧ Hid (Drew w' wr)) (fun _ _ => 0)
      case atStart => exact ⟨by rw [w3], Drew.refl _⟩
      case round =>
        obtain ⟨rfl, HD⟩ := hrel
        go_wp2
        simp +zetaDelta only [Exit.inBlock, Exit.noGoto_ret]
        go_ret
        exact ⟨rfl, HD.out.below _⟩
    obtain ⟨y, hy⟩ : ∃ y, s[m]'hms = y := ⟨_, rfl⟩
    have hy128 : y.toNat < 128 := by rw [← hy]; exact HA.out m hms
    have qy : ((y.toNat : Int) != (c.toNat : Int)) = true := by simp; omega
    have qy' : ¬ (y.toNat : Int) = (c.toNat : Int) := by omega
    have w1 : IntKind.i64.wrap ((m : Int) + 1 - 1) = m := by rw [IntKind.wrap_i64]; omega
    have w2 : IntKind.i64.wrap ((m : Int) + 1) = (m : Int) + 1 := by rw [IntKind.wrap_i64]; omega
    have w3 : wrap64 (m : Int) = m := by unfold wrap64; omega
    have l1 : (m : Int) < (s.size : Int) := by omega
    have l2 : (0 : Int) ≤ (m : Int) := by omega
    have l3 : (m : Int) < (m : Int) + 1 := by omega
    have l4 : (m : Int) + 1 ≤ (s.size : Int) := by omega
    have l5 : (0 : Int) ≤ (m : Int) + 1 := by omega
    clear hm f1 f2 f3 hc128 hm2 hy128
    go_enter Tryz.func71, Tryz.ntmps71
    go_wp2_with (refine (HV.out _).mono ?_; rintro e w' ⟨rfl, rfl⟩)
    go_wp2
    go_step3
    go_wp2
    go_loopw [9] (fun i wr => i = .int .i64 m ∧ Hid (Drew w' wr)) (fun _ _ => 0)
    case atStart => exact ⟨by rw [w3], Drew.refl _⟩
    case round =>
      obtain ⟨rfl, HD⟩ := hrel
      have HI1 := Lib.hid (fun W => HI.out (m + 1) W)
      have e1 : ((m + 1 : Nat) : Int) = (m : Int) + 1 := rfl
      go_wp2
      go_step3
      go_wp2
      go_quiet (fail)
      go_wp2
      go_quiet ((go_at_call 83; exact (HI1.out _).mono fun e w2 h => ⟨h.1, _, h.2⟩))
      go_wp2
      simp +zetaDelta only [Exit.inBlock, Exit.noGoto_ret, Exit.then]
      go_ret
      exact ⟨rfl, ((HD.out.drewN _).below _)⟩
theorem sqRune_any (r : Int) (h1 : 128 ≤ r) (h2 : r ≤ 2147483647) (w : World) :
    Calls Tryz.prog 71 #[.string sq, .int .i32 r] w fun e w' => e = .returned (.int .i64 (-1)) ∧ Below w.heap.size w w' := by
  by_cases h3 : r = 65533
  · subst h3
    exact sqRune_wrong w
  · exact sqRune_high r h1 h2 h3 w

theorem sq_list : sq.data.toList = Hv.sqs := rfl
theorem sqs_low : ∀ b ∈ Hv.sqs, b.toNat < 128 := by decide
theorem sq_high_not (b : UInt8) (h : 128 ≤ b.toNat) : Hv.sqs.contains b = false := by
  cases hc : Hv.sqs.contains b with
  | false => rfl
  | true =>
    have := sqs_low b (by simpa using hc)
    omega
/-- A sign of several letters has none of the four. -/
theorem sqNoAny_high (s : ByteArray) (pos : Nat) (ha : 128 ≤ (s.get! pos).toNat) (h : Lib.NoAny (tl s) Hv.sqs pos) : Lib.NoAny (tl s) Hv.sqs (pos + (Utf8.decode s pos).2) := by
  intro j b hj hb
  by_cases h1 : j < pos
  · exact h j b h1 hb
  · have hjs : j < s.size := by
      have := (List.getElem?_eq_some_iff.1 hb).1
      rwa [tl_length] at this
    have hb2 := Te.get_tl s j hjs
    rw [hb] at hb2
    rw [Option.some.inj hb2]
    apply sq_high_not
    by_cases h2 : j = pos
    · rw [h2]; exact ha
    · have := (Te.tail_high s pos (j - pos) (by omega) (by omega)).2
      rwa [show pos + (j - pos) = j from by omega] at this
set_option maxHeartbeats 4000000 in
set_option maxRecDepth 100000 in
theorem sqAny_short (s : ByteArray) (h8 : s.size ≤ 8) (w : World) :
    Calls Tryz.prog 48 #[.string s, .string sq] w fun e w' => e = .returned (.int .i64 (Lib.indexAny (tl s) Hv.sqs)) ∧ Below w.heap.size w w' := by
  have HR : Hid (∀ (r : Int) W, 128 ≤ r → r ≤ 2147483647 → Calls Tryz.prog 71 #[.string sq, .int .i32 r] W fun e w' => e = .returned (.int .i64 (-1)) ∧ Below W.heap.size W w') := fun r W h1 h2 => sqRune_any r h1 h2 W
  have HA : Hid (∀ (x : UInt8) W, x.toNat < 128 → Calls Tryz.prog 71 #[.string sq, .int .i32 x.toNat] W fun e w' => e = .returned (.int .i64 (Lib.indexByte Hv.sqs x)) ∧ w' = W) := by
    intro x W hx
    have h := Tryz.strings_IndexRune_ascii sq x.toNat W (by omega) (by omega)
    rw [sq_list, show ((x.toNat : Int)).toNat.toUInt8 = x from by simp] at h
    exact h
  have hemp : sq.toList.isEmpty = false := by rw [Lib.toList_data]; rfl
  have hn4 : (sq.size : Int) = 2 := rfl
  obtain ⟨q, hq⟩ : ∃ q, sq = q := ⟨_, rfl⟩
  rw [hq] at HR HA hemp hn4 ⊢
  clear hq
  have h8z : decide ((8 : Int) < (s.size : Int)) = false := decide_eq_false (by omega)
  have HU := Lib.hid (fun W => Tryz.strings_shouldUseASCIISet s.size W)
  rw [h8z] at HU
  obtain ⟨v, hv⟩ : ∃ v, Lib.indexAny (tl s) Hv.sqs = v := ⟨_, rfl⟩
  rw [hv]
  have HV := Lib.hid hv
  clear hv h8z
  go_enter Tryz.func48, Tryz.ntmps48
  go_wp2_with (refine (HU.out _).mono ?_; rintro e w' ⟨rfl, rfl⟩)
  go_loopw [46] (fun _ wr => ∃ (pos : Nat), wr.heap[w'.heap.size]? = some (.stringIter s pos) ∧ Hid (Below w'.heap.size w' wr) ∧ Hid (Lib.NoAny (tl s) Hv.sqs pos)) (fun _ wr => s.size - wr.iterPos w'.heap.size)
  case atStart => exact ⟨0, World.iter_heap _ s 0, iter_below s 0, Lib.NoAny.zero _ _⟩
  case round =>
    obtain ⟨pos, hit, HB, HN⟩ := hrel
    have hsz : w'.heap.size < wr.heap.size := (Array.getElem?_eq_some_iff.1 hit).1
    by_cases hp : pos < s.size
    · have hnx : ∀ ty, (Instr.next (.pointer (some ⟨w'.heap.size, 0, none⟩)) true ty).run Tryz.prog wr = _ := fun ty => Lib.run_next_any_at wr w'.heap.size s pos ty hit hp
      have hw := Te.width_pos s pos hp
      by_cases ha : (s.get! pos).toNat < 128
      · rw [Te.first_ascii s pos hp ha] at hnx
        have HX := Lib.hid (Te.get_tl s pos hp)
        obtain ⟨x, hx⟩ : ∃ x, s.get! pos = x := ⟨_, rfl⟩
        rw [hx] at hnx ha HX
        clear hx hw
        have hit2 := Lib.iterAt_heap wr w'.heap.size s pos (pos + 1) hit
        have HB2 := Lib.hid (Lib.below_iterAt HB.out (k := w'.heap.size) (Nat.le_refl _) s (pos + 1))
        have HC := Lib.hid (fun W => HA.out x W ha)
        have hcon := Lib.contains_iff_indexByte Hv.sqs x
        cases hin : Hv.sqs.contains x with
        | false =>
          rw [hin] at hcon
          have hlt : ¬ ((0 : Int) ≤ Lib.indexByte Hv.sqs x) := of_decide_eq_false hcon.symm
          have HN2 := Lib.hid (HN.out.succ HX.out hin)
          clear hcon hin HN HX HB
          go_wp2_with (refine (HC.out _).mono ?_; rintro e w2 ⟨rfl, rfl⟩)
          go_wp2
          go_roundw
          case rel => exact ⟨pos + 1, hit2, HB2, HN2⟩
          case measure => simp only [World.iterPos, hit2, hit]; omega
        | true =>
          rw [hin] at hcon
          have hge : (0 : Int) ≤ Lib.indexByte Hv.sqs x := of_decide_eq_true hcon.symm
          have HE : Hid (v = pos) := by
            show v = pos
            rw [← HV.out]
            exact Lib.indexAny_hit HN.out HX.out hin
          clear hcon hin HN HX HB
          go_wp2_with (refine (HC.out _).mono ?_; rintro e w2 ⟨rfl, rfl⟩)
          go_wp2
          go_ret
          exact ⟨by rw [HE.out]; rfl, HB2.out⟩
      · have hh := Te.first_high s pos hp (by omega)
        have hle := decode_le s pos
        have HN2 := Lib.hid (sqNoAny_high s pos (by omega) HN.out)
        obtain ⟨c, hc⟩ : ∃ c, (Utf8.decode s pos).1 = c := ⟨_, rfl⟩
        obtain ⟨n, hn⟩ : ∃ n, (Utf8.decode s pos).2 = n := ⟨_, rfl⟩
        rw [hc, hn] at hnx
        rw [hc] at hh hle
        rw [hn] at hw HN2
        clear hc hn ha
        have hit2 := Lib.iterAt_heap wr w'.heap.size s pos (pos + n) hit
        have HB2 := Lib.hid (Lib.below_iterAt HB.out (k := w'.heap.size) (Nat.le_refl _) s (pos + n))
        have hsz2 : w'.heap.size < (wr.iterAt w'.heap.size s (pos + n)).heap.size := by rw [Lib.iterAt_size]; exact hsz
        have HC := Lib.hid (fun W => HR.out (c : Int) W (by omega) (by omega))
        clear HN HB
        go_wp2_with (refine (HC.out _).mono ?_; rintro e w2 ⟨rfl, hb⟩)
        have hit3 : w2.heap[w'.heap.size]? = some (.stringIter s (pos + n)) := (hb.block _ hsz2).trans hit2
        have HB3 := Lib.hid (HB2.out.trans (hb.mono (Nat.le_of_lt hsz2)))
        clear hb
        go_wp2
        go_roundw
        case rel => exact ⟨pos + n, hit3, HB3, HN2⟩
        case measure => simp only [World.iterPos, hit3, hit]; omega
    · have hnx : ∀ ty, (Instr.next (.pointer (some ⟨w'.heap.size, 0, none⟩)) true ty).run Tryz.prog wr = _ := fun ty => Lib.run_next_end_at wr w'.heap.size s pos ty hit hp
      have HE : Hid (v = -1) := by
        show v = -1
        rw [← HV.out]
        apply Lib.indexAny_none
        intro j b hj hb
        rw [tl_length] at hj
        exact HN.out j b (by omega) hb
      go_wp2
      go_ret
      exact ⟨by rw [HE.out]; rfl, HB.out⟩
theorem sqAny_all (s : ByteArray) (hs : s.size < 4294967281) (w : World) :
    Calls Tryz.prog 48 #[.string s, .string sq] w fun e w' => e = .returned (.int .i64 (Lib.indexAny (tl s) Hv.sqs)) ∧ Below w.heap.size w w' := by
  by_cases h8 : s.size ≤ 8
  · exact sqAny_short s h8 w
  · have h116 : (Tryz.prog.info? 111).map (fun i => (i.zero, i.size)) = some (some (.agg (Array.replicate 256 (.bool false))), 256) := by kernel_rfl
    refine (Tryz.strings_IndexAny_long (zero_of_info h116).1 s sq w (by decide) (by omega) hs (by decide) ?_).mono ?_
    · intro j b hb
      exact sqs_low b (List.mem_of_getElem? hb)
    · rintro e w' ⟨rfl, rfl⟩
      exact ⟨rfl, ((Below.refl _ _).alloc (Nat.le_refl _) _).alloc (by simp) _⟩
set_option maxHeartbeats 1000000 in
theorem sqContains_all (s : ByteArray) (hs : s.size < 4294967281) (w : World) :
    Calls Tryz.prog 26 #[.string s, .string sq] w fun e w' => e = .returned (.bool (Lib.containsAny (tl s) Hv.sqs)) ∧ Below w.heap.size w w' := by
  have HC := Lib.hid (fun W => sqAny_all s hs W)
  obtain ⟨q, hq⟩ : ∃ q, sq = q := ⟨_, rfl⟩
  rw [hq] at HC ⊢
  clear hq
  go_enter Tryz.func26, Tryz.ntmps26
  go_wp2_with (refine (HC.out _).mono ?_; rintro e w' ⟨rfl, hb⟩)
  go_ret
  exact ⟨rfl, hb⟩
end Go.Proofs.YtmnolcjmnddbnaaGreatDoor

/- hive.Path: whether a text is a path. -/
namespace Go.Proofs.YtmnolcjmnddbnaaGreatDoor
open Go.RowKit

namespace Hv
/-- A text, parted at each backslash. -/
def parts (s : ByteArray) : List ByteArray := Lib.splitB ⟨#[92]⟩ 0 (Lib.countB s ⟨#[92]⟩) s
def path (s : ByteArray) : Bool := decide (1 ≤ s.size) && (decide (s.size ≤ 256) && (Te.plain s && (!Lib.containsAny (tl s) sqs && !Lib.containsS (parts s) ⟨#[]⟩)))
theorem path_size {s : ByteArray} (h : path s = true) : s.size ≤ 256 := by
  unfold path at h
  simp only [Bool.and_eq_true, decide_eq_true_eq] at h
  exact h.2.1
end Hv
theorem hvSplit (s : ByteArray) (hs : s.size ≤ 256) (w : World) (hW : Wl w) :
    Calls Tryz.prog 21 #[.string s, .string ⟨#[92]⟩] w fun e w' => e = .returned (.slice (some ⟨w.heap.size, 0, none⟩) (Hv.parts s).length (Hv.parts s).length) ∧ w' = w.alloc (.cells ((Hv.parts s).map Value.string).toArray 9) := by
  obtain ⟨m, hm⟩ := hW.maxl
  have e : (Hv.parts s).length = Lib.countB s ⟨#[92]⟩ + 1 := Lib.splitB_all ⟨#[92]⟩ (by decide) 0 _ s rfl
  rw [e]
  exact Tryz.strings_Split s ⟨#[92]⟩ m w (by omega) hm (by decide)
theorem cell_str (w : World) (l : List ByteArray) (t : TypeId) (j : Nat) (h : j < l.length) : (w.alloc (.cells (l.map Value.string).toArray t)).cell? ⟨w.heap.size, 0 + j, none⟩ = some (.string (l.getD j ByteArray.empty)) := by
  rw [World.cell?_alloc_new]
  simp [List.getD, h]
theorem parts_len (s : ByteArray) (hs : s.size ≤ 256) : (Hv.parts s).length ≤ 9223372036854775807 := by
  have h := Lib.splitB_length_le ⟨#[92]⟩ 0 (Lib.countB s ⟨#[92]⟩) s
  have h2 : Lib.countB s ⟨#[92]⟩ ≤ s.size := Lib.countB_le ⟨#[92]⟩ (by decide) s.size s (Nat.le_refl _)
  unfold Hv.parts
  omega
set_option maxHeartbeats 2000000 in
set_option maxRecDepth 100000 in
theorem hvPath_any (s : ByteArray) (hs : s.size ≤ maxLen) (w : World) (hW : Wl w) :
    Calls Tryz.prog 9 #[.string s] w fun e w' => e = .returned (.bool (Hv.path s)) ∧ Below w.heap.size w w' := by
  have HP := Lib.hid (fun W => utfPlain_any s hs W)
  unfold maxLen at hs
  obtain ⟨v, hv⟩ : ∃ v, Hv.path s = v := ⟨_, rfl⟩
  rw [hv]
  unfold Hv.path at hv
  have HW := Lib.hid hW
  clear hW
  by_cases h1 : s.size < 1
  · have q1 : (s.size : Int) < 1 := by omega
    rw [decide_eq_false (show ¬ 1 ≤ s.size by omega)] at hv
    have HV : Hid (v = false) := hv.symm
    clear hv h1
    go_enter Tryz.func9, Tryz.ntmps9
    go_wp2
    go_ret
    exact ⟨by rw [HV.out]; rfl, Below.refl _ _⟩
  · have q1 : ¬ (s.size : Int) < 1 := by omega
    rw [decide_eq_true (show 1 ≤ s.size by omega)] at hv
    by_cases h2 : 256 < s.size
    · have q2 : (256 : Int) < (s.size : Int) := by omega
      rw [decide_eq_false (show ¬ s.size ≤ 256 by omega)] at hv
      have HV : Hid (v = false) := hv.symm
      clear hv h1 h2
      go_enter Tryz.func9, Tryz.ntmps9
      go_wp2
      go_ret
      exact ⟨by rw [HV.out]; rfl, Below.refl _ _⟩
    · have q2 : ¬ (256 : Int) < (s.size : Int) := by omega
      rw [decide_eq_true (show s.size ≤ 256 by omega)] at hv
      cases hp : Te.plain s with
      | false =>
        rw [hp] at hv HP
        have HV : Hid (v = false) := hv.symm
        clear hv h1 h2 hp
        go_enter Tryz.func9, Tryz.ntmps9
        go_wp2_with (refine (HP.out _).mono ?_; rintro e w1 ⟨rfl, hb⟩)
        go_ret
        exact ⟨by rw [HV.out]; rfl, hb⟩
      | true =>
        rw [hp] at hv HP
        have HC : Hid (∀ W, Calls Tryz.prog 26 #[.string s, .string ⟨#[91, 93]⟩] W fun e w' => e = .returned (.bool (Lib.containsAny (tl s) Hv.sqs)) ∧ Below W.heap.size W w') := fun W => sqContains_all s (by omega) W
        cases hc : Lib.containsAny (tl s) Hv.sqs with
        | true =>
          rw [hc] at hv HC
          have HV : Hid (v = false) := hv.symm
          clear hv h1 h2 hp hc
          go_enter Tryz.func9, Tryz.ntmps9
          go_wp2_with (first | (go_at_call 25; refine (HP.out _).mono ?_; rintro e w1 ⟨rfl, hb⟩) | (go_at_call 26; refine (HC.out _).mono ?_; rintro e w2 ⟨rfl, hb2⟩))
          go_ret
          exact ⟨by rw [HV.out]; rfl, below_then hb hb2⟩
        | false =>
          rw [hc] at hv HC
          have HS := Lib.hid (fun W (hW : Wl W) => hvSplit s (by omega) W hW)
          have HV := Lib.hid hv
          have hpl := parts_len s (by omega)
          clear hv h1 h2 hp hc
          obtain ⟨l, hl⟩ : ∃ l, Hv.parts s = l := ⟨_, rfl⟩
          rw [hl] at HS HV hpl
          have HK : Hid (∀ W : World, Calls Tryz.prog 27 #[.slice (some ⟨W.heap.size, 0, none⟩) l.length l.length, .string ⟨#[]⟩] (W.alloc (.cells (l.map Value.string).toArray 9)) fun e w' => e = .returned (.bool (Lib.containsS l ⟨#[]⟩)) ∧ w' = W.alloc (.cells (l.map Value.string).toArray 9)) := by
            intro W
            have h := Tryz.slices_Contains_string W.heap.size 0 l.length l.length l ⟨#[]⟩ (W.alloc (.cells (l.map Value.string).toArray 9)) (Nat.le_refl _) hpl (fun j hj => cell_str W l 9 j hj)
            rw [List.take_length] at h
            exact h
          obtain ⟨q, hq⟩ : ∃ q, Lib.containsS l ⟨#[]⟩ = q := ⟨_, rfl⟩
          rw [hq] at HK HV
          clear hl hq
          go_enter Tryz.func9, Tryz.ntmps9
          go_wp2_with (first | (go_at_call 25; refine (HP.out _).mono ?_; rintro e w1 ⟨rfl, hb⟩) | (go_at_call 26; refine (HC.out _).mono ?_; rintro e w2 ⟨rfl, hb2⟩) | (go_at_call 21; refine (HS.out _ ((HW.out.below hb).below hb2)).mono ?_; rintro e w3 ⟨rfl, rfl⟩) | (go_at_call 27; refine (HK.out _).mono ?_; rintro e w4 ⟨rfl, rfl⟩))
          go_ret
          refine ⟨?_, (below_then hb hb2).alloc (below_then hb hb2).size _⟩
          rw [← HV.out]
          simp
end Go.Proofs.YtmnolcjmnddbnaaGreatDoor
