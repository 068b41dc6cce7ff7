/- strings.IndexRune of a sign that is no letter of ASCII, in the four signs that a key has not; strings.ContainsAny of any text. -/
import Derived.Test.YteacncdpjbcinaaDoorUtf
import Derived.Laws.Runes
import Derived.Deep.QuietTactic
import Derived.BigQuiet
import Derived.Deep.DeepMust
namespace Go.Proofs.YteacncdpjbcinaaDoor
open Go.RowKit

def sg : ByteArray := ⟨#[92, 91, 93, 34]⟩
theorem sg_size : sg.size = 4 := rfl
theorem sg_ascii : ∀ j (h : j < sg.size), (sg[j]'h).toNat < 128 := by
  intro j h
  have h' : j < 4 := h
  rcases (by omega : j = 0 ∨ j = 1 ∨ j = 2 ∨ j = 3) with rfl | rfl | rfl | rfl <;> decide +revert
theorem no_high (l : List UInt8) (c : UInt8) (h : ∀ b ∈ l, b ≠ c) : Lib.indexByte l c = -1 := by
  induction l with
  | nil => rfl
  | cons b l ih =>
    unfold Lib.indexByte
    have hb : (b == c) = false := by rw [beq_eq_false_iff_ne]; exact h b (List.mem_cons_self ..)
    rw [hb, ih (fun x hx => h x (List.mem_cons_of_mem _ hx))]
    rfl
set_option maxHeartbeats 2000000 in
set_option maxRecDepth 100000 in
theorem indexRune_wrong (w : World) :
    Calls Tryd.prog 52 #[.string sg, .int .i32 65533] w fun e w' => e = .returned (.int .i64 (-1)) ∧ Below w.heap.size w w' := by
  have HS := Lib.hid sg_size
  have HA := Lib.hid sg_ascii
  obtain ⟨s, hs⟩ : ∃ s, sg = s := ⟨_, rfl⟩
  rw [hs] at HS HA ⊢
  clear hs
  go_enter Tryd.func52, Tryd.ntmps52
  go_wp2
  go_loopw [176] (fun _ wr => ∃ (pos : Nat), wr = w.iter s pos) (fun _ wr => s.size - wr.iterPos w.heap.size)
  case atStart => exact ⟨0, rfl⟩
  case round =>
    obtain ⟨pos, rfl⟩ := hrel
    by_cases hp : pos < s.size
    · have hx := HA.out pos hp
      have hnx := fun ty => run_next_ascii (P := Tryd.prog) w s pos ty hp hx
      obtain ⟨x, hxx⟩ : ∃ x, (s[pos]'hp).toNat = x := ⟨_, rfl⟩
      rw [hxx] at hx hnx
      clear hxx
      have q1 : ((x : Int) == 65533) = false := by rw [beq_eq_false_iff_ne]; omega
      have q2 : ¬ (x : Int) = 65533 := by omega
      go_wp2
      go_roundw
      case rel => exact ⟨pos + 1, rfl⟩
      case measure => simp only [World.iterPos_iter]; omega
    · have hnx : ∀ ty, (Instr.next (.pointer (some ⟨w.heap.size, 0, none⟩)) true ty).run Tryd.prog (w.iter s pos) = _ := fun ty => run_next_end w s pos ty hp
      go_wp2
      go_ret
      exact ⟨rfl, iter_below s pos⟩
set_option maxHeartbeats 2000000 in
set_option maxRecDepth 100000 in
theorem indexRune_high (r : Int) (h1 : 128 ≤ r) (h2 : r ≤ 2147483647) (h3 : r ≠ 65533) (w : World) :
    Calls Tryd.prog 52 #[.string sg, .int .i32 r] w fun e w' => e = .returned (.int .i64 (-1)) ∧ Below w.heap.size w w' := by
  have q1 : ¬ r < 128 := by omega
  have q2 : (r == 65533) = false := by rw [beq_eq_false_iff_ne]; exact h3
  have q0 : 0 ≤ r := by omega
  have hV := fun W => Tryd.utf8_ValidRune r W
  cases hv : Lib.validRune r with
  | false =>
    rw [hv] at hV
    have HV := Lib.hid hV
    clear hv hV
    go_enter Tryd.func52, Tryd.ntmps52
    go_wp2_with (refine (HV.out _).mono ?_; rintro e w' ⟨rfl, rfl⟩)
    go_wp2
    go_ret
    exact ⟨rfl, Below.refl _ _⟩
  | true =>
    rw [hv] at hV
    have HV := Lib.hid hV
    have hvv : Utf8.valid r = true := by
      unfold Lib.validRune at hv
      have := of_decide_eq_true hv
      unfold Utf8.valid
      simp only [Bool.or_eq_true, Bool.and_eq_true, decide_eq_true_eq]
      omega
    obtain ⟨f1, f2, f3⟩ := encode_facts r hvv h1
    clear hv hV hvv h1 h2
    obtain ⟨x, hx⟩ : ∃ x, Utf8.encode r = x := ⟨_, rfl⟩
    have hcv : ∀ W, (convert 21 9 (.int .i32 r)).run Tryd.prog W = .ok (.string x) W := fun W => by
      rw [← hx]
      exact run_convert_int_string W _ _ _ _ (by rw [Tryd.underlying21]; rfl) Tryd.underlying9
    rw [hx] at f1 f2 f3
    clear hx
    obtain ⟨c, hc⟩ : ∃ c, x[x.size - 1]'(by omega) = c := ⟨_, rfl⟩
    have hc128 : 128 ≤ c.toNat := by rw [← hc]; exact f3 (by omega)
    have HI : Hid (∀ k W, Calls Tryd.prog 64 #[.string (sg.extract k sg.size), .int .u8 c.toNat] W fun e w' => e = .returned (.int .i64 (-1)) ∧ w' = W) := by
      intro k W
      have h := Tryd.strings_IndexByte (sg.extract k sg.size) c.toNat W
      rw [no_high] at h
      · exact h
      · intro b hb e
        rw [Lib.extract_data] at hb
        have hb2 := List.mem_of_mem_drop (List.mem_of_mem_take hb)
        have : ∀ b ∈ sg.data.toList, b.toNat < 128 := by decide
        have h5 := this b hb2
        rw [e] at h5
        simp at h5
        omega
    have HS := Lib.hid sg_size
    have HA := Lib.hid sg_ascii
    obtain ⟨s, hs⟩ : ∃ s, sg = s := ⟨_, rfl⟩
    rw [hs] at HS HA HI ⊢
    clear hs
    obtain ⟨m, hm⟩ : ∃ m, x.size - 1 = m := ⟨_, rfl⟩
    have hm1 : x.size = m + 1 := by omega
    have hm2 : 1 ≤ m ∧ m ≤ 3 := by omega
    simp only [hm] at hc
    have hmx : m < x.size := by omega
    have hc' : x[m]'hmx = c := hc
    clear hc
    have hms : m < s.size := by rw [HS.out]; omega
    obtain ⟨y, hy⟩ : ∃ y, s[m]'hms = y := ⟨_, rfl⟩
    have hy128 : y.toNat < 128 := by rw [← hy]; exact HA.out m hms
    have qy : ((y.toNat : Int) != (c.toNat : Int)) = true := by simp; omega
    have qy' : ¬ (y.toNat : Int) = (c.toNat : Int) := by omega
    have w1 : IntKind.i64.wrap ((m : Int) + 1 - 1) = m := by rw [IntKind.wrap_i64]; omega
    have w2 : IntKind.i64.wrap ((m : Int) + 1) = (m : Int) + 1 := by rw [IntKind.wrap_i64]; omega
    have w3 : wrap64 (m : Int) = m := by unfold wrap64; omega
    have l1 : (m : Int) < (s.size : Int) := by omega
    have l2 : (0 : Int) ≤ (m : Int) := by omega
    have l3 : (m : Int) < (m : Int) + 1 := by omega
    have l4 : (m : Int) + 1 ≤ (s.size : Int) := by omega
    have l5 : (0 : Int) ≤ (m : Int) + 1 := by omega
    clear hm f1 f2 f3 hc128 hm2 hy128
    go_enter Tryd.func52, Tryd.ntmps52
    go_wp2_with (refine (HV.out _).mono ?_; rintro e w' ⟨rfl, rfl⟩)
    go_wp2
    go_step3
    go_wp2
    go_loopw [9] (fun i wr => i = .int .i64 m ∧ Hid (Drew w' wr)) (fun _ _ => 0)
    case atStart => exact ⟨by rw [w3], Drew.refl _⟩
    case round =>
      obtain ⟨rfl, HD⟩ := hrel
      have HI1 := Lib.hid (fun W => HI.out (m + 1) W)
      have e1 : ((m + 1 : Nat) : Int) = (m : Int) + 1 := rfl
      go_wp2
      go_step3
      go_wp2
      go_quiet (fail)
      go_wp2
      go_quiet ((go_at_call 64; exact (HI1.out _).mono fun e w2 h => ⟨h.1, _, h.2⟩))
      go_wp2
      simp +zetaDelta only [Exit.inBlock, Exit.noGoto_ret, Exit.then]
      go_ret
      exact ⟨rfl, ((HD.out.drewN _).below _)⟩
theorem indexRune_any (r : Int) (h1 : 128 ≤ r) (h2 : r ≤ 2147483647) (w : World) :
    Calls Tryd.prog 52 #[.string sg, .int .i32 r] w fun e w' => e = .returned (.int .i64 (-1)) ∧ Below w.heap.size w w' := by
  by_cases h3 : r = 65533
  · subst h3
    exact indexRune_wrong w
  · exact indexRune_high r h1 h2 h3 w
end Go.Proofs.YteacncdpjbcinaaDoor
