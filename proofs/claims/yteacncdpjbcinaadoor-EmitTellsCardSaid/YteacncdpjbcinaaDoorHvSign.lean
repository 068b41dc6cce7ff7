/- strings.ContainsAny of any text and the two signs [ and ]. -/
import Derived.Test.YteacncdpjbcinaaDoorAnySign
namespace Go.Proofs.YteacncdpjbcinaaDoor
open Go.RowKit

namespace Hv
def sqs : List UInt8 := [91, 93]
end Hv
def sq : ByteArray := ⟨#[91, 93]⟩
theorem sq_size : sq.size = 2 := rfl
theorem sq_ascii : ∀ j (h : j < sq.size), (sq[j]'h).toNat < 128 := by
  intro j h
  have h' : j < 2 := h
  rcases (by omega : j = 0 ∨ j = 1) with rfl | rfl <;> decide +revert
set_option maxHeartbeats 2000000 in
set_option maxRecDepth 100000 in
theorem sqRune_wrong (w : World) :
    Calls Tryd.prog 52 #[.string sq, .int .i32 65533] w fun e w' => e = .returned (.int .i64 (-1)) ∧ Below w.heap.size w w' := by
  have HS := Lib.hid sq_size
  have HA := Lib.hid sq_ascii
  obtain ⟨s, hs⟩ : ∃ s, sq = s := ⟨_, rfl⟩
  rw [hs] at HS HA ⊢
  clear hs
  go_enter Tryd.func52, Tryd.ntmps52
  go_wp2
  go_loopw [176] (fun _ wr => ∃ (pos : Nat), wr = w.iter s pos) (fun _ wr => s.size - wr.iterPos w.heap.size)
  case atStart => exact ⟨0, rfl⟩
  case round =>
    obtain ⟨pos, rfl⟩ := hrel
    by_cases hp : pos < s.size
    · have hx := HA.out pos hp
      have hnx := fun ty => run_next_ascii (P := Tryd.prog) w s pos ty hp hx
      obtain ⟨x, hxx⟩ : ∃ x, (s[pos]'hp).toNat = x := ⟨_, rfl⟩
      rw [hxx] at hx hnx
      clear hxx
      have q1 : ((x : Int) == 65533) = false := by rw [beq_eq_false_iff_ne]; omega
      have q2 : ¬ (x : Int) = 65533 := by omega
      go_wp2
      go_roundw
      case rel => exact ⟨pos + 1, rfl⟩
      case measure => simp only [World.iterPos_iter]; omega
    · have hnx : ∀ ty, (Instr.next (.pointer (some ⟨w.heap.size, 0, none⟩)) true ty).run Tryd.prog (w.iter s pos) = _ := fun ty => run_next_end w s pos ty hp
      go_wp2
      go_ret
      exact ⟨rfl, iter_below s pos⟩
set_option maxHeartbeats 2000000 in
set_option maxRecDepth 100000 in
theorem sqRune_high (r : Int) (h1 : 128 ≤ r) (h2 : r ≤ 2147483647) (h3 : r ≠ 65533) (w : World) :
    Calls Tryd.prog 52 #[.string sq, .int .i32 r] w fun e w' => e = .returned (.int .i64 (-1)) ∧ Below w.heap.size w w' := by
  have q1 : ¬ r < 128 := by omega
  have q2 : (r == 65533) = false := by rw [beq_eq_false_iff_ne]; exact h3
  have q0 : 0 ≤ r := by omega
  have hV := fun W => Tryd.utf8_ValidRune r W
  cases hv : Lib.validRune r with
  | false =>
    rw [hv] at hV
    have HV := Lib.hid hV
    clear hv hV
    go_enter Tryd.func52, Tryd.ntmps52
    go_wp2_with (refine (HV.out _).mono ?_; rintro e w' ⟨rfl, rfl⟩)
    go_wp2
    go_ret
    exact ⟨rfl, Below.refl _ _⟩
  | true =>
    rw [hv] at hV
    have HV := Lib.hid hV
    have hvv : Utf8.valid r = true := by
      unfold Lib.validRune at hv
      have := of_decide_eq_true hv
      unfold Utf8.valid
      simp only [Bool.or_eq_true, Bool.and_eq_true, decide_eq_true_eq]
      omega
    obtain ⟨f1, f2, f3⟩ := encode_facts r hvv h1
    clear hv hV hvv h1 h2
    obtain ⟨x, hx⟩ : ∃ x, Utf8.encode r = x := ⟨_, rfl⟩
    have hcv : ∀ W, (convert 21 9 (.int .i32 r)).run Tryd.prog W = .ok (.string x) W := fun W => by
      rw [← hx]
      exact run_convert_int_string W _ _ _ _ (by rw [Tryd.underlying21]; rfl) Tryd.underlying9
    rw [hx] at f1 f2 f3
    clear hx
    obtain ⟨c, hc⟩ : ∃ c, x[x.size - 1]'(by omega) = c := ⟨_, rfl⟩
    have hc128 : 128 ≤ c.toNat := by rw [← hc]; exact f3 (by omega)
    have HI : Hid (∀ k W, Calls Tryd.prog 64 #[.string (sq.extract k sq.size), .int .u8 c.toNat] W fun e w' => e = .returned (.int .i64 (-1)) ∧ w' = W) := by
      intro k W
      have h := Tryd.strings_IndexByte (sq.extract k sq.size) c.toNat W
      rw [no_high] at h
      · exact h
      · intro b hb e
        rw [Lib.extract_data] at hb
        have hb2 := List.mem_of_mem_drop (List.mem_of_mem_take hb)
        have : ∀ b ∈ sq.data.toList, b.toNat < 128 := by decide
        have h5 := this b hb2
        rw [e] at h5
        simp at h5
        omega
    have HS := Lib.hid sq_size
    have HA := Lib.hid sq_ascii
    obtain ⟨s, hs⟩ : ∃ s, sq = s := ⟨_, rfl⟩
    rw [hs] at HS HA HI ⊢
    clear hs
    obtain ⟨m, hm⟩ : ∃ m, x.size - 1 = m := ⟨_, rfl⟩
    have hm1 : x.size = m + 1 := by omega
    have hm2 : 1 ≤ m ∧ m ≤ 3 := by omega
    simp only [hm] at hc
    have hmx : m < x.size := by omega
    have hc' : x[m]'hmx = c := hc
    clear hc
    by_cases hms : m < s.size
    case neg =>
      have w1 : IntKind.i64.wrap ((m : Int) + 1 - 1) = m := by rw [IntKind.wrap_i64]; omega
      have w3 : wrap64 (m : Int) = m := by unfold wrap64; omega
      have l1 : ¬ (m : Int) < (s.size : Int) := by omega
      clear hm f1 f2 f3 hc128 hm2
      go_enter Tryd.func52, Tryd.ntmps52
      go_wp2_with (refine (HV.out _).mono ?_; rintro e w' ⟨rfl, rfl⟩)
      go_wp2
      go_step3
      go_wp2
      go_loopw [9] (fun i wr => i = .int .i64 m ∧ Hid (Drew w' wr)) (fun _ _ => 0)
      case atStart => exact ⟨by rw [w3], Drew.refl _⟩
      case round =>
        obtain ⟨rfl, HD⟩ := hrel
        go_wp2
        simp +zetaDelta only [Exit.inBlock, Exit.noGoto_ret]
        go_ret
        exact ⟨rfl, HD.out.below _⟩
    obtain ⟨y, hy⟩ : ∃ y, s[m]'hms = y := ⟨_, rfl⟩
    have hy128 : y.toNat < 128 := by rw [← hy]; exact HA.out m hms
    have qy : ((y.toNat : Int) != (c.toNat : Int)) = true := by simp; omega
    have qy' : ¬ (y.toNat : Int) = (c.toNat : Int) := by omega
    have w1 : IntKind.i64.wrap ((m : Int) + 1 - 1) = m := by rw [IntKind.wrap_i64]; omega
    have w2 : IntKind.i64.wrap ((m : Int) + 1) = (m : Int) + 1 := by rw [IntKind.wrap_i64]; omega
    have w3 : wrap64 (m : Int) = m := by unfold wrap64; omega
    have l1 : (m : Int) < (s.size : Int) := by omega
    have l2 : (0 : Int) ≤ (m : Int) := by omega
    have l3 : (m : Int) < (m : Int) + 1 := by omega
    have l4 : (m : Int) + 1 ≤ (s.size : Int) := by omega
    have l5 : (0 : Int) ≤ (m : Int) + 1 := by omega
    clear hm f1 f2 f3 hc128 hm2 hy128
    go_enter Tryd.func52, Tryd.ntmps52
    go_wp2_with (refine (HV.out _).mono ?_; rintro e w' ⟨rfl, rfl⟩)
    go_wp2
    go_step3
    go_wp2
    go_loopw [9] (fun i wr => i = .int .i64 m ∧ Hid (Drew w' wr)) (fun _ _ => 0)
    case atStart => exact ⟨by rw [w3], Drew.refl _⟩
    case round =>
      obtain ⟨rfl, HD⟩ := hrel
      have HI1 := Lib.hid (fun W => HI.out (m + 1) W)
      have e1 : ((m + 1 : Nat) : Int) = (m : Int) + 1 := rfl
      go_wp2
      go_step3
      go_wp2
      go_quiet (fail)
      go_wp2
      go_quiet ((go_at_call 64; exact (HI1.out _).mono fun e w2 h => ⟨h.1, _, h.2⟩))
      go_wp2
      simp +zetaDelta only [Exit.inBlock, Exit.noGoto_ret, Exit.then]
      go_ret
      exact ⟨rfl, ((HD.out.drewN _).below _)⟩
theorem sqRune_any (r : Int) (h1 : 128 ≤ r) (h2 : r ≤ 2147483647) (w : World) :
    Calls Tryd.prog 52 #[.string sq, .int .i32 r] w fun e w' => e = .returned (.int .i64 (-1)) ∧ Below w.heap.size w w' := by
  by_cases h3 : r = 65533
  · subst h3
    exact sqRune_wrong w
  · exact sqRune_high r h1 h2 h3 w

theorem sq_list : sq.data.toList = Hv.sqs := rfl
theorem sqs_low : ∀ b ∈ Hv.sqs, b.toNat < 128 := by decide
theorem sq_high_not (b : UInt8) (h : 128 ≤ b.toNat) : Hv.sqs.contains b = false := by
  cases hc : Hv.sqs.contains b with
  | false => rfl
  | true =>
    have := sqs_low b (by simpa using hc)
    omega
/-- A sign of several letters has none of the four. -/
theorem sqNoAny_high (s : ByteArray) (pos : Nat) (ha : 128 ≤ (s.get! pos).toNat) (h : Lib.NoAny (tl s) Hv.sqs pos) : Lib.NoAny (tl s) Hv.sqs (pos + (Utf8.decode s pos).2) := by
  intro j b hj hb
  by_cases h1 : j < pos
  · exact h j b h1 hb
  · have hjs : j < s.size := by
      have := (List.getElem?_eq_some_iff.1 hb).1
      rwa [tl_length] at this
    have hb2 := Te.get_tl s j hjs
    rw [hb] at hb2
    rw [Option.some.inj hb2]
    apply sq_high_not
    by_cases h2 : j = pos
    · rw [h2]; exact ha
    · have := (Te.tail_high s pos (j - pos) (by omega) (by omega)).2
      rwa [show pos + (j - pos) = j from by omega] at this
set_option maxHeartbeats 4000000 in
set_option maxRecDepth 100000 in
theorem sqAny_short (s : ByteArray) (h8 : s.size ≤ 8) (w : World) :
    Calls Tryd.prog 43 #[.string s, .string sq] w fun e w' => e = .returned (.int .i64 (Lib.indexAny (tl s) Hv.sqs)) ∧ Below w.heap.size w w' := by
  have HR : Hid (∀ (r : Int) W, 128 ≤ r → r ≤ 2147483647 → Calls Tryd.prog 52 #[.string sq, .int .i32 r] W fun e w' => e = .returned (.int .i64 (-1)) ∧ Below W.heap.size W w') := fun r W h1 h2 => sqRune_any r h1 h2 W
  have HA : Hid (∀ (x : UInt8) W, x.toNat < 128 → Calls Tryd.prog 52 #[.string sq, .int .i32 x.toNat] W fun e w' => e = .returned (.int .i64 (Lib.indexByte Hv.sqs x)) ∧ w' = W) := by
    intro x W hx
    have h := Tryd.strings_IndexRune_ascii sq x.toNat W (by omega) (by omega)
    rw [sq_list, show ((x.toNat : Int)).toNat.toUInt8 = x from by simp] at h
    exact h
  have hemp : sq.toList.isEmpty = false := by rw [Lib.toList_data]; rfl
  have hn4 : (sq.size : Int) = 2 := rfl
  obtain ⟨q, hq⟩ : ∃ q, sq = q := ⟨_, rfl⟩
  rw [hq] at HR HA hemp hn4 ⊢
  clear hq
  have h8z : decide ((8 : Int) < (s.size : Int)) = false := decide_eq_false (by omega)
  have HU := Lib.hid (fun W => Tryd.strings_shouldUseASCIISet s.size W)
  rw [h8z] at HU
  obtain ⟨v, hv⟩ : ∃ v, Lib.indexAny (tl s) Hv.sqs = v := ⟨_, rfl⟩
  rw [hv]
  have HV := Lib.hid hv
  clear hv h8z
  go_enter Tryd.func43, Tryd.ntmps43
  go_wp2_with (refine (HU.out _).mono ?_; rintro e w' ⟨rfl, rfl⟩)
  go_loopw [46] (fun _ wr => ∃ (pos : Nat), wr.heap[w'.heap.size]? = some (.stringIter s pos) ∧ Hid (Below w'.heap.size w' wr) ∧ Hid (Lib.NoAny (tl s) Hv.sqs pos)) (fun _ wr => s.size - wr.iterPos w'.heap.size)
  case atStart => exact ⟨0, World.iter_heap _ s 0, iter_below s 0, Lib.NoAny.zero _ _⟩
  case round =>
    obtain ⟨pos, hit, HB, HN⟩ := hrel
    have hsz : w'.heap.size < wr.heap.size := (Array.getElem?_eq_some_iff.1 hit).1
    by_cases hp : pos < s.size
    · have hnx : ∀ ty, (Instr.next (.pointer (some ⟨w'.heap.size, 0, none⟩)) true ty).run Tryd.prog wr = _ := fun ty => Lib.run_next_any_at wr w'.heap.size s pos ty hit hp
      have hw := Te.width_pos s pos hp
      by_cases ha : (s.get! pos).toNat < 128
      · rw [Te.first_ascii s pos hp ha] at hnx
        have HX := Lib.hid (Te.get_tl s pos hp)
        obtain ⟨x, hx⟩ : ∃ x, s.get! pos = x := ⟨_, rfl⟩
        rw [hx] at hnx ha HX
        clear hx hw
        have hit2 := Lib.iterAt_heap wr w'.heap.size s pos (pos + 1) hit
        have HB2 := Lib.hid (Lib.below_iterAt HB.out (k := w'.heap.size) (Nat.le_refl _) s (pos + 1))
        have HC := Lib.hid (fun W => HA.out x W ha)
        have hcon := Lib.contains_iff_indexByte Hv.sqs x
        cases hin : Hv.sqs.contains x with
        | false =>
          rw [hin] at hcon
          have hlt : ¬ ((0 : Int) ≤ Lib.indexByte Hv.sqs x) := of_decide_eq_false hcon.symm
          have HN2 := Lib.hid (HN.out.succ HX.out hin)
          clear hcon hin HN HX HB
          go_wp2_with (refine (HC.out _).mono ?_; rintro e w2 ⟨rfl, rfl⟩)
          go_wp2
          go_roundw
          case rel => exact ⟨pos + 1, hit2, HB2, HN2⟩
          case measure => simp only [World.iterPos, hit2, hit]; omega
        | true =>
          rw [hin] at hcon
          have hge : (0 : Int) ≤ Lib.indexByte Hv.sqs x := of_decide_eq_true hcon.symm
          have HE : Hid (v = pos) := by
            show v = pos
            rw [← HV.out]
            exact Lib.indexAny_hit HN.out HX.out hin
          clear hcon hin HN HX HB
          go_wp2_with (refine (HC.out _).mono ?_; rintro e w2 ⟨rfl, rfl⟩)
          go_wp2
          go_ret
          exact ⟨by rw [HE.out]; rfl, HB2.out⟩
      · have hh := Te.first_high s pos hp (by omega)
        have hle := decode_le s pos
        have HN2 := Lib.hid (sqNoAny_high s pos (by omega) HN.out)
        obtain ⟨c, hc⟩ : ∃ c, (Utf8.decode s pos).1 = c := ⟨_, rfl⟩
        obtain ⟨n, hn⟩ : ∃ n, (Utf8.decode s pos).2 = n := ⟨_, rfl⟩
        rw [hc, hn] at hnx
        rw [hc] at hh hle
        rw [hn] at hw HN2
        clear hc hn ha
        have hit2 := Lib.iterAt_heap wr w'.heap.size s pos (pos + n) hit
        have HB2 := Lib.hid (Lib.below_iterAt HB.out (k := w'.heap.size) (Nat.le_refl _) s (pos + n))
        have hsz2 : w'.heap.size < (wr.iterAt w'.heap.size s (pos + n)).heap.size := by rw [Lib.iterAt_size]; exact hsz
        have HC := Lib.hid (fun W => HR.out (c : Int) W (by omega) (by omega))
        clear HN HB
        go_wp2_with (refine (HC.out _).mono ?_; rintro e w2 ⟨rfl, hb⟩)
        have hit3 : w2.heap[w'.heap.size]? = some (.stringIter s (pos + n)) := (hb.block _ hsz2).trans hit2
        have HB3 := Lib.hid (HB2.out.trans (hb.mono (Nat.le_of_lt hsz2)))
        clear hb
        go_wp2
        go_roundw
        case rel => exact ⟨pos + n, hit3, HB3, HN2⟩
        case measure => simp only [World.iterPos, hit3, hit]; omega
    · have hnx : ∀ ty, (Instr.next (.pointer (some ⟨w'.heap.size, 0, none⟩)) true ty).run Tryd.prog wr = _ := fun ty => Lib.run_next_end_at wr w'.heap.size s pos ty hit hp
      have HE : Hid (v = -1) := by
        show v = -1
        rw [← HV.out]
        apply Lib.indexAny_none
        intro j b hj hb
        rw [tl_length] at hj
        exact HN.out j b (by omega) hb
      go_wp2
      go_ret
      exact ⟨by rw [HE.out]; rfl, HB.out⟩
theorem sqAny_all (s : ByteArray) (hs : s.size < 4294967281) (w : World) :
    Calls Tryd.prog 43 #[.string s, .string sq] w fun e w' => e = .returned (.int .i64 (Lib.indexAny (tl s) Hv.sqs)) ∧ Below w.heap.size w w' := by
  by_cases h8 : s.size ≤ 8
  · exact sqAny_short s h8 w
  · have h116 : (Tryd.prog.info? 93).map (fun i => (i.zero, i.size)) = some (some (.agg (Array.replicate 256 (.bool false))), 256) := by kernel_rfl
    refine (Tryd.strings_IndexAny_long (zero_of_info h116).1 s sq w (by decide) (by omega) hs (by decide) ?_).mono ?_
    · intro j b hb
      exact sqs_low b (List.mem_of_getElem? hb)
    · rintro e w' ⟨rfl, rfl⟩
      exact ⟨rfl, ((Below.refl _ _).alloc (Nat.le_refl _) _).alloc (by simp) _⟩
set_option maxHeartbeats 1000000 in
theorem sqContains_all (s : ByteArray) (hs : s.size < 4294967281) (w : World) :
    Calls Tryd.prog 37 #[.string s, .string sq] w fun e w' => e = .returned (.bool (Lib.containsAny (tl s) Hv.sqs)) ∧ Below w.heap.size w w' := by
  have HC := Lib.hid (fun W => sqAny_all s hs W)
  obtain ⟨q, hq⟩ : ∃ q, sq = q := ⟨_, rfl⟩
  rw [hq] at HC ⊢
  clear hq
  go_enter Tryd.func37, Tryd.ntmps37
  go_wp2_with (refine (HC.out _).mono ?_; rintro e w' ⟨rfl, hb⟩)
  go_ret
  exact ⟨rfl, hb⟩
end Go.Proofs.YteacncdpjbcinaaDoor
